/- The law's marks. -/
import Derived.Test.YtmmigplciogggaaStrP
import Derived.Test.YtmmigplciogggaaRowSet
namespace Go.Proofs.Ytmmigplciogggaa
open Go Go.RowKit Go.PlainAid

set_option maxHeartbeats 2000000 in
set_option maxRecDepth 100000 in
theorem marks_calls (l : List Int) (v : Value) (w0 w : World) (R : Asrt) (H : Sat w0 w (Row 3 1 v l.length (ints l) * R)) (hm : l.length ≤ 100000) (hl : ∀ x ∈ l, okC x) :
    Calls Try.prog 17 #[v, .int .i64 30] w (fun e w' => e = .returned (.bool (runs 30 0 l)) ∧ Sat w0 w' (Row 3 1 v l.length (ints l) * R)) := by
  obtain ⟨ar, cr, rfl, hcr, hcm⟩ := H.rowSlice
  have HL := Box.mk hl
  have HCM := Box.mk hcm
  obtain ⟨T, hT⟩ : ∃ T, runs 30 0 l = T := ⟨_, rfl⟩
  rw [hT]
  have HT := Box.mk hT
  clear hl hcm hcr hT
  go_enter Try.func17, Try.ntmps17
  go_wp2
  go_loopg [5, 6] (l.length) (fun g v5 v6 wr => ∃ (t k : Nat), g = l.length - t ∧ t ≤ l.length ∧ v6 = .int .i64 t ∧ v5 = .int .i64 k ∧ k ≤ 30 ∧ Box (runs 30 k (l.drop t) = T) ∧ Sat w0 wr (Row 3 1 (.slice ar l.length cr) l.length (ints l) * R))
  case atStart => exact ⟨0, 0, rfl, by omega, rfl, rfl, by omega, ⟨HT.out⟩, H⟩
  case round =>
    obtain ⟨t, k, rfl, ht, rfl, rfl, hk, HB, HI⟩ := hrel
    clear H
    by_cases hlt : t < l.length
    · obtain ⟨g, rfl⟩ := HI.rowSome (by omega)
      obtain ⟨x, hx⟩ : ∃ x, l[t]? = some x := ⟨l[t], List.getElem?_eq_getElem hlt⟩
      have hd : l.drop t = x :: l.drop (t + 1) := by
        obtain ⟨hq, rfl⟩ := List.getElem?_eq_some_iff.1 hx
        exact List.drop_eq_getElem_cons hq
      have hcell : wr.cell? ⟨g, t, none⟩ = some (.int .i64 x) := HI.rowCell (by simp [ints, hx])
      have hxo := HL.out x (List.mem_of_getElem? hx)
      have HC := Box.mk (RClass_calls x hxo.2 w0 wr _ HI)
      have HD := Box.mk hd
      have hc0 := (cls_bounds x).1
      obtain ⟨C, hC⟩ : ∃ C, cls x = C := ⟨_, rfl⟩
      rw [hC] at HC hc0
      have HCC := Box.mk hC
      clear hx hd hxo hC HI
      by_cases hz : C = 0
      · subst hz
        go_wp2_with (go_at_call 50; (with_reducible refine HC.out.mono ?_); rintro e w1 ⟨rfl, H1⟩)
        go_roundg (l.length - (t + 1))
        case measure => omega
        case rel =>
          refine ⟨t + 1, 0, rfl, by omega, by go_num, rfl, by omega, ⟨?_⟩, H1⟩
          have := HB.out
          rwa [HD.out, runs, if_pos HCC.out] at this
      · have hz2 : (C == 0) = false := by simpa using hz
        have HZ := Box.mk hz
        clear hz
        by_cases hk30 : k = 30
        · subst hk30
          go_wp2_with (go_at_call 50; (with_reducible refine HC.out.mono ?_); rintro e w1 ⟨rfl, H1⟩)
          go_ret
          have := HB.out
          rw [HD.out, runs, if_neg (by rw [HCC.out]; exact HZ.out), if_pos (by omega)] at this
          exact ⟨by rw [← this]; rfl, H1⟩
        · have hk31 : ¬ ((k : Int) + 1 > 30) := by omega
          go_wp2_with (go_at_call 50; (with_reducible refine HC.out.mono ?_); rintro e w1 ⟨rfl, H1⟩)
          go_roundg (l.length - (t + 1))
          case measure => omega
          case rel =>
            refine ⟨t + 1, k + 1, rfl, by omega, by go_num, by go_num, by omega, ⟨?_⟩, H1⟩
            have := HB.out
            rwa [HD.out, runs, if_neg (by rw [HCC.out]; exact HZ.out), if_neg (by omega)] at this
    · obtain rfl : t = l.length := by omega
      go_wp2
      go_ret
      have := HB.out
      rw [List.drop_of_length_le (Nat.le_refl _), runs] at this
      exact ⟨by rw [← this]; rfl, HI⟩
end Go.Proofs.Ytmmigplciogggaa
