/- norm.Order's closure: the run, sorted, goes out. -/
import Derived.Test.YtmmigplciogggaaOrd
import Derived.Test.YtmmigplciogggaaAt
namespace Go.Proofs.Ytmmigplciogggaa
open Go Go.RowKit Go.PlainAid

set_option maxHeartbeats 2000000 in
set_option maxRecDepth 100000 in
theorem flush_calls (pr po : Nat) (l : List Mk) (o : List Int) (vr vo : Value) (w0 w : World) (R : Asrt)
    (H : Sat w0 w (Row 156 2 vr l.length (marks l) * (Blk pr #[vr] 153 * (Blk po #[vo] 22 * (Row 3 1 vo o.length (ints o) * R))))) (hm : l.length ≤ 1000000) (ho : o.length ≤ 1000000) (hs : Small l) :
    Calls Try.prog 129 #[.pointer (some ⟨pr, 0, none⟩), .pointer (some ⟨po, 0, none⟩)] w (fun e w' => ∃ vo', Done w0 (Blk pr #[.slice none 0 0] 153 * (Blk po #[vo'] 22 * (Row 3 1 vo' (o.length + l.length) (ints (o ++ (srt l).map (·.1))) * R))) e w') := by
  have hc : w.cell? ⟨pr, 0, none⟩ = some vr := by
    rw [(H.right).cell]; rfl
  have HS := Box.mk hs
  obtain ⟨ar, cr, rfl, hcr, hcm⟩ := H.rowSlice
  have HCM := Box.mk hcm
  have hsl := (srt_SS l).length
  have HSL := Box.mk hsl
  clear hs hcm hsl
  go_enter Try.func129, Try.ntmps129
  go_wp2_with (go_at_call 130; refine (sortS_calls l _ l.length w0 _ _ H (by omega) HS.out).mono ?_; rintro e w1 ⟨rfl, H1⟩; have hc1 : w1.cell? ⟨pr, 0, none⟩ = some (.slice ar l.length cr) := by rw [(H1.right).cell]; rfl)
  clear H hc
  go_loopg [8] (l.length) (fun k v8 wr => ∃ (t : Nat) (vo' : Value), k = l.length - t ∧ t ≤ l.length ∧ v8 = .int .i64 t ∧ Sat w0 wr (Row 156 2 (.slice ar l.length cr) l.length (marks (srt l)) * (Blk pr #[.slice ar l.length cr] 153 * (Blk po #[vo'] 22 * (Row 3 1 vo' (o.length + t) (ints (o ++ ((srt l).take t).map (·.1))) * R)))))
  case atStart => exact ⟨0, vo, rfl, by omega, rfl, by simpa using H1⟩
  case round =>
    obtain ⟨t, vo', rfl, ht, rfl, HI⟩ := hrel
    clear H1 hc1
    by_cases hlt : t < l.length
    · obtain ⟨g, rfl⟩ := HI.rowSome (by omega)
      obtain ⟨x, hx⟩ : ∃ x, (srt l)[t]? = some x := ⟨(srt l)[t]'(by have := HSL.out; omega), List.getElem?_eq_getElem (by have := HSL.out; omega)⟩
      obtain ⟨_, ⟨h0, _⟩ | ⟨g', cap, sp, hv, h1, h2, h3, HE⟩⟩ := HI.markOpen
      · cases h0
      simp only [Value.slice.injEq, Option.some.injEq, Addr.mk.injEq, and_true, true_and] at hv
      obtain ⟨rfl, rfl⟩ := hv
      have HX := Box.mk hx
      have H2 := Box.mk h2
      clear hx h2
      have HA : Sat w0 (wr.alloc (.cells #[.int .i64 0, .int .i64 0] 156)) (EBlk mk 156 wr.heap.size [(0, 0)] [] * _) := HI.alloc _ _
      have hbd : (o.length + t + 1) * 8 ≤ 140737488355328 := by omega
      have HBD := Box.mk hbd
      clear hbd
      go_wp2_with (first
        | refine wpList_loadE (enc := mk) (k := 2) rfl (.tmp 10) 156 rfl aMark sMark mk_len _ t rfl (by omega) HE x HX.out ?_
        | (refine wpList_storeE (enc := mk) (k := 2) rfl (.tmp 3) (.tmp 11) 156 rfl iMark mk_len mk_one _ 0 rfl rfl x rfl HA (by simp) ?_; intro w2 H2'
           have hc2 : w2.cell? ⟨po, 0, none⟩ = some vo' := by rw [H2'.at4.cell]; rfl
           have hf2 : w2.cell? ⟨wr.heap.size, 0, none⟩ = some (.int .i64 x.1) := by rw [Sat.cell H2']; rfl)
        | (at_builtin; go_loud (refine wpList_append_sep (w0 := w0) rfl (.tmp 12) (.tmp 15) 22 rfl Try.underlying22 eInt rfl (by decide) (by decide) rfl rfl (H2'.at5.allocX _) (reads_newg _ #[.int .i64 x.1] 3 1 _ rfl (by simp)) (ints_cell [x.1]) HBD.out ?_); intro a3 c3 w3 H3
           have hc3 : w3.cell? ⟨po, 0, none⟩ = some vo' := by rw [H3.at5.cell]; rfl
           have hz3 : w3.frozen? ⟨po, 0, none⟩ = false := H3.at5.free 0
           have H4 := H3.at5.setCell 0 (.slice a3 (o.length + t + 1) c3)))
      have HT : (srt l).take (t + 1) = (srt l).take t ++ [x] := by
        obtain ⟨hq, rfl⟩ := List.getElem?_eq_some_iff.1 HX.out
        exact List.take_succ_eq_append_getElem hq
      go_roundg (l.length - (t + 1))
      case measure => omega
      case rel => exact ⟨t + 1, .slice a3 (o.length + t + 1) c3, rfl, by omega, by go_num, by rw [HT, show ints (o ++ ((srt l).take t ++ [x]).map (·.1)) = ints (o ++ ((srt l).take t).map (·.1)) ++ [.int .i64 x.1] by simp [ints]]; exact H4.at3.right.at4.at4⟩
    · obtain rfl : t = l.length := by omega
      have hc1 : wr.cell? ⟨pr, 0, none⟩ = some (.slice ar l.length cr) := by rw [HI.at2.cell]; rfl
      have hz1 : wr.frozen? ⟨pr, 0, none⟩ = false := HI.at2.free 0
      have H4 := HI.at2.setCell 0 (.slice none 0 0)
      go_wp2
      go_returns
      have e : (srt l).take l.length = srt l := List.take_of_length_le (by rw [HSL.out]; exact Nat.le_refl _)
      rw [e] at H4
      exact ⟨vo', rfl, H4.at2.right⟩
end Go.Proofs.Ytmmigplciogggaa
