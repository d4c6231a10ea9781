/- stream.take walked. -/
import Derived.Test.YtmmigplciogggaaTake
namespace Go.Proofs.Ytmmigplciogggaa
open Go Go.RowKit Go.PlainAid

def okC (c : Int) : Prop := 0 ≤ c ∧ c ≤ 1114111
theorem mapOf_ok (c : Int) : (∀ x ∈ mapOf c, okC x) ∧ (mapOf c).length ≤ 8 := by
  have hall : (mapTab.all fun r => (r.2.all fun x => decide (0 ≤ x ∧ x ≤ 1114111)) && decide (r.2.length ≤ 8)) = true := by kernel_rfl
  unfold mapOf
  cases hf : mapTab.find? fun r => decide (r.1 = c) with
  | none => simp
  | some r =>
    have := List.all_eq_true.1 hall r (List.mem_of_find?_eq_some hf)
    simp only [Bool.and_eq_true, List.all_eq_true, decide_eq_true_eq] at this
    simp only [Option.map_some, Option.getD_some]
    exact this
theorem apart_ok {c : Int} (h : okC c) : (∀ x ∈ apart c, okC x) ∧ (apart c).length ≤ 8 := by
  obtain ⟨h0, h1⟩ := h
  unfold apart
  split
  · unfold splitS
    split
    · simp
    · rename_i hs
      by_cases hz : (c - 44032) % 28 = 0
      · simp [okC, hz]; omega
      · simp [okC, hz]; omega
  · split
    · exact mapOf_ok c
    · simp [okC]; omega

/-- What take does with a character taken apart: what is held, how many marks at its end, the bytes given so far; nothing if marks are too many. -/
def takeL : List Int → List Int → Nat → List Int → Option (List Int × Nat × List Int)
  | [], h, m, o => some (h, m, o)
  | x :: xs, h, m, o => if 0 < cls x then (if 30 < m + 1 then none else takeL xs (h ++ [x]) (m + 1) o) else takeL xs [x] 0 (o ++ encs (ordS h))
theorem takeL_nil (h : List Int) (m : Nat) (o : List Int) : takeL [] h m o = some (h, m, o) := rfl
theorem takeL_big {x : Int} (xs h : List Int) (m : Nat) (o : List Int) (hk : 0 < cls x) (hm : 30 < m + 1) : takeL (x :: xs) h m o = none := by rw [takeL, if_pos hk, if_pos hm]
theorem takeL_mark {x : Int} (xs h : List Int) (m : Nat) (o : List Int) (hk : 0 < cls x) (hm : m + 1 ≤ 30) : takeL (x :: xs) h m o = takeL xs (h ++ [x]) (m + 1) o := by rw [takeL, if_pos hk, if_neg (by omega)]
theorem takeL_start {x : Int} (xs h : List Int) (m : Nat) (o : List Int) (hk : ¬ 0 < cls x) : takeL (x :: xs) h m o = takeL xs [x] 0 (o ++ encs (ordS h)) := by rw [takeL, if_neg hk]
/-- How take ends. -/
def TakeIs (w0 : World) (p : Nat) (r : ByteArray) (c : Bool) (R : Asrt) (o : Option (List Int × Nat × List Int)) (e : Ending) (w' : World) : Prop :=
  match o with
  | none => e = .returned (.slice none 0 0) ∧ Sat w0 w' (Strm p .empty (.slice none 0 0) 0 2 c * R)
  | some (h, m, out) => ∃ v vh, e = .returned v ∧ Sat w0 w' (Strm p r vh m 0 c * (Row 3 1 vh h.length (ints h) * (Row 5 1 v out.length (bys out) * R)))

set_option maxHeartbeats 4000000 in
set_option maxRecDepth 100000 in
theorem take_calls (c : Int) (hc : okC c) (p : Nat) (r : ByteArray) (vh vb : Value) (h : List Int) (m : Nat) (o : List Int) (cl : Bool) (w0 w : World) (R : Asrt)
    (H : Sat w0 w (Strm p r vh m 0 cl * (Row 3 1 vh h.length (ints h) * (Row 5 1 vb o.length (bys o) * R)))) (hh : ∀ x ∈ h, okC x) (hm : m ≤ 31) (hhl : h.length ≤ 10000) (hol : o.length ≤ 10000000) :
    Calls Try.prog 54 #[sptr p, vb, .int .i64 c] w (TakeIs w0 p r cl R (takeL (apart c) h m o)) := by
  obtain ⟨L, hL⟩ : ∃ L, apart c = L := ⟨_, rfl⟩
  have hap := apart_ok hc
  rw [hL] at hap
  have HAP := Box.mk hap.1
  have hll := hap.2
  have HH := Box.mk hh
  obtain ⟨c0, c1⟩ := hc
  have HA : ∀ W, Sat w0 W (Strm p r vh m 0 cl * (Row 3 1 vh h.length (ints h) * (Row 5 1 vb o.length (bys o) * R))) → Calls Try.prog 102 #[.int .i64 c] W (IntsOut w0 _ L) := fun W HW => by
    have := Apart_calls c c0 c1 w0 W _ HW
    rwa [hL] at this
  rw [hL]
  have HAb := Box.mk HA
  clear hap hh hL HA
  unfold sptr
  go_enter Try.func54, Try.ntmps54
  go_wp2_with fail
  refine (HAb.out _ H).mono ?_
  rintro e w1 ⟨a, k, rfl, hnil, H1⟩
  clear hnil
  obtain ⟨_, _, h0, _, hcm⟩ := H1.rowSlice
  have HCM := Box.mk hcm
  clear h0 hcm H
  go_wp2_with fail
  go_loopg [1, 8, 12] (L.length) (fun g v1 v8 v12 wr => ∃ (t : Nat) (h2 o2 : List Int) (m2 : Nat) (vh2 : Value), g = L.length - t ∧ t ≤ L.length ∧ v12 = .int .i64 t ∧ Box (takeL (L.drop t) h2 m2 o2 = takeL L h m o) ∧ Box (∀ x ∈ h2, okC x) ∧ m2 ≤ 31 ∧ h2.length ≤ h.length + t + 1 ∧ o2.length ≤ o.length + t * 100000 ∧
    Sat w0 wr (Row 3 1 (.slice a L.length k) L.length (ints L) * (Strm p r vh2 m2 0 cl * (Row 3 1 vh2 h2.length (ints h2) * (Row 5 1 v1 o2.length (bys o2) * R)))))
  case atStart => exact ⟨0, h, o, m, vh, rfl, by omega, rfl, ⟨rfl⟩, HH, hm, by omega, by omega, H1⟩
  case round =>
    obtain ⟨t, h2, o2, m2, vh2, rfl, ht, rfl, HT, HH2, hm2, hl2, ho2, HI⟩ := hrel
    clear H1
    by_cases hlt : t < L.length
    · obtain ⟨g, rfl⟩ := HI.rowSome (by omega)
      obtain ⟨x, hx⟩ : ∃ x, L[t]? = some x := ⟨L[t], List.getElem?_eq_getElem hlt⟩
      have hT : L.drop t = x :: L.drop (t + 1) := by
        obtain ⟨hq, rfl⟩ := List.getElem?_eq_some_iff.1 hx
        exact List.drop_eq_getElem_cons hq
      have hcell : wr.cell? ⟨g, t, none⟩ = some (.int .i64 x) := by
        rcases HI.rowReads.2 with ⟨h, _⟩ | ⟨a', c', h, _, hc⟩
        · cases h
        · cases h
          have := hc t (.int .i64 x) (by simp [ints, hx])
          rwa [addr_add0, Nat.zero_add] at this
      have hxb := HAP.out x (List.mem_of_getElem? hx)
      have HXb := Box.mk hxb
      have HTb := Box.mk hT
      have HCb := Box.mk (Class_calls x hxb.2)
      have H0 : Sat w0 wr (Blk p #[.string r, vh2, .int .i64 m2, .int .i64 0, .bool cl] 91 * _) := HI.at2
      have d1 := H0.cell 1
      simp only [List.getElem?_toArray, List.getElem?_cons_zero, List.getElem?_cons_succ] at d1
      clear hx hT hxb
      by_cases hk : 0 < cls x
      · have hbd : (h2.length + 1) * 8 ≤ 140737488355328 := by omega
        have HB := Box.mk hbd
        clear hbd
        by_cases hmm : 30 < m2 + 1
        · have hmi : (m2 : Int) + 1 > 30 := by omega
          go_wp2_with (first
            | (go_at_call 103; refine (HCb.out _).mono ?_; rintro e w1 ⟨rfl, rfl⟩)
            | (at_builtin; go_loud (refine wpList_append_sep (w0 := w0) rfl (.tmp 23) (.tmp 25) 22 rfl Try.underlying22 eInt rfl (by decide) (by decide) rfl rfl (HI.at3.allocX _) (reads_newg _ #[.int .i64 x] 3 1 _ rfl (by simp)) (ints_cell [x]) HB.out ?_); intro a3 c3 w3 H3
               have HS : Sat w0 w3 (Blk p #[.string r, vh2, .int .i64 m2, .int .i64 0, .bool cl] 91 * _) := H3.at3
               have e1 : w3.cell? ⟨p, 1, none⟩ = some vh2 := by rw [HS.cell]; rfl
               have f1 : w3.frozen? ⟨p, 1, none⟩ = false := HS.free 1
               have H4 := HS.setCell 1 (.slice a3 (h2.length + 1) c3)
               have e2 : (w3.setCell ⟨p, 1, none⟩ (.slice a3 (h2.length + 1) c3)).cell? ⟨p, 2, none⟩ = some (.int .i64 m2) := by rw [H4.cell]; rfl
               have f2 : (w3.setCell ⟨p, 1, none⟩ (.slice a3 (h2.length + 1) c3)).frozen? ⟨p, 2, none⟩ = false := H4.free 2
               have H5 := H4.setCell 2 (.int .i64 ((m2 : Int) + 1))
               have e3 : ((w3.setCell ⟨p, 1, none⟩ (.slice a3 (h2.length + 1) c3)).setCell ⟨p, 2, none⟩ (.int .i64 ((m2 : Int) + 1))).cell? ⟨p, 2, none⟩ = some (.int .i64 ((m2 : Int) + 1)) := by rw [H5.cell]; rfl)
            | (go_at_call 53; refine (fail_calls p r (.slice a3 (h2.length + 1) c3) ((m2 : Int) + 1) 0 2 cl w0 _ _ H5).mono ?_; rintro e w6 ⟨rfl, H6⟩))
          go_ret
          rw [← HT.out, HTb.out, takeL_big _ _ _ _ hk hmm]
          exact ⟨rfl, (H6.at2.right.at2.right.at2.right)⟩
        · have hmi : ¬ (m2 : Int) + 1 > 30 := by omega
          go_wp2_with (first
            | (go_at_call 103; refine (HCb.out _).mono ?_; rintro e w1 ⟨rfl, rfl⟩)
            | (at_builtin; go_loud (refine wpList_append_sep (w0 := w0) rfl (.tmp 23) (.tmp 25) 22 rfl Try.underlying22 eInt rfl (by decide) (by decide) rfl rfl (HI.at3.allocX _) (reads_newg _ #[.int .i64 x] 3 1 _ rfl (by simp)) (ints_cell [x]) HB.out ?_); intro a3 c3 w3 H3
               have HS : Sat w0 w3 (Blk p #[.string r, vh2, .int .i64 m2, .int .i64 0, .bool cl] 91 * _) := H3.at3
               have e1 : w3.cell? ⟨p, 1, none⟩ = some vh2 := by rw [HS.cell]; rfl
               have f1 : w3.frozen? ⟨p, 1, none⟩ = false := HS.free 1
               have H4 := HS.setCell 1 (.slice a3 (h2.length + 1) c3)
               have e2 : (w3.setCell ⟨p, 1, none⟩ (.slice a3 (h2.length + 1) c3)).cell? ⟨p, 2, none⟩ = some (.int .i64 m2) := by rw [H4.cell]; rfl
               have f2 : (w3.setCell ⟨p, 1, none⟩ (.slice a3 (h2.length + 1) c3)).frozen? ⟨p, 2, none⟩ = false := H4.free 2
               have H5 := H4.setCell 2 (.int .i64 ((m2 : Int) + 1))
               have e3 : ((w3.setCell ⟨p, 1, none⟩ (.slice a3 (h2.length + 1) c3)).setCell ⟨p, 2, none⟩ (.int .i64 ((m2 : Int) + 1))).cell? ⟨p, 2, none⟩ = some (.int .i64 ((m2 : Int) + 1)) := by rw [H5.cell]; rfl))
          go_roundg (L.length - (t + 1))
          case measure => omega
          case rel =>
            refine ⟨t + 1, h2 ++ [x], o2, m2 + 1, .slice a3 (h2.length + 1) c3, rfl, by omega, by go_num, ⟨by rw [← HT.out, HTb.out, takeL_mark _ _ _ _ hk (by omega)]⟩, ⟨fun y hy => ?_⟩, by omega, by rw [List.length_append, List.length_singleton]; omega, Nat.le_trans ho2 (Nat.add_le_add_left (Nat.mul_le_mul_right _ (Nat.le_succ t)) _), ?_⟩
            · rcases List.mem_append.1 hy with hy | hy
              · exact HH2.out y hy
              · have : y = x := by simpa using hy
                rw [this]; exact HXb.out
            · rw [show ints (h2 ++ [x]) = ints h2 ++ [.int .i64 x] by simp [ints], List.length_append]
              exact H5.at3
      · have hel := encs_len (ordS h2)
        rw [ordS_length] at hel
        have hbd : (o2.length + (encs (ordS h2)).length) * 1 ≤ 140737488355328 := by omega
        have HB := Box.mk hbd
        have HG := Box.mk (give_calls h2 vh2 w0 wr _ HI.at3 (by omega) HH2.out)
        clear hbd
        go_wp2_with (first
          | (go_at_call 103; refine (HCb.out _).mono ?_; rintro e w1 ⟨rfl, rfl⟩)
          | (go_at_call 55; refine HG.out.mono ?_; rintro e w2 ⟨v9, rfl, H2⟩)
          | (at_builtin; go_loud (refine wpList_append_sep (w0 := w0) rfl (.tmp 43) (.tmp 48) 32 rfl Try.underlying32 eByte rfl (by decide) (by decide) rfl rfl H2.at5 H2.rowReads (bys_cell _) HB.out ?_); intro a3 c3 w3 H3
             have H4 := (H3.alloc #[.int .i64 x] 3).rowShut (n := 1) (cap := 1) (sz := 1) (xs := [.int .i64 x]) (Nat.le_refl _) (by simp [maxLen]) rfl rfl
             have HS : Sat w0 (w3.alloc (.cells #[.int .i64 x] 3)) (Blk p #[.string r, vh2, .int .i64 m2, .int .i64 0, .bool cl] 91 * _) := H4.at6
             have e1 : (w3.alloc (.cells #[.int .i64 x] 3)).cell? ⟨p, 1, none⟩ = some vh2 := by rw [HS.cell]; rfl
             have f1 : (w3.alloc (.cells #[.int .i64 x] 3)).frozen? ⟨p, 1, none⟩ = false := HS.free 1
             have H5 := HS.setCell 1 (.slice (some ⟨w3.heap.size, 0, none⟩) 1 1)
             have e2 : ((w3.alloc (.cells #[.int .i64 x] 3)).setCell ⟨p, 1, none⟩ (.slice (some ⟨w3.heap.size, 0, none⟩) 1 1)).cell? ⟨p, 2, none⟩ = some (.int .i64 m2) := by rw [H5.cell]; rfl
             have f2 : ((w3.alloc (.cells #[.int .i64 x] 3)).setCell ⟨p, 1, none⟩ (.slice (some ⟨w3.heap.size, 0, none⟩) 1 1)).frozen? ⟨p, 2, none⟩ = false := H5.free 2
             have H6 := H5.setCell 2 (.int .i64 0)))
        go_roundg (L.length - (t + 1))
        case measure => omega
        case rel =>
          refine ⟨t + 1, [x], o2 ++ encs (ordS h2), 0, .slice (some ⟨w3.heap.size, 0, none⟩) 1 1, rfl, by omega, by go_num, ⟨by rw [← HT.out, HTb.out, takeL_start _ _ _ _ (by omega)]⟩, ⟨fun y hy => ?_⟩, by omega, by simp, by simp; omega, ?_⟩
          · have : y = x := by simpa using hy
            rw [this]; exact HXb.out
          · rw [bys_append, List.length_append]
            exact H6.at4.right.at4.right.at4
    · obtain rfl : t = L.length := by omega
      have HT2 := HT.out
      rw [List.drop_of_length_le (Nat.le_refl _)] at HT2
      rw [takeL_nil] at HT2
      have HTb := Box.mk HT2
      clear HT2
      go_wp2_with fail
      go_ret
      rw [← HTb.out]
      exact ⟨_, vh2, rfl, HI.right⟩
end Go.Proofs.Ytmmigplciogggaa
