/- utf.Begins walked. -/
import Derived.Test.YtmmigplciogggaaUtf
import Derived.Test.YtmmigplciogggaaDraw
import Derived.Test.YtmmigplciogggaaSep
namespace Go.Proofs.Ytmmigplciogggaa
open Go Go.RowKit Go.PlainAid

/-- Can the bytes begin a character? -/
def beginsB : List Int → Bool
  | [] => true
  | b :: t => if formN b = 0 ∨ formN b ≤ t.length + 1 then false else
    match contsL (formC b) t with
    | none => false
    | some c => if t.length = 0 then true else
      decide (leastN (formN b) ≤ (c + 1) * 64 ^ (formN b - (t.length + 1)) - 1 ∧ c * 64 ^ (formN b - (t.length + 1)) ≤ 1114111 ∧ (c * 64 ^ (formN b - (t.length + 1)) < 55296 ∨ 57343 < (c + 1) * 64 ^ (formN b - (t.length + 1)) - 1))
def BoolB (x : Bool) (w : World) (e : Ending) (w' : World) : Prop := e = .returned (.bool x) ∧ Below w.heap.size w w'
theorem BoolB.mk {x y : Bool} {w w' : World} (h : x = y) (hb : Below w.heap.size w w') : BoolB x w (.returned (.bool y)) w' := ⟨by rw [h], hb⟩

theorem begins_empty (s : ByteArray) (h : s.size = 0) (w : World) : Calls Try.prog 52 #[.string s] w (BoolB (beginsB (bl s)) w) := by
  have hn := empty_toList h
  go_enter Try.func52, Try.ntmps52
  go_wp2
  go_ret
  exact BoolB.mk (by rw [(bl_nil_iff s).2 (empty_toList h)]; rfl) (Below.refl _ _)
theorem bl_size1 (s : ByteArray) (h : s.size = 1) : bl s = [bt s 0] := by
  rw [bl_cons1 s (by omega), List.drop_of_length_le (by rw [bl_length]; omega)]
theorem bl_size2 (s : ByteArray) (h : s.size = 2) : bl s = [bt s 0, bt s 1] := by
  rw [bl_cons2 s (by omega), List.drop_of_length_le (by rw [bl_length]; omega)]
theorem bl_size3 (s : ByteArray) (h : s.size = 3) : bl s = [bt s 0, bt s 1, bt s 2] := by
  rw [bl_cons3 s (by omega), List.drop_of_length_le (by rw [bl_length]; omega)]
set_option maxHeartbeats 1000000 in
set_option maxRecDepth 100000 in
theorem begins_none (s : ByteArray) (h : 1 ≤ s.size) (hsz : s.size ≤ 140737488355328) (hb : formN (bt s 0) = 0 ∨ formN (bt s 0) ≤ s.size) (w : World) : Calls Try.prog 52 #[.string s] w (BoolB (beginsB (bl s)) w) := by
  have hd : beginsB (bl s) = false := by
    have hl := bl_length s
    rw [bl_cons1 s h] at hl ⊢
    rw [beginsB, if_pos (by simp at hl ⊢; omega)]
  have HD := Box.mk hd
  clear hd
  have hn := full_toList (s := s) (by omega)
  have g := get_bt s
  have g0 := bt_le s 0
  have g0' := bt_nonneg s 0
  unfold formN at hb
  by_cases c1 : bt s 0 < 128
  · clear hb
    go_enter Try.func52, Try.ntmps52
    go_wp2
    all_goals
      go_ret
      exact BoolB.mk HD.out (Below.refl _ _)
  by_cases c2 : bt s 0 < 194
  · clear hb
    go_enter Try.func52, Try.ntmps52
    go_wp2
    all_goals
      go_ret
      exact BoolB.mk HD.out (Below.refl _ _)
  by_cases c3 : bt s 0 < 224
  · have hs : 2 ≤ s.size := by repeat' split at hb
                               all_goals omega
    clear hb
    go_enter Try.func52, Try.ntmps52
    go_wp2
    all_goals
      go_ret
      exact BoolB.mk HD.out (Below.refl _ _)
  by_cases c4 : bt s 0 < 240
  · have hs : 3 ≤ s.size := by repeat' split at hb
                               all_goals omega
    clear hb
    go_enter Try.func52, Try.ntmps52
    go_wp2
    all_goals
      go_ret
      exact BoolB.mk HD.out (Below.refl _ _)
  by_cases c5 : bt s 0 < 245
  · have hs : 4 ≤ s.size := by repeat' split at hb
                               all_goals omega
    clear hb
    go_enter Try.func52, Try.ntmps52
    go_wp2
    all_goals
      go_ret
      exact BoolB.mk HD.out (Below.refl _ _)
  · clear hb
    go_enter Try.func52, Try.ntmps52
    go_wp2
    all_goals
      go_ret
      exact BoolB.mk HD.out (Below.refl _ _)

set_option maxHeartbeats 1000000 in
set_option maxRecDepth 100000 in
theorem begins_one (s : ByteArray) (h : s.size = 1) (h0 : 194 ≤ bt s 0) (h1 : bt s 0 < 245) (w : World) : Calls Try.prog 52 #[.string s] w (BoolB (beginsB (bl s)) w) := by
  have hd : beginsB (bl s) = true := by
    rw [bl_size1 s h, beginsB, if_neg (by unfold formN; repeat' split
                                          all_goals simp
                                          all_goals omega)]
    rfl
  have HD := Box.mk hd
  clear hd
  have hn := full_toList (s := s) (by omega)
  have g := get_bt s
  have g0 := bt_le s 0
  by_cases c3 : bt s 0 < 224
  · go_enter Try.func52, Try.ntmps52
    go_wp2
    go_rounds 1
    go_wp2
    all_goals
      go_ret
      exact BoolB.mk HD.out (Below.refl _ _)
  by_cases c4 : bt s 0 < 240
  · go_enter Try.func52, Try.ntmps52
    go_wp2
    go_rounds 1
    go_wp2
    all_goals
      go_ret
      exact BoolB.mk HD.out (Below.refl _ _)
  · go_enter Try.func52, Try.ntmps52
    go_wp2
    go_rounds 1
    go_wp2
    all_goals
      go_ret
      exact BoolB.mk HD.out (Below.refl _ _)
set_option maxHeartbeats 4000000 in
set_option maxRecDepth 100000 in
theorem begins_two3 (s : ByteArray) (h : s.size = 2) (h0 : 224 ≤ bt s 0) (h1 : bt s 0 < 240) (w : World) : Calls Try.prog 52 #[.string s] w (BoolB (beginsB (bl s)) w) := by
  have hf : formN (bt s 0) = 3 := by unfold formN; rw [if_neg (by omega), if_neg (by omega), if_pos (by omega)]
  have hc : formC (bt s 0) = bt s 0 % 16 := by unfold formC; rw [if_neg (by omega), if_neg (by omega), if_pos (by omega)]
  have HD : Box (beginsB (bl s) = if contB (bt s 1) then decide (2048 ≤ (bt s 0 % 16 * 64 + bt s 1 % 64 + 1) * 64 - 1 ∧ (bt s 0 % 16 * 64 + bt s 1 % 64) * 64 ≤ 1114111 ∧ ((bt s 0 % 16 * 64 + bt s 1 % 64) * 64 < 55296 ∨ 57343 < (bt s 0 % 16 * 64 + bt s 1 % 64 + 1) * 64 - 1)) else false) := ⟨by
    rw [bl_size2 s h, beginsB, hf, hc, if_neg (by simp)]
    by_cases hc : contB (bt s 1) = true
    · simp [contsL, hc, leastN]
    · simp [contsL, hc]⟩
  clear hf hc
  have hn := full_toList (s := s) (by omega)
  have g := get_bt s
  have g0 := bt_le s 0
  have g1 := bt_nonneg s 1
  have g1' := bt_le s 1
  have e1 := u8_and192 g1 (by omega : bt s 1 < 256)
  have o1 := i64_or6 (x := bt s 0 % 16) (y := bt s 1 % 64) (by omega) (by omega) (by omega) (by omega)
  go_enter Try.func52, Try.ntmps52
  go_wp2
  go_rounds 2
  go_wp2
  · go_ret
    have hcb : contB (bt s 1) = false := cont_no (by assumption)
    exact BoolB.mk (by rw [HD.out, hcb]; rfl) (Below.refl _ _)
  · have hcb : contB (bt s 1) = true := cont_yes g1 (by assumption)
    refine wp_text (by kernel_rfl) (by kernel_rfl) _ rfl ?_
    go_wp2
    refine ⟨?_, by kernel_rfl⟩
    go_wp2
    all_goals
      go_ret
      refine BoolB.mk ?_ (below_drew1 _)
      rw [HD.out, hcb, if_pos rfl, Bool.eq_iff_iff]
      simp only [decide_eq_true_eq, Bool.or_eq_true, Bool.and_eq_true, Bool.false_eq_true, iff_false, iff_true]
      omega
set_option maxHeartbeats 4000000 in
set_option maxRecDepth 100000 in
theorem begins_two4 (s : ByteArray) (h : s.size = 2) (h0 : 240 ≤ bt s 0) (h1 : bt s 0 < 245) (w : World) : Calls Try.prog 52 #[.string s] w (BoolB (beginsB (bl s)) w) := by
  have hf : formN (bt s 0) = 4 := by unfold formN; rw [if_neg (by omega), if_neg (by omega), if_neg (by omega), if_pos (by omega)]
  have hc : formC (bt s 0) = bt s 0 % 8 := by unfold formC; rw [if_neg (by omega), if_neg (by omega), if_neg (by omega), if_pos (by omega)]
  have HD : Box (beginsB (bl s) = if contB (bt s 1) then decide (65536 ≤ (bt s 0 % 8 * 64 + bt s 1 % 64 + 1) * 4096 - 1 ∧ (bt s 0 % 8 * 64 + bt s 1 % 64) * 4096 ≤ 1114111 ∧ ((bt s 0 % 8 * 64 + bt s 1 % 64) * 4096 < 55296 ∨ 57343 < (bt s 0 % 8 * 64 + bt s 1 % 64 + 1) * 4096 - 1)) else false) := ⟨by
    rw [bl_size2 s h, beginsB, hf, hc, if_neg (by simp)]
    by_cases hc : contB (bt s 1) = true
    · simp [contsL, hc, leastN]
    · simp [contsL, hc]⟩
  clear hf hc
  have hn := full_toList (s := s) (by omega)
  have g := get_bt s
  have g0 := bt_le s 0
  have g1 := bt_nonneg s 1
  have g1' := bt_le s 1
  have e1 := u8_and192 g1 (by omega : bt s 1 < 256)
  have o1 := i64_or6 (x := bt s 0 % 8) (y := bt s 1 % 64) (by omega) (by omega) (by omega) (by omega)
  go_enter Try.func52, Try.ntmps52
  go_wp2
  go_rounds 2
  go_wp2
  · go_ret
    have hcb : contB (bt s 1) = false := cont_no (by assumption)
    exact BoolB.mk (by rw [HD.out, hcb]; rfl) (Below.refl _ _)
  · have hcb : contB (bt s 1) = true := cont_yes g1 (by assumption)
    refine wp_text (by kernel_rfl) (by kernel_rfl) _ rfl ?_
    go_wp2
    refine ⟨?_, by kernel_rfl⟩
    go_wp2
    all_goals
      go_ret
      refine BoolB.mk ?_ (below_drew1 _)
      rw [HD.out, hcb, if_pos rfl, Bool.eq_iff_iff]
      simp only [decide_eq_true_eq, Bool.or_eq_true, Bool.and_eq_true, Bool.false_eq_true, iff_false, iff_true]
      omega
set_option maxHeartbeats 4000000 in
set_option maxRecDepth 100000 in
theorem begins_three4 (s : ByteArray) (h : s.size = 3) (h0 : 240 ≤ bt s 0) (h1 : bt s 0 < 245) (w : World) : Calls Try.prog 52 #[.string s] w (BoolB (beginsB (bl s)) w) := by
  have hf : formN (bt s 0) = 4 := by unfold formN; rw [if_neg (by omega), if_neg (by omega), if_neg (by omega), if_pos (by omega)]
  have hc : formC (bt s 0) = bt s 0 % 8 := by unfold formC; rw [if_neg (by omega), if_neg (by omega), if_neg (by omega), if_pos (by omega)]
  have HD : Box (beginsB (bl s) = if contB (bt s 1) && contB (bt s 2) then decide (65536 ≤ ((bt s 0 % 8 * 64 + bt s 1 % 64) * 64 + bt s 2 % 64 + 1) * 64 - 1 ∧ ((bt s 0 % 8 * 64 + bt s 1 % 64) * 64 + bt s 2 % 64) * 64 ≤ 1114111 ∧ (((bt s 0 % 8 * 64 + bt s 1 % 64) * 64 + bt s 2 % 64) * 64 < 55296 ∨ 57343 < ((bt s 0 % 8 * 64 + bt s 1 % 64) * 64 + bt s 2 % 64 + 1) * 64 - 1)) else false) := ⟨by
    rw [bl_size3 s h, beginsB, hf, hc, if_neg (by simp)]
    by_cases hc : contB (bt s 1) = true
    · by_cases hc2 : contB (bt s 2) = true
      · simp [contsL, hc, hc2, leastN]
      · simp [contsL, hc, hc2]
    · simp [contsL, hc]⟩
  clear hf hc
  have hn := full_toList (s := s) (by omega)
  have g := get_bt s
  have g0 := bt_le s 0
  have g1 := bt_nonneg s 1
  have g1' := bt_le s 1
  have g2 := bt_nonneg s 2
  have g2' := bt_le s 2
  have e1 := u8_and192 g1 (by omega : bt s 1 < 256)
  have e2 := u8_and192 g2 (by omega : bt s 2 < 256)
  have o1 := i64_or6 (x := bt s 0 % 8) (y := bt s 1 % 64) (by omega) (by omega) (by omega) (by omega)
  have o2 := i64_or6 (x := bt s 0 % 8 * 64 + bt s 1 % 64) (y := bt s 2 % 64) (by omega) (by omega) (by omega) (by omega)
  by_cases k1 : contB (bt s 1) = true
  · have x1 : (bt s 1 / 64 * 64 != 128) = false := by simp [contB] at k1 ⊢; omega
    by_cases k2 : contB (bt s 2) = true
    · have x2 : (bt s 2 / 64 * 64 != 128) = false := by simp [contB] at k2 ⊢; omega
      have hcb : (contB (bt s 1) && contB (bt s 2)) = true := by simp [k1, k2]
      have HCB := Box.mk hcb
      clear hcb k1 k2
      go_enter Try.func52, Try.ntmps52
      go_wp2
      go_rounds 3
      go_wp2
      have hcb := HCB.out
      refine wp_text (by kernel_rfl) (by kernel_rfl) _ rfl ?_
      go_wp2
      refine ⟨?_, by kernel_rfl⟩
      go_wp2
      all_goals
        go_ret
        refine BoolB.mk ?_ (below_drew1 _)
        rw [HD.out, hcb, if_pos rfl, Bool.eq_iff_iff]
        simp only [decide_eq_true_eq, Bool.or_eq_true, Bool.and_eq_true, Bool.false_eq_true, iff_false, iff_true]
        omega
    · have x2 : (bt s 2 / 64 * 64 != 128) = true := by simp [contB] at k2 ⊢; omega
      have HCB : Box ((contB (bt s 1) && contB (bt s 2)) = false) := ⟨by simp [k2]⟩
      clear k1 k2
      go_enter Try.func52, Try.ntmps52
      go_wp2
      go_rounds 3
      go_wp2
      all_goals go_ret
      exact BoolB.mk (by rw [HD.out, HCB.out]; rfl) (Below.refl _ _)
  · have x1 : (bt s 1 / 64 * 64 != 128) = true := by simp [contB] at k1 ⊢; omega
    have HCB : Box ((contB (bt s 1) && contB (bt s 2)) = false) := ⟨by simp [k1]⟩
    clear k1
    go_enter Try.func52, Try.ntmps52
    go_wp2
    go_rounds 3
    go_wp2
    all_goals go_ret
    exact BoolB.mk (by rw [HD.out, HCB.out]; rfl) (Below.refl _ _)

/-- Begins: whether the bytes can begin a character. -/
theorem Begins_calls (s : ByteArray) (hsz : s.size ≤ 140737488355328) (w : World) : Calls Try.prog 52 #[.string s] w (BoolB (beginsB (bl s)) w) := by
  by_cases z : s.size = 0
  · exact begins_empty s z w
  by_cases a : formN (bt s 0) = 0 ∨ formN (bt s 0) ≤ s.size
  · exact begins_none s (by omega) hsz a w
  have c2 : 194 ≤ bt s 0 ∧ bt s 0 < 245 ∧ formN (bt s 0) = if bt s 0 < 224 then 2 else if bt s 0 < 240 then 3 else 4 := by
    unfold formN at a ⊢; repeat' split at a
    all_goals simp_all
    all_goals repeat' split
    all_goals omega
  obtain ⟨c0, c1, c2⟩ := c2
  rw [c2] at a
  by_cases d : bt s 0 < 224
  · rw [if_pos d] at a; exact begins_one s (by omega) c0 c1 w
  rw [if_neg d] at a
  by_cases e : bt s 0 < 240
  · rw [if_pos e] at a
    by_cases f : s.size = 1
    · exact begins_one s f c0 c1 w
    · exact begins_two3 s (by omega) (by omega) e w
  · rw [if_neg e] at a
    by_cases f : s.size = 1
    · exact begins_one s f c0 c1 w
    by_cases f2 : s.size = 2
    · exact begins_two4 s f2 (by omega) c1 w
    · exact begins_three4 s (by omega) (by omega) c1 w
end Go.Proofs.Ytmmigplciogggaa
