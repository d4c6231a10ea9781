/- The walks of package utf. -/
import Derived.Test.YtmmigplciogggaaProg
import Derived.Test.YtmmigplciogggaaUtfS
import Derived.WalkKit
import Derived.Outline
import Derived.Handy
import Derived.WalkLawsBesides
import Derived.Lib.Hide
namespace Go.Proofs.Ytmmigplciogggaa
open Go Go.RowKit Go.PlainAid

theorem empty_toList {s : ByteArray} (h : s.size = 0) : s.toList = [] := by
  rw [Lib.toList_data]; have : s.data = #[] := Array.eq_empty_of_size_eq_zero h
  rw [this]
theorem full_toList {s : ByteArray} (h : 0 < s.size) : s.toList.isEmpty = false := by
  rw [Lib.toList_data]; have : s.data.size ≠ 0 := by have : s.data.size = s.size := rfl; omega
  simp only [List.isEmpty_eq_false_iff, ne_eq, Array.toList_eq_nil_iff]
  intro h; simp [h] at this
/-- What First is handed. -/
def FirstIs (s : ByteArray) (w : World) (e : Ending) (w' : World) : Prop := e = .returned (firstR (dec (bl s))) ∧ w = w'
theorem FirstIs.none {s : ByteArray} {w : World} (h : dec (bl s) = none) : FirstIs s w (.returned (.tuple #[.int .i64 (-1), .int .i64 0])) w := ⟨by rw [h]; rfl, rfl⟩
theorem FirstIs.some {s : ByteArray} {w : World} {c : Int} {n : Nat} {m : Int} (h : dec (bl s) = some (c, n)) (hm : m = n) : FirstIs s w (.returned (.tuple #[.int .i64 c, .int .i64 m])) w := ⟨by rw [h, hm]; rfl, rfl⟩

theorem first_empty (s : ByteArray) (h : s.size = 0) (w : World) : Calls Try.prog 51 #[.string s] w (FirstIs s w) := by
  have hn := empty_toList h
  go_enter Try.func51, Try.ntmps51
  go_wp2
  go_ret2
  exact FirstIs.none (by rw [(bl_nil_iff s).2 (empty_toList h)]; rfl)
set_option maxHeartbeats 400000 in
theorem first_bad (s : ByteArray) (h : 1 ≤ s.size) (hsz : s.size ≤ 140737488355328) (hb : bt s 0 < 194 ∨ 245 ≤ bt s 0) (hb' : 128 ≤ bt s 0) (w : World) : Calls Try.prog 51 #[.string s] w (FirstIs s w) := by
  have hd : dec (bl s) = none := by
    rw [bl_cons1 s h]; refine dec_short (.inl ?_)
    unfold formN; rw [if_neg (by omega), if_neg (by omega), if_neg (by omega), if_neg (by omega)]
  have hn := full_toList (s := s) (by omega)
  have g := get_bt s
  have g0 := bt_le s 0
  rcases hb with hb | hb
  all_goals
    go_enter Try.func51, Try.ntmps51
    go_wp2
    all_goals
      go_ret2
      exact FirstIs.none hd
set_option maxHeartbeats 400000 in
theorem first_one (s : ByteArray) (h : 1 ≤ s.size) (hsz : s.size ≤ 140737488355328) (hb : bt s 0 < 128) (w : World) : Calls Try.prog 51 #[.string s] w (FirstIs s w) := by
  have g0 := bt_nonneg s 0
  have hd : dec (bl s) = some (bt s 0, 1) := by rw [bl_cons1 s h]; exact dec_one g0 hb
  have hn := full_toList (s := s) (by omega)
  have g := get_bt s
  go_enter Try.func51, Try.ntmps51
  go_wp2
  go_rounds 1
  go_wp2
  all_goals
    go_ret2
    exact FirstIs.some hd rfl
set_option maxHeartbeats 1000000 in
theorem first_short (s : ByteArray) (h : 1 ≤ s.size) (hsz : s.size ≤ 140737488355328) (h0 : 194 ≤ bt s 0) (hb' : bt s 0 < 245) (hb : s.size < formN (bt s 0)) (w : World) : Calls Try.prog 51 #[.string s] w (FirstIs s w) := by
  have hd : dec (bl s) = none := by
    rw [bl_cons1 s h]; refine dec_short (.inr ?_)
    simp [bl_length]; omega
  have hn := full_toList (s := s) (by omega)
  have g := get_bt s
  have g0 := bt_le s 0
  have hb2 : 1 ≤ bt s 0 - 223 ∨ s.size < 2 := by unfold formN at hb; repeat' split at hb
                                                 all_goals omega
  have hb3 : 1 ≤ bt s 0 - 239 ∨ s.size < 3 := by unfold formN at hb; repeat' split at hb
                                                 all_goals omega
  have hb4 : s.size < 4 := by unfold formN at hb; repeat' split at hb
                              all_goals omega
  clear hb
  by_cases c1 : bt s 0 < 224
  · have c2 : s.size < 2 := by omega
    go_enter Try.func51, Try.ntmps51
    go_wp2
    all_goals
      go_ret2
      exact FirstIs.none hd
  · by_cases c3 : bt s 0 < 240
    · have c2 : s.size < 3 := by omega
      go_enter Try.func51, Try.ntmps51
      go_wp2
      all_goals
        go_ret2
        exact FirstIs.none hd
    · go_enter Try.func51, Try.ntmps51
      go_wp2
      all_goals
        go_ret2
        exact FirstIs.none hd
theorem cont_yes {b : Int} (h0 : 0 ≤ b) (h : (b / 64 * 64 != 128) = false) : contB b = true := by
  have : b / 64 * 64 = 128 := by simpa using h
  unfold contB; simp; omega
theorem cont_no {b : Int} (h : (b / 64 * 64 != 128) = true) : contB b = false := by
  have : b / 64 * 64 ≠ 128 := by simpa using h
  unfold contB; simp; omega
theorem valid_yes {c : Int} (h0 : 0 ≤ c) (h1 : c ≤ 1114111) (h : c < 55296 ∨ 57343 < c) : validB c = true := by unfold validB; simp; omega
theorem valid_no {c : Int} (h : c < 0 ∨ 1114111 < c ∨ (55296 ≤ c ∧ c ≤ 57343)) : validB c = false := by unfold validB; simp; omega
set_option maxHeartbeats 1000000 in
theorem first_two (s : ByteArray) (h : 2 ≤ s.size) (hsz : s.size ≤ 140737488355328) (h0 : 194 ≤ bt s 0) (h1 : bt s 0 < 224) (w : World) : Calls Try.prog 51 #[.string s] w (FirstIs s w) := by
  have hd := dec_two (b := bt s 0) (b1 := bt s 1) (t := (bl s).drop 2) h0 h1
  rw [← bl_cons2 s h] at hd
  have HD := Lib.hid hd; clear hd
  have hn := full_toList (s := s) (by omega)
  have g := get_bt s
  have g1 := bt_nonneg s 1
  have g1' := bt_le s 1
  have e1 := u8_and192 g1 (by omega : bt s 1 < 256)
  have o1 := i64_or6 (x := bt s 0 % 32) (y := bt s 1 % 64) (by omega) (by omega) (by omega) (by omega)
  go_enter Try.func51, Try.ntmps51
  go_wp2
  go_rounds 2
  go_wp2
  all_goals go_ret2
  · exact FirstIs.none (by rw [HD.out, cont_no (by assumption)]; rfl)
  · exact FirstIs.some (by rw [HD.out, cont_yes g1 (by assumption)]; rfl) rfl

theorem three_no {p q : Prop} [Decidable p] [Decidable q] {α : Type} {x : α} (h : ¬ p ∨ q) : (if p then (if q then none else some x) else none) = none := by
  rcases h with h | h
  · rw [if_neg h]
  · rw [if_pos h, ite_self]
theorem three_yes {p q : Prop} [Decidable p] [Decidable q] {α : Type} {x : α} (h : p) (h' : ¬ q) : (if p then (if q then none else some x) else none) = some x := by rw [if_pos h, if_neg h']
set_option maxHeartbeats 4000000 in
theorem first_three (s : ByteArray) (h : 3 ≤ s.size) (hsz : s.size ≤ 140737488355328) (h0 : 224 ≤ bt s 0) (h1 : bt s 0 < 240) (w : World) : Calls Try.prog 51 #[.string s] w (FirstIs s w) := by
  have hd := dec_three (b := bt s 0) (b1 := bt s 1) (b2 := bt s 2) (t := (bl s).drop 3) h0 h1
  rw [← bl_cons3 s h] at hd
  have HD := Lib.hid hd; clear hd
  have hn := full_toList (s := s) (by omega)
  have g := get_bt s
  have g1 := bt_nonneg s 1
  have g1' := bt_le s 1
  have e1 := u8_and192 g1 (by omega : bt s 1 < 256)
  have o1 := i64_or6 (x := bt s 0 % 16) (y := bt s 1 % 64) (by omega) (by omega) (by omega) (by omega)
  have g2 := bt_nonneg s 2
  have g2' := bt_le s 2
  have e2 := u8_and192 g2 (by omega : bt s 2 < 256)
  have o2 := i64_or6 (x := bt s 0 % 16 * 64 + bt s 1 % 64) (y := bt s 2 % 64) (by omega) (by omega) (by omega) (by omega)
  go_enter Try.func51, Try.ntmps51
  go_wp2
  go_rounds 3
  go_wp2
  all_goals go_ret2
  all_goals clear e1 o1 e2 o2
  all_goals try have c1 : contB (bt s 1) = true := cont_yes g1 (by assumption)
  all_goals try have c1 : contB (bt s 1) = false := cont_no (by assumption)
  all_goals try have c2 : contB (bt s 2) = true := cont_yes g2 (by assumption)
  all_goals try have c2 : contB (bt s 2) = false := cont_no (by assumption)
  all_goals try simp only [Bool.not_eq_eq_eq_not, Bool.not_true, Bool.not_false, Bool.not_eq_true, decide_eq_false_iff_not, decide_eq_true_eq, Int.not_lt] at *
  all_goals first
    | (refine FirstIs.none ?_; rw [HD.out]; refine three_no (.inl ?_); rw [c1]; simp; done)
    | (refine FirstIs.none ?_; rw [HD.out]; refine three_no (.inl ?_); rw [c2]; simp; done)
    | (refine FirstIs.none ?_; rw [HD.out]; refine three_no (.inr (.inl ?_)); omega)
    | (refine FirstIs.none ?_; rw [HD.out]; refine three_no (.inr (.inr (valid_no ?_))); omega)
    | (refine FirstIs.some (n := 3) ?_ rfl; rw [HD.out]; refine three_yes (by simp only [c1, c2, and_self]) ?_; rw [valid_yes (by omega) (by omega) (by omega)]; simp; omega)
set_option maxHeartbeats 4000000 in
theorem first_four (s : ByteArray) (h : 4 ≤ s.size) (hsz : s.size ≤ 140737488355328) (h0 : 240 ≤ bt s 0) (h1 : bt s 0 < 245) (w : World) : Calls Try.prog 51 #[.string s] w (FirstIs s w) := by
  have hd := dec_four (b := bt s 0) (b1 := bt s 1) (b2 := bt s 2) (b3 := bt s 3) (t := (bl s).drop 4) h0 h1
  rw [← bl_cons4 s h] at hd
  have HD := Lib.hid hd; clear hd
  have hn := full_toList (s := s) (by omega)
  have g := get_bt s
  have g1 := bt_nonneg s 1
  have g1' := bt_le s 1
  have e1 := u8_and192 g1 (by omega : bt s 1 < 256)
  have o1 := i64_or6 (x := bt s 0 % 8) (y := bt s 1 % 64) (by omega) (by omega) (by omega) (by omega)
  have g2 := bt_nonneg s 2
  have g2' := bt_le s 2
  have e2 := u8_and192 g2 (by omega : bt s 2 < 256)
  have o2 := i64_or6 (x := bt s 0 % 8 * 64 + bt s 1 % 64) (y := bt s 2 % 64) (by omega) (by omega) (by omega) (by omega)
  have g3 := bt_nonneg s 3
  have g3' := bt_le s 3
  have e3 := u8_and192 g3 (by omega : bt s 3 < 256)
  have o3 := i64_or6 (x := (bt s 0 % 8 * 64 + bt s 1 % 64) * 64 + bt s 2 % 64) (y := bt s 3 % 64) (by omega) (by omega) (by omega) (by omega)
  go_enter Try.func51, Try.ntmps51
  go_wp2
  go_rounds 4
  go_wp2
  all_goals go_ret2
  all_goals clear e1 o1 e2 o2 e3 o3
  all_goals try have c1 : contB (bt s 1) = true := cont_yes g1 (by assumption)
  all_goals try have c1 : contB (bt s 1) = false := cont_no (by assumption)
  all_goals try have c2 : contB (bt s 2) = true := cont_yes g2 (by assumption)
  all_goals try have c2 : contB (bt s 2) = false := cont_no (by assumption)
  all_goals try have c3 : contB (bt s 3) = true := cont_yes g3 (by assumption)
  all_goals try have c3 : contB (bt s 3) = false := cont_no (by assumption)
  all_goals try simp only [Bool.not_eq_eq_eq_not, Bool.not_true, Bool.not_false, Bool.not_eq_true, decide_eq_false_iff_not, decide_eq_true_eq, Int.not_lt] at *
  all_goals first
    | (refine FirstIs.none ?_; rw [HD.out]; refine three_no (.inl ?_); rw [c1]; simp; done)
    | (refine FirstIs.none ?_; rw [HD.out]; refine three_no (.inl ?_); rw [c2]; simp; done)
    | (refine FirstIs.none ?_; rw [HD.out]; refine three_no (.inl ?_); rw [c3]; simp; done)
    | (refine FirstIs.none ?_; rw [HD.out]; refine three_no (.inr (.inl ?_)); omega)
    | (refine FirstIs.none ?_; rw [HD.out]; refine three_no (.inr (.inr (valid_no ?_))); omega)
    | (refine FirstIs.some (n := 4) ?_ rfl; rw [HD.out]; refine three_yes (by simp only [c1, c2, c3, and_self]) ?_; rw [valid_yes (by omega) (by omega) (by omega)]; simp; omega)

/-- First: the first character and its bytes. -/
theorem First_calls (s : ByteArray) (hsz : s.size ≤ 140737488355328) (w : World) : Calls Try.prog 51 #[.string s] w (FirstIs s w) := by
  by_cases z : s.size = 0
  · exact first_empty s z w
  by_cases a : bt s 0 < 128
  · exact first_one s (by omega) hsz a w
  by_cases b : bt s 0 < 194 ∨ 245 ≤ bt s 0
  · exact first_bad s (by omega) hsz b (by omega) w
  by_cases c : s.size < formN (bt s 0)
  · exact first_short s (by omega) hsz (by omega) (by omega) c w
  have c2 : formN (bt s 0) = if bt s 0 < 224 then 2 else if bt s 0 < 240 then 3 else 4 := by
    unfold formN; repeat' split
    all_goals omega
  rw [c2] at c
  by_cases d : bt s 0 < 224
  · rw [if_pos d] at c; exact first_two s (by omega) hsz (by omega) d w
  rw [if_neg d] at c
  by_cases e : bt s 0 < 240
  · rw [if_pos e] at c; exact first_three s (by omega) hsz (by omega) e w
  · rw [if_neg e] at c; exact first_four s (by omega) hsz (by omega) (by omega) w
end Go.Proofs.Ytmmigplciogggaa
