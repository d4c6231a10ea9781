/- The reference's number. -/
import Derived.Test.YtmmigplciogggaaRefLines
namespace Go.Proofs.Ytmmigplciogggaa
open Go Go.RowKit Go.PlainAid

def digL (b : Int) : Int := if 65 ≤ b then b - 65 + 10 else b - 48
def numL (base : Int) (l : List Int) : Int := l.foldl (fun n b => n * base + digL b) 0
theorem numL_snoc (base : Int) (l : List Int) (b : Int) : numL base (l ++ [b]) = numL base l * base + digL b := by simp [numL, List.foldl_append]
def hexB (b : Int) : Bool := decide (48 ≤ b ∧ b ≤ 57 ∨ 65 ≤ b ∧ b ≤ 70)
set_option maxHeartbeats 4000000 in
set_option maxRecDepth 100000 in
theorem number_calls (s : ByteArray) (base : Int) (hb : base = 16 ∨ base = 10) (hs : s.size ≤ 6) (hh : ∀ b ∈ bl s, hexB b = true) (w : World) :
    Calls Try.prog 98 #[.string s, .int .i64 base] w (fun e w' => e = .returned (.int .i64 (numL base (bl s))) ∧ w = w') := by
  have g := get_bt s
  have HH := Box.mk hh
  clear hh
  rcases hb with rfl | rfl
  all_goals
    go_enter Try.func98, Try.ntmps98
    go_wp2
    go_loop [5, 6, 7] (fun v5 v6 v7 => ∃ (i : Nat) (n : Int), i ≤ s.size ∧ v6 = .int .i64 i ∧ v5 = .int .i64 n ∧ 0 ≤ n ∧ n ≤ 16 ^ i - 1 ∧ Box (n = numL _ ((bl s).take i))) (fun v5 v6 v7 => s.size - (intOf v6).toNat)
    case atStart => exact ⟨0, 0, by omega, rfl, rfl, by omega, by simp, ⟨by simp [numL]⟩⟩
    case round =>
      obtain ⟨i, n, hi, rfl, rfl, hn0, hn1, HN⟩ := hrel
      have hpow : (16 : Int) ^ i ≤ 16777216 := by
        have hi6 : i ≤ 6 := by omega
        have : i = 0 ∨ i = 1 ∨ i = 2 ∨ i = 3 ∨ i = 4 ∨ i = 5 ∨ i = 6 := by omega
        rcases this with rfl | rfl | rfl | rfl | rfl | rfl | rfl <;> decide
      have hn2 : n ≤ 16777215 := by omega
      have HN1 := Box.mk hn1
      clear hpow hn1
      by_cases hlt : i < s.size
      · have hbx := HH.out (bt s i) (by have := bl_get s i hlt; exact List.mem_of_getElem? this)
        simp only [hexB, decide_eq_true_eq] at hbx
        have HT : Box ((bl s).take (i + 1) = (bl s).take i ++ [bt s i]) := ⟨by
          obtain ⟨h1, h2⟩ := List.getElem?_eq_some_iff.1 (bl_get s i hlt)
          rw [List.take_succ_eq_append_getElem h1, h2]⟩
        by_cases h65 : 65 ≤ bt s i
        · have hx : bt s i ≤ 70 := by omega
          have hdg : Box (digL (bt s i) = bt s i - 65 + 10) := ⟨by unfold digL; rw [if_pos h65]⟩
          clear hbx
          go_wp2
          go_round
          case rel => exact ⟨i + 1, _, by omega, by go_num, rfl, by omega, by have := HN1.out; rw [Int.pow_succ]; omega, ⟨by rw [HT.out, numL_snoc, hdg.out, HN.out]⟩⟩
          case measure => simp [intOf]; omega
        · have hx : 48 ≤ bt s i := by omega
          have hx2 : bt s i ≤ 57 := by omega
          have hdg : Box (digL (bt s i) = bt s i - 48) := ⟨by unfold digL; rw [if_neg h65]⟩
          clear hbx
          go_wp2
          go_round
          case rel => exact ⟨i + 1, _, by omega, by go_num, rfl, by omega, by have := HN1.out; rw [Int.pow_succ]; omega, ⟨by rw [HT.out, numL_snoc, hdg.out, HN.out]⟩⟩
          case measure => simp [intOf]; omega
      · obtain rfl : i = s.size := by omega
        go_wp2
        go_ret
        refine ⟨?_, rfl⟩
        have := HN.out
        rw [List.take_of_length_le (by rw [bl_length]; exact Nat.le_refl _)] at this
        rw [← this]
        rfl
end Go.Proofs.Ytmmigplciogggaa
