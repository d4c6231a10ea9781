/- The walks of the reference's UTF-8. -/
import Derived.Test.YtmmigplciogggaaUtf
import Derived.Test.YtmmigplciogggaaRow
import Derived.Test.YtmmigplciogggaaDraw
import Derived.Deep.RegionWith
import Derived.Deep.RegionHeld3
import Derived.Deep.QuietTactic
import Derived.BigQuiet
import Derived.Lib.ConvBytes
namespace Go.Proofs.Ytmmigplciogggaa
open Go Go.RowKit Go.PlainAid

theorem conv1 (w : World) (x : Int) : (convert 32 9 (.slice (some ⟨w.heap.size, 0, none⟩) 1 1)).run Try.prog (w.alloc (.cells #[.int .u8 x] 5)) = .ok (.string (strOfNums [x])) (w.alloc (.cells #[.int .u8 x] 5)) :=
  Reads.toStr (xs := [x]) _ _ _ Try.underlying32 Try.underlying5 Try.underlying9 (reads_new w _ _ 1 rfl)
theorem conv2 (w : World) (x y : Int) : (convert 32 9 (.slice (some ⟨w.heap.size, 0, none⟩) 2 2)).run Try.prog (w.alloc (.cells #[.int .u8 x, .int .u8 y] 5)) = .ok (.string (strOfNums [x, y])) (w.alloc (.cells #[.int .u8 x, .int .u8 y] 5)) :=
  Reads.toStr (xs := [x, y]) _ _ _ Try.underlying32 Try.underlying5 Try.underlying9 (reads_new w _ _ 2 rfl)
theorem conv3 (w : World) (x y z : Int) : (convert 32 9 (.slice (some ⟨w.heap.size, 0, none⟩) 3 3)).run Try.prog (w.alloc (.cells #[.int .u8 x, .int .u8 y, .int .u8 z] 5)) = .ok (.string (strOfNums [x, y, z])) (w.alloc (.cells #[.int .u8 x, .int .u8 y, .int .u8 z] 5)) :=
  Reads.toStr (xs := [x, y, z]) _ _ _ Try.underlying32 Try.underlying5 Try.underlying9 (reads_new w _ _ 3 rfl)
theorem conv4 (w : World) (x y z u : Int) : (convert 32 9 (.slice (some ⟨w.heap.size, 0, none⟩) 4 4)).run Try.prog (w.alloc (.cells #[.int .u8 x, .int .u8 y, .int .u8 z, .int .u8 u] 5)) = .ok (.string (strOfNums [x, y, z, u])) (w.alloc (.cells #[.int .u8 x, .int .u8 y, .int .u8 z, .int .u8 u] 5)) :=
  Reads.toStr (xs := [x, y, z, u]) _ _ _ Try.underlying32 Try.underlying5 Try.underlying9 (reads_new w _ _ 4 rfl)
set_option maxHeartbeats 1000000 in
set_option maxRecDepth 100000 in
theorem one_calls (c : Int) (h0 : 0 ≤ c) (h1 : c ≤ 1114111) (w : World) : Calls Try.prog 94 #[.int .i64 c] w
    fun e w' => e = .returned (.string (strOfNums (enc c))) ∧ Below w.heap.size w w' := by
  have k1 := conv1 w
  have k2 := conv2 w
  have k3 := conv3 w
  have k4 := conv4 w
  go_enter Try.func94, Try.ntmps94
  go_wp2
  all_goals go_ret
  · have e : enc c = [c] := by unfold enc; rw [if_pos (by omega)]
    exact ⟨by rw [e]; rfl, (Below.refl _ _).alloc (Nat.le_refl _) _⟩
  · have e : enc c = [192 + c / 64, 128 + c % 64] := by unfold enc; rw [if_neg (by omega), if_pos (by omega)]
    exact ⟨by rw [e]; rfl, (Below.refl _ _).alloc (Nat.le_refl _) _⟩
  · have e : enc c = [224 + c / 4096, 128 + c / 64 % 64, 128 + c % 64] := by unfold enc; rw [if_neg (by omega), if_neg (by omega), if_pos (by omega)]
    exact ⟨by rw [e]; rfl, (Below.refl _ _).alloc (Nat.le_refl _) _⟩
  · have e : enc c = [240 + c / 262144, 128 + c / 4096 % 64, 128 + c / 64 % 64, 128 + c % 64] := by unfold enc; rw [if_neg (by omega), if_neg (by omega), if_neg (by omega)]
    exact ⟨by rw [e]; rfl, (Below.refl _ _).alloc (Nat.le_refl _) _⟩
theorem rvalid_calls (c : Int) (w : World) : Calls Try.prog 93 #[.int .i64 c] w fun e w' => e = .returned (.bool (validB c)) ∧ w = w' := by
  go_enter Try.func93, Try.ntmps93
  go_wp2
  all_goals go_ret
  all_goals refine ⟨?_, rfl⟩
  all_goals first
    | (rw [valid_yes (by omega) (by omega) (by omega)]; rfl)
    | (rw [valid_no (by omega)]; rfl)
    | (by_cases h : c ≤ 57343
       · rw [valid_no (by omega)]; simp [h]
       · rw [valid_yes (by omega) (by omega) (by omega)]; simp [h])
end Go.Proofs.Ytmmigplciogggaa
