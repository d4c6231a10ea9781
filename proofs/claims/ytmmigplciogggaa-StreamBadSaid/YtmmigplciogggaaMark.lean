/- The stable sort of marks: exchanges of elements. -/
import Derived.Test.YtmmigplciogggaaProg
import Derived.Test.YtmmigplciogggaaEl
import Derived.Test.YtmmigplciogggaaDraw
import Derived.WalkKit
import Derived.Outline
import Derived.Handy
import Derived.WalkLawsBesides
namespace Go.Proofs.Ytmmigplciogggaa
open Go Go.RowKit

def mk (m : Int × Int) : List Value := [.int .i64 m.1, .int .i64 m.2]
theorem mk_len : ∀ x, (mk x).length = 2 := fun _ => rfl
theorem mk_one : ∀ x, ∀ v ∈ mk x, v.oneCell' = true := fun x v hv => by simp [mk] at hv; rcases hv with rfl | rfl <;> rfl
def swp (l : List (Int × Int)) (i j : Nat) : List (Int × Int) := (l.set i (l.getD j (0, 0))).set j (l.getD i (0, 0))
theorem swp_length (l : List (Int × Int)) (i j : Nat) : (swp l i j).length = l.length := by simp [swp]
def swapR (l : List (Int × Int)) (a b : Nat) : Nat → List (Int × Int)
  | 0 => l
  | n + 1 => swp (swapR l a b n) (a + n) (b + n)
theorem swapR_length (l : List (Int × Int)) (a b : Nat) : ∀ n, (swapR l a b n).length = l.length
  | 0 => rfl
  | n + 1 => by rw [swapR, swp_length, swapR_length l a b n]
theorem getD_get {l : List (Int × Int)} {i : Nat} (h : i < l.length) : l.getD i (0, 0) = l[i] := by simp [List.getD, h]
theorem aMark (w : World) : (isAgg 156).run Try.prog w = .ok true w := by simp [isAgg, underlying, Try.underlying156]
theorem iMark : (Try.prog.info? 156).map (·.size) = some 2 := by kernel_rfl
theorem sMark (w : World) : (sizeOf 156).run Try.prog w = .ok 2 w := by
  obtain ⟨q, hq, hqs⟩ := Option.map_eq_some_iff.1 iMark
  simp [sizeOf, typeInfo, hq, hqs]
def Done (w0 : World) (A : Asrt) (e : Ending) (w' : World) : Prop := e = .returned (.tuple #[]) ∧ Sat w0 w' A

set_option maxHeartbeats 1000000 in
set_option maxRecDepth 100000 in
theorem swapRange_calls (g : Nat) (l : List (Int × Int)) (sp : List Value) (a b n cap : Nat) (f : Value) (w0 w : World) (R : Asrt) (H : Sat w0 w (EBlk mk 156 g l sp * R)) (h1 : a + n ≤ b) (h2 : b + n ≤ l.length) (hm : l.length ≤ 1000000000) :
    Calls Try.prog 169 #[.slice (some ⟨g, 0, none⟩) l.length cap, .int .i64 a, .int .i64 b, .int .i64 n, f] w (Done w0 (EBlk mk 156 g (swapR l a b n) sp * R)) := by
  go_enter Try.func169, Try.ntmps169
  go_wp2
  go_loopw [10] (fun v10 wr => ∃ k : Nat, k ≤ n ∧ v10 = .int .i64 k ∧ Sat w0 wr (EBlk mk 156 g (swapR l a b k) sp * R))
    (fun v10 _ => n - (intOf v10).toNat)
  case atStart => exact ⟨0, Nat.zero_le _, rfl, H⟩
  case round =>
    obtain ⟨k, hk, rfl, HY⟩ := hrel
    by_cases hlt : k < n
    · have hl := swapR_length l a b k
      have h3 : a + k < (swapR l a b k).length := by omega
      have h4 : b + k < (swapR l a b k).length := by omega
      have HL := Box.mk hl
      clear hl
      have HD := HY.drew
      go_wp2
      refine wp_text (by kernel_rfl) (by kernel_rfl) _ rfl ?_
      go_wp2_with (first
        | refine wpList_loadE (enc := mk) (k := 2) rfl (.tmp 28) 156 rfl aMark sMark mk_len _ (b + k) rfl (by omega) HD _ (List.getElem?_eq_getElem h4) ?_
        | refine wpList_loadE (enc := mk) (k := 2) rfl (.tmp 34) 156 rfl aMark sMark mk_len _ (a + k) rfl (by omega) HD _ (List.getElem?_eq_getElem h3) ?_
        | (refine wpList_storeE (enc := mk) (k := 2) rfl (.tmp 36) (.tmp 29) 156 rfl iMark mk_len mk_one _ (a + k) rfl (by omega) (swapR l a b k)[b + k] rfl HD h3 ?_; intro w2 H2)
        | (refine wpList_storeE (enc := mk) (k := 2) rfl (.tmp 37) (.tmp 35) 156 rfl iMark mk_len mk_one _ (b + k) rfl (by omega) (swapR l a b k)[a + k] rfl H2 (by simp; omega) ?_; intro w3 H3))
      refine ⟨?_, by kernel_rfl⟩
      go_wp2
      go_roundw
      case rel => exact ⟨k + 1, by omega, by go_num, by rw [swapR]; unfold swp; rw [getD_get h3, getD_get h4]; exact H3⟩
      case measure => simp [intOf]; omega
    · obtain rfl : k = n := by omega
      go_wp2
      go_returns
      exact ⟨rfl, HY⟩
end Go.Proofs.Ytmmigplciogggaa
