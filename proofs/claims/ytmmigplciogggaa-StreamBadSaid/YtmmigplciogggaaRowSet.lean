/- One cell of an owned row: read, written. -/
import Derived.Test.YtmmigplciogggaaRow
namespace Go.Proofs.Ytmmigplciogggaa
open Go Go.RowKit
section
variable {w0 w : World} {R : Asrt} {e : TypeId} {n c g : Nat} {xs : List Value}
theorem Sat.rowBlk (H : Sat w0 w (Row e 1 (.slice (some ⟨g, 0, none⟩) n c) n xs * R)) : ∃ cur : Array Value, n ≤ c ∧ c ≤ maxLen ∧ cur.size = c ∧ cur.toList.take n = xs ∧ Sat w0 w (Blk g cur e * R) := by
  rcases H.rowOpen.2 with ⟨h, _⟩ | ⟨g', cap, cur, h, h1, h2, h3, h4, HB⟩
  · cases h
  · simp only [Value.slice.injEq, Option.some.injEq, Addr.mk.injEq, and_true, true_and] at h
    obtain ⟨rfl, rfl⟩ := h
    exact ⟨cur, h1, h2, by simpa using h3, by simpa using h4, HB⟩
theorem Sat.rowCell (H : Sat w0 w (Row e 1 (.slice (some ⟨g, 0, none⟩) n c) n xs * R)) {i : Nat} {v : Value} (hv : xs[i]? = some v) : w.cell? ⟨g, i, none⟩ = some v := by
  obtain ⟨cur, h1, h2, h3, rfl, HB⟩ := H.rowBlk
  rw [HB.cell]
  rw [List.getElem?_take] at hv
  split at hv
  · simpa using hv
  · cases hv
theorem Sat.rowFree (H : Sat w0 w (Row e 1 (.slice (some ⟨g, 0, none⟩) n c) n xs * R)) (i : Nat) : w.frozen? ⟨g, i, none⟩ = false := by
  obtain ⟨cur, h1, h2, h3, rfl, HB⟩ := H.rowBlk
  exact HB.free i
theorem Sat.rowSet (H : Sat w0 w (Row e 1 (.slice (some ⟨g, 0, none⟩) n c) n xs * R)) (i : Nat) (hi : i < n) (v : Value) : Sat w0 (w.setCell ⟨g, i, none⟩ v) (Row e 1 (.slice (some ⟨g, 0, none⟩) n c) n (xs.set i v) * R) := by
  obtain ⟨cur, h1, h2, h3, rfl, HB⟩ := H.rowBlk
  refine (HB.setCell i v).rowShut h1 h2 (by simp [h3]) ?_
  rw [Nat.mul_one, Array.toList_setIfInBounds, List.take_set]
end
end Go.Proofs.Ytmmigplciogggaa
