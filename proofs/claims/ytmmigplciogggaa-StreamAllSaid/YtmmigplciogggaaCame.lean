/- What a statement hands over, in the words of the walks. -/
import Derived.Test.YtmmigplciogggaaStreamG
import Derived.ChangeOld
import Derived.OpenShut
namespace Go.Proofs.Ytmmigplciogggaa
open Go Go.RowKit Go.PlainAid

theorem CameInts.mk {w : World} {a : Option Addr} {len cap : Nat} {zs : List Int}
    (h : (a = none ∧ len = 0 ∧ cap = 0 ∧ zs = []) ∨ ∃ x, a = some x ∧ len ≤ cap ∧ cap ≤ maxLen ∧ zs.length = cap ∧ (∀ i, i < zs.length → w.cell? (x.add i) = some (.int .i64 (zs.getD i 0))) ∧ ∀ n ∈ zs, (Lit.int .i64 n).wf = true) :
    CameInts w a len zs ∧ len ≤ cap := by
  rcases h with ⟨rfl, rfl, rfl, rfl⟩ | ⟨x, rfl, h1, h2, h3, h4, h5⟩
  · exact ⟨⟨by omega, fun h => by omega⟩, by omega⟩
  · refine ⟨⟨by unfold maxLen at h2; omega, fun h => ?_⟩, h1⟩
    obtain ⟨b, off, spot⟩ := x
    have h0 := h4 0 (by omega)
    have hspot : spot = none := by simpa [Addr.add] using World.cell?_spot h0
    subst hspot
    refine ⟨b, off, rfl, fun i hi => ?_⟩
    have hc := h4 i (by omega)
    rw [addr_add0] at hc
    refine ⟨hc, ?_⟩
    have hw := h5 (zs.getD i 0) (by rw [List.getD, List.getElem?_eq_getElem (by omega)]; exact List.getElem_mem _)
    exact bounds_i64 hw
end Go.Proofs.Ytmmigplciogggaa
