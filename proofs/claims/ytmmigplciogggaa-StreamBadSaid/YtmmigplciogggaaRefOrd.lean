/- The reference's order by exchanges is the canonical order. No program here. -/
import Derived.Test.YtmmigplciogggaaWriteS
namespace Go.Proofs.Ytmmigplciogggaa
open Go Go.RowKit Go.PlainAid

theorem snoc_cases {α : Type} (l : List α) : l = [] ∨ ∃ A y, l = A ++ [y] := by
  rcases List.eq_nil_or_concat l with h | ⟨A, y, h⟩
  · exact .inl h
  · exact .inr ⟨A, y, by rw [h, List.concat_eq_append]⟩
/-- A character goes ahead of its neighbour, as long as its class is lower and above 0. -/
def bub : Nat → List Int → List Int
  | 0, O => O
  | j + 1, O => if 0 < cls (O.getD (j + 1) 0) ∧ cls (O.getD (j + 1) 0) < cls (O.getD j 0) then bub j ((O.set j (O.getD (j + 1) 0)).set (j + 1) (O.getD j 0)) else O
def charsF (D O : List Int) : List Int := D.foldl (fun O x => bub O.length (O ++ [x])) O
theorem charsF_snoc (D O : List Int) (x : Int) : charsF (D ++ [x]) O = bub (charsF D O).length (charsF D O ++ [x]) := by simp [charsF, List.foldl_append]
theorem charsF_append (D E O : List Int) : charsF (D ++ E) O = charsF E (charsF D O) := by simp [charsF, List.foldl_append]
theorem bub_stop {j : Nat} {O : List Int} (h : ¬ (0 < cls (O.getD (j + 1) 0) ∧ cls (O.getD (j + 1) 0) < cls (O.getD j 0))) : bub (j + 1) O = O := by rw [bub, if_neg h]
theorem bub_go {j : Nat} {O : List Int} (h : 0 < cls (O.getD (j + 1) 0)) (h' : cls (O.getD (j + 1) 0) < cls (O.getD j 0)) : bub (j + 1) O = bub j ((O.set j (O.getD (j + 1) 0)).set (j + 1) (O.getD j 0)) := by rw [bub, if_pos ⟨h, h'⟩]
theorem bub_length : ∀ (j : Nat) (O : List Int), (bub j O).length = O.length
  | 0, O => rfl
  | j + 1, O => by
    rw [bub]
    split
    · rw [bub_length]; simp
    · rfl
theorem bub_start {n : Nat} {A C : List Int} {x : Int} (hn : n = A.length) (hx : 0 < cls x) (hA : ∀ y, A.getLast? = some y → cls y ≤ cls x) : bub n (A ++ x :: C) = A ++ x :: C := by
  subst hn
  rcases snoc_cases A with rfl | ⟨A', y, rfl⟩
  · rfl
  · have h1 := hA y (by simp)
    rw [List.length_append, List.length_singleton]
    refine bub_stop ?_
    have e1 : (A' ++ [y] ++ x :: C).getD (A'.length + 1) 0 = x := by simp [List.getD]
    have e2 : (A' ++ [y] ++ x :: C).getD A'.length 0 = y := by simp [List.getD]
    rw [e1, e2]
    omega
theorem bub_pass {A : List Int} {x : Int} (hx : 0 < cls x) (hA : ∀ y, A.getLast? = some y → cls y ≤ cls x) (B : List Int) : ∀ (C : List Int), (∀ y ∈ B, cls x < cls y) → bub (A.length + B.length) (A ++ B ++ x :: C) = A ++ x :: B ++ C := by
  refine snoc_ind (P := fun B => ∀ C : List Int, (∀ y ∈ B, cls x < cls y) → bub (A.length + B.length) (A ++ B ++ x :: C) = A ++ x :: B ++ C) B ?_ ?_
  · intro C _
    simpa using bub_start (n := A.length) (C := C) rfl hx hA
  · intro B b ih C hB
    have hb := hB b (by simp)
    have e1 : (A ++ (B ++ [b]) ++ x :: C).getD (A.length + B.length + 1) 0 = x := by
      rw [show A ++ (B ++ [b]) ++ x :: C = (A ++ B ++ [b]) ++ x :: C by simp, List.getD, List.getElem?_append_right (by simp; omega)]
      simp [show A.length + B.length + 1 - (A.length + (B.length + 1)) = 0 by omega]
    have e2 : (A ++ (B ++ [b]) ++ x :: C).getD (A.length + B.length) 0 = b := by
      rw [show A ++ (B ++ [b]) ++ x :: C = (A ++ B) ++ b :: x :: C by simp, List.getD, List.getElem?_append_right (by simp)]
      simp
    rw [List.length_append, List.length_singleton, ← Nat.add_assoc, bub_go (by rw [e1]; exact hx) (by rw [e1, e2]; exact hb), e1, e2]
    have e3 : ((A ++ (B ++ [b]) ++ x :: C).set (A.length + B.length) x).set (A.length + B.length + 1) b = A ++ B ++ x :: (b :: C) := by
      rw [show A ++ (B ++ [b]) ++ x :: C = (A ++ B) ++ b :: x :: C by simp, show A.length + B.length = (A ++ B).length by simp, List.set_append_right _ _ (Nat.le_refl _), Nat.sub_self, List.set_append_right _ _ (by omega)]
      simp
    rw [e3, ih (b :: C) (fun y hy => hB y (by simp [hy]))]
    simp
theorem bub_zero {n : Nat} {A : List Int} {x : Int} (hn : n = A.length) (hx : ¬ 0 < cls x) : bub n (A ++ [x]) = A ++ [x] := by
  subst hn
  cases h : A.length with
  | zero => rfl
  | succ m =>
    refine bub_stop ?_
    have : (A ++ [x]).getD (m + 1) 0 = x := by rw [← h]; simp [List.getD]
    rw [this]
    exact fun q => hx q.1
/-- A run bears its classes; what stands ahead of it ends with a starter. -/
theorem ordSt_inv (l : List Int) : (∀ m ∈ (ordSt l).1, m.2 = cls m.1) ∧ (∀ y, (ordSt l).2.getLast? = some y → ¬ 0 < cls y) ∧ ∀ m ∈ (ordSt l).1, 0 < m.2 := by
  refine snoc_ind (P := fun l => (∀ m ∈ (ordSt l).1, m.2 = cls m.1) ∧ (∀ y, (ordSt l).2.getLast? = some y → ¬ 0 < cls y) ∧ ∀ m ∈ (ordSt l).1, 0 < m.2) l ?_ ?_
  · exact ⟨fun m h => (by cases h), fun y h => (by cases h), fun m h => (by cases h)⟩
  · intro l c ih
    rw [ordSt_snoc]
    unfold ordStep
    split
    · rename_i hc
      refine ⟨fun m hm => ?_, ih.2.1, fun m hm => ?_⟩
      · rcases List.mem_append.1 hm with h | h
        · exact ih.1 m h
        · have : m = (c, cls c) := by simpa using h
          rw [this]
      · rcases List.mem_append.1 hm with h | h
        · exact ih.2.2 m h
        · have : m = (c, cls c) := by simpa using h
          rw [this]; exact hc
    · rename_i hc
      refine ⟨fun m h => (by cases h), fun y hy => ?_, fun m h => (by cases h)⟩
      simp only [List.getLast?_concat, Option.some.injEq] at hy
      rw [← hy]; exact hc
theorem srt_mem {l : List Mk} {m : Mk} : m ∈ srt l ↔ m ∈ l := SS.mem (fun k => (srt_SS l).same k)
theorem bub_ord (D : List Int) (x : Int) : bub (ordS D).length (ordS D ++ [x]) = ordS (D ++ [x]) := by
  by_cases hx : 0 < cls x
  · have hI := ordSt_inv D
    unfold ordS
    rw [ordSt_snoc]
    unfold ordStep
    rw [if_pos hx]
    dsimp only
    rw [srt_snoc]
    obtain ⟨A, B, h1, h2, h3, h4⟩ := insM_eq (x, cls x) (srt (ordSt D).1) (srt_SS _).sorted
    rw [h2, h1]
    have hm : ∀ m ∈ A ++ B, m.2 = cls m.1 := fun m hm => hI.1 m (srt_mem.1 (by rw [h1]; exact hm))
    have key := bub_pass (A := (ordSt D).2 ++ A.map (·.1)) (x := x) hx (fun y hy => by
      rcases snoc_cases A with rfl | ⟨A', a, rfl⟩
      · rw [List.map_nil, List.append_nil] at hy
        have := hI.2.1 y hy
        omega
      · rw [List.map_append, ← List.append_assoc, List.map_cons, List.map_nil, List.getLast?_concat, Option.some.injEq] at hy
        rw [← hy, ← hm a (by simp)]
        exact h3 a (by simp)) (B.map (·.1)) [] (fun y hy => by
      obtain ⟨b, hb, rfl⟩ := List.mem_map.1 hy
      rw [← hm b (by simp [hb])]
      exact h4 b hb)
    simp only [List.map_append, List.map_cons, List.append_nil, List.append_assoc, List.length_append, List.length_map, List.cons_append] at key ⊢
    rw [Nat.add_assoc] at key
    exact key
  · rw [bub_zero rfl hx]
    unfold ordS
    rw [ordSt_snoc]
    unfold ordStep
    rw [if_neg hx]
    simp [srt]
theorem charsF_ord (D : List Int) : charsF D [] = ordS D := by
  refine snoc_ind (P := fun D => charsF D [] = ordS D) D rfl ?_
  intro D x ih
  rw [charsF_snoc, ih, bub_ord]
end Go.Proofs.Ytmmigplciogggaa
