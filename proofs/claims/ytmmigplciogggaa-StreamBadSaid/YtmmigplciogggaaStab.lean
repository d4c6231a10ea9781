/- Stable sorting of marks (a character, its class), in plain lists. No program here. -/
namespace Go.Proofs.Ytmmigplciogggaa

abbrev Mk := Int × Int
/-- M is L, sorted by class, equals as they stood. -/
structure SS (L M : List Mk) : Prop where
  same : ∀ k : Int, M.filter (fun x => decide (x.2 = k)) = L.filter (fun x => decide (x.2 = k))
  sorted : M.Pairwise (fun x y => x.2 ≤ y.2)

def cls1 (k : Int) : Mk → Bool := fun x => decide (x.2 = k)
theorem SS.mem {L M : List Mk} (h : ∀ k : Int, M.filter (cls1 k) = L.filter (cls1 k)) {x : Mk} : x ∈ M ↔ x ∈ L := by
  have hm : ∀ N : List Mk, x ∈ N ↔ x ∈ N.filter (cls1 x.2) := fun N => by simp [cls1]
  rw [hm M, hm L, h]
theorem SS.refl {L : List Mk} (h : L.Pairwise (fun x y => x.2 ≤ y.2)) : SS L L := ⟨fun _ => rfl, h⟩
theorem SS.nil : SS [] [] := ⟨fun _ => rfl, List.Pairwise.nil⟩
theorem filter_two (p : Mk → Bool) : ∀ N : List Mk, N.length = (N.filter p).length + (N.filter fun y => !p y).length
  | [] => rfl
  | x :: N => by
    have := filter_two p N
    by_cases h : p x = true
    · rw [List.filter_cons_of_pos h, List.filter_cons_of_neg (by simp [h])]; simp; omega
    · rw [List.filter_cons_of_neg h, List.filter_cons_of_pos (by simpa using h)]; simp; omega
theorem SS.length {L M : List Mk} (h : SS L M) : M.length = L.length := by
  -- both are told by their filters
  have key : ∀ (n : Nat) (L M : List Mk), L.length ≤ n → (∀ k : Int, M.filter (cls1 k) = L.filter (cls1 k)) → M.length = L.length := by
    intro n
    induction n with
    | zero =>
      intro L M hn h
      have : L = [] := List.eq_nil_of_length_eq_zero (by omega)
      subst this
      cases M with
      | nil => rfl
      | cons x M => have := (SS.mem h (x := x)).1 (by simp); cases this
    | succ n ih =>
      intro L M hn h
      cases L with
      | nil =>
        cases M with
        | nil => rfl
        | cons x M => have := (SS.mem h (x := x)).1 (by simp); cases this
      | cons x L =>
        -- strike the class of x in both
        have h1 : ∀ N : List Mk, N.length = (N.filter (cls1 x.2)).length + (N.filter (fun y => !cls1 x.2 y)).length := fun N => filter_two (cls1 x.2) N
        have h2 : ((x :: L).filter (fun y => !cls1 x.2 y)).length ≤ n := by
          have : (x :: L).filter (fun y => !cls1 x.2 y) = L.filter (fun y => !cls1 x.2 y) := List.filter_cons_of_neg (by simp [cls1])
          rw [this]
          have := List.length_filter_le (fun y => !cls1 x.2 y) L
          simp at hn; omega
        have h3 := ih ((x :: L).filter (fun y => !cls1 x.2 y)) (M.filter (fun y => !cls1 x.2 y)) h2 (fun k => by
          rw [List.filter_filter, List.filter_filter]
          by_cases hk : k = x.2
          · subst hk
            have e0 : ∀ N : List Mk, N.filter (fun _ => false) = [] := fun N => List.filter_eq_nil_iff.2 (by simp)
            simp [e0]
          · have e : ∀ y : Mk, (cls1 k y && !cls1 x.2 y) = cls1 k y := fun y => by
              unfold cls1
              by_cases hy : y.2 = k
              · have : ¬ y.2 = x.2 := fun q => hk (hy.symm.trans q)
                simp [hy, this]; omega
              · simp [hy]
            simp only [e]
            exact h k)
        rw [h1 M, h1 (x :: L), h3, h x.2]
  exact key L.length L M (Nat.le_refl _) h.same
theorem SS.trans {A B C : List Mk} (h : ∀ k : Int, B.filter (cls1 k) = A.filter (cls1 k)) (g : SS B C) : SS A C := ⟨fun k => (g.same k).trans (h k), g.sorted⟩

/-- One mark more, behind all that are not above it. -/
theorem SS.insert {L A B : List Mk} {x : Mk} (h : SS L (A ++ B)) (hA : ∀ y ∈ A, y.2 ≤ x.2) (hB : ∀ y ∈ B, x.2 < y.2) : SS (L ++ [x]) (A ++ x :: B) := by
  refine ⟨fun k => ?_, ?_⟩
  · have h1 := h.same k
    rw [List.filter_append] at h1
    rw [List.filter_append, List.filter_append, ← h1]
    by_cases hk : x.2 = k
    · have hb : B.filter (fun x => decide (x.2 = k)) = [] := List.filter_eq_nil_iff.2 fun y hy => by have := hB y hy; simp; omega
      simp [List.filter_cons, hk, hb]
    · simp [List.filter_cons, hk]
  · have h2 := List.pairwise_append.1 h.sorted
    refine List.pairwise_append.2 ⟨h2.1, List.pairwise_cons.2 ⟨fun y hy => Int.le_of_lt (hB y hy), h2.2.1⟩, fun y hy z hz => ?_⟩
    rcases List.mem_cons.1 hz with rfl | hz
    · exact hA y hy
    · exact h2.2.2 y hy z hz
/-- One mark that stood ahead, ahead of all that are not below it. -/
theorem SS.insertFront {A B : List Mk} {x : Mk} (h : (A ++ B).Pairwise (fun x y => x.2 ≤ y.2)) (hA : ∀ y ∈ A, y.2 < x.2) (hB : ∀ y ∈ B, x.2 ≤ y.2) : SS (x :: (A ++ B)) (A ++ x :: B) := by
  refine ⟨fun k => ?_, ?_⟩
  · by_cases hk : x.2 = k
    · have ha : A.filter (fun x => decide (x.2 = k)) = [] := List.filter_eq_nil_iff.2 fun y hy => by have := hA y hy; simp; omega
      simp [List.filter_cons, List.filter_append, hk, ha]
    · simp [List.filter_cons, List.filter_append, hk]
  · have h2 := List.pairwise_append.1 h
    refine List.pairwise_append.2 ⟨h2.1, List.pairwise_cons.2 ⟨hB, h2.2.1⟩, fun y hy z hz => ?_⟩
    rcases List.mem_cons.1 hz with rfl | hz
    · exact Int.le_of_lt (hA y hy)
    · exact h2.2.2 y hy z hz
/-- Two sorted halves, turned and sorted each. -/
theorem SS.merge {A1 A2 B1 B2 M1 M2 : List Mk} (h1 : SS (A1 ++ B1) M1) (h2 : SS (A2 ++ B2) M2) (c1 : ∀ x ∈ A2, ∀ y ∈ B1, y.2 < x.2) (c2 : ∀ x ∈ A1, ∀ y ∈ B2, x.2 ≤ y.2)
    (sA : (A1 ++ A2).Pairwise (fun x y => x.2 ≤ y.2)) (sB : (B1 ++ B2).Pairwise (fun x y => x.2 ≤ y.2)) : SS (A1 ++ A2 ++ (B1 ++ B2)) (M1 ++ M2) := by
  refine ⟨fun k => ?_, ?_⟩
  · rw [List.filter_append, h1.same, h2.same]
    simp only [List.filter_append, List.append_assoc]
    by_cases hk : A2.filter (fun x => decide (x.2 = k)) = []
    · rw [hk]; simp
    · have : B1.filter (fun x => decide (x.2 = k)) = [] := by
        obtain ⟨x, hx⟩ := List.exists_mem_of_ne_nil _ hk
        simp only [List.mem_filter, decide_eq_true_eq] at hx
        exact List.filter_eq_nil_iff.2 fun y hy => by have := c1 x hx.1 y hy; simp; omega
      rw [this]; simp
  · refine List.pairwise_append.2 ⟨h1.sorted, h2.sorted, fun x hx y hy => ?_⟩
    have hx' := (SS.mem h1.same (x := x)).1 hx
    have hy' := (SS.mem h2.same (x := y)).1 hy
    have pA := (List.pairwise_append.1 sA).2.2
    have pB := (List.pairwise_append.1 sB).2.2
    rcases List.mem_append.1 hx' with hx' | hx' <;> rcases List.mem_append.1 hy' with hy' | hy'
    · exact pA x hx' y hy'
    · exact c2 x hx' y hy'
    · exact Int.le_of_lt (c1 y hy' x hx')
    · exact pB x hx' y hy'
theorem SS.two {L1 L2 M1 M2 M : List Mk} (h1 : SS L1 M1) (h2 : SS L2 M2) (h : SS (M1 ++ M2) M) : SS (L1 ++ L2) M :=
  SS.trans (fun k => by rw [List.filter_append, List.filter_append]; exact congr (congrArg _ (h1.same k)) (h2.same k)) h

/-- The stable sort, as a function. -/
def insM (x : Mk) : List Mk → List Mk
  | [] => [x]
  | y :: l => if x.2 < y.2 then x :: y :: l else y :: insM x l
def srt (l : List Mk) : List Mk := l.foldl (fun acc x => insM x acc) []
theorem insM_eq (x : Mk) : ∀ l : List Mk, l.Pairwise (fun x y => x.2 ≤ y.2) → ∃ A B, l = A ++ B ∧ insM x l = A ++ x :: B ∧ (∀ y ∈ A, y.2 ≤ x.2) ∧ ∀ y ∈ B, x.2 < y.2
  | [], _ => ⟨[], [], rfl, rfl, by simp, by simp⟩
  | y :: l, h => by
    have hp := List.pairwise_cons.1 h
    unfold insM
    by_cases hlt : x.2 < y.2
    · refine ⟨[], y :: l, rfl, by rw [if_pos hlt]; rfl, by simp, fun z hz => ?_⟩
      rcases List.mem_cons.1 hz with rfl | hz
      · exact hlt
      · have := hp.1 z hz; omega
    · obtain ⟨A, B, h1, h2, h3, h4⟩ := insM_eq x l hp.2
      refine ⟨y :: A, B, by rw [h1]; rfl, by rw [if_neg hlt, h2]; rfl, fun z hz => ?_, h4⟩
      rcases List.mem_cons.1 hz with rfl | hz
      · omega
      · exact h3 z hz
theorem srt_snoc (l : List Mk) (x : Mk) : srt (l ++ [x]) = insM x (srt l) := by simp [srt, List.foldl_append]
theorem snoc_induction {P : List Mk → Prop} (h0 : P []) (h1 : ∀ l x, P l → P (l ++ [x])) (l : List Mk) : P l := by
  have : ∀ n (l : List Mk), l.length = n → P l := by
    intro n
    induction n with
    | zero => intro l hl; rw [List.eq_nil_of_length_eq_zero hl]; exact h0
    | succ n ih =>
      intro l hl
      have hne : l ≠ [] := by intro h; rw [h] at hl; simp at hl
      rw [← List.dropLast_concat_getLast hne]
      exact h1 _ _ (ih _ (by rw [List.length_dropLast, hl]; rfl))
  exact this _ l rfl
theorem srt_SS (l : List Mk) : SS l (srt l) := by
  refine snoc_induction (P := fun l => SS l (srt l)) SS.nil (fun l x ih => ?_) l
  rw [srt_snoc]
  obtain ⟨A, B, h1, h2, h3, h4⟩ := insM_eq x (srt l) ih.sorted
  rw [h2]
  exact SS.insert (h1 ▸ ih) h3 h4
/-- There is one stable sort. -/
theorem SS.unique {L M N : List Mk} (h : SS L M) (g : SS L N) : M = N := by
  have key : ∀ (M N : List Mk), (∀ k : Int, M.filter (cls1 k) = N.filter (cls1 k)) → M.Pairwise (fun x y => x.2 ≤ y.2) → N.Pairwise (fun x y => x.2 ≤ y.2) → M = N := by
    intro M
    induction M with
    | nil =>
      intro N h _ _
      cases N with
      | nil => rfl
      | cons y N => have := (SS.mem (L := []) (M := y :: N) (fun k => (h k).symm) (x := y)).1 (by simp); cases this
    | cons x M ih =>
      intro N h hM hN
      cases N with
      | nil => have := (SS.mem h (x := x)).1 (by simp); cases this
      | cons y N =>
        have pM := List.pairwise_cons.1 hM
        have pN := List.pairwise_cons.1 hN
        have hxy : x.2 = y.2 := by
          have h1 : x ∈ y :: N := (SS.mem h (x := x)).1 (by simp)
          have h2 : y ∈ x :: M := (SS.mem h (x := y)).2 (by simp)
          have a1 : y.2 ≤ x.2 := by
            rcases List.mem_cons.1 h1 with e | e
            · rw [e]; exact Int.le_refl _
            · exact pN.1 x e
          have a2 : x.2 ≤ y.2 := by
            rcases List.mem_cons.1 h2 with e | e
            · rw [e]; exact Int.le_refl _
            · exact pM.1 y e
          omega
        have hx := h x.2
        rw [List.filter_cons_of_pos (by simp [cls1]), List.filter_cons_of_pos (by simp [cls1, hxy])] at hx
        have e : x = y := (List.cons.inj hx).1
        subst e
        congr 1
        refine ih N (fun k => ?_) pM.2 pN.2
        have hk := h k
        by_cases hkx : cls1 k x = true
        · rw [List.filter_cons_of_pos hkx, List.filter_cons_of_pos hkx] at hk
          exact (List.cons.inj hk).2
        · rwa [List.filter_cons_of_neg hkx, List.filter_cons_of_neg hkx] at hk
  exact key M N (fun k => (h.same k).trans (g.same k).symm) h.sorted g.sorted
theorem SS.srt_eq {L M : List Mk} (h : SS L M) : M = srt L := h.unique (srt_SS L)
end Go.Proofs.Ytmmigplciogggaa
