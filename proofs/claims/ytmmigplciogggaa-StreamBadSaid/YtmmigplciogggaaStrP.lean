/- What a stream has given and holds, in plain lists. No program here. -/
import Derived.Test.YtmmigplciogggaaDecP
namespace Go.Proofs.Ytmmigplciogggaa
open Go Go.RowKit Go.PlainAid

def mrk (x : Int) : Bool := decide (0 < cls x)
/-- More than n marks behind one another (k of them stand ahead). -/
def runs (n : Nat) : Nat → List Int → Bool
  | _, [] => false
  | k, x :: xs => if cls x = 0 then runs n 0 xs else if n < k + 1 then true else runs n (k + 1) xs
theorem mrk_false {x : Int} : cls x = 0 ↔ mrk x = false := by
  have := (cls_bounds x).1
  unfold mrk
  rw [decide_eq_false_iff_not]; omega
theorem runs_congr (n : Nat) : ∀ (D E : List Int) (k : Nat), D.map mrk = E.map mrk → runs n k D = runs n k E
  | [], E, k, h => by
    have : E = [] := by simpa using h.symm
    rw [this]
  | x :: D, [], k, h => by simp at h
  | x :: D, y :: E, k, h => by
    simp only [List.map_cons, List.cons.injEq] at h
    have hx : cls x = 0 ↔ cls y = 0 := by rw [mrk_false, mrk_false, h.1]
    rw [runs, runs, runs_congr n D E 0 h.2, runs_congr n D E (k + 1) h.2]
    by_cases c : cls x = 0
    · rw [if_pos c, if_pos (hx.1 c)]
    · rw [if_neg c, if_neg (fun e => c (hx.2 e))]
theorem mrk_ordS (D : List Int) : (ordS D).map mrk = D.map mrk := by
  have key : ∀ D : List Int, (ordSt D).2.map mrk ++ (ordSt D).1.map (fun _ => true) = D.map mrk := by
    intro D
    refine snoc_ind (P := fun D => (ordSt D).2.map mrk ++ (ordSt D).1.map (fun _ => true) = D.map mrk) D rfl ?_
    intro D c ih
    rw [ordSt_snoc, List.map_append, ← ih]
    unfold ordStep
    split
    · rename_i hc
      simp [mrk, hc]
    · rename_i hc
      have e : ((srt (ordSt D).1).map (·.1)).map mrk = (ordSt D).1.map (fun _ => true) := by
        have hI := ordSt_inv D
        have h1 : ((srt (ordSt D).1).map (·.1)).map mrk = (srt (ordSt D).1).map fun _ => true := by
          rw [List.map_map]
          refine List.map_congr_left fun m hm => ?_
          have hm := srt_mem.1 hm
          have h2 := hI.1 m hm
          have h3 := hI.2.2 m hm
          simp only [Function.comp, mrk]
          rw [decide_eq_true_eq, ← h2]; exact h3
        rw [h1]
        have := (srt_SS (ordSt D).1).length
        simp [List.map_const', this]
      have hc2 : mrk c = false := by simp [mrk, hc]
      simp only [List.map_append, List.map_nil, List.append_nil, List.map_cons, hc2]
      rw [e]
  have e : ((srt (ordSt D).1).map (·.1)).map mrk = (ordSt D).1.map (fun _ => true) := by
    have hI := ordSt_inv D
    have h1 : ((srt (ordSt D).1).map (·.1)).map mrk = (srt (ordSt D).1).map fun _ => true := by
      rw [List.map_map]
      refine List.map_congr_left fun m hm => ?_
      have hm := srt_mem.1 hm
      have h2 := hI.1 m hm
      have h3 := hI.2.2 m hm
      simp only [Function.comp, mrk]
      rw [decide_eq_true_eq, ← h2]; exact h3
    rw [h1]
    have := (srt_SS (ordSt D).1).length
    simp [List.map_const', this]
  unfold ordS
  rw [List.map_append, e]
  exact key D
theorem ordSt_from : ∀ (t : List Int) (s : List Mk) (A B : List Int), t.foldl ordStep (s, A ++ B) = ((t.foldl ordStep (s, B)).1, A ++ (t.foldl ordStep (s, B)).2)
  | [], s, A, B => rfl
  | c :: t, s, A, B => by
    rw [List.foldl_cons, List.foldl_cons]
    by_cases hc : 0 < cls c
    · have e1 : ordStep (s, A ++ B) c = (s ++ [(c, cls c)], A ++ B) := by simp [ordStep, hc]
      have e2 : ordStep (s, B) c = (s ++ [(c, cls c)], B) := by simp [ordStep, hc]
      rw [e1, e2]; exact ordSt_from t _ A B
    · have e1 : ordStep (s, A ++ B) c = ([], A ++ (B ++ (srt s).map (·.1) ++ [c])) := by simp [ordStep, hc]
      have e2 : ordStep (s, B) c = ([], B ++ (srt s).map (·.1) ++ [c]) := by simp [ordStep, hc]
      rw [e1, e2]; exact ordSt_from t _ A _
theorem ordS_split (D t : List Int) (c : Int) (hc : ¬ 0 < cls c) : ordS (D ++ c :: t) = ordS D ++ ordS (c :: t) := by
  have e1 : ordSt (D ++ c :: t) = t.foldl ordStep ([], ordS D ++ [c]) := by
    unfold ordSt
    rw [List.foldl_append, List.foldl_cons]
    congr 1
    show ordStep (ordSt D) c = _
    simp [ordStep, hc, ordS]
  have e2 : ordSt (c :: t) = t.foldl ordStep ([], [c]) := by
    unfold ordSt
    rw [List.foldl_cons]
    congr 1
    simp [ordStep, hc, srt]
  have e3 : ordS (D ++ c :: t) = (ordSt (D ++ c :: t)).2 ++ (srt (ordSt (D ++ c :: t)).1).map (·.1) := rfl
  have e4 : ordS (c :: t) = (ordSt (c :: t)).2 ++ (srt (ordSt (c :: t)).1).map (·.1) := rfl
  rw [e3, e4, e1, e2, ordSt_from, List.append_assoc]

theorem takeL_append : ∀ (xs ys h : List Int) (m : Nat) (o : List Int), takeL (xs ++ ys) h m o = (takeL xs h m o).bind fun s => takeL ys s.1 s.2.1 s.2.2
  | [], ys, h, m, o => rfl
  | x :: xs, ys, h, m, o => by
    rw [List.cons_append]
    by_cases hk : 0 < cls x
    · by_cases hb : 30 < m + 1
      · rw [takeL_big _ _ _ _ hk hb, takeL_big _ _ _ _ hk hb]; rfl
      · rw [takeL_mark _ _ _ _ hk (by omega), takeL_mark _ _ _ _ hk (by omega)]; exact takeL_append xs ys _ _ _
    · rw [takeL_start _ _ _ _ hk, takeL_start _ _ _ _ hk]; exact takeL_append xs ys _ _ _
theorem takeL_out : ∀ (xs h : List Int) (m : Nat) (A o : List Int), takeL xs h m (A ++ o) = (takeL xs h m o).map fun s => (s.1, s.2.1, A ++ s.2.2)
  | [], h, m, A, o => rfl
  | x :: xs, h, m, A, o => by
    by_cases hk : 0 < cls x
    · by_cases hb : 30 < m + 1
      · rw [takeL_big _ _ _ _ hk hb, takeL_big _ _ _ _ hk hb]; rfl
      · rw [takeL_mark _ _ _ _ hk (by omega), takeL_mark _ _ _ _ hk (by omega)]; exact takeL_out xs _ _ A o
    · rw [takeL_start _ _ _ _ hk, takeL_start _ _ _ _ hk, List.append_assoc]; exact takeL_out xs _ _ A _
theorem takeL_runs : ∀ (xs h : List Int) (m : Nat) (o : List Int), takeL xs h m o = none ↔ runs 30 m xs = true
  | [], h, m, o => by simp [takeL, runs]
  | x :: xs, h, m, o => by
    rw [runs]
    by_cases hk : 0 < cls x
    · rw [if_neg (by omega)]
      by_cases hb : 30 < m + 1
      · rw [takeL_big _ _ _ _ hk hb, if_pos hb]; simp
      · rw [takeL_mark _ _ _ _ hk (by omega), if_neg hb]; exact takeL_runs xs _ _ _
    · rw [takeL_start _ _ _ _ hk, if_pos (by have := (cls_bounds x).1; omega)]; exact takeL_runs xs _ _ _
/-- Of the characters D, h is held, o was given. -/
def Kept5 (D h o : List Int) : Prop := ∃ D1, D = D1 ++ h ∧ o = encs (ordS D1) ∧ ordS D = ordS D1 ++ ordS h ∧ (D1 = [] ∨ ∃ c t, h = c :: t ∧ ¬ 0 < cls c) ∧ ∀ c t, h = c :: t → ∀ x ∈ t, 0 < cls x
theorem Kept5.start : Kept5 [] [] [] := ⟨[], rfl, rfl, rfl, .inl rfl, fun c t h => by cases h⟩
theorem encs_append (a b : List Int) : encs (a ++ b) = encs a ++ encs b := by simp [encs]
theorem ordS_nil : ordS [] = [] := rfl
theorem Kept5.mark {D h o : List Int} {x : Int} (K : Kept5 D h o) (hx : 0 < cls x) : Kept5 (D ++ [x]) (h ++ [x]) o := by
  obtain ⟨D1, h1, h2, h3, h4, h5⟩ := K
  refine ⟨D1, by rw [h1, List.append_assoc], h2, ?_, ?_, ?_⟩
  · rcases h4 with rfl | ⟨c, t, rfl, hc⟩
    · rw [h1]; rfl
    · rw [h1, List.append_assoc, List.cons_append, ordS_split _ _ _ hc]
  · rcases h4 with h | ⟨c, t, rfl, hc⟩
    · exact .inl h
    · exact .inr ⟨c, t ++ [x], rfl, hc⟩
  · intro c t e y hy
    cases h with
    | nil =>
      simp only [List.nil_append, List.cons.injEq] at e
      rw [← e.2] at hy; cases hy
    | cons d u =>
      simp only [List.cons_append, List.cons.injEq] at e
      rw [← e.2] at hy
      rcases List.mem_append.1 hy with hy | hy
      · exact h5 d u rfl y hy
      · have : y = x := by simpa using hy
        rw [this]; exact hx
theorem Kept5.starter {D h o : List Int} {x : Int} (K : Kept5 D h o) (hx : ¬ 0 < cls x) : Kept5 (D ++ [x]) [x] (o ++ encs (ordS h)) := by
  obtain ⟨D1, h1, h2, h3, h4, h5⟩ := K
  refine ⟨D, rfl, by rw [h2, h3, encs_append], ordS_split _ _ _ hx, .inr ⟨x, [], rfl, hx⟩, ?_⟩
  intro c t e y hy
  simp only [List.cons.injEq] at e
  rw [← e.2] at hy; cases hy
theorem takeL_kept : ∀ (xs D h : List Int) (m : Nat) (o h' : List Int) (m' : Nat) (o' : List Int), Kept5 D h o → takeL xs h m o = some (h', m', o') → Kept5 (D ++ xs) h' o'
  | [], D, h, m, o, h', m', o', K, e => by
    simp only [takeL, Option.some.injEq, Prod.mk.injEq] at e
    obtain ⟨rfl, rfl, rfl⟩ := e
    rw [List.append_nil]; exact K
  | x :: xs, D, h, m, o, h', m', o', K, e => by
    rw [show D ++ x :: xs = D ++ [x] ++ xs by simp]
    by_cases hk : 0 < cls x
    · by_cases hb : 30 < m + 1
      · rw [takeL_big _ _ _ _ hk hb] at e; cases e
      · rw [takeL_mark _ _ _ _ hk (by omega)] at e
        exact takeL_kept xs _ _ _ _ _ _ _ (K.mark hk) e
    · rw [takeL_start _ _ _ _ hk] at e
      exact takeL_kept xs _ _ _ _ _ _ _ (K.starter hk) e

/-- From the end on, behind the marks there. -/
def lastS : Nat → List Int → Nat
  | 0, _ => 0
  | n + 1, c => if 0 < cls (c.getD n 0) then lastS n c else n + 1
theorem lastS_congr : ∀ (n : Nat) (D E : List Int), D.map mrk = E.map mrk → n ≤ D.length → lastS n D = lastS n E
  | 0, _, _, _, _ => rfl
  | n + 1, D, E, h, hn => by
    have hl : D.length = E.length := by simpa using congrArg List.length h
    have hx : mrk (D.getD n 0) = mrk (E.getD n 0) := by
      have h1 : (D.map mrk)[n]? = (E.map mrk)[n]? := by rw [h]
      simp only [List.getElem?_map, List.getD] at h1 ⊢
      rw [List.getElem?_eq_getElem (by omega), List.getElem?_eq_getElem (by omega)] at h1 ⊢
      simpa using h1
    rw [lastS, lastS, lastS_congr n D E h (by omega)]
    simp only [mrk, decide_eq_decide] at hx
    by_cases c : 0 < cls (D.getD n 0)
    · rw [if_pos c, if_pos (hx.1 c)]
    · rw [if_neg c, if_neg (fun e => c (hx.2 e))]
theorem lastS_marks (A t : List Int) (h : ∀ x ∈ t, 0 < cls x) : lastS (A.length + t.length) (A ++ t) = lastS A.length (A ++ t) := by
  have key : ∀ j, j ≤ t.length → lastS (A.length + j) (A ++ t) = lastS A.length (A ++ t) := by
    intro j
    induction j with
    | zero => intro _; rfl
    | succ j ih =>
      intro hj
      rw [← Nat.add_assoc, lastS, if_pos ?_]
      · exact ih (by omega)
      · rw [List.getD, List.getElem?_append_right (by omega), Nat.add_sub_cancel_left, List.getElem?_eq_getElem (by omega)]
        exact h _ (List.getElem_mem _)
  exact key _ (Nat.le_refl _)
theorem lastS_le : ∀ (n : Nat) (c : List Int), lastS n c ≤ n
  | 0, _ => Nat.le_refl _
  | n + 1, c => by
    rw [lastS]
    split
    · have := lastS_le n c; omega
    · omega
/-- What early reckons is what is held. -/
theorem Kept5.early {D h o : List Int} (K : Kept5 D h o) : o = encs ((ordS D).take (lastS (ordS D).length (ordS D) - 1)) ∧ h.length = (ordS D).length - (lastS (ordS D).length (ordS D) - 1) := by
  obtain ⟨D1, h1, h2, h3, h4, h5⟩ := K
  have e : lastS (ordS D).length (ordS D) - 1 = D1.length := by
    rw [lastS_congr _ _ D (mrk_ordS D) (Nat.le_refl _), ordS_length]
    cases h with
    | nil =>
      rcases h4 with rfl | ⟨c, t, hc, _⟩
      · rw [h1]; rfl
      · cases hc
    | cons c t =>
      have hm := h5 c t rfl
      have e2 : D = (D1 ++ [c]) ++ t := by rw [h1]; simp
      rw [e2, List.length_append, lastS_marks _ _ hm, List.length_append, List.length_singleton, lastS]
      have e3 : (D1 ++ [c] ++ t).getD D1.length 0 = c := by simp [List.getD]
      rw [e3]
      split
      · rename_i hc
        rcases h4 with rfl | ⟨c', t', hc', hn⟩
        · rfl
        · simp only [List.cons.injEq] at hc'
          rw [← hc'.1] at hn
          exact absurd hc hn
      · omega
  rw [e, h2]
  refine ⟨?_, ?_⟩
  · rw [h3, List.take_append_of_le_length (by rw [ordS_length]; exact Nat.le_refl _), List.take_of_length_le (by rw [ordS_length]; exact Nat.le_refl _)]
  · rw [ordS_length, h1, List.length_append]; omega
/-- A Write, by the characters that it reads. -/
theorem writeL_Rd {l cs r : List Int} (g : Rd l cs r) : ∀ (k : Nat) (h : List Int) (m : Nat) (o : List Int), l.length < k → writeL k l h m o =
    match takeL (cs.flatMap apart) h m o with
    | none => .big
    | some (h', m', o') => if r = [] ∨ beginsB r = true then .ok r h' m' o' else .bad := by
  induction g with
  | stop hd =>
    rename_i l
    intro k h m o hk
    simp only [List.flatMap_nil, takeL_nil]
    by_cases hne : l = []
    · subst hne; rw [writeL_nil, if_pos (.inl rfl)]
    · cases hb : beginsB l with
      | true => rw [writeL_held hk hne hd hb, if_pos (.inr rfl)]
      | false => rw [writeL_bad hk hne hd hb, if_neg (by simp [hne])]
  | step hd t ih =>
    rename_i l cs r c n
    intro k h m o hk
    have hne : l ≠ [] := by intro e; rw [e] at hd; cases hd
    rw [List.flatMap_cons, takeL_append]
    cases ht : takeL (apart c) h m o with
    | none => rw [writeL_big hk hne hd ht]; rfl
    | some s =>
      obtain ⟨h', m', o'⟩ := s
      obtain ⟨j, h1, h2, h3⟩ := writeL_step hk hne hd ht
      rw [h3, ih j h' m' o' h2]; rfl
/-- Where a stream stands behind the bytes p. -/
def stOf (p : List Int) : WR := writeL (p.length + 1) p [] 0 []
def WR.front (A : List Int) : WR → WR
  | .ok r h m o => .ok r h m (A ++ o)
  | .bad => .bad
  | .big => .big
theorem writeL_out {l : List Int} {k : Nat} (hk : l.length < k) (h : List Int) (m : Nat) (A : List Int) : writeL k l h m A = (writeL k l h m []).front A := by
  obtain ⟨cs, r, g⟩ := Rd.total _ l (Nat.le_refl _)
  rw [writeL_Rd g _ _ _ _ hk, writeL_Rd g _ _ _ _ hk]
  have := takeL_out (cs.flatMap apart) h m A []
  rw [List.append_nil] at this
  rw [this]
  cases takeL (cs.flatMap apart) h m [] with
  | none => rfl
  | some s =>
    simp only [Option.map_some]
    split <;> rfl
/-- A further piece. -/
theorem stOf_next {p r h o : List Int} {m : Nat} (hs : stOf p = .ok r h m o) (q : List Int) {k : Nat} (hk : (r ++ q).length < k) : stOf (p ++ q) = (writeL k (r ++ q) h m []).front o := by
  obtain ⟨cs, r0, g⟩ := Rd.total _ p (Nat.le_refl _)
  unfold stOf at hs ⊢
  rw [writeL_Rd g _ _ _ _ (by omega)] at hs
  cases ht : takeL (cs.flatMap apart) [] 0 [] with
  | none => rw [ht] at hs; cases hs
  | some s =>
    obtain ⟨h', m', o'⟩ := s
    rw [ht] at hs
    dsimp only at hs
    split at hs
    · simp only [WR.ok.injEq] at hs
      obtain ⟨rfl, rfl, rfl, rfl⟩ := hs
      obtain ⟨cs', r', g'⟩ := Rd.total _ (r0 ++ q) (Nat.le_refl _)
      rw [← writeL_out hk, writeL_Rd (g.append g') _ _ _ _ (by omega), writeL_Rd g' _ _ _ _ hk, List.flatMap_append, takeL_append, ht]
      rfl
    · cases hs
theorem stOf_bad {p : List Int} (hs : stOf p = .bad) (q : List Int) : stOf (p ++ q) = .bad ∨ stOf (p ++ q) = .big := by
  obtain ⟨cs, r0, g⟩ := Rd.total _ p (Nat.le_refl _)
  unfold stOf at hs ⊢
  rw [writeL_Rd g _ _ _ _ (by omega)] at hs
  cases ht : takeL (cs.flatMap apart) [] 0 [] with
  | none => rw [ht] at hs; cases hs
  | some s =>
    obtain ⟨h', m', o'⟩ := s
    rw [ht] at hs
    dsimp only at hs
    split at hs
    · cases hs
    · rename_i hn
      simp only [not_or, Bool.not_eq_true] at hn
      have hb := bad_append (q := q) hn.1 g.rest hn.2
      rw [writeL_Rd (g.append (.stop hb.1)) _ _ _ _ (by omega), List.append_nil, ht]
      dsimp only
      rw [if_neg (by
        rintro (e | e)
        · exact hn.1 (List.append_eq_nil_iff.1 e).1
        · rw [hb.2] at e; cases e)]
      exact .inl rfl
theorem stOf_big {p : List Int} (hs : stOf p = .big) (q : List Int) : stOf (p ++ q) = .big := by
  obtain ⟨cs, r0, g⟩ := Rd.total _ p (Nat.le_refl _)
  unfold stOf at hs ⊢
  rw [writeL_Rd g _ _ _ _ (by omega)] at hs
  cases ht : takeL (cs.flatMap apart) [] 0 [] with
  | none =>
    obtain ⟨cs', r', g'⟩ := Rd.total _ (r0 ++ q) (Nat.le_refl _)
    rw [writeL_Rd (g.append g') _ _ _ _ (by omega), List.flatMap_append, takeL_append, ht]
    rfl
  | some s =>
    obtain ⟨h', m', o'⟩ := s
    rw [ht] at hs
    dsimp only at hs
    split at hs <;> cases hs
/-- A text is good: its characters, no run of more than thirty marks. -/
def goodT (l : List Int) : Option (List Int) := match readL (l.length + 1) l with
  | some cs => if runs 30 0 (ordS (cs.flatMap apart)) = true then none else some (ordS (cs.flatMap apart))
  | none => none
theorem goodT_eq {l cs r : List Int} (g : Rd l cs r) : goodT l = if r = [] ∧ runs 30 0 (ordS (cs.flatMap apart)) = false then some (ordS (cs.flatMap apart)) else none := by
  unfold goodT
  rw [readL_Rd g _ (by omega)]
  by_cases hr : r = []
  · rw [if_pos hr]
    dsimp only
    cases hx : runs 30 0 (ordS (cs.flatMap apart)) with
    | true => rw [if_pos rfl, if_neg (by simp)]
    | false => rw [if_neg (by simp), if_pos ⟨hr, rfl⟩]
  · rw [if_neg hr, if_neg (by simp [hr])]
/-- Where a stream stands in a good text: nothing fell; what is given and held. -/
theorem stOf_good {p q F : List Int} (hg : goodT (p ++ q) = some F) : ∃ cs r h m o, Rd p cs r ∧ stOf p = .ok r h m o ∧ Kept5 (cs.flatMap apart) h o ∧ (∀ i, dec (r.take i) = none) ∧ r.length ≤ 3 := by
  obtain ⟨all, rr, ga⟩ := Rd.total _ (p ++ q) (Nat.le_refl _)
  rw [goodT_eq ga] at hg
  split at hg
  · rename_i hc
    obtain ⟨rfl, hm⟩ := hc
    obtain ⟨cs, r, g⟩ := Rd.total _ p (Nat.le_refl _)
    obtain ⟨cs', r', g'⟩ := Rd.total _ (r ++ q) (Nat.le_refl _)
    obtain ⟨rfl, rfl⟩ := Rd.unique ga (g.append g')
    obtain ⟨h1, h2, h3⟩ := ga.part g
    have ht : takeL ((cs ++ cs').flatMap apart) [] 0 [] ≠ none := by
      rw [Ne, takeL_runs, runs_congr 30 _ _ 0 (mrk_ordS _).symm, hm]; simp
    rw [List.flatMap_append, takeL_append] at ht
    cases hs : takeL (cs.flatMap apart) [] 0 [] with
    | none => rw [hs] at ht; exact absurd rfl ht
    | some s =>
      obtain ⟨h, m, o⟩ := s
      refine ⟨cs, r, h, m, o, g, ?_, ?_, h1, h3⟩
      · unfold stOf
        rw [writeL_Rd g _ _ _ _ (by omega), hs]
        dsimp only
        rw [if_pos h2]
      · have := takeL_kept _ _ _ _ _ _ _ _ Kept5.start hs
        simpa using this
  · cases hg
/-- At the end: all is given, in order; or something fell. -/
theorem stOf_end {l : List Int} : (∃ F h m o, goodT l = some F ∧ stOf l = .ok [] h m o ∧ o ++ encs (ordS h) = encs F) ∨ (goodT l = none ∧ (stOf l = .bad ∨ stOf l = .big ∨ ∃ r h m o, stOf l = .ok r h m o ∧ r ≠ [])) := by
  obtain ⟨cs, r, g⟩ := Rd.total _ l (Nat.le_refl _)
  have hgt := goodT_eq g
  unfold stOf
  rw [writeL_Rd g _ _ _ _ (by omega)]
  cases hs : takeL (cs.flatMap apart) [] 0 [] with
  | none =>
    refine .inr ⟨?_, .inr (.inl rfl)⟩
    rw [hgt, if_neg]
    rw [takeL_runs, runs_congr 30 _ _ 0 (mrk_ordS _).symm] at hs
    simp [hs]
  | some s =>
    obtain ⟨h, m, o⟩ := s
    dsimp only
    by_cases hr : r = []
    · left
      have hk := takeL_kept _ _ _ _ _ _ _ _ Kept5.start hs
      rw [List.nil_append] at hk
      have hn : runs 30 0 (ordS (cs.flatMap apart)) = false := by
        rw [← runs_congr 30 _ _ 0 (mrk_ordS _).symm]
        cases hx : runs 30 0 (cs.flatMap apart) with
        | false => rfl
        | true => rw [← takeL_runs _ [] 0 [], hs] at hx; cases hx
      refine ⟨ordS (cs.flatMap apart), h, m, o, ?_, ?_, ?_⟩
      · rw [hgt, if_pos ⟨hr, hn⟩]
      · rw [if_pos (.inl hr), hr]
      · obtain ⟨D1, h1, h2, h3, _⟩ := hk
        rw [h2, h3, encs_append]
    · refine .inr ⟨by rw [hgt, if_neg (by simp [hr])], ?_⟩
      split
      · exact .inr (.inr ⟨r, h, m, o, rfl, hr⟩)
      · exact .inl rfl
end Go.Proofs.Ytmmigplciogggaa
