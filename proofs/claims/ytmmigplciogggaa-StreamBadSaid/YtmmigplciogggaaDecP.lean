/- What stands in a list of bytes: characters, and a rest that begins one. No program here. -/
import Derived.Test.YtmmigplciogggaaRefTextT
namespace Go.Proofs.Ytmmigplciogggaa
open Go Go.RowKit Go.PlainAid

theorem contsL_append : ∀ (a b : List Int) (c : Int), contsL c (a ++ b) = (contsL c a).bind fun m => contsL m b
  | [], b, c => rfl
  | x :: a, b, c => by
    rw [List.cons_append, contsL, contsL]
    split
    · exact contsL_append a b _
    · rfl
theorem contsL_range : ∀ (l : List Int) (c d : Int), contsL c l = some d → c * 64 ^ l.length ≤ d ∧ d ≤ (c + 1) * 64 ^ l.length - 1
  | [], c, d, h => by
    simp only [contsL, Option.some.injEq] at h
    subst h; simp
  | b :: t, c, d, h => by
    rw [contsL] at h
    split at h
    · have ih := contsL_range t _ d h
      rw [List.length_cons, Int.pow_succ]
      have hp : (0 : Int) < 64 ^ t.length := Int.pow_pos (by omega)
      have h1 : 0 ≤ b % 64 := Int.emod_nonneg _ (by omega)
      have h2 : b % 64 < 64 := Int.emod_lt_of_pos _ (by omega)
      obtain ⟨P, hP⟩ : ∃ P : Int, 64 ^ t.length = P := ⟨_, rfl⟩
      rw [hP] at ih hp ⊢
      have e1 : (c * 64 + b % 64) * P = c * (P * 64) + (b % 64) * P := by rw [Int.add_mul, Int.mul_assoc, Int.mul_comm 64 P]
      have e2 : (c * 64 + b % 64 + 1) * P = c * (P * 64) + (b % 64) * P + P := by rw [Int.add_mul, e1, Int.one_mul]
      have e3 : (c + 1) * (P * 64) = c * (P * 64) + P * 64 := by rw [Int.add_mul, Int.one_mul]
      have e4 : 0 ≤ (b % 64) * P := Int.mul_nonneg h1 (by omega)
      have e5 : (b % 64) * P ≤ 63 * P := Int.mul_le_mul_of_nonneg_right (by omega) (by omega)
      rw [e1, e2] at ih
      rw [e3]
      omega
    · cases h
theorem formN_le (b : Int) : formN b ≤ 4 := by
  unfold formN
  repeat' split
  all_goals omega
theorem dec_cons {b : Int} {t : List Int} {c : Int} {n : Nat} (h : dec (b :: t) = some (c, n)) : n = formN b ∧ 1 ≤ n ∧ n ≤ 4 ∧ n ≤ t.length + 1 ∧ contsL (formC b) (t.take (n - 1)) = some c ∧ leastN n ≤ c ∧ validB c = true := by
  rw [dec] at h
  split at h
  · cases h
  · rename_i hn
    split at h
    · cases h
    · rename_i c0 hc
      split at h
      · cases h
      · rename_i hv
        simp only [Option.some.injEq, Prod.mk.injEq] at h
        obtain ⟨rfl, rfl⟩ := h
        simp only [not_or, Nat.not_lt, Int.not_lt, Bool.not_eq_false] at hn hv
        exact ⟨rfl, by omega, formN_le b, hn.2, hc, hv.1, hv.2⟩
theorem dec_mk {b : Int} {t : List Int} {c : Int} {n : Nat} (hn : n = formN b) (h1 : 1 ≤ n) (hl : n ≤ t.length + 1) (hc : contsL (formC b) (t.take (n - 1)) = some c) (hv : leastN n ≤ c) (hw : validB c = true) : dec (b :: t) = some (c, n) := by
  subst hn
  rw [dec, if_neg (by omega), hc]
  dsimp only
  rw [if_neg (by simp [hw]; omega)]
theorem dec_append {l q : List Int} {c : Int} {n : Nat} (h : dec l = some (c, n)) : dec (l ++ q) = some (c, n) := by
  cases l with
  | nil => cases h
  | cons b t =>
    obtain ⟨h1, h2, h3, h4, h5, h6, h7⟩ := dec_cons h
    rw [List.cons_append]
    exact dec_mk h1 h2 (by simp; omega) (by rw [List.take_append_of_le_length (by omega)]; exact h5) h6 h7
theorem dec_local {l q : List Int} {c : Int} {n : Nat} (h : dec l = some (c, n)) : dec (l.take n ++ q) = some (c, n) := by
  cases l with
  | nil => cases h
  | cons b t =>
    obtain ⟨h1, h2, h3, h4, h5, h6, h7⟩ := dec_cons h
    obtain ⟨m, rfl⟩ : ∃ m, n = m + 1 := ⟨n - 1, by omega⟩
    rw [List.take_succ_cons, List.cons_append]
    refine dec_mk h1 h2 (by simp; omega) ?_ h6 h7
    rw [Nat.add_sub_cancel] at h5 ⊢
    rw [List.take_append_of_le_length (by rw [List.length_take]; omega), List.take_take, Nat.min_self]
    exact h5
theorem dec_take {l : List Int} {c : Int} {n i : Nat} (h : dec l = some (c, n)) (hi : i < n) : dec (l.take i) = none := by
  cases l with
  | nil => cases h
  | cons b t =>
    obtain ⟨h1, h2, h3, h4, h5, h6, h7⟩ := dec_cons h
    cases i with
    | zero => rfl
    | succ i =>
      rw [List.take_succ_cons]
      exact dec_short (.inr (by rw [List.length_take]; omega))
theorem begins_take {l : List Int} {c : Int} {n i : Nat} (h : dec l = some (c, n)) (h0 : 0 < i) (hi : i < n) : beginsB (l.take i) = true := by
  cases l with
  | nil => cases h
  | cons b t =>
    obtain ⟨h1, h2, h3, h4, h5, h6, h7⟩ := dec_cons h
    obtain ⟨m, rfl⟩ : ∃ m, i = m + 1 := ⟨i - 1, by omega⟩
    have hl : (t.take m).length = m := by rw [List.length_take]; omega
    have hsplit : t.take (n - 1) = t.take m ++ (t.take (n - 1)).drop m := by
      have e := List.take_append_drop m (t.take (n - 1))
      rw [List.take_take, Nat.min_eq_left (by omega)] at e
      exact e.symm
    rw [hsplit, contsL_append, Option.bind_eq_some_iff] at h5
    obtain ⟨d, hd, hc⟩ := h5
    have hr := contsL_range _ _ _ hc
    have hk : ((t.take (n - 1)).drop m).length = n - (m + 1) := by rw [List.length_drop, List.length_take]; omega
    rw [hk] at hr
    rw [List.take_succ_cons, beginsB, if_neg (by rw [hl]; omega), hd]
    dsimp only
    rw [hl, ← h1]
    split
    · rfl
    · simp only [validB, decide_eq_true_eq] at h7
      rw [decide_eq_true_eq]
      refine ⟨by omega, by omega, ?_⟩
      rcases h7.2.2 with h | h
      · exact .inl (by omega)
      · exact .inr (by omega)
theorem bad_append {l q : List Int} (hne : l ≠ []) (hd : dec l = none) (hb : beginsB l = false) : dec (l ++ q) = none ∧ beginsB (l ++ q) = false := by
  cases l with
  | nil => exact absurd rfl hne
  | cons b t =>
    rw [beginsB] at hb
    by_cases h0 : formN b = 0
    · exact ⟨dec_short (.inl h0), by rw [List.cons_append, beginsB, if_pos (.inl h0)]⟩
    by_cases h1 : formN b ≤ t.length + 1
    · refine ⟨?_, by rw [List.cons_append, beginsB, if_pos (.inr (by simp; omega))]⟩
      cases hx : dec (b :: t ++ q) with
      | none => rfl
      | some cn =>
        obtain ⟨c, n⟩ := cn
        rw [List.cons_append] at hx
        obtain ⟨k1, k2, k3, k4, k5, k6, k7⟩ := dec_cons hx
        rw [List.take_append_of_le_length (by omega)] at k5
        rw [dec_mk k1 k2 (by omega) k5 k6 k7] at hd
        cases hd
    · rw [if_neg (by omega)] at hb
      -- whatever comes behind, the value lies in a range that holds no character
      have key : ∀ (m : Nat) (s : List Int) (c : Int), m ≤ formN b - (t.length + 1) → s.length = m → contsL (formC b) (t ++ s) = some c →
          ¬ (leastN (formN b) ≤ (c + 1) * 64 ^ (formN b - (t.length + 1) - m) - 1 ∧ c * 64 ^ (formN b - (t.length + 1) - m) ≤ 1114111 ∧ (c * 64 ^ (formN b - (t.length + 1) - m) < 55296 ∨ 57343 < (c + 1) * 64 ^ (formN b - (t.length + 1) - m) - 1)) := by
        intro m s c hm hs hc
        rw [contsL_append, Option.bind_eq_some_iff] at hc
        obtain ⟨d, hd2, hc⟩ := hc
        rw [hd2] at hb
        dsimp only at hb
        split at hb
        · cases hb
        · have hr := contsL_range _ _ _ hc
          rw [hs] at hr
          have hpow : (64 : Int) ^ (formN b - (t.length + 1)) = 64 ^ m * 64 ^ (formN b - (t.length + 1) - m) := by rw [← Int.pow_add]; congr 1; omega
          have hq : (0 : Int) < 64 ^ (formN b - (t.length + 1) - m) := Int.pow_pos (by omega)
          rw [hpow, decide_eq_false_iff_not, ← Int.mul_assoc, ← Int.mul_assoc] at hb
          obtain ⟨Q, hQ⟩ : ∃ Q : Int, 64 ^ (formN b - (t.length + 1) - m) = Q := ⟨_, rfl⟩
          obtain ⟨A, hA⟩ : ∃ A : Int, d * 64 ^ m = A := ⟨_, rfl⟩
          obtain ⟨B, hB⟩ : ∃ B : Int, (d + 1) * 64 ^ m = B := ⟨_, rfl⟩
          rw [hQ] at hq hb ⊢
          rw [hA, hB] at hr hb
          have e1 : A * Q ≤ c * Q := Int.mul_le_mul_of_nonneg_right hr.1 (by omega)
          have e2 : (c + 1) * Q ≤ B * Q := Int.mul_le_mul_of_nonneg_right (by omega) (by omega)
          omega
      constructor
      · cases hx : dec (b :: t ++ q) with
        | none => rfl
        | some cn =>
          exfalso
          obtain ⟨c, n⟩ := cn
          rw [List.cons_append] at hx
          obtain ⟨k1, k2, k3, k4, k5, k6, k7⟩ := dec_cons hx
          have hs : (t ++ q).take (n - 1) = t ++ q.take (n - 1 - t.length) := by rw [List.take_append, List.take_of_length_le (by omega)]
          rw [hs] at k5
          rw [List.length_append] at k4
          have := key (n - 1 - t.length) _ c (by omega) (by rw [List.length_take]; omega) k5
          rw [show formN b - (t.length + 1) - (n - 1 - t.length) = 0 by omega] at this
          simp only [validB, decide_eq_true_eq] at k7
          rw [← k1] at this
          simp only [Int.pow_zero, Int.mul_one] at this
          omega
      · rw [List.cons_append, beginsB]
        split
        · rfl
        · rename_i hn
          rw [List.length_append] at hn
          cases hx : contsL (formC b) (t ++ q) with
          | none => rfl
          | some c =>
            dsimp only
            have := key q.length q c (by omega) rfl hx
            rw [List.length_append]
            rw [if_neg (by
              intro hz
              have ht : t = [] := List.eq_nil_of_length_eq_zero (by omega)
              rw [ht] at hb
              simp [contsL] at hb)]
            rw [decide_eq_false_iff_not, show formN b - (t.length + q.length + 1) = formN b - (t.length + 1) - q.length by omega]
            exact this

/-- The characters at the begin of bytes, and what is left. -/
inductive Rd : List Int → List Int → List Int → Prop where
  | stop {l : List Int} (h : dec l = none) : Rd l [] l
  | step {l cs r : List Int} {c : Int} {n : Nat} (h : dec l = some (c, n)) (t : Rd (l.drop n) cs r) : Rd l (c :: cs) r
theorem Rd.total : ∀ (k : Nat) (l : List Int), l.length ≤ k → ∃ cs r, Rd l cs r
  | 0, l, h => by
    have : l = [] := List.eq_nil_of_length_eq_zero (by omega)
    subst this; exact ⟨[], [], .stop rfl⟩
  | k + 1, l, h => by
    cases hd : dec l with
    | none => exact ⟨[], l, .stop hd⟩
    | some cn =>
      obtain ⟨c, n⟩ := cn
      have := dec_ok hd
      obtain ⟨cs, r, hr⟩ := Rd.total k (l.drop n) (by rw [List.length_drop]; omega)
      exact ⟨c :: cs, r, .step hd hr⟩
theorem Rd.rest {l cs r : List Int} (h : Rd l cs r) : dec r = none := by
  induction h with
  | stop h => exact h
  | step h t ih => exact ih
theorem Rd.unique {l cs r cs' r' : List Int} (h : Rd l cs r) (g : Rd l cs' r') : cs = cs' ∧ r = r' := by
  induction h generalizing cs' r' with
  | stop h =>
    cases g with
    | stop _ => exact ⟨rfl, rfl⟩
    | step k _ => rw [h] at k; cases k
  | step h t ih =>
    cases g with
    | stop k => rw [h] at k; cases k
    | step k u =>
      rw [h] at k
      simp only [Option.some.injEq, Prod.mk.injEq] at k
      obtain ⟨rfl, rfl⟩ := k
      obtain ⟨rfl, rfl⟩ := ih u
      exact ⟨rfl, rfl⟩
theorem Rd.append {l cs r q cs' r' : List Int} (h : Rd l cs r) (g : Rd (r ++ q) cs' r') : Rd (l ++ q) (cs ++ cs') r' := by
  induction h with
  | stop h => exact g
  | step h t ih =>
    refine .step (dec_append h) ?_
    rw [List.drop_append_of_le_length (dec_ok h).2.1]
    exact ih g
theorem Rd.head {l cs r : List Int} (h : Rd l cs r) : ∃ p, l = p ++ r ∧ Rd p cs [] := by
  induction h with
  | stop h => exact ⟨[], rfl, .stop rfl⟩
  | step h t ih =>
    rename_i l cs r c n
    obtain ⟨p, h1, h2⟩ := ih
    refine ⟨l.take n ++ p, ?_, .step (dec_local h) ?_⟩
    · rw [List.append_assoc, ← h1, List.take_append_drop]
    · rw [List.drop_append_of_le_length (by rw [List.length_take]; have := dec_ok h; omega), List.drop_of_length_le (by rw [List.length_take]; omega)]
      exact h2
theorem Rd.ok {l cs r : List Int} (h : Rd l cs r) : (∀ c ∈ cs, okC c ∧ validB c = true) ∧ cs.length + r.length ≤ l.length := by
  induction h with
  | stop h => simp
  | step h t ih =>
    have h3 := dec_ok h
    refine ⟨fun x hx => ?_, ?_⟩
    · rcases List.mem_cons.1 hx with rfl | hx
      · exact h3.2.2
      · exact ih.1 x hx
    · have := ih.2
      rw [List.length_drop] at this
      rw [List.length_cons]; omega
theorem readL_Rd {l cs r : List Int} (h : Rd l cs r) : ∀ (k : Nat), l.length < k → readL k l = if r = [] then some cs else none := by
  induction h with
  | stop h =>
    rename_i l
    intro k hk
    split
    · rename_i e; subst e; exact readL_nil k
    · rename_i e; exact readL_none hk e h
  | step h t ih =>
    rename_i l cs r c n
    intro k hk
    have hne : l ≠ [] := by intro e; rw [e] at h; cases h
    obtain ⟨j, h1, h2, h3⟩ := readL_step hk hne h
    rw [h3, ih j h2]
    split <;> rfl
theorem Rd.inv {l cs r : List Int} (h : Rd l cs r) : (cs = [] ∧ r = l ∧ dec l = none) ∨ ∃ c n cs', cs = c :: cs' ∧ dec l = some (c, n) ∧ Rd (l.drop n) cs' r := by
  cases h with
  | stop h => exact .inl ⟨rfl, rfl, h⟩
  | step h t => exact .inr ⟨_, _, _, rfl, h, t⟩
theorem Rd.empty_of_nil {cs r : List Int} (h : Rd [] cs r) : cs = [] ∧ r = [] := Rd.unique h (.stop rfl)
/-- Of a text that is whole: what is left of its begin begins a character. -/
theorem Rd.left {p q all cs r : List Int} (h : Rd (p ++ q) all []) (g : Rd p cs r) : r = [] ∨ ∃ c n, dec (r ++ q) = some (c, n) ∧ r.length < n ∧ n ≤ 4 := by
  by_cases hr : r = []
  · exact .inl hr
  · refine .inr ?_
    obtain ⟨cs', r', hr'⟩ := Rd.total _ (r ++ q) (Nat.le_refl _)
    obtain ⟨_, rfl⟩ := Rd.unique h (g.append hr')
    rcases hr'.inv with ⟨_, e, _⟩ | ⟨c, n, cs2, _, h, _⟩
    · exact absurd (List.append_eq_nil_iff.1 e.symm).1 hr
    · refine ⟨c, n, h, ?_, ?_⟩
      · rcases Nat.lt_or_ge r.length n with hlt | hge
        · exact hlt
        · exfalso
          have h2 : dec (r ++ q) = some (c, n) := h
          have h3 := dec_local (q := r.drop n) h2
          rw [List.take_append_of_le_length hge, List.take_append_drop, g.rest] at h3
          cases h3
      · cases hx : r ++ q with
        | nil => rw [hx] at h; cases h
        | cons b t => rw [hx] at h; exact (dec_cons h).2.2.1
/-- .. so it is no character, nor any begin of it, and may begin one. -/
theorem Rd.part {p q all cs r : List Int} (h : Rd (p ++ q) all []) (g : Rd p cs r) : (∀ i, dec (r.take i) = none) ∧ (r = [] ∨ beginsB r = true) ∧ r.length ≤ 3 := by
  rcases h.left g with rfl | ⟨c, n, hd, h1, h2⟩
  · exact ⟨fun i => by simp [dec_nil], .inl rfl, by simp⟩
  · refine ⟨fun i => ?_, ?_, by omega⟩
    · have e : r.take i = (r ++ q).take (min i r.length) := by
        rw [List.take_append_of_le_length (by omega)]
        rcases Nat.le_total i r.length with h | h
        · rw [Nat.min_eq_left h]
        · rw [Nat.min_eq_right h, List.take_of_length_le h, List.take_of_length_le (Nat.le_refl _)]
      rw [e]
      exact dec_take hd (by omega)
    · by_cases hr : r = []
      · exact .inl hr
      · refine .inr ?_
        have e : r = (r ++ q).take r.length := by rw [List.take_append_of_le_length (Nat.le_refl _), List.take_of_length_le (Nat.le_refl _)]
        rw [e]
        exact begins_take hd (List.length_pos_iff.2 hr) h1
/-- A character's bytes are read as that character. -/
theorem dec_enc {c : Int} (h : okC c) (hv : validB c = true) (q : List Int) : dec (enc c ++ q) = some (c, (enc c).length) := by
  obtain ⟨h0, h1⟩ := h
  unfold enc
  by_cases c1 : c < 128
  · rw [if_pos c1]
    exact dec_one h0 c1
  by_cases c2 : c < 2048
  · rw [if_neg c1, if_pos c2]
    rw [List.cons_append, List.cons_append, dec_two (by omega) (by omega), if_pos (by simp [contB]; omega)]
    simp only [Option.some.injEq, Prod.mk.injEq]
    exact ⟨by omega, rfl⟩
  by_cases c3 : c < 65536
  · rw [if_neg c1, if_neg c2, if_pos c3]
    have e : ((224 + c / 4096) % 16 * 64 + (128 + c / 64 % 64) % 64) * 64 + (128 + c % 64) % 64 = c := by omega
    rw [List.cons_append, List.cons_append, List.cons_append, dec_three (by omega) (by omega), if_pos (by simp [contB]; omega), e, if_neg (by simp [hv]; omega)]
    rfl
  · rw [if_neg c1, if_neg c2, if_neg c3]
    have e : (((240 + c / 262144) % 8 * 64 + (128 + c / 4096 % 64) % 64) * 64 + (128 + c / 64 % 64) % 64) * 64 + (128 + c % 64) % 64 = c := by omega
    rw [List.cons_append, List.cons_append, List.cons_append, List.cons_append, dec_four (by omega) (by omega), if_pos (by simp [contB]; omega), e, if_neg (by simp [hv]; omega)]
    rfl
theorem Rd_encs : ∀ (cs : List Int), (∀ c ∈ cs, okC c ∧ validB c = true) → Rd (encs cs) cs []
  | [], _ => .stop rfl
  | c :: cs, h => by
    have h1 := h c (by simp)
    have e : encs (c :: cs) = enc c ++ encs cs := rfl
    rw [e]
    refine .step (dec_enc h1.1 h1.2 _) ?_
    rw [List.drop_left]
    exact Rd_encs cs fun x hx => h x (by simp [hx])
end Go.Proofs.Ytmmigplciogggaa
