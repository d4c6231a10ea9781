/- What a Write of a stream does, in plain lists. No program here. -/
import Derived.Test.YtmmigplciogggaaTakeW
import Derived.Test.YtmmigplciogggaaBegins
namespace Go.Proofs.Ytmmigplciogggaa
open Go Go.RowKit Go.PlainAid

theorem contsL_nonneg : ∀ (l : List Int) (c d : Int), contsL c l = some d → 0 ≤ c → 0 ≤ d
  | [], c, d, h, hc => by simp only [contsL, Option.some.injEq] at h; omega
  | b :: t, c, d, h, hc => by
    rw [contsL] at h
    split at h
    · exact contsL_nonneg t _ d h (by omega)
    · cases h
/-- A character that is read: its bytes are there, and it is one. -/
theorem dec_ok {l : List Int} {c : Int} {n : Nat} (h : dec l = some (c, n)) : 1 ≤ n ∧ n ≤ l.length ∧ okC c ∧ validB c = true := by
  cases l with
  | nil => cases h
  | cons b t =>
    rw [dec] at h
    split at h
    · cases h
    · rename_i hn
      split at h
      · cases h
      · split at h
        · cases h
        · rename_i hv
          simp only [Option.some.injEq, Prod.mk.injEq] at h
          obtain ⟨rfl, rfl⟩ := h
          simp only [not_or, Nat.not_lt] at hn
          rename_i c0 _
          have hv2 : validB c0 = true := by
            rcases Bool.eq_false_or_eq_true (validB c0) with e | e
            · exact e
            · exact absurd (Or.inr e) hv
          have := hv2
          simp only [validB, decide_eq_true_eq] at this
          exact ⟨by omega, by simpa using hn.2, ⟨this.1, this.2.1⟩, hv2⟩
/-- How a Write ends. -/
inductive WR where
  | ok (rest h : List Int) (m : Nat) (out : List Int)
  | bad
  | big
def writeL : Nat → List Int → List Int → Nat → List Int → WR
  | 0, l, h, m, o => .ok l h m o
  | k + 1, l, h, m, o => match l with
    | [] => .ok [] h m o
    | _ => match dec l with
      | none => if beginsB l then .ok l h m o else .bad
      | some (c, n) => match takeL (apart c) h m o with
        | none => .big
        | some (h', m', o') => writeL k (l.drop n) h' m' o'
theorem writeL_nil (k : Nat) (h : List Int) (m : Nat) (o : List Int) : writeL k [] h m o = .ok [] h m o := by cases k <;> rfl
section
variable {l h o : List Int} {m k : Nat} (hl : l.length < k) (hne : l ≠ [])
include hl hne
theorem writeL_held (hd : dec l = none) (hb : beginsB l = true) : writeL k l h m o = .ok l h m o := by
  cases k with
  | zero => omega
  | succ k =>
    cases l with
    | nil => exact absurd rfl hne
    | cons b t => simp only [writeL, hd, hb, if_true]
theorem writeL_bad (hd : dec l = none) (hb : beginsB l = false) : writeL k l h m o = .bad := by
  cases k with
  | zero => omega
  | succ k =>
    cases l with
    | nil => exact absurd rfl hne
    | cons b t => simp [writeL, hd, hb]
theorem writeL_big {c : Int} {n : Nat} (hd : dec l = some (c, n)) (ht : takeL (apart c) h m o = none) : writeL k l h m o = .big := by
  cases k with
  | zero => omega
  | succ k =>
    cases l with
    | nil => exact absurd rfl hne
    | cons b t => simp only [writeL, hd, ht]
theorem writeL_step {c : Int} {n : Nat} {h' o' : List Int} {m' : Nat} (hd : dec l = some (c, n)) (ht : takeL (apart c) h m o = some (h', m', o')) : ∃ j, k = j + 1 ∧ (l.drop n).length < j ∧ writeL k l h m o = writeL j (l.drop n) h' m' o' := by
  cases k with
  | zero => omega
  | succ k =>
    cases l with
    | nil => exact absurd rfl hne
    | cons b t =>
      have := dec_ok hd
      exact ⟨k, rfl, by rw [List.length_drop]; omega, by simp only [writeL, hd, ht]⟩
end
/-- What take leaves: its lengths and its characters. -/
theorem takeL_ok : ∀ (xs h : List Int) (m : Nat) (o : List Int) (h' : List Int) (m' : Nat) (o' : List Int), takeL xs h m o = some (h', m', o') → (∀ x ∈ xs, okC x) → (∀ x ∈ h, okC x) → m ≤ 30 → h.length ≤ m + 1 →
    (∀ x ∈ h', okC x) ∧ m' ≤ 30 ∧ h'.length ≤ m' + 1 ∧ o'.length ≤ o.length + xs.length * 124
  | [], h, m, o, h', m', o', e, _, hh, hm, hl => by
    simp only [takeL, Option.some.injEq, Prod.mk.injEq] at e
    obtain ⟨rfl, rfl, rfl⟩ := e
    exact ⟨hh, hm, hl, by simp⟩
  | x :: xs, h, m, o, h', m', o', e, hx, hh, hm, hl => by
    by_cases hk : 0 < cls x
    · by_cases hb : 30 < m + 1
      · rw [takeL_big _ _ _ _ hk hb] at e; cases e
      · rw [takeL_mark _ _ _ _ hk (by omega)] at e
        have := takeL_ok xs _ _ _ _ _ _ e (fun y hy => hx y (List.mem_cons_of_mem _ hy)) (fun y hy => by
          rcases List.mem_append.1 hy with hy | hy
          · exact hh y hy
          · have : y = x := by simpa using hy
            rw [this]; exact hx x (by simp)) (by omega) (by simp; omega)
        refine ⟨this.1, this.2.1, this.2.2.1, ?_⟩
        have h4 := this.2.2.2
        rw [List.length_cons, Nat.succ_mul]; omega
    · rw [takeL_start _ _ _ _ hk] at e
      have := takeL_ok xs _ _ _ _ _ _ e (fun y hy => hx y (List.mem_cons_of_mem _ hy)) (fun y hy => by
        have : y = x := by simpa using hy
        rw [this]; exact hx x (by simp)) (by omega) (by simp)
      refine ⟨this.1, this.2.1, this.2.2.1, ?_⟩
      have h4 := this.2.2.2
      have h5 := encs_len (ordS h)
      rw [ordS_length] at h5
      rw [List.length_append] at h4
      rw [List.length_cons, Nat.succ_mul]; omega
end Go.Proofs.Ytmmigplciogggaa
