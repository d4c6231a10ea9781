/- Rows of elements of several cells (structs): an element is loaded, stored, appended. -/
import Derived.Test.YtmmigplciogggaaRow
import Derived.Laws.CopyRow
namespace Go.Proofs.Ytmmigplciogggaa
open Go Go.RowKit

/-- The elements l, each by its cells, then spare cells. -/
def EBlk {α : Type} (enc : α → List Value) (t : TypeId) (g : Nat) (l : List α) (sp : List Value) : Asrt := Blk g (l.flatMap enc ++ sp).toArray t

section
variable {α : Type} {enc : α → List Value} {k : Nat}
theorem enc_length (hk : ∀ x, (enc x).length = k) : ∀ l : List α, (l.flatMap enc).length = l.length * k
  | [] => by simp
  | x :: l => by rw [List.flatMap_cons, List.length_append, hk, enc_length hk l, List.length_cons, Nat.succ_mul]; omega
theorem enc_take (hk : ∀ x, (enc x).length = k) : ∀ (l : List α) (i : Nat), (l.flatMap enc).take (i * k) = (l.take i).flatMap enc
  | [], i => by simp
  | x :: l, 0 => by simp
  | x :: l, i + 1 => by
    rw [List.flatMap_cons, List.take_succ_cons, List.flatMap_cons, Nat.succ_mul, ← enc_take hk l i, List.take_append, hk, List.take_of_length_le (by rw [hk]; omega)]
    congr 2; omega
theorem enc_drop (hk : ∀ x, (enc x).length = k) : ∀ (l : List α) (i : Nat), (l.flatMap enc).drop (i * k) = (l.drop i).flatMap enc
  | [], i => by simp
  | x :: l, 0 => by simp
  | x :: l, i + 1 => by
    rw [List.flatMap_cons, List.drop_succ_cons, Nat.succ_mul, ← enc_drop hk l i, List.drop_append, hk, List.drop_of_length_le (by rw [hk]; omega), List.nil_append]
    congr 1; omega
theorem enc_set (hk : ∀ x, (enc x).length = k) (l : List α) (i : Nat) (h : i < l.length) (x : α) :
    (l.flatMap enc).take (i * k) ++ enc x ++ (l.flatMap enc).drop (i * k + k) = (l.set i x).flatMap enc := by
  have e : i * k + k = (i + 1) * k := by rw [Nat.succ_mul]
  rw [e, enc_take hk, enc_drop hk, List.set_eq_take_append_cons_drop, if_pos h, List.flatMap_append, List.flatMap_cons, List.append_assoc]
theorem enc_get (hk : ∀ x, (enc x).length = k) (l : List α) (i : Nat) (h : i < l.length) (j : Nat) (hj : j < k) : (l.flatMap enc)[i * k + j]? = (enc l[i])[j]? := by
  have h1 : ((l.flatMap enc).drop (i * k))[j]? = (l.flatMap enc)[i * k + j]? := by rw [List.getElem?_drop]
  rw [← h1, enc_drop hk, List.drop_eq_getElem_cons h, List.flatMap_cons, List.getElem?_append_left (by rw [hk]; exact hj)]

variable {P : Program} {w0 w : World} {R : Asrt} {t : TypeId} {g : Nat} {l : List α} {sp : List Value}

theorem run_loadE (ty : TypeId) (ha : ∀ w, (isAgg ty).run P w = .ok true w) (hs : ∀ w, (sizeOf ty).run P w = .ok k w) (hk : ∀ x, (enc x).length = k) (H : Sat w0 w (EBlk enc t g l sp * R)) (i : Nat) (h : i < l.length) :
    (loadVar ty ⟨g, i * k, none⟩).run P w = .ok (.agg (enc l[i]).toArray) w := by
  unfold loadVar
  simp only [Sem.run_bind, ha, Result.andThen, if_true, hs]
  have := run_loadCells_list (P := P) w ⟨g, i * k, none⟩ (enc l[i]) (fun j v hj => by
    rw [addr_add0]
    have hjk : j < k := by
      rcases Nat.lt_or_ge j k with h | h
      · exact h
      · rw [List.getElem?_eq_none (by rw [hk]; exact h)] at hj; cases hj
    unfold EBlk at H
    rw [H.cell]
    simp only [List.getElem?_toArray]
    have hlen : i * k + j < (l.flatMap enc).length := by
      rw [enc_length hk]
      have : (i + 1) * k ≤ l.length * k := Nat.mul_le_mul_right _ h
      rw [Nat.succ_mul] at this; omega
    rw [List.getElem?_append_left hlen, enc_get hk l i h j hjk]; exact hj)
  rw [hk] at this
  rw [this]; rfl
theorem run_storeE (ty : TypeId) (hi : (P.info? ty).map (·.size) = some k) (hk : ∀ x, (enc x).length = k) (h1 : ∀ x, ∀ v ∈ enc x, v.oneCell' = true) (H : Sat w0 w (EBlk enc t g l sp * R)) (i : Nat) (h : i < l.length) (x : α) :
    ∃ w', (storeVar ty ⟨g, i * k, none⟩ (.agg (enc x).toArray)).run P w = .ok () w' ∧ Sat w0 w' (EBlk enc t g (l.set i x) sp * R) := by
  have hle : i * k + k ≤ l.length * k := by
    have : (i + 1) * k ≤ l.length * k := Nat.mul_le_mul_right _ h
    rw [Nat.succ_mul] at this; omega
  have hst := run_storeCells_at P g (i * k) t (enc x) 0 _ w H.blk (by rw [hk]; simp [enc_length hk]; omega) (h1 x)
  refine ⟨w.setRow g ((l.flatMap enc ++ sp).toArray.toList.take (i * k + 0) ++ enc x ++ (l.flatMap enc ++ sp).toArray.toList.drop (i * k + 0 + (enc x).length)).toArray, ?_, ?_⟩
  · unfold storeVar
    have hsz : (sizeOf ty).run P w = .ok k w := by
      obtain ⟨q, hq, hqs⟩ := Option.map_eq_some_iff.1 hi
      simp [sizeOf, typeInfo, hq, hqs]
    simp only [Sem.run_bind, hsz, Result.andThen, Value.cells, List.size_toArray, hk, ne_eq, not_true_eq_false, if_false]
    simpa [hk] using hst
  · have H2 := Sat.setRow H ((l.flatMap enc ++ sp).toArray.toList.take (i * k + 0) ++ enc x ++ (l.flatMap enc ++ sp).toArray.toList.drop (i * k + 0 + (enc x).length)).toArray
    have e : (l.flatMap enc ++ sp).take (i * k) ++ enc x ++ (l.flatMap enc ++ sp).drop (i * k + k) = (l.set i x).flatMap enc ++ sp := by
      rw [List.take_append_of_le_length (by rw [enc_length hk]; omega), List.drop_append_of_le_length (by rw [enc_length hk]; exact hle), ← enc_set hk l i h x]
      simp
    unfold EBlk
    rw [← e]
    simpa [hk] using H2

theorem wpList_want {ops : Array Oper} {rest : List Oper} {o : Oper} {a : Act} {w : World} {Q : Exit → Act → World → Prop} (hg : Region.wanted o (yielded ops a.tmps) = true)
    (h : ∀ K : Act → World → Prop, (∀ a w, wpList P ops Q rest a w → K a w) → o.wp P a w K Q) : wpList P ops Q (o :: rest) a w :=
  wpList_step fun K hK => by rw [if_pos hg]; exact h K hK
theorem wpList_loadE {ops : Array Oper} {rest : List Oper} {o : Oper} {a : Act} {Q : Exit → Act → World → Prop} (hgd : Region.wanted o (yielded ops a.tmps) = true) (x : Operand) (ty : TypeId) (ho : o.op = .load ty x)
    (ha : ∀ w, (isAgg ty).run P w = .ok true w) (hs : ∀ w, (sizeOf ty).run P w = .ok k w) (hk : ∀ x, (enc x).length = k) (off i : Nat) (hx : a.eval x = .pointer (some ⟨g, off, none⟩)) (hoff : off = i * k)
    (H : Sat w0 w (EBlk enc t g l sp * R)) (u : α) (hu : l[i]? = some u) (hK : wpList P ops Q rest (a.put o.dst (.agg (enc u).toArray)) w) : wpList P ops Q (o :: rest) a w :=
  wpList_want hgd fun K hK' => by
    subst hoff
    obtain ⟨h, rfl⟩ := List.getElem?_eq_some_iff.1 hu
    have hr := run_loadE (P := P) ty ha hs hk H i h
    unfold Oper.wp execOp
    simp only [ho, Instr.loadAt, Instr.sureAddr, hx, Sem.run_bind, Sem.run_pure, Result.andThen_ok, hr]
    exact hK' _ _ hK
theorem wpList_storeE {ops : Array Oper} {rest : List Oper} {o : Oper} {a : Act} {Q : Exit → Act → World → Prop} (hgd : o.guard = none) (x y : Operand) (ty : TypeId) (ho : o.op = .store ty x y)
    (hi : (P.info? ty).map (·.size) = some k) (hk : ∀ x, (enc x).length = k) (h1 : ∀ x, ∀ v ∈ enc x, v.oneCell' = true) (off i : Nat) (hx : a.eval x = .pointer (some ⟨g, off, none⟩)) (hoff : off = i * k)
    (u : α) (hy : a.eval y = .agg (enc u).toArray) (H : Sat w0 w (EBlk enc t g l sp * R)) (h : i < l.length)
    (hK : ∀ w', Sat w0 w' (EBlk enc t g (l.set i u) sp * R) → wpList P ops Q rest (a.put o.dst undef) w') : wpList P ops Q (o :: rest) a w :=
  wpList_plain hgd fun K hK' => by
    subst hoff
    obtain ⟨w', hr, H'⟩ := run_storeE (P := P) ty hi hk h1 H i h u
    unfold Oper.wp execOp
    simp only [ho, Instr.storeAt, Instr.sureAddr, hx, hy, Sem.run_bind, Sem.run_pure, Result.andThen_ok, hr]
    exact hK' _ _ (hK w' H')
end
end Go.Proofs.Ytmmigplciogggaa
