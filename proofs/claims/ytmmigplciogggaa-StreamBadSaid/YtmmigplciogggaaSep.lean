/- Small separation algebra over the model's heap: which blocks a piece of data owns; what a step of the program does to it. -/
import Derived.Below
import Derived.Laws.AppendOwn
import Derived.Laws.OwnMore
import Derived.OwnWalk
import Derived.Deep.Draws
namespace Go.Proofs.Ytmmigplciogggaa
open Go Go.RowKit

/-- A fact that no tactic looks into. -/
structure Box (p : Prop) : Prop where mk :: (out : p)
/-- A piece of heap. -/
abbrev Hp := Nat → Option Obj
def Hp.emp : Hp := fun _ => none
def Hp.one (b : Nat) (o : Obj) : Hp := fun k => if k = b then some o else none
def Hp.apart (x y : Hp) : Prop := ∀ b, x b = none ∨ y b = none
def Hp.add (x y : Hp) : Hp := fun b => match x b with | some o => some o | none => y b

theorem Hp.apart.symm {x y : Hp} (h : x.apart y) : y.apart x := fun b => (h b).symm
theorem Hp.add_comm {x y : Hp} (h : x.apart y) : x.add y = y.add x := by
  funext b; unfold Hp.add
  rcases h b with h | h <;> rw [h]
  · cases y b <;> rfl
  · cases x b <;> rfl
theorem Hp.add_assoc (x y z : Hp) : (x.add y).add z = x.add (y.add z) := by
  funext b; unfold Hp.add; cases x b <;> rfl
theorem Hp.add_none {x y : Hp} {b : Nat} : x.add y b = none ↔ x b = none ∧ y b = none := by
  unfold Hp.add; cases x b <;> simp
theorem Hp.apart_add {x y z : Hp} : x.apart (y.add z) ↔ x.apart y ∧ x.apart z := by
  constructor
  · intro h
    exact ⟨fun b => (h b).imp id fun e => (Hp.add_none.1 e).1, fun b => (h b).imp id fun e => (Hp.add_none.1 e).2⟩
  · rintro ⟨h, k⟩ b
    rcases h b with e | e
    · exact .inl e
    · rcases k b with f | f
      · exact .inl f
      · exact .inr (Hp.add_none.2 ⟨e, f⟩)
theorem Hp.add_emp (x : Hp) : Hp.emp.add x = x := by funext b; rfl

/-- What is said of a piece of heap. -/
def Asrt := Hp → Prop
/-- Two pieces side by side. -/
def Asrt.sep (A B : Asrt) : Asrt := fun h => ∃ x y : Hp, x.apart y ∧ h = x.add y ∧ A x ∧ B y
instance : Mul Asrt := ⟨Asrt.sep⟩
theorem Asrt.mul_def (A B : Asrt) (h : Hp) : (A * B) h ↔ ∃ x y : Hp, x.apart y ∧ h = x.add y ∧ A x ∧ B y := Iff.rfl
theorem Asrt.mul_comm (A B : Asrt) : A * B = B * A := by
  have key : ∀ (A B : Asrt) h, (A * B) h → (B * A) h := by
    rintro A B h ⟨x, y, hd, rfl, hA, hB⟩
    exact ⟨y, x, hd.symm, Hp.add_comm hd, hB, hA⟩
  funext h; exact propext ⟨key A B h, key B A h⟩
theorem Asrt.mul_assoc (A B C : Asrt) : A * B * C = A * (B * C) := by
  funext h; apply propext; constructor
  · rintro ⟨_, z, hd, rfl, ⟨x, y, he, rfl, hA, hB⟩, hC⟩
    have h2 := Hp.apart_add.1 hd.symm
    exact ⟨x, y.add z, Hp.apart_add.2 ⟨he, h2.1.symm⟩, Hp.add_assoc _ _ _, hA, y, z, h2.2.symm, rfl, hB, hC⟩
  · rintro ⟨x, _, hd, rfl, hA, y, z, he, rfl, hB, hC⟩
    have h2 := Hp.apart_add.1 hd
    exact ⟨x.add y, z, (Hp.apart_add.2 ⟨h2.2.symm, he.symm⟩).symm, (Hp.add_assoc _ _ _).symm, ⟨x, y, h2.1, rfl, hA, hB⟩, hC⟩
instance : Std.Commutative (α := Asrt) (· * ·) := ⟨Asrt.mul_comm⟩
instance : Std.Associative (α := Asrt) (· * ·) := ⟨Asrt.mul_assoc⟩

/-- Nothing is asked. -/
def Any : Asrt := fun _ => True
/-- Just one block. -/
def Own (b : Nat) (o : Obj) : Asrt := fun h => h = Hp.one b o
/-- A block of cells, none of them frozen. -/
def Blk (b : Nat) (cs : Array Value) (t : TypeId) : Asrt := Own b (.cells cs t (0, 0))
/-- All that lay in the first world, as it lay. -/
def Old (w0 : World) : Asrt := fun h => ∀ b, h b = w0.heap[b]?
def Ex {α : Type} (f : α → Asrt) : Asrt := fun h => ∃ x, f x h
/-- A fact, beside what lies in memory. -/
def Fact (p : Prop) (A : Asrt) : Asrt := fun h => p ∧ A h
def Emp : Asrt := fun h => h = Hp.emp

theorem Asrt.sep_mono {A B A' B' : Asrt} (hA : ∀ h, A h → A' h) (hB : ∀ h, B h → B' h) : ∀ h, (A * B) h → (A' * B') h := by
  rintro h ⟨x, y, hd, e, a, b⟩; exact ⟨x, y, hd, e, hA _ a, hB _ b⟩
theorem Asrt.emp_mul (A : Asrt) : Emp * A = A := by
  funext h; apply propext; constructor
  · rintro ⟨x, y, _, rfl, rfl, hA⟩; rw [Hp.add_emp]; exact hA
  · intro hA; exact ⟨Hp.emp, h, fun b => .inl rfl, (Hp.add_emp h).symm, rfl, hA⟩

/-- The world w, come from w0: A holds of a piece of its heap. -/
structure Sat (w0 w : World) (A : Asrt) : Prop where
  os : w.os = w0.os
  tape : w.tape = w0.tape
  output : w.output = w0.output
  own : ∃ h : Hp, A h ∧ ∀ b o, h b = some o → w.heap[b]? = some o

section
variable {w0 w : World} {A B R : Asrt}

theorem Sat.imp (H : Sat w0 w A) (h : ∀ x, A x → B x) : Sat w0 w B := ⟨H.os, H.tape, H.output, let ⟨x, a, e⟩ := H.own; ⟨x, h x a, e⟩⟩
theorem Sat.cast (H : Sat w0 w A) (h : A = B) : Sat w0 w B := h ▸ H
theorem Sat.right (H : Sat w0 w (A * B)) : Sat w0 w B :=
  ⟨H.os, H.tape, H.output, let ⟨_, ⟨x, y, hd, e, _, b⟩, g⟩ := H.own
    ⟨y, b, fun k o hk => g k o (by
      rw [e]; unfold Hp.add
      rcases hd k with h | h
      · rw [h]; exact hk
      · rw [h] at hk; cases hk)⟩⟩
theorem Sat.left (H : Sat w0 w (A * B)) : Sat w0 w A := (H.cast (Asrt.mul_comm _ _)).right
theorem Sat.ex {α : Type} {f : α → Asrt} (H : Sat w0 w (Ex f)) : ∃ x, Sat w0 w (f x) :=
  let ⟨h, ⟨x, a⟩, g⟩ := H.own; ⟨x, H.os, H.tape, H.output, h, a, g⟩
theorem Sat.exL {α : Type} {f : α → Asrt} (H : Sat w0 w (Ex f * R)) : ∃ x, Sat w0 w (f x * R) :=
  let ⟨h, ⟨x, y, hd, e, ⟨u, a⟩, b⟩, g⟩ := H.own; ⟨u, H.os, H.tape, H.output, h, ⟨x, y, hd, e, a, b⟩, g⟩
theorem Sat.mkExL {α : Type} {f : α → Asrt} (x : α) (H : Sat w0 w (f x * R)) : Sat w0 w (Ex f * R) :=
  H.imp (Asrt.sep_mono (fun _ a => ⟨x, a⟩) (fun _ b => b))
theorem Sat.factL {p : Prop} (H : Sat w0 w (Fact p A * R)) : p ∧ Sat w0 w (A * R) :=
  let ⟨h, ⟨x, y, hd, e, ⟨u, a⟩, b⟩, g⟩ := H.own; ⟨u, H.os, H.tape, H.output, h, ⟨x, y, hd, e, a, b⟩, g⟩
theorem Sat.mkFactL {p : Prop} (hp : p) (H : Sat w0 w (A * R)) : Sat w0 w (Fact p A * R) :=
  H.imp (Asrt.sep_mono (fun _ a => ⟨hp, a⟩) (fun _ b => b))

theorem Sat.get {b : Nat} {o : Obj} (H : Sat w0 w (Own b o * R)) : w.heap[b]? = some o := by
  obtain ⟨_, ⟨x, y, hd, rfl, hA, _⟩, g⟩ := H.own
  cases hA
  exact g b o (by simp [Hp.add, Hp.one])
theorem Sat.lt {b : Nat} {o : Obj} (H : Sat w0 w (Own b o * R)) : b < w.heap.size := (Array.getElem?_eq_some_iff.1 H.get).1
theorem Sat.ne {b b' : Nat} {o o' : Obj} (H : Sat w0 w (Own b o * (Own b' o' * R))) : b ≠ b' := by
  obtain ⟨_, ⟨x, _, hd, rfl, hA, y, z, _, rfl, hB, _⟩, _⟩ := H.own
  cases hA; cases hB
  rintro rfl
  rcases hd b with h | h
  · simp [Hp.one] at h
  · have := (Hp.add_none.1 h).1; simp [Hp.one] at this
theorem Sat.blk {b : Nat} {cs : Array Value} {t : TypeId} (H : Sat w0 w (Blk b cs t * R)) : w.heap[b]? = some (.cells cs t (0, 0)) := Sat.get H
theorem Sat.cell {b : Nat} {cs : Array Value} {t : TypeId} (H : Sat w0 w (Blk b cs t * R)) (i : Nat) : w.cell? ⟨b, i, none⟩ = cs[i]? := by
  have := H.blk; simp [World.cell?, this]
theorem Sat.free {b : Nat} {cs : Array Value} {t : TypeId} (H : Sat w0 w (Blk b cs t * R)) (i : Nat) : w.frozen? ⟨b, i, none⟩ = false := by
  have := H.blk; simp [World.frozen?, this]

/-- A step that turns one block that is owned. -/
theorem Sat.turn {w' : World} {b : Nat} {o o' : Obj} (H : Sat w0 w (Own b o * R)) (e1 : w'.os = w.os) (e2 : w'.tape = w.tape) (e3 : w'.output = w.output)
    (hb : w'.heap[b]? = some o') (hk : ∀ k, k ≠ b → k < w.heap.size → w'.heap[k]? = w.heap[k]?) : Sat w0 w' (Own b o' * R) := by
  obtain ⟨_, ⟨x, y, hd, rfl, hA, hR⟩, g⟩ := H.own
  cases hA
  refine ⟨e1.trans H.os, e2.trans H.tape, e3.trans H.output, _, ⟨Hp.one b o', y, ?_, rfl, rfl, hR⟩, ?_⟩
  · intro k
    by_cases e : k = b
    · subst e
      rcases hd k with h | h
      · simp [Hp.one] at h
      · exact .inr h
    · exact .inl (by simp [Hp.one, e])
  · intro k u hu
    by_cases e : k = b
    · subst e
      simp [Hp.add, Hp.one] at hu
      subst hu; exact hb
    · have hy : y k = some u := by simpa [Hp.add, Hp.one, e] using hu
      have hw := g k u (by simp [Hp.add, Hp.one, e, hy])
      rw [hk k e (Array.getElem?_eq_some_iff.1 hw).1]; exact hw

/-- A step that lays a new block. -/
theorem Sat.new {w' : World} {b : Nat} {o : Obj} (H : Sat w0 w R) (e1 : w'.os = w.os) (e2 : w'.tape = w.tape) (e3 : w'.output = w.output)
    (hn : w.heap.size ≤ b) (hb : w'.heap[b]? = some o) (hk : ∀ k, k < w.heap.size → w'.heap[k]? = w.heap[k]?) : Sat w0 w' (Own b o * R) := by
  obtain ⟨y, hR, g⟩ := H.own
  have lt : ∀ k u, y k = some u → k < w.heap.size := fun k u hu => (Array.getElem?_eq_some_iff.1 (g k u hu)).1
  refine ⟨e1.trans H.os, e2.trans H.tape, e3.trans H.output, _, ⟨Hp.one b o, y, ?_, rfl, rfl, hR⟩, ?_⟩
  · intro k
    by_cases e : k = b
    · subst e
      cases hy : y k with
      | none => exact .inr rfl
      | some u => have := lt k u hy; omega
    · exact .inl (by simp [Hp.one, e])
  · intro k u hu
    by_cases e : k = b
    · subst e
      simp [Hp.add, Hp.one] at hu
      subst hu; exact hb
    · have hy : y k = some u := by simpa [Hp.add, Hp.one, e] using hu
      rw [hk k (lt k u hy)]; exact g k u hy

/-- A step that turns nothing that is owned. -/
theorem Sat.same {w' : World} (H : Sat w0 w R) (e1 : w'.os = w.os) (e2 : w'.tape = w.tape) (e3 : w'.output = w.output) (hk : ∀ k, k < w.heap.size → w'.heap[k]? = w.heap[k]?) : Sat w0 w' R := by
  obtain ⟨y, hR, g⟩ := H.own
  exact ⟨e1.trans H.os, e2.trans H.tape, e3.trans H.output, y, hR, fun k u hu => (hk k (Array.getElem?_eq_some_iff.1 (g k u hu)).1).trans (g k u hu)⟩

theorem Sat.drew (H : Sat w0 w R) : Sat w0 w.drew R := ⟨H.os, H.tape, H.output, H.own⟩
theorem Sat.drewN (H : Sat w0 w R) (n : Nat) : Sat w0 (w.drewN n) R := ⟨H.os, H.tape, H.output, H.own⟩
theorem Sat.below {w' : World} (H : Sat w0 w R) (hb : Below w.heap.size w w') : Sat w0 w' R := H.same hb.os hb.tape hb.output hb.block
theorem Sat.allocO (H : Sat w0 w R) (o : Obj) : Sat w0 (w.alloc o) (Own w.heap.size o * R) :=
  H.new rfl rfl rfl (Nat.le_refl _) (heap_alloc_new w o) (fun k hk => Below.heap_alloc w o k hk)
theorem Sat.alloc (H : Sat w0 w R) (cs : Array Value) (t : TypeId) : Sat w0 (w.alloc (.cells cs t (0, 0))) (Blk w.heap.size cs t * R) := H.allocO _
/-- A new block that nobody asks for again. -/
theorem Sat.allocX (H : Sat w0 w R) (o : Obj) : Sat w0 (w.alloc o) R := (H.allocO o).right
theorem Sat.setCell {b : Nat} {cs : Array Value} {t : TypeId} (H : Sat w0 w (Blk b cs t * R)) (i : Nat) (v : Value) :
    Sat w0 (w.setCell ⟨b, i, none⟩ v) (Blk b (cs.setIfInBounds i v) t * R) := by
  refine Sat.turn H rfl rfl rfl ?_ (fun k hk _ => Below.heap_setCell w _ v k hk)
  have := H.blk
  simp [World.setCell, Array.getElem?_modify, this]

theorem Sat.old {A : Asrt} (H : Sat w0 w (Old w0 * A)) : ∀ k, k < w0.heap.size → w.heap[k]? = w0.heap[k]? := by
  intro k hk
  obtain ⟨_, ⟨x, y, hd, rfl, hA, _⟩, g⟩ := H.own
  have h0 : w0.heap[k]? = some w0.heap[k] := by simp [hk]
  have := g k w0.heap[k] (by simp [Hp.add, hA k, h0])
  rw [this, h0]
theorem Sat.size {A : Asrt} (H : Sat w0 w (Old w0 * A)) : w0.heap.size ≤ w.heap.size := by
  rcases Nat.lt_or_ge w.heap.size w0.heap.size with h | h
  · have := H.old w.heap.size h
    rw [Array.getElem?_eq_none (Nat.le_refl _)] at this
    simp [h] at this
  · exact h
/-- What the row of a law asks in the end. -/
theorem Sat.ended {A : Asrt} (H : Sat w0 w (Old w0 * A)) : Below w0.heap.size w0 w := ⟨H.os, H.tape, H.output, H.size, H.old⟩
theorem Sat.begin (w : World) : Sat w w (Old w) := ⟨rfl, rfl, rfl, fun b => w.heap[b]?, fun _ => rfl, fun _ _ h => h⟩

theorem Sat.blk_ne {b b' : Nat} {cs cs' : Array Value} {t t' : TypeId} (H : Sat w0 w (Blk b cs t * (Blk b' cs' t' * R))) : b ≠ b' := Sat.ne H
end
theorem below_drawn (w : World) (n : Nat) : Below w.heap.size w (w.drewN n) := ⟨rfl, rfl, rfl, Nat.le_refl _, fun _ _ => rfl⟩
theorem below_drew1 (w : World) : Below w.heap.size w w.drew := ⟨rfl, rfl, rfl, Nat.le_refl _, fun _ _ => rfl⟩
theorem below_from {w w' : World} {n : Nat} (h : Below (w.drewN n).heap.size (w.drewN n) w') : Below w.heap.size w w' := ⟨h.os, h.tape, h.output, h.size, h.block⟩
theorem below_next {a b c : World} (h : Below a.heap.size a b) (k : Below b.heap.size b c) : Below a.heap.size a c := h.trans (k.mono h.size)
end Go.Proofs.Ytmmigplciogggaa
