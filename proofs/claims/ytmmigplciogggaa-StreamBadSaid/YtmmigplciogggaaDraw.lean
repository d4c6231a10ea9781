/- A region that draws its order: where the operations that touch memory are forced into one order by the edges, one walk in the order of the text serves every order. -/
import Derived.Orders
import Derived.Below
import Derived.Still
import Derived.Laws.Panics
namespace Go.Proofs.Ytmmigplciogggaa
open Go Go.RowKit

/-- In whatever world, one answer, and the world as it was. -/
def Calm {α : Type} (P : Program) (s : Sem α) : Prop := ∀ w r w', s.run P w = .ok r w' → w' = w ∧ ∀ w2, s.run P w2 = .ok r w2
/-- Where there is an answer the world is as it was. -/
def Peeks {α : Type} (P : Program) (s : Sem α) : Prop := ∀ w r w', s.run P w = .ok r w' → w' = w

section
variable {P : Program} {α β : Type}
theorem Calm.pure (a : α) : Calm P (Pure.pure a : Sem α) := fun w r w' h => by
  simp only [Sem.run_pure, Result.ok.injEq] at h
  obtain ⟨rfl, rfl⟩ := h
  exact ⟨rfl, fun _ => rfl⟩
theorem Calm.bind {s : Sem α} {f : α → Sem β} (h : Calm P s) (hf : ∀ a, Calm P (f a)) : Calm P (s >>= f) := fun w r w' e => by
  rw [Sem.run_bind] at e
  cases hs : s.run P w with
  | ok a w1 =>
    obtain ⟨rfl, h2⟩ := h w a w1 hs
    rw [hs] at e
    obtain ⟨rfl, h3⟩ := hf a _ _ _ e
    exact ⟨rfl, fun w2 => by rw [Sem.run_bind, h2]; exact h3 w2⟩
  | halt x w1 => rw [hs] at e; simp [Result.andThen] at e
theorem Calm.program : Calm P (program : Sem Program) := fun w r w' h => by
  rw [run_program] at h
  simp only [Result.ok.injEq] at h
  obtain ⟨rfl, rfl⟩ := h
  exact ⟨rfl, fun _ => rfl⟩
theorem Calm.dead {s : Sem α} (h : ∀ w r w', s.run P w ≠ .ok r w') : Calm P s := fun w r w' e => absurd e (h w r w')
theorem Calm.stuck (why : String) : Calm P (stuck why : Sem α) := Calm.dead fun w r w' h => by simp at h
theorem Calm.unsupported (u : Unsupported) : Calm P (unsupported u : Sem α) := Calm.dead fun w r w' h => by simp at h
theorem Calm.goPanic (v : Value) : Calm P (goPanic v : Sem α) := Calm.dead fun w r w' h => by simp at h
theorem dead_bind {s : Sem α} {f : α → Sem β} (hf : ∀ a w r w', (f a).run P w ≠ .ok r w') : ∀ w r w', (s >>= f).run P w ≠ .ok r w' := by
  intro w r w' e
  rw [Sem.run_bind] at e
  cases hs : s.run P w with
  | ok a w1 => rw [hs] at e; exact hf _ _ _ _ e
  | halt x w1 => rw [hs] at e; simp [Result.andThen] at e
theorem dead_panic (e : RuntimeError) : ∀ w r w', (runtimePanic e : Sem α).run P w ≠ .ok r w' := by
  intro w r w'
  unfold runtimePanic
  refine dead_bind ?_ w r w'
  intro p w r w'
  cases e <;> first
    | (simp; done)
    | (refine dead_bind ?_ w r w'; intro _ w r w'; first | (simp; done) | (refine dead_bind ?_ w r w'; intro _ w r w'; first | (simp; done) | (refine dead_bind ?_ w r w'; intro _ w r w'; simp; done)))
theorem Calm.panic (e : RuntimeError) : Calm P (runtimePanic e : Sem α) := Calm.dead (dead_panic e)
theorem Calm.bounds (k : IntKind) (x y : Int) (c : BoundsCode) : Calm P (boundsPanic k x y c : Sem α) := Calm.dead fun w r w' => by
  unfold boundsPanic
  dsimp only
  split
  all_goals exact dead_bind (fun a w r w' => dead_panic _ w r w') w r w'
theorem Calm.ite {c : Prop} [Decidable c] {s t : Sem α} (h : Calm P s) (k : Calm P t) : Calm P (if c then s else t) := by split <;> assumption
theorem Calm.underlying (t : TypeId) : Calm P (underlying t) := by
  unfold Go.underlying
  refine Calm.bind Calm.program fun p => ?_
  split
  · exact Calm.pure _
  · exact Calm.stuck _
theorem Calm.sizeOf (t : TypeId) : Calm P (sizeOf t) := by
  unfold Go.sizeOf Go.typeInfo
  refine Calm.bind (Calm.bind Calm.program fun p => ?_) fun _ => Calm.pure _
  split
  · exact Calm.pure _
  · exact Calm.stuck _
theorem Calm.isAgg (t : TypeId) : Calm P (isAgg t) := by
  unfold Go.isAgg
  refine Calm.bind (Calm.underlying _) fun p => ?_
  split <;> exact Calm.pure _
theorem Calm.asIntOf (v : Value) : Calm P (asIntOf v) := by
  unfold Go.asIntOf
  split
  · exact Calm.pure _
  · exact Calm.unsupported _
  · exact Calm.stuck _
theorem Calm.asBool (v : Value) : Calm P (asBool v) := by
  unfold Go.asBool
  split
  · exact Calm.pure _
  · exact Calm.stuck _
theorem Calm.asAddr (v : Value) : Calm P (asAddr v) := by
  unfold Go.asAddr
  split
  · exact Calm.pure _
  · exact Calm.panic _
  · exact Calm.stuck _
theorem Calm.sureAddr (v : Value) : Calm P (Instr.sureAddr v) := by
  unfold Instr.sureAddr
  split
  · exact Calm.pure _
  · exact Calm.stuck _
theorem Calm.part (t : TypeId) (cs : Array Value) (off : Nat) : Calm P (part t cs off) := by
  unfold Go.part
  refine Calm.bind (Calm.isAgg _) fun b => ?_
  refine Calm.ite (Calm.bind (Calm.sizeOf _) fun _ => Calm.pure _) ?_
  split
  · exact Calm.pure _
  · exact Calm.stuck _
theorem Calm.index (t : TypeId) (x i : Value) : Calm P (Instr.index t x i) := by
  unfold Instr.index
  refine Calm.bind (Calm.asIntOf _) fun p => Calm.bind (Calm.underlying _) fun d => ?_
  split
  · exact Calm.ite (Calm.bind (Calm.sizeOf _) fun _ => Calm.part _ _ _) (Calm.bounds _ _ _ _)
  · split
    · exact Calm.pure _
    · exact Calm.bounds _ _ _ _
  · exact Calm.stuck _
theorem Calm.extract (x : Value) (i : Nat) : Calm P (Instr.extract x i) := by
  unfold Instr.extract
  split
  · split
    · exact Calm.pure _
    · exact Calm.stuck _
  · exact Calm.stuck _
theorem Calm.field (t : TypeId) (x : Value) (i : Nat) : Calm P (Instr.field t x i) := by
  unfold Instr.field
  refine Calm.bind (Calm.underlying _) fun d => ?_
  split
  · split
    · refine Calm.bind ?_ fun _ => Calm.part _ _ _
      unfold Go.asAgg
      split
      · exact Calm.pure _
      · exact Calm.stuck _
    · exact Calm.stuck _
  · exact Calm.stuck _
theorem Calm.sliceBound (x : Value) (y : Nat) (c : BoundsCode) : Calm P (Instr.sliceBound x y c) := by
  unfold Instr.sliceBound
  exact Calm.bind (Calm.asIntOf _) fun p => Calm.ite (Calm.pure _) (Calm.bounds _ _ _ _)
theorem Calm.sliceBounds (b : Bool) (l c : Nat) (lo hi mx : Option Value) : Calm P (Instr.sliceBounds b l c lo hi mx) := by
  unfold Instr.sliceBounds
  have k3 : ∀ m h : Nat, Calm P (match lo with
      | some v => do
        let l ← Instr.sliceBound v h (if mx.isSome = true then BoundsCode.slice3C else BoundsCode.sliceB)
        Pure.pure (l, h, m)
      | none => do
        let l ← Pure.pure 0
        Pure.pure (l, h, m)) := by
    intro m h
    split
    · exact Calm.bind (Calm.sliceBound _ _ _) fun _ => Calm.pure _
    · exact Calm.bind (Calm.pure _) fun _ => Calm.pure _
  dsimp only
  split
  · refine Calm.bind (Calm.sliceBound _ _ _) fun m => ?_
    split
    · exact Calm.bind (Calm.sliceBound _ _ _) fun h => k3 m h
    · exact Calm.bind (Calm.sliceBound _ _ _) fun h => k3 m h
    · exact Calm.bind (Calm.pure _) fun h => k3 m h
    · exact Calm.bind (Calm.stuck _) fun h => k3 m h
  · refine Calm.bind (Calm.pure _) fun m => ?_
    split
    · exact Calm.bind (Calm.sliceBound _ _ _) fun h => k3 m h
    · exact Calm.bind (Calm.sliceBound _ _ _) fun h => k3 m h
    · exact Calm.bind (Calm.pure _) fun h => k3 m h
    · exact Calm.bind (Calm.stuck _) fun h => k3 m h
theorem Calm.sliceAt (t : TypeId) (x : Value) (lo hi mx : Option Value) : Calm P (Instr.sliceAt t x lo hi mx) := by
  unfold Instr.sliceAt
  refine Calm.bind (Calm.underlying _) fun d => ?_
  split
  · refine Calm.bind (Calm.sureAddr _) fun a => Calm.bind (Calm.sliceBounds _ _ _ _ _ _) fun q => Calm.bind (Calm.sizeOf _) fun _ => Calm.pure _
  · unfold Instr.slice
    refine Calm.bind (Calm.underlying _) fun d => ?_
    split
    · refine Calm.ite (Calm.bind (Calm.stuck _) fun _ => ?_) ?_
      all_goals exact Calm.bind (Calm.sliceBounds _ _ _ _ _ _) fun _ => Calm.pure _
    · exact Calm.bind (Calm.sliceBounds _ _ _ _ _ _) fun _ => Calm.bind (Calm.sizeOf _) fun _ => Calm.pure _
    · refine Calm.bind (Calm.asAddr _) fun a => Calm.bind (Calm.underlying _) fun d => ?_
      split
      · exact Calm.bind (Calm.sliceBounds _ _ _ _ _ _) fun _ => Calm.bind (Calm.sizeOf _) fun _ => Calm.pure _
      · exact Calm.stuck _
    · exact Calm.stuck _
theorem Calm.indexAt (t : TypeId) (x i : Value) : Calm P (Instr.indexAt t x i) := by
  unfold Instr.indexAt
  refine Calm.bind (Calm.asIntOf _) fun p => Calm.bind (Calm.underlying _) fun d => ?_
  have k : ∀ (a : Option Addr) (len : Nat) (e : TypeId) (tiny : Bool), Calm P (match a with
      | some a => if 0 ≤ p.2 ∧ p.2 < ↑len then do
          let s ← Go.sizeOf e
          Pure.pure (Value.pointer (some (a.add (p.2.toNat * s))))
        else if tiny = true then Go.unsupported (.noEntry "op/indexAddr.an index out of range at an array of length 0 or 1 (ledger 616)") else boundsPanic p.1 p.2 len .index
      | none => boundsPanic p.1 p.2 0 .index) := by
    intro a len e tiny
    split
    · exact Calm.ite (Calm.bind (Calm.sizeOf _) fun _ => Calm.pure _) (Calm.ite (Calm.unsupported _) (Calm.bounds _ _ _ _))
    · exact Calm.bounds _ _ _ _
  dsimp only
  split
  · refine Calm.bind (Calm.sureAddr _) fun a => Calm.bind (Calm.pure _) fun q => Calm.bind (Calm.underlying _) fun d => ?_
    exact k _ _ _ _
  · refine Calm.bind (Calm.pure _) fun q => Calm.bind (Calm.underlying _) fun d => ?_
    exact k _ _ _ _
  · exact Calm.bind (Calm.stuck _) fun q => Calm.bind (Calm.underlying _) fun d => k _ _ _ _
theorem Peeks.of_calm {s : Sem α} (h : Calm P s) : Peeks P s := fun w r w' e => (h w r w' e).1
theorem Peeks.bind {s : Sem α} {f : α → Sem β} (h : Peeks P s) (hf : ∀ a, Peeks P (f a)) : Peeks P (s >>= f) := fun w r w' e => by
  rw [Sem.run_bind] at e
  cases hs : s.run P w with
  | ok a w1 =>
    rw [hs] at e
    exact (hf a _ _ _ e).trans (h w a w1 hs)
  | halt x w1 => rw [hs] at e; simp [Result.andThen] at e
theorem Peeks.load (a : Addr) (m : Mode) : Peeks P (load a m) := fun w r w' e => by
  simp only [Go.load, Sem.run] at e
  split at e
  · simp only [Result.ok.injEq] at e; exact e.2.symm
  · split at e
    · simp only [Result.ok.injEq] at e; exact e.2.symm
    · simp at e
theorem Peeks.loadCellsFrom (a : Addr) : ∀ (n i : Nat) (acc : Array Value), Peeks P (loadCellsFrom a i n acc)
  | 0, i, acc => Peeks.of_calm (Calm.pure _)
  | n + 1, i, acc => Peeks.bind (Peeks.load _ _) fun v => Peeks.loadCellsFrom a n (i + 1) _
theorem Peeks.loadAt (t : TypeId) (x : Value) : Peeks P (Instr.loadAt t x) := by
  unfold Instr.loadAt
  refine Peeks.bind (Peeks.of_calm (Calm.sureAddr _)) fun a => ?_
  unfold Go.loadVar
  refine Peeks.bind (Peeks.of_calm (Calm.isAgg _)) fun b => ?_
  split
  · exact Peeks.bind (Peeks.of_calm (Calm.sizeOf _)) fun n => Peeks.bind (Peeks.loadCellsFrom _ _ _ _) fun c => Peeks.of_calm (Calm.pure _)
  · exact Peeks.load _ _
theorem Calm.binInt (op : BinOp) (t : TypeId) (k k' : IntKind) (a b : Int) : Calm P (binOp op t (.int k a) (.int k' b)) := by
  cases op <;> simp only [binOp] <;> first
    | (unfold Op.shift; refine Calm.ite (Calm.panic _) ?_; exact Calm.pure _)
    | (refine Calm.ite (Calm.stuck _) ?_; unfold Op.intArith; exact Calm.pure _)
    | (refine Calm.ite (Calm.stuck _) ?_; unfold Op.intBits; exact Calm.pure _)
    | (refine Calm.ite (Calm.stuck _) ?_; unfold Op.intCmp; exact Calm.pure _)
    | (refine Calm.ite (Calm.stuck _) ?_; unfold Op.intDiv; exact Calm.ite (Calm.panic _) (Calm.pure _))
theorem Calm.binString (op : BinOp) (t : TypeId) (a b : ByteArray) : Calm P (binOp op t (.string a) (.string b)) := by
  cases op <;> simp only [binOp, Op.stringOp] <;> first
    | exact Calm.pure _
    | exact Calm.stuck _
    | exact Calm.ite (Calm.unsupported _) (Calm.pure _)
theorem Calm.unary (op : UnOp) (x : Value) : Calm P (Op.unary op x) := by
  unfold Op.unary
  split
  all_goals first
    | exact Calm.pure _
    | exact Calm.stuck _
    | exact Calm.unsupported _
    | (unfold Op.intArith; exact Calm.pure _)
    | (unfold Op.intBits; exact Calm.pure _)
theorem Calm.convInt (src dst : TypeId) (d : IntKind) (hd : P.underlying dst = some (.int d)) (k : IntKind) (a : Int) : Calm P (convert src dst (.int k a)) := by
  unfold convert
  refine Calm.bind (Calm.underlying _) fun u => ?_
  intro w r w' e
  rw [Sem.run_bind, show (Go.underlying dst).run P w = .ok (.int d) w from by simp [Go.underlying, hd]] at e
  simp only [Result.andThen] at e
  unfold Conv.intToInt at e
  obtain ⟨rfl, h2⟩ := Calm.pure (P := P) _ w r w' e
  refine ⟨rfl, fun w2 => ?_⟩
  rw [Sem.run_bind, show (Go.underlying dst).run P w2 = .ok (.int d) w2 from by simp [Go.underlying, hd]]
  exact h2 w2
theorem Calm.len (t : TypeId) (ty : TypeId) (a : Option Addr) (n c : Nat) : Calm P (Builtin.len_ #[t] ty #[.slice a n c]) := by
  unfold Builtin.len_
  simp only [List.getElem?_toArray, List.getElem?_cons_zero]
  refine Calm.bind (Calm.underlying _) fun u => ?_
  cases u <;> first
    | exact Calm.pure _
    | exact Calm.stuck _
    | (refine Calm.bind (Calm.underlying _) fun v => ?_; cases v <;> first | exact Calm.pure _ | exact Calm.stuck _)
theorem Calm.lenS (t : TypeId) (ty : TypeId) (s : ByteArray) : Calm P (Builtin.len_ #[t] ty #[.string s]) := by
  unfold Builtin.len_
  simp only [List.getElem?_toArray, List.getElem?_cons_zero]
  refine Calm.bind (Calm.underlying _) fun u => ?_
  cases u <;> first
    | exact Calm.pure _
    | exact Calm.stuck _
    | (refine Calm.bind (Calm.underlying _) fun v => ?_; cases v <;> first | exact Calm.pure _ | exact Calm.stuck _)
end

/-! ## The kinds of operations -/
def fieldOk (P : Program) (s : TypeId) (f : Nat) : Bool :=
  match P.underlying s with
  | some (.struct fs) => match fs[f]? with
    | some fd => match P.info? fd.type with
      | some i => i.size != 0
      | none => false
    | none => false
  | _ => false
def isNew (o : Oper) : Bool := match o.op with | .buildSlice _ _ _ => true | _ => false
def isLoad (o : Oper) : Bool := match o.op with | .load _ _ => true | _ => false
/-- A slice of bytes. -/
def bytesOk (P : Program) (t : TypeId) : Bool :=
  match P.underlying t with
  | some (.slice e) => match P.underlying e with
    | some (.int .u8) => true
    | _ => false
  | _ => false
/-- 0: calm; 1: calm where its operands are plain; 2: it only reads; 3: whatever else. -/
def kind (P : Program) (o : Oper) : Nat :=
  match o.op with
  | .move _ | .assign _ | .pick _ _ _ | .unOp _ _ _ | .extract _ _ | .field _ _ _ | .index _ _ _ | .slice _ _ _ _ _ | .indexAddr _ _ _ => 0
  | .binOp _ _ _ _ _ | .nilCheck _ => 1
  | .convert src dst _ => match P.underlying dst with
    | some (.int _) => 1
    | some .string => if bytesOk P src then 2 else 3
    | _ => 3
  | .fieldAddr s _ f => if fieldOk P s f then 0 else 3
  | .call c => match c.callee with
    | .builtin .len => if c.args.size = 1 ∧ c.argTypes.size = 1 then 1 else 3
    | _ => 3
  | .load _ _ => 2
  | _ => 3
def plain (o : Oper) (ρ : Operand → Value) : Bool :=
  match o.op with
  | .binOp _ _ x y _ => match ρ x, ρ y with
    | .int _ _, .int _ _ => true
    | .string _, .string _ => true
    | _, _ => false
  | .nilCheck x => match ρ x with
    | .pointer _ => true
    | _ => false
  | .convert _ _ x => match ρ x with
    | .int _ _ => true
    | _ => false
  | .call c => match c.args[0]? with
    | some x => match ρ x with
      | .slice _ _ _ => true
      | .string _ => true
      | _ => false
    | none => false
  | _ => true
def plainAt (P : Program) (ops : Array Oper) (a : Act) (o : Oper) : Bool := plain o a.eval || (kind P o != 1 || !(Region.wanted o (yielded ops a.tmps)))

def CalmV (P : Program) (s : Sem Next) : Prop := ∀ w r w', s.run P w = .ok r w' → ∃ v, r = .value v ∧ w' = w ∧ ∀ w2, s.run P w2 = .ok (.value v) w2
def PeekV (P : Program) (s : Sem Next) : Prop := ∀ w r w', s.run P w = .ok r w' → ∃ v, r = .value v ∧ w' = w

section
variable {P : Program}
theorem calmV_of {s : Sem Value} (h : Calm P s) : CalmV P (do pure (.value (← s)) : Sem Next) := fun w r w' e => by
  rw [Sem.run_bind] at e
  cases hs : s.run P w with
  | ok a w1 =>
    obtain ⟨rfl, h2⟩ := h w a w1 hs
    rw [hs] at e
    simp only [Result.andThen, Sem.run_pure, Result.ok.injEq] at e
    obtain ⟨rfl, rfl⟩ := e
    exact ⟨a, rfl, rfl, fun w2 => by rw [Sem.run_bind, h2]; rfl⟩
  | halt x w1 => rw [hs] at e; simp [Result.andThen] at e
theorem peekV_of {s : Sem Value} (h : Peeks P s) : PeekV P (do pure (.value (← s)) : Sem Next) := fun w r w' e => by
  rw [Sem.run_bind] at e
  cases hs : s.run P w with
  | ok a w1 =>
    have h1 := h w a w1 hs
    rw [hs] at e
    simp only [Result.andThen, Sem.run_pure, Result.ok.injEq] at e
    obtain ⟨rfl, rfl⟩ := e
    exact ⟨a, rfl, h1⟩
  | halt x w1 => rw [hs] at e; simp [Result.andThen] at e
theorem calmV_pure (v : Value) : CalmV P (pure (.value v) : Sem Next) := calmV_of (Calm.pure v)

theorem calm_fieldAt {s : TypeId} {f : Nat} (h : fieldOk P s f = true) (x : Value) : Calm P (Instr.fieldAt s x f) := by
  unfold fieldOk at h
  split at h
  · rename_i fs hs
    split at h
    · rename_i fd hf
      split at h
      · rename_i i hi
        have hsz : i.size ≠ 0 := by simpa using h
        have e : ∀ w, (Instr.fieldAt s x f).run P w = (Instr.sureAddr x >>= fun a => pure (.pointer (some (a.add fd.offset))) : Sem Value).run P w := by
          intro w
          unfold Instr.fieldAt
          simp only [Sem.run_bind, underlying, run_program, hs, Result.andThen, Sem.run_pure, hf]
          cases (Instr.sureAddr x).run P w with
          | ok a w1 =>
            unfold fieldPlace
            simp only [Sem.run_bind, sizeOf, typeInfo, run_program, hi, Result.andThen, Sem.run_pure, if_neg hsz]
          | halt y w1 => rfl
        have hc : Calm P (Instr.sureAddr x >>= fun a => pure (.pointer (some (a.add fd.offset))) : Sem Value) := Calm.bind (Calm.sureAddr _) fun _ => Calm.pure _
        intro w r w' hr
        rw [e] at hr
        obtain ⟨h1, h2⟩ := hc w r w' hr
        exact ⟨h1, fun w2 => by rw [e]; exact h2 w2⟩
      · cases h
    · cases h
  · cases h

theorem calm_exec {o : Oper} {ρ : Operand → Value} (h : kind P o = 0 ∨ kind P o = 1 ∧ plain o ρ = true) : CalmV P (execOp ρ o) := by
  obtain ⟨dst, op, type, pos, after, guard⟩ := o
  cases op <;> simp only [kind] at h <;> try (simp at h; done)
  case move x => exact calmV_pure _
  case assign x => exact calmV_pure _
  case pick c a b =>
    intro w r w' e
    have hc := Calm.asBool (P := P) (ρ c)
    simp only [execOp, Sem.run_bind] at e ⊢
    cases hs : (asBool (ρ c)).run P w with
    | ok b1 w1 =>
      obtain ⟨rfl, h2⟩ := hc w b1 w1 hs
      rw [hs] at e
      simp only [Result.andThen, Sem.run_pure, Result.ok.injEq] at e
      obtain ⟨rfl, rfl⟩ := e
      exact ⟨_, rfl, rfl, fun w2 => by rw [h2]; rfl⟩
    | halt y w1 => rw [hs] at e; simp [Result.andThen] at e
  case unOp op t x => exact calmV_of (Calm.unary _ _)
  case extract t i => exact calmV_of (Calm.extract _ _)
  case field t x i => exact calmV_of (Calm.field _ _ _)
  case index t x i => exact calmV_of (Calm.index _ _ _)
  case slice t x lo hi mx => exact calmV_of (Calm.sliceAt _ _ _ _ _)
  case indexAddr t x i => exact calmV_of (Calm.indexAt _ _ _)
  case fieldAddr s x f =>
    by_cases hf : fieldOk P s f = true
    · exact calmV_of (calm_fieldAt hf _)
    · simp [hf] at h
  case binOp op t x y b =>
    have hp : plain ⟨dst, .binOp op t x y b, type, pos, after, guard⟩ ρ = true := by simpa using h
    simp only [plain] at hp
    refine calmV_of ?_
    split at hp
    · rename_i k1 a1 k2 a2 e1 e2
      rw [e1, e2]
      refine Calm.bind ?_ fun _ => Calm.binInt _ _ _ _ _ _
      unfold eqGuard
      refine Calm.ite (Calm.pure _) ?_
      exact Calm.pure _
    · rename_i s1 s2 e1 e2
      rw [e1, e2]
      refine Calm.bind ?_ fun _ => Calm.binString _ _ _ _
      unfold eqGuard
      refine Calm.ite (Calm.pure _) ?_
      exact Calm.pure _
    · cases hp
  case nilCheck x =>
    have hp : plain ⟨dst, .nilCheck x, type, pos, after, guard⟩ ρ = true := by simpa using h
    simp only [plain] at hp
    split at hp
    · rename_i a e1
      simp only [execOp, e1]
      cases a with
      | none =>
        intro w r w' e
        exact absurd e (dead_panic (P := P) _ w r w')
      | some a => exact calmV_pure _
    · cases hp
  case convert src dst' x =>
    split at h
    · rename_i k hk
      have hp : plain ⟨dst, .convert src dst' x, type, pos, after, guard⟩ ρ = true := by simpa using h
      simp only [plain] at hp
      split at hp
      · rename_i k1 a1 e1
        simp only [execOp, e1]
        exact calmV_of (Calm.convInt _ _ k hk _ _)
      · cases hp
    · (repeat' split at h) <;> simp at h
    · simp at h
  case call c =>
    obtain ⟨callee, args, argTypes⟩ := c
    cases callee with
    | builtin b =>
      cases b <;> try (simp at h; done)
      case len =>
        by_cases hsz : args.size = 1 ∧ argTypes.size = 1
        rotate_left
        · simp [hsz] at h
        have hp : plain ⟨dst, .call ⟨.builtin .len, args, argTypes⟩, type, pos, after, guard⟩ ρ = true := by
          rcases h with h | h
          · simp [hsz] at h
          · exact h.2
        obtain ⟨x, rfl⟩ : ∃ x, args = #[x] := by
          obtain ⟨l⟩ := args
          match l, hsz.1 with
          | [x], _ => exact ⟨x, rfl⟩
        obtain ⟨t, rfl⟩ : ∃ x, argTypes = #[x] := by
          obtain ⟨l⟩ := argTypes
          match l, hsz.2 with
          | [x], _ => exact ⟨x, rfl⟩
        simp only [plain, List.getElem?_toArray, List.getElem?_cons_zero] at hp
        have e : ∀ w, (execOp ρ ⟨dst, .call ⟨.builtin .len, #[x], #[t]⟩, type, pos, after, guard⟩).run P w = (do pure (.value (← Builtin.len_ #[t] type #[ρ x])) : Sem Next).run P w := by
          intro w
          simp [execOp, resolve, invoke, builtin]
        have hc : CalmV P (do pure (.value (← Builtin.len_ #[t] type #[ρ x])) : Sem Next) := by
          split at hp
          · rename_i a n c e1; rw [e1]; exact calmV_of (Calm.len _ _ _ _ _)
          · rename_i s e1; rw [e1]; exact calmV_of (Calm.lenS _ _ _)
          · cases hp
        intro w r w' hr
        rw [e] at hr
        obtain ⟨v, h1, h2, h3⟩ := hc w r w' hr
        exact ⟨v, h1, h2, fun w2 => by rw [e]; exact h3 w2⟩
    | value f => simp at h
    | invoke r m => simp at h
theorem Peeks.pure {α : Type} (a : α) : Peeks P (pure a : Sem α) := Peeks.of_calm (Calm.pure a)
theorem Peeks.forIn_list {α β : Type} (f : α → β → Sem (ForInStep β)) (hf : ∀ a b, Peeks P (f a b)) : ∀ (l : List α) (b : β), Peeks P (forIn l b f)
  | [], b => by rw [List.forIn_nil]; exact Peeks.pure b
  | a :: l, b => by
    rw [List.forIn_cons]
    refine Peeks.bind (hf a b) fun s => ?_
    cases s with
    | done b => exact Peeks.pure b
    | yield b => exact Peeks.forIn_list f hf l b
theorem Peeks.bytesToString (x : Value) : Peeks P (Conv.bytesToString x) := by
  unfold Conv.bytesToString
  split
  · exact Peeks.pure _
  · refine Peeks.bind (Peeks.loadCellsFrom _ _ _ _) fun c => ?_
    rw [← Array.forIn_toList]
    refine Peeks.bind (Peeks.forIn_list _ (fun a b => ?_) _ _) fun s => Peeks.pure _
    split
    · exact Peeks.pure _
    · exact Peeks.of_calm (Calm.stuck _)
  · exact Peeks.of_calm (Calm.stuck _)
theorem Peeks.convBytes {src dst : TypeId} (hb : bytesOk P src = true) (hd : P.underlying dst = some .string) (x : Value) : Peeks P (convert src dst x) := by
  unfold bytesOk at hb
  split at hb
  · rename_i e hs
    split at hb
    · rename_i he
      have hr : ∀ t, P.underlying t = some (.int .u8) → ∀ w, (underlying t).run P w = .ok (.int .u8) w := fun t ht w => by simp [underlying, ht]
      intro w r w' h
      unfold convert at h
      have h1 : (underlying src).run P w = .ok (.slice e) w := by simp [underlying, hs]
      have h2 : (underlying dst).run P w = .ok .string w := by simp [underlying, hd]
      simp only [Sem.run_bind, h1, h2, Result.andThen] at h
      split at h
      all_goals first
        | contradiction
        | (simp only [Conv.intToString, Sem.run_pure, Result.ok.injEq] at h; exact h.2.symm)
        | (simp only [Sem.run_stuck] at h; cases h)
        | (injections
           subst_vars
           simp only [Sem.run_bind, hr _ he, Result.andThen] at h
           exact Peeks.bytesToString _ _ _ _ h)
    · cases hb
  · cases hb
theorem peek_exec {o : Oper} {ρ : Operand → Value} (h : kind P o = 2) : PeekV P (execOp ρ o) := by
  obtain ⟨dst, op, type, pos, after, guard⟩ := o
  cases op <;> simp only [kind] at h <;> try (simp at h; done)
  case load t x => exact peekV_of (Peeks.loadAt _ _)
  case convert src dst' x =>
    split at h
    · simp at h
    · rename_i hd
      by_cases hb : bytesOk P src = true
      · exact peekV_of (Peeks.convBytes hb hd _)
      · simp [hb] at h
    · simp at h
  all_goals (repeat' split at h) <;> simp at h
end

theorem heap_kept {w : World} {o : Obj} {b : Nat} {x : Obj} (h : w.heap[b]? = some x) : (w.alloc o).heap[b]? = some x := by
  rw [Below.heap_alloc w o b (Array.getElem?_eq_some_iff.1 h).1]; exact h
theorem seen_kept {P : Program} {w : World} {o : Obj} {at_ : Addr} {u : TypeId} {k : Addr} {m : Bool} {r} (h : World.seen P w at_ u k m = .ok r) : World.seen P (w.alloc o) at_ u k m = .ok r := by
  cases hb : w.heap[at_.block]? with
  | some x =>
    have := heap_kept (o := o) hb
    unfold World.seen at h ⊢
    rw [this]
    rw [hb] at h
    exact h
  | none =>
    exfalso
    unfold World.seen at h
    rw [hb] at h
    simp only [bind, Except.bind, throw, throwThe, MonadExceptOf.throw] at h
    repeat' split at h
    all_goals simp_all
theorem view_kept {P : Program} {w : World} {o : Obj} {at_ : Addr} {u : TypeId} {k : Addr} {m : Bool} {r} (h : World.viewLoad P w at_ u k m = .ok r) : World.viewLoad P (w.alloc o) at_ u k m = .ok r := by
  unfold World.viewLoad at h ⊢
  cases hs : World.seen P w at_ u k m with
  | error e => rw [hs] at h; cases h
  | ok q => rw [seen_kept hs]; rw [hs] at h; exact h
theorem far_kept {P : Program} {w : World} {o : Obj} {a : Addr} {m : Bool} {r} (h : World.farLoad P w a m = .ok r) : World.farLoad P (w.alloc o) a m = .ok r ∧ (w.alloc o).cell? a = w.cell? a := by
  unfold World.farLoad at h ⊢
  split at h
  · rename_i at_ u hb
    split at h
    · rename_i r' hv
      rw [heap_kept hb]
      simp only [view_kept hv]
      exact ⟨h, by unfold World.cell?; rw [heap_kept hb, hb]⟩
    · cases h
  · cases h
/-- It only reads, and reads the same behind an allocation. -/
def Kept {α : Type} (P : Program) (s : Sem α) : Prop := ∀ w r w', s.run P w = .ok r w' → w' = w ∧ ∀ o, s.run P (w.alloc o) = .ok r (w.alloc o)
section
variable {P : Program} {α β : Type}
theorem Kept.of_calm {s : Sem α} (h : Calm P s) : Kept P s := fun w r w' e => ⟨(h w r w' e).1, fun o => (h w r w' e).2 _⟩
theorem Kept.bind {s : Sem α} {f : α → Sem β} (h : Kept P s) (hf : ∀ a, Kept P (f a)) : Kept P (s >>= f) := fun w r w' e => by
  rw [Sem.run_bind] at e
  cases hs : s.run P w with
  | ok a w1 =>
    obtain ⟨rfl, h2⟩ := h w a w1 hs
    rw [hs] at e
    obtain ⟨rfl, h3⟩ := hf a _ _ _ e
    exact ⟨rfl, fun o => by rw [Sem.run_bind, h2]; exact h3 o⟩
  | halt x w1 => rw [hs] at e; simp [Result.andThen] at e
theorem Kept.load (a : Addr) (m : Mode) : Kept P (load a m) := fun w r w' e => by
  simp only [Go.load, Sem.run] at e ⊢
  cases hc : w.cell? a with
  | some v =>
    rw [hc] at e
    simp only [Result.ok.injEq] at e
    obtain ⟨rfl, rfl⟩ := e
    refine ⟨rfl, fun o => ?_⟩
    have : (w.alloc o).cell? a = some v := by
      unfold World.cell? at hc ⊢
      split at hc
      · rename_i hb; rw [heap_kept hb]; exact hc
      · cases hc
    rw [this]
  | none =>
    rw [hc] at e
    simp only at e
    cases hf : World.farLoad P w a (m == .atomic) with
    | ok q =>
      rw [hf] at e
      simp only [Result.ok.injEq] at e
      obtain ⟨rfl, rfl⟩ := e
      refine ⟨rfl, fun o => ?_⟩
      obtain ⟨h1, h2⟩ := far_kept (o := o) hf
      rw [h2, hc]
      simp only [h1]
    | error x => rw [hf] at e; simp at e
theorem Kept.loadCellsFrom (a : Addr) : ∀ (n i : Nat) (acc : Array Value), Kept P (loadCellsFrom a i n acc)
  | 0, i, acc => Kept.of_calm (Calm.pure _)
  | n + 1, i, acc => Kept.bind (Kept.load _ _) fun v => Kept.loadCellsFrom a n (i + 1) _
theorem Kept.loadAt (t : TypeId) (x : Value) : Kept P (Instr.loadAt t x) := by
  unfold Instr.loadAt
  refine Kept.bind (Kept.of_calm (Calm.sureAddr _)) fun a => ?_
  unfold Go.loadVar
  refine Kept.bind (Kept.of_calm (Calm.isAgg _)) fun b => ?_
  split
  · exact Kept.bind (Kept.of_calm (Calm.sizeOf _)) fun n => Kept.bind (Kept.loadCellsFrom _ _ _ _) fun c => Kept.of_calm (Calm.pure _)
  · exact Kept.load _ _
end
section
variable {P : Program}
def KeptV (P : Program) (s : Sem Next) : Prop := ∀ w r w', s.run P w = .ok r w' → ∃ v, r = .value v ∧ w' = w ∧ ∀ o, s.run P (w.alloc o) = .ok (.value v) (w.alloc o)
/-- It lays one new block. -/
def AllocV (P : Program) (s : Sem Next) : Prop := ∀ w r w', s.run P w = .ok r w' → ∃ v o, r = .value v ∧ w' = w.alloc o
theorem keptV_of {s : Sem Value} (h : Kept P s) : KeptV P (do pure (.value (← s)) : Sem Next) := fun w r w' e => by
  rw [Sem.run_bind] at e
  cases hs : s.run P w with
  | ok a w1 =>
    obtain ⟨rfl, h2⟩ := h w a w1 hs
    rw [hs] at e
    simp only [Result.andThen, Sem.run_pure, Result.ok.injEq] at e
    obtain ⟨rfl, rfl⟩ := e
    exact ⟨a, rfl, rfl, fun o => by rw [Sem.run_bind, h2]; rfl⟩
  | halt x w1 => rw [hs] at e; simp [Result.andThen] at e
theorem kept_exec {o : Oper} {ρ : Operand → Value} (h : isLoad o = true) : KeptV P (execOp ρ o) := by
  obtain ⟨dst, op, type, pos, after, guard⟩ := o
  cases op <;> simp only [isLoad] at h <;> try (simp at h; done)
  case load t x => exact keptV_of (Kept.loadAt _ _)
def Allocs {α : Type} (P : Program) (s : Sem α) : Prop := ∀ w r w', s.run P w = .ok r w' → ∃ o, w' = w.alloc o
theorem Allocs.bind {α β : Type} {s : Sem α} {f : α → Sem β} (h : Peeks P s) (hf : ∀ a, Allocs P (f a)) : Allocs P (s >>= f) := fun w r w' e => by
  rw [Sem.run_bind] at e
  cases hs : s.run P w with
  | ok a w1 =>
    obtain rfl := h w a w1 hs
    rw [hs] at e
    exact hf a _ _ _ e
  | halt x w1 => rw [hs] at e; simp [Result.andThen] at e
theorem Allocs.then {α β : Type} {s : Sem α} {f : α → Sem β} (h : Allocs P s) (hf : ∀ a, Peeks P (f a)) : Allocs P (s >>= f) := fun w r w' e => by
  rw [Sem.run_bind] at e
  cases hs : s.run P w with
  | ok a w1 =>
    obtain ⟨o, rfl⟩ := h w a w1 hs
    rw [hs] at e
    obtain rfl := hf a _ _ _ e
    exact ⟨o, rfl⟩
  | halt x w1 => rw [hs] at e; simp [Result.andThen] at e
theorem Calm.typeInfo (t : TypeId) : Calm P (typeInfo t) := by
  unfold Go.typeInfo
  refine Calm.bind Calm.program fun p => ?_
  split
  · exact Calm.pure _
  · exact Calm.stuck _
theorem Calm.zeroValue (t : TypeId) : Calm P (zeroValue t) := by
  unfold Go.zeroValue
  refine Calm.bind (Calm.typeInfo _) fun i => ?_
  split
  · exact Calm.pure _
  · exact Calm.unsupported _
theorem Allocs.newRow (t : TypeId) (cs : Array Value) : Allocs P (newRow t cs) := fun w r w' e => by
  simp only [Go.newRow, Sem.run_bind, newObj, Sem.run, Result.andThen, Sem.run_pure, Result.ok.injEq] at e
  exact ⟨_, e.2.symm⟩
theorem Allocs.stuck {α : Type} (why : String) : Allocs P (stuck why : Sem α) := fun w r w' h => by simp at h
theorem Allocs.unsupported {α : Type} (u : Unsupported) : Allocs P (unsupported u : Sem α) := fun w r w' h => by simp at h
theorem Allocs.buildSlice (t : TypeId) (n : Nat) (ps : Array (Nat × Value)) : Allocs P (Instr.buildSlice t n ps) := by
  unfold Instr.buildSlice
  repeat' first
    | with_reducible refine Allocs.stuck _
    | with_reducible refine Allocs.unsupported _
    | with_reducible refine Allocs.bind (Peeks.of_calm (Calm.underlying _)) fun _ => ?_
    | with_reducible refine Allocs.bind (Peeks.of_calm (Calm.sizeOf _)) fun _ => ?_
    | with_reducible refine Allocs.bind (Peeks.of_calm (Calm.zeroValue _)) fun _ => ?_
    | with_reducible refine Allocs.bind (Peeks.of_calm (Calm.unsupported _)) fun _ => ?_
    | with_reducible refine Allocs.bind (Peeks.pure _) fun _ => ?_
    | with_reducible refine Allocs.then (Allocs.newRow _ _) fun _ => Peeks.pure _
    | split
    | (dsimp only; split)
theorem Allocs.dead {α : Type} {s : Sem α} (h : Calm P s) (hd : ∀ w r w', s.run P w ≠ .ok r w') : Allocs P s := fun w r w' e => absurd e (hd w r w')
end

section
variable {P : Program}
theorem alloc_exec {o : Oper} {ρ : Operand → Value} (h : isNew o = true) : AllocV P (execOp ρ o) := by
  obtain ⟨dst, op, type, pos, after, guard⟩ := o
  cases op <;> simp only [isNew] at h <;> try (simp at h; done)
  case buildSlice t n ps =>
    intro w r w' e
    have e' : ((do pure (.value (← Instr.buildSlice t n (ps.map fun (i, x) => (i, ρ x)))) : Sem Next)).run P w = .ok r w' := e
    rw [Sem.run_bind] at e'
    cases hs : (Instr.buildSlice t n (ps.map fun (i, x) => (i, ρ x))).run P w with
    | ok a w1 =>
      obtain ⟨o, rfl⟩ := Allocs.buildSlice _ _ _ w a w1 hs
      rw [hs] at e'
      simp only [Result.andThen, Sem.run_pure, Result.ok.injEq] at e'
      exact ⟨a, o, e'.1.symm, e'.2.symm⟩
    | halt x w1 => rw [hs] at e'; simp [Result.andThen] at e'
end
/-! ## Two neighbours change places -/
/-- No way out of the region but its end. -/
def NoQ (Q : Exit → Act → World → Prop) : Prop := (∀ a w, ¬ Q .outgrown a w) ∧ ∀ c a w, ¬ Q (.panic c) a w
def stepO (P : Program) (ops : Array Oper) (Q : Exit → Act → World → Prop) (o : Oper) (K : Act → World → Prop) (a : Act) (w : World) : Prop :=
  if Region.wanted o (yielded ops a.tmps) then o.wp P a w K Q ∨ (o.asks P a w ∧ LetsOut Q) else K (a.put o.dst undef) w

section
variable {P : Program} {ops : Array Oper} {Q : Exit → Act → World → Prop}
theorem stepO_eq (hQ : NoQ Q) (o : Oper) (K : Act → World → Prop) (a : Act) (w : World) :
    stepO P ops Q o K a w ↔ if Region.wanted o (yielded ops a.tmps) then o.wp P a w K Q else K (a.put o.dst undef) w := by
  unfold stepO
  split
  · exact ⟨fun h => h.resolve_right fun ⟨_, a, w, h⟩ => hQ.1 a w h, .inl⟩
  · exact Iff.rfl
theorem stepO_mono {o : Oper} {K K' : Act → World → Prop} {a : Act} {w : World} (h : ∀ a w, K a w → K' a w) (hh : stepO P ops Q o K a w) : stepO P ops Q o K' a w := by
  unfold stepO at *
  split
  · rename_i hw; simp only [hw, if_true] at hh; exact hh.imp (Oper.wp_mono h) id
  · rename_i hw; simp only [hw] at hh; exact h _ _ hh

/-- The same outcome, behind another frame. -/
theorem upon_conv (hQ : NoQ Q) {o : Oper} {a1 a2 : Act} {K1 K2 : Act → World → Prop} {r : Result Next} (h : ∀ v w', K1 (a1.put o.dst v) w' → K2 (a2.put o.dst v) w')
    (hd : ∀ d w', K1 ({ a1 with defers := d :: a1.defers }.put o.dst undef) w' → K2 ({ a2 with defers := d :: a2.defers }.put o.dst undef) w') (hh : o.upon P a1 K1 Q r) : o.upon P a2 K2 Q r := by
  cases r with
  | ok n w' =>
    cases n <;> simp only [Oper.upon] at hh ⊢
    case value v => exact h _ _ hh
    case skip => exact h _ _ hh
    case defer d => exact hd _ _ hh
    case enter f args =>
      refine hh.mono fun e w'' he => ?_
      cases e with
      | returned v => exact h _ _ he
      | panicked c => exact absurd he (hQ.2 _ _ _)
      | outgrown => exact absurd he fun ⟨a, w, h⟩ => hQ.1 a w h
    case row row args => exact Rows.mono hh fun v w'' he => h _ _ he
  | halt x w' =>
    cases x <;> simp only [Oper.upon] at hh ⊢
    exact absurd hh (hQ.2 _ _ _)
/-- There is an outcome. -/
theorem upon_some (hQ : NoQ Q) {o : Oper} {a : Act} {K : Act → World → Prop} {r : Result Next} (hh : o.upon P a K Q r) :
    ∃ (b : Act) (v : Value) (w' : World), K (b.put o.dst v) w' ∧ b.tmps = a.tmps := by
  cases r with
  | ok n w' =>
    cases n <;> simp only [Oper.upon] at hh
    case value v => exact ⟨a, v, w', hh, rfl⟩
    case skip => exact ⟨a, undef, w', hh, rfl⟩
    case defer d => exact ⟨_, undef, w', hh, rfl⟩
    case enter f args =>
      obtain ⟨e, w'', fr, he, _⟩ := hh []
      cases e with
      | returned v => exact ⟨a, v, w'', he, rfl⟩
      | panicked c => exact absurd he (hQ.2 _ _ _)
      | outgrown => exact absurd he fun ⟨a, w, h⟩ => hQ.1 a w h
    case row row args =>
      obtain ⟨v, w'', he, _⟩ := hh (Frame.enter P 0 #[] .normal) []
      exact ⟨a, v, w'', he, rfl⟩
  | halt x w' =>
    cases x <;> simp only [Oper.upon] at hh
    exact absurd hh (hQ.2 _ _ _)
theorem eval_of_tmps {a b : Act} (h : b.tmps = a.tmps) : b.eval = a.eval := by funext x; cases x <;> simp [Act.eval, h]
theorem stepO_some (hQ : NoQ Q) {o : Oper} {a : Act} {w : World} {K : Act → World → Prop} (hh : stepO P ops Q o K a w) : ∃ (b : Act) (v : Value) (w' : World), K (b.put o.dst v) w' ∧ b.tmps = a.tmps := by
  rw [stepO_eq hQ] at hh
  split at hh
  · exact upon_some hQ hh
  · exact ⟨a, undef, w, hh, rfl⟩

theorem put_put (a : Act) {x y : Oper} (hap : x.apart ops y = true) (v u : Value) : (a.put x.dst v).put y.dst u = (a.put y.dst u).put x.dst v :=
  (Act.put_comm a v u (Oper.apart_spec hap).2.1)

theorem tmps_put (a b : Act) (h : b.tmps = a.tmps) (d : Option Tmp) (v : Value) : (b.put d v).tmps = (a.put d v).tmps := by cases d <;> simp [Act.put, h]

/-- Operations x, y, the one behind the other: y may come first. -/
theorem swap (hQ : NoQ Q) {x y : Oper} (hx : ∀ cs b, x.op ≠ .select cs b) (hy : ∀ cs b, y.op ≠ .select cs b) (hap : x.apart ops y = true) {a : Act} {w : World} {K : Act → World → Prop}
    (hc : (Region.wanted x (yielded ops a.tmps) = true → CalmV P (execOp a.eval x)) ∨ (Region.wanted y (yielded ops a.tmps) = true → CalmV P (execOp a.eval y)) ∨
      ((Region.wanted x (yielded ops a.tmps) = true → PeekV P (execOp a.eval x)) ∧ (Region.wanted y (yielded ops a.tmps) = true → PeekV P (execOp a.eval y))) ∨
      ((Region.wanted x (yielded ops a.tmps) = true → KeptV P (execOp a.eval x)) ∧ (Region.wanted y (yielded ops a.tmps) = true → AllocV P (execOp a.eval y))))
    (h : stepO P ops Q x (stepO P ops Q y K) a w) : stepO P ops Q y (stepO P ops Q x K) a w := by
  obtain ⟨h1, h2, h3⟩ := Oper.apart_spec hap
  have ey : ∀ (b : Act) v, execOp (b.put x.dst v).eval y = execOp b.eval y := fun b v => execOp_put y hy b x.dst v h1
  have ex : ∀ (b : Act) v, execOp (b.put y.dst v).eval x = execOp b.eval x := fun b v => execOp_put x hx b y.dst v h3
  have wy : ∀ (b : Act) v, Region.wanted y (yielded ops (b.put x.dst v).tmps) = Region.wanted y (yielded ops b.tmps) := fun b v => wanted_put y b x.dst v h1
  have wx : ∀ (b : Act) v, Region.wanted x (yielded ops (b.put y.dst v).tmps) = Region.wanted x (yielded ops b.tmps) := fun b v => wanted_put x b y.dst v h3
  have pc : ∀ (b : Act) v u, (b.put x.dst v).put y.dst u = (b.put y.dst u).put x.dst v := fun b v u => Act.put_comm b v u h2
  rw [stepO_eq hQ] at h ⊢
  by_cases tx : Region.wanted x (yielded ops a.tmps) = true
  rotate_left
  · -- x does not run
    simp only [tx] at h
    rw [if_neg (by simp), stepO_eq hQ] at h
    by_cases ty : Region.wanted y (yielded ops a.tmps) = true
    · rw [if_pos (by rw [wy]; exact ty)] at h
      rw [if_pos ty]
      unfold Oper.wp at h ⊢
      rw [ey] at h
      refine upon_conv hQ (fun v w' hk => ?_) (fun d w' hk => ?_) h
      · rw [stepO_eq hQ, if_neg (by rw [wx]; simpa using tx), ← pc]; exact hk
      · rw [stepO_eq hQ, if_neg (by rw [wx]; simpa using tx), ← pc]; rw [Act.put_defers] at hk; exact hk
    · rw [if_neg (by rw [wy]; simpa using ty)] at h
      rw [if_neg ty, stepO_eq hQ, if_neg (by rw [wx]; simpa using tx), ← pc]; exact h
  rw [if_pos tx] at h
  by_cases ty : Region.wanted y (yielded ops a.tmps) = true
  rotate_left
  · -- y does not run
    rw [if_neg ty, stepO_eq hQ, if_pos (by rw [wx]; exact tx)]
    unfold Oper.wp at h ⊢
    rw [ex]
    refine upon_conv hQ (fun v w' hk => ?_) (fun d w' hk => ?_) h
    · rw [stepO_eq hQ, if_neg (by rw [wy]; simpa using ty), pc] at hk; exact hk
    · rw [stepO_eq hQ, if_neg (by rw [wy]; simpa using ty), pc] at hk; rw [Act.put_defers]; exact hk
  rw [if_pos ty]
  -- both run
  have use : ∀ v, (∀ w2, (execOp a.eval x).run P w2 = .ok (.value v) w2) → y.wp P (a.put x.dst v) w K Q → y.wp P a w (stepO P ops Q x K) Q := by
    intro v hv hy'
    unfold Oper.wp at hy' ⊢
    rw [ey] at hy'
    refine upon_conv hQ (fun u w' hk => ?_) (fun d w' hk => ?_) hy'
    · rw [stepO_eq hQ, if_pos (by rw [wx]; exact tx)]
      unfold Oper.wp
      rw [ex, hv]
      show K _ _
      rw [← pc]; exact hk
    · rw [stepO_eq hQ, if_pos (by rw [wx]; exact tx)]
      unfold Oper.wp
      rw [ex]
      show Oper.upon P x _ K Q ((execOp a.eval x).run P w')
      rw [hv]
      show K _ _
      rw [← pc]; rw [Act.put_defers] at hk; exact hk
  rcases hc with hc | hc | ⟨hc, hc'⟩ | ⟨hc, hc'⟩
  · -- x is calm
    have hc := hc tx
    unfold Oper.wp at h
    cases hr : (execOp a.eval x).run P w with
    | ok r w1 =>
      obtain ⟨v, rfl, rfl, hv⟩ := hc w r w1 hr
      rw [hr] at h
      have h' : stepO P ops Q y K (a.put x.dst v) w1 := h
      rw [stepO_eq hQ, if_pos (by rw [wy]; exact ty)] at h'
      exact use v hv h'
    | halt z w1 =>
      rw [hr] at h
      cases z <;> simp only [Oper.upon] at h
      exact absurd h (hQ.2 _ _ _)
  · -- y is calm
    have hc := hc ty
    have hval : ∃ v, ∀ w2, (execOp a.eval y).run P w2 = .ok (.value v) w2 := by
      obtain ⟨b, u, w', hk, hb⟩ := upon_some hQ h
      rw [stepO_eq hQ, if_pos (by rw [tmps_put a b hb, wy]; exact ty)] at hk
      unfold Oper.wp at hk
      rw [ey, eval_of_tmps hb] at hk
      cases hr : (execOp a.eval y).run P w' with
      | ok r w1 =>
        obtain ⟨v, rfl, rfl, hv⟩ := hc w' r w1 hr
        exact ⟨v, hv⟩
      | halt z w1 =>
        rw [hr] at hk
        cases z <;> simp only [Oper.upon] at hk
        exact absurd hk (hQ.2 _ _ _)
    obtain ⟨v, hv⟩ := hval
    unfold Oper.wp
    rw [hv]
    show stepO P ops Q x K (a.put y.dst v) w
    rw [stepO_eq hQ, if_pos (by rw [wx]; exact tx)]
    unfold Oper.wp at h ⊢
    rw [ex]
    refine upon_conv hQ (fun u w' hk => ?_) (fun d w' hk => ?_) h
    · rw [stepO_eq hQ, if_pos (by rw [wy]; exact ty)] at hk
      unfold Oper.wp at hk
      rw [ey, hv] at hk
      have hk' : K ((a.put x.dst u).put y.dst v) w' := hk
      rw [pc] at hk'; exact hk'
    · rw [stepO_eq hQ, if_pos (by rw [wy]; exact ty)] at hk
      unfold Oper.wp at hk
      rw [ey] at hk
      have hk1 : Oper.upon P y (Act.put { a with defers := d :: a.defers } x.dst undef) K Q ((execOp a.eval y).run P w') := hk
      rw [hv] at hk1
      have hk' : K ((Act.put { a with defers := d :: a.defers } x.dst undef).put y.dst v) w' := hk1
      rw [pc] at hk'; rw [Act.put_defers]; exact hk'
  · -- both only read
    have hc := hc tx
    have hc' := hc' ty
    unfold Oper.wp at h
    cases hr : (execOp a.eval x).run P w with
    | ok r w1 =>
      obtain ⟨v, rfl, rfl⟩ := hc w r w1 hr
      rw [hr] at h
      have h' : stepO P ops Q y K (a.put x.dst v) w1 := h
      rw [stepO_eq hQ, if_pos (by rw [wy]; exact ty)] at h'
      unfold Oper.wp at h' ⊢
      rw [ey] at h'
      cases hr' : (execOp a.eval y).run P w1 with
      | ok r2 w2 =>
        obtain ⟨u, rfl, rfl⟩ := hc' w1 r2 w2 hr'
        rw [hr'] at h'
        have h'' : K ((a.put x.dst v).put y.dst u) w2 := h'
        show stepO P ops Q x K (a.put y.dst u) w2
        rw [stepO_eq hQ, if_pos (by rw [wx]; exact tx)]
        unfold Oper.wp
        rw [ex, hr]
        show K _ _
        rw [← pc]; exact h''
      | halt z w2 =>
        rw [hr'] at h'
        cases z <;> simp only [Oper.upon] at h'
        exact absurd h' (hQ.2 _ _ _)
    | halt z w1 =>
      rw [hr] at h
      cases z <;> simp only [Oper.upon] at h
      exact absurd h (hQ.2 _ _ _)
  · -- x reads, y lays a new block
    have hc := hc tx
    have hc' := hc' ty
    unfold Oper.wp at h
    cases hr : (execOp a.eval x).run P w with
    | ok r w1 =>
      obtain ⟨v, rfl, rfl, hkept⟩ := hc w r w1 hr
      rw [hr] at h
      have h' : stepO P ops Q y K (a.put x.dst v) w1 := h
      rw [stepO_eq hQ, if_pos (by rw [wy]; exact ty)] at h'
      unfold Oper.wp at h' ⊢
      rw [ey] at h'
      cases hr' : (execOp a.eval y).run P w1 with
      | ok r2 w2 =>
        obtain ⟨u, o, rfl, rfl⟩ := hc' w1 r2 w2 hr'
        rw [hr'] at h'
        have h'' : K ((a.put x.dst v).put y.dst u) (w1.alloc o) := h'
        show stepO P ops Q x K (a.put y.dst u) (w1.alloc o)
        rw [stepO_eq hQ, if_pos (by rw [wx]; exact tx)]
        unfold Oper.wp
        rw [ex, hkept o]
        show K _ _
        rw [← pc]; exact h''
      | halt z w2 =>
        rw [hr'] at h'
        cases z <;> simp only [Oper.upon] at h'
        exact absurd h' (hQ.2 _ _ _)
    | halt z w1 =>
      rw [hr] at h
      cases z <;> simp only [Oper.upon] at h
      exact absurd h (hQ.2 _ _ _)
end

/-! ## Every order -/
def maskOf (acc : List Nat) (o : Oper) : Nat := o.after.toList.foldl (fun m e => if Region.binds .any e then m ||| (1 <<< e.on) ||| acc.getD e.on 0 else m) 0
/-- Of each operation: which others it waits for, through others too. -/
def masks (l : List Oper) : List Nat := l.foldl (fun acc o => acc ++ [maskOf acc o]) []
def writes (z o : Oper) (ops : Array Oper) : Bool := match z.dst with
  | some d => (o.looksAt ops).contains d
  | none => false
def drawOk (P : Program) (ops : Array Oper) : Bool :=
  let ms := masks ops.toList
  Region.noSelect ops && (List.range ops.size).all fun j => match ops[j]? with
    | none => false
    | some y => (y.after.all fun e => !Region.binds .any e || decide (e.on < j)) && (kind P y != 1 || !writes y y ops) && (List.range j).all fun i => match ops[i]? with
      | none => false
      | some x => (kind P x != 1 || !writes y x ops) && ((ms.getD j 0).testBit i || (x.apart ops y && (decide (kind P x ≤ 1) || decide (kind P y ≤ 1) || (kind P x == 2 && kind P y == 2) || (isLoad x && isNew y))))

section
variable {P : Program} {ops : Array Oper} {Q : Exit → Act → World → Prop}
theorem foldl_mask (acc : List Nat) (x : Nat) : ∀ (l : List Edge) (m : Nat), (l.foldl (fun m e => if Region.binds .any e then m ||| (1 <<< e.on) ||| acc.getD e.on 0 else m) m).testBit x = true →
    m.testBit x = true ∨ ∃ e ∈ l, Region.binds .any e = true ∧ (e.on = x ∨ (acc.getD e.on 0).testBit x = true)
  | [], m, h => .inl h
  | e :: l, m, h => by
    rw [List.foldl_cons] at h
    rcases foldl_mask acc x l _ h with h | ⟨e', he, h⟩
    · split at h
      · rename_i hb
        simp only [Nat.testBit_or, Bool.or_eq_true] at h
        rcases h with (h | h) | h
        · exact .inl h
        · refine .inr ⟨e, by simp, hb, .inl ?_⟩
          rw [Nat.one_shiftLeft, Nat.testBit_two_pow] at h
          simpa using h
        · exact .inr ⟨e, by simp, hb, .inr h⟩
      · exact .inl h
    · exact .inr ⟨e', by simp [he], h⟩
theorem masks_spec (l : List Oper) : (masks l).length = l.length ∧ ∀ j o x, l[j]? = some o → ((masks l).getD j 0).testBit x = true → ∃ e ∈ o.after, Region.binds .any e = true ∧ (e.on = x ∨ e.on < j ∧ ((masks l).getD e.on 0).testBit x = true) := by
  have key : ∀ (l : List Oper) (done : List Oper) (acc : List Nat), acc.length = done.length →
      (∀ j o x, done[j]? = some o → (acc.getD j 0).testBit x = true → ∃ e ∈ o.after, Region.binds .any e = true ∧ (e.on = x ∨ e.on < j ∧ (acc.getD e.on 0).testBit x = true)) →
      (l.foldl (fun acc o => acc ++ [maskOf acc o]) acc).length = (done ++ l).length ∧
      ∀ j o x, (done ++ l)[j]? = some o → ((l.foldl (fun acc o => acc ++ [maskOf acc o]) acc).getD j 0).testBit x = true →
        ∃ e ∈ o.after, Region.binds .any e = true ∧ (e.on = x ∨ e.on < j ∧ ((l.foldl (fun acc o => acc ++ [maskOf acc o]) acc).getD e.on 0).testBit x = true) := by
    intro l
    induction l with
    | nil => intro done acc hl h; simpa [hl] using h
    | cons o l ih =>
      intro done acc hl h
      have h2 := ih (done ++ [o]) (acc ++ [maskOf acc o]) (by simp [hl]) ?_
      · simpa using h2
      · intro j p x hj hx
        have hget : ∀ k, k < acc.length → (acc ++ [maskOf acc o]).getD k 0 = acc.getD k 0 := fun k hk => by simp [List.getD, List.getElem?_append_left hk]
        rcases Nat.lt_trichotomy j done.length with hlt | heq | hgt
        · rw [List.getElem?_append_left hlt] at hj
          rw [hget j (by omega)] at hx
          obtain ⟨e, he, hb, hor⟩ := h j p x hj hx
          refine ⟨e, he, hb, hor.imp id fun ⟨h1, h2⟩ => ⟨h1, ?_⟩⟩
          rw [hget _ (by omega)]; exact h2
        · subst heq
          rw [List.getElem?_append_right (Nat.le_refl _)] at hj
          simp at hj
          subst hj
          have hm : (acc ++ [maskOf acc o]).getD done.length 0 = maskOf acc o := by
            rw [← hl]; simp [List.getD]
          rw [hm] at hx
          unfold maskOf at hx
          rcases foldl_mask acc x _ 0 hx with h0 | ⟨e, he, hb, hor⟩
          · simp at h0
          · refine ⟨e, by simpa using he, hb, hor.imp id fun h2 => ?_⟩
            have hlt : e.on < acc.length := by
              rcases Nat.lt_or_ge e.on acc.length with h3 | h3
              · exact h3
              · simp [List.getD, List.getElem?_eq_none h3] at h2
            exact ⟨by omega, by rw [hget _ hlt]; exact h2⟩
        · rw [List.getElem?_eq_none (by simp; omega)] at hj
          cases hj
  have := key l [] [] rfl (by intro j o x h; simp at h)
  simpa [masks] using this

/-- What is listed is listed with all that it waits for. -/
def Closed (ops : Array Oper) (listed : Array Bool) : Prop := ∀ j o, ops[j]? = some o → listed.getD j false = true → ∀ e ∈ o.after, Region.binds .any e = true → listed.getD e.on false = true
theorem closed_reach {listed : Array Bool} (hc : Closed ops listed) (x : Nat) : ∀ (n j : Nat) (o : Oper), j ≤ n → ops[j]? = some o → (∀ e ∈ o.after, Region.binds .any e = true → listed.getD e.on false = true) →
    ((masks ops.toList).getD j 0).testBit x = true → listed.getD x false = true := by
  intro n
  induction n with
  | zero =>
    intro j o hj ho hd hx
    obtain ⟨e, he, hb, h | ⟨h, _⟩⟩ := (masks_spec ops.toList).2 j o x (by simpa using ho) hx
    · exact h ▸ hd e he hb
    · omega
  | succ n ih =>
    intro j o hj ho hd hx
    obtain ⟨e, he, hb, h | ⟨h, h2⟩⟩ := (masks_spec ops.toList).2 j o x (by simpa using ho) hx
    · exact h ▸ hd e he hb
    · have hl := hd e he hb
      cases hoe : ops[e.on]? with
      | none =>
        exfalso
        have hlen := (masks_spec ops.toList).1
        have : e.on < ops.size := by
          have := (Array.getElem?_eq_some_iff.1 ho).1; omega
        simp [this] at hoe
      | some oe => exact ih e.on oe (by omega) hoe (fun e' he' hb' => hc e.on oe hoe hl e' he' hb') h2

theorem agree_put {o : Oper} {a b : Act} (hb : b.tmps = a.tmps) {d : Option Tmp} {v : Value} (h : ∀ t, d = some t → t ∉ o.looksAt ops) :
    (∀ x ∈ o.op.operands, (b.put d v).eval x = a.eval x) ∧ Region.wanted o (yielded ops (b.put d v).tmps) = Region.wanted o (yielded ops a.tmps) := by
  refine ⟨fun x hx => ?_, ?_⟩
  · rw [Act.eval_put fun t ht hxt => h t ht (by subst hxt; exact List.mem_append_left _ (List.mem_filterMap.2 ⟨.tmp t, by simpa using hx, rfl⟩)), eval_of_tmps hb]
  · rw [wanted_put o b d v h, hb]
/-- The walk has an end, and what no operation writes stands there as it stood. -/
theorem wpOps_some (hQ : NoQ Q) : ∀ (L : List Nat) (a : Act) (w : World), wpOps P ops Q L a w → ∃ a' w', Q .normal a' w' ∧
    ∀ o : Oper, (∀ z ∈ L, ∀ oz, ops[z]? = some oz → ∀ d, oz.dst = some d → d ∉ o.looksAt ops) → (∀ x ∈ o.op.operands, a'.eval x = a.eval x) ∧ Region.wanted o (yielded ops a'.tmps) = Region.wanted o (yielded ops a.tmps)
  | [], a, w, h => ⟨a, w, h, fun _ _ => ⟨fun _ _ => rfl, rfl⟩⟩
  | i :: L, a, w, h => by
    cases hi : ops[i]? with
    | none =>
      simp only [wpOps, hi] at h
      obtain ⟨a', w', hq, hk⟩ := wpOps_some hQ L a w h
      exact ⟨a', w', hq, fun o ho => hk o fun z hz => ho z (by simp [hz])⟩
    | some oi =>
      have h' : stepO P ops Q oi (wpOps P ops Q L) a w := by unfold stepO; simpa only [wpOps, hi] using h
      obtain ⟨b, v, w1, hk, hb⟩ := stepO_some hQ h'
      obtain ⟨a', w', hq, hk2⟩ := wpOps_some hQ L _ _ hk
      refine ⟨a', w', hq, fun o ho => ?_⟩
      have h1 := hk2 o fun z hz => ho z (by simp [hz])
      have h2 := agree_put (ops := ops) (o := o) hb (v := v) (ho i (by simp) oi hi)
      exact ⟨fun x hx => (h1.1 x hx).trans (h2.1 x hx), h1.2.trans h2.2⟩

theorem plain_congr {o : Oper} {ρ ρ' : Operand → Value} (h : ∀ x ∈ o.op.operands, ρ x = ρ' x) : plain o ρ = plain o ρ' := by
  obtain ⟨dst, op, type, pos, after, guard⟩ := o
  cases op <;> simp only [plain] <;> simp only [Op.operands] at h
  case binOp op t x y b => rw [h x (by simp), h y (by simp)]
  case nilCheck x => rw [h x (by simp)]
  case convert s d x => rw [h x (by simp)]
  case call c =>
    cases hx : c.args[0]? with
    | none => rfl
    | some x => simp only; rw [h x (by simp [Call.operands]; right; exact Array.mem_of_getElem? hx)]

structure DrawFacts (P : Program) (ops : Array Oper) : Prop where
  nosel : ∀ (j : Nat) (o : Oper) cs b, ops[j]? = some o → o.op ≠ .select cs b
  edges : ∀ (j : Nat) (y : Oper), ops[j]? = some y → ∀ e ∈ y.after, Region.binds .any e = true → e.on < j
  own : ∀ (j : Nat) (y : Oper), ops[j]? = some y → kind P y = 1 → ∀ d, y.dst = some d → d ∉ y.looksAt ops
  late : ∀ (i j : Nat) (x y : Oper), i < j → ops[i]? = some x → ops[j]? = some y → kind P x = 1 → ∀ d, y.dst = some d → d ∉ x.looksAt ops
  pair : ∀ (i j : Nat) (x y : Oper), i < j → ops[i]? = some x → ops[j]? = some y → ((masks ops.toList).getD j 0).testBit i = true ∨ (x.apart ops y = true ∧ (kind P x ≤ 1 ∨ kind P y ≤ 1 ∨ (kind P x = 2 ∧ kind P y = 2) ∨ (isLoad x = true ∧ isNew y = true)))
theorem not_writes {z o : Oper} (h : writes z o ops = false) : ∀ d, z.dst = some d → d ∉ o.looksAt ops := by
  intro d hd hm
  unfold writes at h; rw [hd] at h
  simp at h; exact h hm
theorem drawFacts (h : drawOk P ops = true) : DrawFacts P ops := by
  unfold drawOk at h
  simp only [Bool.and_eq_true, List.all_eq_true, List.mem_range] at h
  obtain ⟨h1, h2⟩ := h
  have get : ∀ (j : Nat) (y : Oper), ops[j]? = some y → j < ops.size := fun j y hy => (Array.getElem?_eq_some_iff.1 hy).1
  refine ⟨Region.noSelect_spec h1, ?_, ?_, ?_, ?_⟩
  · intro j y hy e he hb
    have := h2 j (get j y hy)
    rw [hy] at this
    simp only [Bool.and_eq_true] at this
    have h3 := this.1.1
    rw [Array.all_eq_true_iff_forall_mem] at h3
    have := h3 e he
    simpa [hb] using this
  · intro j y hy hk
    have := h2 j (get j y hy)
    rw [hy] at this
    simp only [Bool.and_eq_true] at this
    have h3 := this.1.2
    exact not_writes (by simpa [hk] using h3)
  · intro i j x y hij hx hy hk
    have := h2 j (get j y hy)
    rw [hy] at this
    simp only [Bool.and_eq_true, List.all_eq_true, List.mem_range] at this
    have h3 := this.2 i hij
    rw [hx] at h3
    simp only [Bool.and_eq_true] at h3
    exact not_writes (by simpa [hk] using h3.1)
  · intro i j x y hij hx hy
    have := h2 j (get j y hy)
    rw [hy] at this
    simp only [Bool.and_eq_true, List.all_eq_true, List.mem_range] at this
    have h3 := this.2 i hij
    rw [hx] at h3
    simp only [Bool.and_eq_true, Bool.or_eq_true, decide_eq_true_eq, beq_iff_eq] at h3
    rcases h3.2 with h4 | ⟨h4, ((h5 | h5) | h5) | h5⟩
    · exact .inl h4
    · exact .inr ⟨h4, .inl h5⟩
    · exact .inr ⟨h4, .inr (.inl h5)⟩
    · exact .inr ⟨h4, .inr (.inr (.inl h5))⟩
    · exact .inr ⟨h4, .inr (.inr (.inr h5))⟩

/-- The end of the region: what is asked behind it, and that the operands were plain. -/
def Ends (P : Program) (ops : Array Oper) (Q : Exit → Act → World → Prop) : Exit → Act → World → Prop
  | .normal, a, w => Q .normal a w ∧ (ops.all (plainAt P ops a)) = true
  | _, _, _ => False
theorem ends_noQ : NoQ (Ends P ops Q) := ⟨fun _ _ h => h, fun _ _ _ h => h⟩

theorem move_front (F : DrawFacts P ops) {j : Nat} {y : Oper} (hj : ops[j]? = some y) (L2 : List Nat) (h2 : ∀ z ∈ L2, j < z) :
    ∀ (L1 : List Nat), L1.Pairwise (· < ·) → (∀ x ∈ L1, x < j ∧ ∃ ox, ops[x]? = some ox ∧ ((masks ops.toList).getD j 0).testBit x = false) → ∀ (a : Act) (w : World),
      wpOps P ops (Ends P ops Q) (L1 ++ j :: L2) a w → wpOps P ops (Ends P ops Q) (j :: (L1 ++ L2)) a w := by
  intro L1
  induction L1 with
  | nil => intro _ _ a w h; exact h
  | cons x T ih =>
    intro hs hx a w h
    obtain ⟨hxj, ox, hox, hbit⟩ := hx x (by simp)
    have hsT := (List.pairwise_cons.1 hs)
    have hT := ih hsT.2 (fun z hz => hx z (by simp [hz]))
    have h1 : stepO P ops (Ends P ops Q) ox (wpOps P ops (Ends P ops Q) (T ++ j :: L2)) a w := by unfold stepO; simpa only [wpOps, hox, List.cons_append] using h
    have h1 := stepO_mono hT h1
    have e2 : ∀ b u, wpOps P ops (Ends P ops Q) (j :: (T ++ L2)) b u = stepO P ops (Ends P ops Q) y (wpOps P ops (Ends P ops Q) (T ++ L2)) b u := by
      intro b u; unfold stepO; simp only [wpOps, hj]
    have h3 : stepO P ops (Ends P ops Q) ox (stepO P ops (Ends P ops Q) y (wpOps P ops (Ends P ops Q) (T ++ L2))) a w := stepO_mono (fun b u hb => by rw [e2] at hb; exact hb) h1
    obtain ⟨hap, hk⟩ := (F.pair x j ox y hxj hox hj).resolve_left (by rw [hbit]; simp)
    obtain ⟨a', w', ⟨_, hplain⟩, hag⟩ := wpOps_some ends_noQ _ a w h
    rw [Array.all_eq_true_iff_forall_mem] at hplain
    have sx : kind P ox = 1 → ∀ z ∈ x :: T ++ j :: L2, ∀ oz, ops[z]? = some oz → ∀ d, oz.dst = some d → d ∉ ox.looksAt ops := by
      intro hk z hz oz hoz
      by_cases e : z = x
      · subst e
        obtain rfl : ox = oz := Option.some.inj (hox.symm.trans hoz)
        exact F.own z ox hox hk
      · have hlt : x < z := by
          simp only [List.cons_append, List.mem_cons, List.mem_append] at hz
          rcases hz with hz | hz | hz | hz
          · exact absurd hz e
          · exact hsT.1 z hz
          · omega
          · have := h2 z hz; omega
        exact F.late x z ox oz hlt hox hoz hk
    have sy : kind P y = 1 → ∀ z ∈ x :: T ++ j :: L2, ∀ oz, ops[z]? = some oz → ∀ d, oz.dst = some d → d ∉ y.looksAt ops := by
      intro hk z hz oz hoz
      by_cases e : z = j
      · subst e
        obtain rfl : y = oz := Option.some.inj (hj.symm.trans hoz)
        exact F.own z y hj hk
      · rcases Nat.lt_or_ge j z with hlt | hge
        · exact F.late j z y oz hlt hj hoz hk
        · have hz' : z ∈ x :: T := by
            simp only [List.cons_append, List.mem_cons, List.mem_append] at hz ⊢
            rcases hz with hz | hz | hz | hz
            · exact .inl hz
            · exact .inr hz
            · exact absurd hz e
            · have := h2 z hz; omega
          obtain ⟨hzj, oz', hoz', hb'⟩ := hx z hz'
          obtain rfl : oz' = oz := Option.some.inj (hoz'.symm.trans hoz)
          have := (F.pair z j oz' y hzj hoz' hj).resolve_left (by rw [hb']; simp)
          exact (Oper.apart_spec this.1).1
    have plainOf : ∀ (o : Oper), o ∈ ops → kind P o = 1 → (∀ z ∈ x :: T ++ j :: L2, ∀ oz, ops[z]? = some oz → ∀ d, oz.dst = some d → d ∉ o.looksAt ops) →
        Region.wanted o (yielded ops a.tmps) = true → plain o a.eval = true := by
      intro o ho hk hs hw
      have hp := hplain o ho
      obtain ⟨g1, g2⟩ := hag o hs
      unfold plainAt at hp
      rw [g2, hw, hk] at hp
      rw [← plain_congr g1]
      simpa using hp
    have calm : ∀ (o : Oper), o ∈ ops → kind P o ≤ 1 → (kind P o = 1 → ∀ z ∈ x :: T ++ j :: L2, ∀ oz, ops[z]? = some oz → ∀ d, oz.dst = some d → d ∉ o.looksAt ops) →
        Region.wanted o (yielded ops a.tmps) = true → CalmV P (execOp a.eval o) := by
      intro o ho hk hs hw
      refine calm_exec ?_
      rcases Nat.lt_or_ge (kind P o) 1 with h0 | h0
      · exact .inl (by omega)
      · have h1 : kind P o = 1 := by omega
        exact .inr ⟨h1, plainOf o ho h1 (hs h1) hw⟩
    have mx : ox ∈ ops := Array.mem_of_getElem? hox
    have my : y ∈ ops := Array.mem_of_getElem? hj
    have h4 := swap ends_noQ (F.nosel x ox · · hox) (F.nosel j y · · hj) hap (by
      rcases hk with hk | hk | ⟨hk, hk'⟩ | ⟨hk, hk'⟩
      · exact .inl (calm ox mx hk sx)
      · exact .inr (.inl (calm y my hk sy))
      · exact .inr (.inr (.inl ⟨fun _ => peek_exec hk, fun _ => peek_exec hk'⟩))
      · exact .inr (.inr (.inr ⟨fun _ => kept_exec hk, fun _ => alloc_exec hk'⟩))) h3
    have h5 : wpOps P ops (Ends P ops Q) (j :: (x :: T ++ L2)) a w = stepO P ops (Ends P ops Q) y (stepO P ops (Ends P ops Q) ox (wpOps P ops (Ends P ops Q) (T ++ L2))) a w := by
      simp only [List.cons_append]
      unfold stepO
      simp only [wpOps, hj, hox]
    rw [h5]; exact h4

def left (ops : Array Oper) (listed : Array Bool) : List Nat := (List.range ops.size).filter fun i => !listed.getD i true
theorem mem_left {listed : Array Bool} (hs : listed.size = ops.size) {i : Nat} : i ∈ left ops listed ↔ i < ops.size ∧ listed.getD i false = false := by
  unfold left
  rw [List.mem_filter, List.mem_range]
  constructor
  · rintro ⟨h1, h2⟩
    exact ⟨h1, by have : i < listed.size := by omega
                  simpa [this] using h2⟩
  · rintro ⟨h1, h2⟩
    exact ⟨h1, by have : i < listed.size := by omega
                  simpa [this] using h2⟩
theorem left_sorted (listed : Array Bool) : (left ops listed).Pairwise (· < ·) := List.Pairwise.filter _ List.pairwise_lt_range

theorem any_of_text (F : DrawFacts P ops) : ∀ (fuel : Nat) (listed : Array Bool) (a : Act) (w : World), listed.size = ops.size → Closed ops listed → (left ops listed).length = fuel →
    wpOps P ops (Ends P ops Q) (left ops listed) a w → wpAny P .any ops (Ends P ops Q) fuel listed a w := by
  intro fuel
  induction fuel with
  | zero =>
    intro listed a w hs hc hl h
    have hnil : left ops listed = [] := List.eq_nil_of_length_eq_zero hl
    rw [hnil] at h
    refine ⟨?_, h⟩
    apply List.eq_nil_iff_forall_not_mem.2
    intro j hj
    obtain ⟨h1, o, ho, _⟩ := mem_ready.1 hj
    have : j ∈ left ops listed := (mem_left hs).2 ⟨(Array.getElem?_eq_some_iff.1 ho).1, by
      have hlt : j < listed.size := by rw [hs]; exact (Array.getElem?_eq_some_iff.1 ho).1
      simpa [hlt] using h1⟩
    rw [hnil] at this; cases this
  | succ fuel ih =>
    intro listed a w hs hc hl h
    refine ⟨fun hr => ?_, fun j hj => ?_⟩
    · exfalso
      obtain ⟨i, L, hL⟩ : ∃ i L, left ops listed = i :: L := by
        cases hh : left ops listed with
        | nil => rw [hh] at hl; simp at hl
        | cons i L => exact ⟨i, L, rfl⟩
      have hsort := left_sorted (ops := ops) listed
      rw [hL] at hsort
      obtain ⟨hi, hf⟩ := (mem_left hs).1 (show i ∈ left ops listed by rw [hL]; simp)
      have : i ∈ Region.ready .any ops listed := mem_ready.2 ⟨by
        have hlt : i < listed.size := by omega
        simpa [hlt] using hf, ops[i], by simp [hi], fun e he hb => by
          have hlt := F.edges i ops[i] (by simp [hi]) e he hb
          cases hv : listed.getD e.on false with
          | true => rfl
          | false =>
            have hm : e.on ∈ left ops listed := (mem_left hs).2 ⟨by omega, hv⟩
            rw [hL] at hm
            rcases List.mem_cons.1 hm with hm | hm
            · omega
            · have := (List.pairwise_cons.1 hsort).1 _ hm; omega⟩
      rw [hr] at this; cases this
    · obtain ⟨h1, y, hy, hdeps⟩ := mem_ready.1 hj
      have hjlt : j < ops.size := (Array.getElem?_eq_some_iff.1 hy).1
      have hjf : listed.getD j false = false := by
        have hlt : j < listed.size := by omega
        simpa [hlt] using h1
      have hmem : j ∈ left ops listed := (mem_left hs).2 ⟨hjlt, hjf⟩
      obtain ⟨L1, L2, hL⟩ := List.append_of_mem hmem
      have hsort := left_sorted (ops := ops) listed
      rw [hL] at hsort
      have hp := List.pairwise_append.1 hsort
      have hp2 := List.pairwise_cons.1 hp.2.1
      rw [hL] at h
      have h3 := move_front F hy L2 (fun z hz => hp2.1 z hz) L1 hp.1 (fun x hx => by
        have hxj : x < j := hp.2.2 x hx j (by simp)
        obtain ⟨hx1, hx2⟩ := (mem_left hs).1 (show x ∈ left ops listed by rw [hL]; simp [hx])
        refine ⟨hxj, ops[x], by simp [hx1], ?_⟩
        cases hb : ((masks ops.toList).getD j 0).testBit x with
        | false => rfl
        | true =>
          have := closed_reach hc x j j y (Nat.le_refl _) hy hdeps hb
          rw [this] at hx2; cases hx2) a w h
      rw [wpOps_cons] at h3
      have hleft : left ops (listed.setIfInBounds j true) = L1 ++ L2 := by
        have e1 : left ops (listed.setIfInBounds j true) = (left ops listed).filter fun i => i != j := by
          unfold left
          rw [List.filter_filter]
          apply List.filter_congr
          intro i hi
          by_cases e : i = j
          · subst e
            have hlt : i < listed.size := by omega
            simp [hlt]
          · rw [getD_set_ne true (fun h => e h.symm)]
            simp [e]
        rw [e1, hL, List.filter_append, List.filter_cons]
        have f1 : L1.filter (fun i => i != j) = L1 := List.filter_eq_self.2 fun x hx => by
          have := hp.2.2 x hx j (by simp)
          simp; omega
        have f2 : L2.filter (fun i => i != j) = L2 := List.filter_eq_self.2 fun x hx => by
          have := hp2.1 x hx
          simp; omega
        rw [f1, f2]; simp
      refine wpOp_mono (fun b u hb => ih _ b u (by simp [hs]) ?_ ?_ (by rw [hleft]; exact hb)) h3
      · intro i o ho hl e he hb
        by_cases hij : i = j
        · subst hij
          obtain rfl : y = o := Option.some.inj (hy.symm.trans ho)
          exact getD_set_true (hdeps e he hb)
        · rw [getD_set_ne false (fun h => hij h.symm)] at hl
          exact getD_set_true (hc i o ho hl e he hb)
      · rw [hleft]
        have : (left ops listed).length = (L1 ++ L2).length + 1 := by rw [hL]; simp; omega
        omega

/-- **A region that draws its order, by one walk in the order of the text.** -/
theorem wp_text {id : Nat} {a : Act} {w : World} (hm : P.follows .mixedOrders = true) (hok : drawOk P ops = true) (l : List Oper) (hl : ops.toList = l)
    (h : wpList P ops (Ends P ops Q) l a w.drew) : (Code.region id ops true).wp P Q a w := by
  have F := drawFacts hok
  have h0 : left ops (Array.replicate ops.size false) = List.range' 0 ops.size := by
    unfold left
    rw [List.range_eq_range']
    apply List.filter_eq_self.2
    intro x hx
    have : x < ops.size := by simpa using hx
    simp [this]
  have h1 : wpOps P ops (Ends P ops Q) (left ops (Array.replicate ops.size false)) a w.drew := by
    rw [h0]
    have := wpOps_eq_wpList (P := P) (ops := ops) (Q := Ends P ops Q) ops.toList 0 (fun j => by simp)
    rw [Array.length_toList] at this
    rw [this, hl]; exact h
  have h2 : (Code.region id ops true).wp P (Ends P ops Q) a w := by
    refine wp_region_any hm ?_
    refine any_of_text F ops.size _ a _ (by simp) ?_ ?_ h1
    · intro j o ho hl
      exfalso
      rcases Nat.lt_or_ge j ops.size with hlt | hge
      · simp [hlt] at hl
      · simp [Array.getElem?_eq_none hge] at ho
    · rw [h0]; simp
  refine wp_mono h2 fun e a w hq => ?_
  cases e with
  | normal => exact hq.1
  | _ => exact False.elim hq
end
end Go.Proofs.Ytmmigplciogggaa
