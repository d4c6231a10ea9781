/- Slices that a call owns, whole rows of cells, and what append, make and a literal do to them, over the separation algebra. -/
import Derived.Test.YtmmigplciogggaaSep
import Derived.Laws.BytesArg
namespace Go.Proofs.Ytmmigplciogggaa
open Go Go.RowKit

/-- The element type e: its cells, its bytes, its zero value. -/
def Elem (P : Program) (e : TypeId) (sz bytes : Nat) (z : Value) : Prop := (P.info? e).map (fun i => (i.zero, i.size, i.bytes)) = some (some z, sz, bytes)

/-- The slice value v, n elements of type e (sz cells each), owns the row that begins with the cells xs. -/
def Row (e : TypeId) (sz : Nat) (v : Value) (n : Nat) (xs : List Value) : Asrt := fun h =>
  xs.length = n * sz ∧ ((v = .slice none 0 0 ∧ n = 0 ∧ h = Hp.emp) ∨
    ∃ g cap cur, v = .slice (some ⟨g, 0, none⟩) n cap ∧ n ≤ cap ∧ cap ≤ maxLen ∧ cur.size = cap * sz ∧ cur.toList.take (n * sz) = xs ∧ h = Hp.one g (.cells cur e (0, 0)))

/-- In the world w the slice value v reads as the cells xs. -/
def Reads (w : World) (sz : Nat) (v : Value) (n : Nat) (xs : List Value) : Prop :=
  xs.length = n * sz ∧ ((v = .slice none 0 0 ∧ n = 0) ∨ ∃ a c, v = .slice (some a) n c ∧ n ≤ c ∧ ∀ j u, xs[j]? = some u → w.cell? (a.add j) = some u)

section
variable {w0 w : World} {R : Asrt} {e : TypeId} {sz : Nat} {v : Value} {n : Nat} {xs : List Value}

theorem Reads.nil (w : World) (sz : Nat) : Reads w sz (.slice none 0 0) 0 [] := ⟨by simp, .inl ⟨rfl, rfl⟩⟩
theorem Reads.drewN (h : Reads w sz v n xs) (k : Nat) : Reads (w.drewN k) sz v n xs := h
theorem Reads.slice (h : Reads w sz v n xs) : ∃ a c, v = .slice a n c ∧ n ≤ c := by
  rcases h.2 with ⟨rfl, rfl⟩ | ⟨a, c, rfl, hc, _⟩
  · exact ⟨none, 0, rfl, Nat.le_refl _⟩
  · exact ⟨some a, c, rfl, hc⟩

theorem addr_add0 (b o : Nat) (j : Nat) : (⟨b, o, none⟩ : Addr).add j = ⟨b, o + j, none⟩ := by unfold Addr.add; split <;> simp_all

theorem Sat.rowNil (H : Sat w0 w R) (e : TypeId) (sz : Nat) : Sat w0 w (Row e sz (.slice none 0 0) 0 [] * R) :=
  (H.cast (Asrt.emp_mul R).symm).imp (Asrt.sep_mono (fun h a => ⟨by simp, .inl ⟨rfl, rfl, a⟩⟩) fun _ b => b)
theorem Sat.rowOf {g cap : Nat} {cur : Array Value} (H : Sat w0 w (Blk g cur e * R)) (n : Nat) (hn : n ≤ cap) (hc : cap ≤ maxLen) (hs : cur.size = cap * sz) :
    Sat w0 w (Row e sz (.slice (some ⟨g, 0, none⟩) n cap) n (cur.toList.take (n * sz)) * R) :=
  H.imp (Asrt.sep_mono (fun h a => ⟨by
    have : n * sz ≤ cap * sz := Nat.mul_le_mul_right _ hn
    rw [List.length_take, Array.length_toList, hs]; omega, .inr ⟨g, cap, cur, rfl, hn, hc, hs, rfl, a⟩⟩) fun _ b => b)
/-- A row, looked into: nil, or a block. -/
theorem Sat.rowOpen (H : Sat w0 w (Row e sz v n xs * R)) : xs.length = n * sz ∧ ((v = .slice none 0 0 ∧ n = 0 ∧ Sat w0 w R) ∨
    ∃ g cap cur, v = .slice (some ⟨g, 0, none⟩) n cap ∧ n ≤ cap ∧ cap ≤ maxLen ∧ cur.size = cap * sz ∧ cur.toList.take (n * sz) = xs ∧ Sat w0 w (Blk g cur e * R)) := by
  obtain ⟨h, ⟨x, y, hd, e1, ⟨hl, hx⟩, hR⟩, g⟩ := H.own
  refine ⟨hl, ?_⟩
  rcases hx with ⟨rfl, rfl, _⟩ | ⟨b, cap, cur, rfl, h1, h2, h3, h4, rfl⟩
  · exact .inl ⟨rfl, rfl, H.right⟩
  · exact .inr ⟨b, cap, cur, rfl, h1, h2, h3, h4, H.os, H.tape, H.output, h, ⟨_, y, hd, e1, rfl, hR⟩, g⟩
theorem Sat.rowShut {g cap : Nat} {cur : Array Value} {xs : List Value} (H : Sat w0 w (Blk g cur e * R)) (hn : n ≤ cap) (hc : cap ≤ maxLen) (hs : cur.size = cap * sz) (hx : cur.toList.take (n * sz) = xs) :
    Sat w0 w (Row e sz (.slice (some ⟨g, 0, none⟩) n cap) n xs * R) := hx ▸ H.rowOf n hn hc hs
theorem Sat.rowLen (H : Sat w0 w (Row e sz v n xs * R)) : xs.length = n * sz := H.rowOpen.1
theorem Sat.rowSlice (H : Sat w0 w (Row e sz v n xs * R)) : ∃ a c, v = .slice a n c ∧ n ≤ c ∧ n ≤ maxLen := by
  rcases H.rowOpen.2 with ⟨rfl, rfl, _⟩ | ⟨g, cap, cur, rfl, hn, hc, _⟩
  · exact ⟨none, 0, rfl, Nat.le_refl _, by unfold maxLen; omega⟩
  · exact ⟨_, cap, rfl, hn, Nat.le_trans hn hc⟩
theorem Sat.rowSome {a : Option Addr} {k : Nat} (H : Sat w0 w (Row e sz (.slice a n k) n xs * R)) (hn : 0 < n) : ∃ g, a = some ⟨g, 0, none⟩ := by
  rcases H.rowOpen.2 with ⟨_, h, _⟩ | ⟨g, cap, cur, h, _⟩
  · omega
  · simp only [Value.slice.injEq] at h; exact ⟨g, h.1⟩
theorem Sat.rowReads (H : Sat w0 w (Row e sz v n xs * R)) : Reads w sz v n xs := by
  obtain ⟨hl, h⟩ := H.rowOpen
  refine ⟨hl, ?_⟩
  rcases h with ⟨rfl, rfl, _⟩ | ⟨g, cap, cur, rfl, hn, hc, hs, rfl, HB⟩
  · exact .inl ⟨rfl, rfl⟩
  · refine .inr ⟨_, cap, rfl, hn, fun j u hj => ?_⟩
    rw [addr_add0, Nat.zero_add, HB.cell]
    rw [List.getElem?_take] at hj
    split at hj
    · simpa using hj
    · cases hj

theorem Sat.setRow {g : Nat} {cur : Array Value} {e : TypeId} (H : Sat w0 w (Blk g cur e * R)) (cs : Array Value) : Sat w0 (w.setRow g cs) (Blk g cs e * R) :=
  Sat.turn H rfl rfl rfl (setRow_heap w g cur cs e (0, 0) H.blk) (fun k hk _ => setRow_other w g k cs hk)

variable {P : Program}

/-- append: the row that is owned, and cells that are read somewhere. -/
theorem Sat.append {bytes : Nat} {z : Value} (t ty : TypeId) (ht : P.underlying t = some (.slice e)) (he : Elem P e sz bytes z) (hzs : z.cells.size = sz) (hsz : 0 < sz) (hby : 0 < bytes)
    (H : Sat w0 w (Row e sz v n xs * R)) {x : Value} {m : Nat} {news : List Value} (hr : Reads w sz x m news) (h1 : ∀ u ∈ news, u.oneCell' = true) (hb : (n + m) * bytes ≤ 140737488355328) :
    ∃ v' w', (Builtin.append_ #[t, t] ty #[v, x]).run P w = .ok v' w' ∧ Sat w0 w' (Row e sz v' (n + m) (xs ++ news) * R) := by
  obtain ⟨i, hi, hz, rfl, rfl⟩ := info_parts he
  have hN : n + m ≤ 140737488355328 := Nat.le_trans (Nat.le_mul_of_pos_right _ hby) hb
  have h63 : n + m ≤ maxLen := by unfold maxLen; omega
  rcases hr.2 with ⟨rfl, rfl⟩ | ⟨a, c, rfl, hc, hcell⟩
  · -- nothing comes
    have hn : news = [] := List.eq_nil_of_length_eq_zero (by simpa using hr.1)
    subst hn
    refine ⟨v, w, ?_, by simpa using H⟩
    rcases H.rowOpen.2 with ⟨rfl, rfl, _⟩ | ⟨g, cap, cur, rfl, hnc, hcm, hcs, htk, HB⟩
    · exact run_append_owned_none (P := P) w 0 t ty e i i.size ht hi _ 0 xs ⟨H.rowLen, .inl ⟨rfl, rfl⟩⟩
    · exact run_append_owned_none (P := P) w 0 t ty e i i.size ht hi _ n xs ⟨H.rowLen, .inr ⟨g, cap, cur, rfl, Nat.zero_le _, HB.blk, hnc, hcm, hcs, htk⟩⟩
  have hl := hr.1
  have grown : ∀ (old : Nat) (R' : Asrt), Sat w0 w R' → old < n + m → xs.length = n * i.size →
      Sat w0 (w.drew.alloc (.cells (xs.toArray ++ news.toArray ++ Builtin.zeroCells z.cells (grownCap w (n + m) old e - (n + m))) e))
        (Row e i.size (.slice (some ⟨w.heap.size, 0, none⟩) (n + m) (grownCap w (n + m) old e)) (n + m) (xs ++ news) * R') := by
    intro old R' HR ho hxl
    have hge := grownCap_ge w (n + m) old e
    have hcm : grownCap w (n + m) old e ≤ maxLen := grownCap_le_maxLen w (n + m) old e h63
    refine (HR.drew.alloc _ e).rowShut hge hcm ?_ ?_
    · simp only [Array.size_append, List.size_toArray, size_zeroCells, hzs, hxl, hl, ← Nat.add_mul]
      congr 1
      omega
    · have hlen : (xs ++ news).length = (n + m) * i.size := by rw [List.length_append, hxl, hl, Nat.add_mul]
      simp only [Array.toList_append, List.append_assoc]
      rw [← List.append_assoc, ← hlen]
      exact List.take_left
  rcases H.rowOpen with ⟨hxl, ⟨rfl, rfl, HR⟩ | ⟨g, cap, cur, rfl, hnc, hcm, hcs, htk, HB⟩⟩
  · have hx : xs = [] := List.eq_nil_of_length_eq_zero (by simpa using hxl)
    subst hx
    by_cases hm : m = 0
    · subst hm
      have hn : news = [] := List.eq_nil_of_length_eq_zero (by simpa using hl)
      subst hn
      refine ⟨.slice none 0 0, w, ?_, H⟩
      simp [Builtin.append_, run_underlying ht, sizeOf, typeInfo, hi, Builtin.lenOf, Builtin.firstCells, loadCells, loadCellsFrom]
    · have hr := run_append_nil (P := P) w t ty e i z ht hi hz a m c news hl hcell (by omega) (by omega) (by have hb := hb; simp only [Nat.zero_add] at hb; omega)
      have hgr := grown 0 R HR (by omega) (by simp)
      simp only [Nat.zero_add, List.nil_append, Array.empty_append] at hgr ⊢
      exact ⟨_, _, hr, hgr⟩
  · by_cases hroom : n + m ≤ cap
    · have hlen : (xs ++ news).length = (n + m) * i.size := by rw [List.length_append, hxl, hl, Nat.add_mul]
      have hfit : n * i.size + news.length ≤ cur.size := by rw [hl, hcs, ← Nat.add_mul]; exact Nat.mul_le_mul_right _ hroom
      have hr := run_append_room (P := P) w t ty e i ht hi g n cap cur HB.blk a m c news hl hcell h1 hroom hfit
      refine ⟨_, _, hr, (HB.setRow _).rowShut hroom hcm ?_ ?_⟩
      · simp only [List.size_toArray, List.length_append, List.length_take, List.length_drop, Array.length_toList]
        omega
      · rw [htk, ← hlen]
        exact List.take_left
    · have holds : ∀ j u, xs[j]? = some u → w.cell? ((⟨g, 0, none⟩ : Addr).add j) = some u := by
        intro j u hj
        rcases H.rowReads.2 with ⟨h, _⟩ | ⟨a', c', h, _, hc'⟩
        · cases h
        · cases h; exact hc' j u hj
      have hr := run_append_grow (P := P) w t ty e i z ht hi hz ⟨g, 0, none⟩ n cap xs hxl holds a m c news hl hcell (by omega) (by omega) (growslice_fits (by omega) hb)
      exact ⟨_, _, hr, grown cap R HB.right (by omega) hxl⟩

/-- string(b) of bytes that are read somewhere. -/
theorem Reads.toStr {xs : List Int} (src e dst : TypeId) (hs : P.underlying src = some (.slice e)) (he : P.underlying e = some (.int .u8)) (hd : P.underlying dst = some .string)
    (h : Reads w 1 v n (xs.map (Value.int .u8))) : (convert src dst v).run P w = .ok (.string (strOfNums xs)) w := by
  rcases h.2 with ⟨rfl, rfl⟩ | ⟨a, c, rfl, _, hc⟩
  · have : xs = [] := List.eq_nil_of_length_eq_zero (by simpa using h.1)
    subst this
    exact run_convert_bytes_nil w src e hs he 0 0 dst hd
  · by_cases hn : n = 0
    · subst hn
      have : xs = [] := List.eq_nil_of_length_eq_zero (by simpa using h.1)
      subst this
      rw [run_convert_bytes_string w src dst e _ 0 c hs he hd]
      simp [Conv.bytesToString, loadCells, loadCellsFrom, strOfNums, ByteArray.empty, ByteArray.emptyWithCapacity]
      rfl
    · have hl : xs.length = n := by simpa using h.1
      have h0 := hc 0 (.int .u8 (xs.getD 0 0)) (by simp [List.getD]; cases xs with | nil => simp at hl; omega | cons x t => simp)
      obtain ⟨b, off, spot⟩ := a
      have hspot : spot = none := by simpa [Addr.add] using World.cell?_spot h0
      subst hspot
      refine run_convert_bytes_arg w src e hs he b off n c xs hl (fun i hi => ?_) dst hd
      have := hc i (.int .u8 (xs.getD i 0)) (by simp [List.getD, List.getElem?_eq_getElem (show i < xs.length by omega)])
      rwa [addr_add0] at this
theorem reads_new (w : World) (cs : Array Value) (t : TypeId) (n : Nat) (hn : cs.size = n) : Reads (w.alloc (.cells cs t)) 1 (.slice (some ⟨w.heap.size, 0, none⟩) n n) n cs.toList := by
  refine ⟨by simp [hn], .inr ⟨_, n, rfl, Nat.le_refl _, fun j u hj => ?_⟩⟩
  rw [addr_add0, Nat.zero_add]
  have h : (w.alloc (.cells cs t)).heap[w.heap.size]? = some (.cells cs t) := heap_alloc_new w _
  simp only [World.cell?, h]
  simpa using hj
theorem reads_newg (w : World) (cs : Array Value) (t : TypeId) (n g : Nat) (hn : cs.size = n) (hg : g = w.heap.size) : Reads (w.alloc (.cells cs t)) 1 (.slice (some ⟨g, 0, none⟩) n n) n cs.toList := by
  subst hg; exact reads_new w cs t n hn
theorem wp_append_sep {o : Oper} {a : Act} {K : Act → World → Prop} {Q : Exit → Act → World → Prop} (s x : Operand) (t : TypeId)
    (ho : o.op = .call { callee := .builtin .append, args := #[s, x], argTypes := #[t, t] }) {bytes : Nat} {z : Value}
    (ht : P.underlying t = some (.slice e)) (he : Elem P e sz bytes z) (hzs : z.cells.size = sz) (hsz : 0 < sz) (hby : 0 < bytes)
    {vx : Value} (hs : a.eval s = v) (hx : a.eval x = vx)
    (H : Sat w0 w (Row e sz v n xs * R)) {m : Nat} {news : List Value} (hr : Reads w sz vx m news) (h1 : ∀ u ∈ news, u.oneCell' = true) (hb : (n + m) * bytes ≤ 140737488355328)
    (h : ∀ a' c' w', Sat w0 w' (Row e sz (.slice a' (n + m) c') (n + m) (xs ++ news) * R) → K (a.put o.dst (.slice a' (n + m) c')) w') : o.wp P a w K Q := by
  obtain ⟨v', w', hrun, H'⟩ := H.append (P := P) t o.type ht he hzs hsz hby hr h1 hb
  obtain ⟨a', c', rfl, _⟩ := H'.rowSlice
  unfold Oper.wp execOp
  simp only [ho, resolve, invoke, builtin, Sem.run_bind, Sem.run_pure, Result.andThen_ok, List.map_toArray, List.map_cons, List.map_nil, hs, hx, hrun]
  exact h a' c' w' H'

theorem wpList_append_sep {ops : Array Oper} {rest : List Oper} {o : Oper} {a : Act} {Q : Exit → Act → World → Prop} (hgd : o.guard = none) (s x : Operand) (t : TypeId)
    (ho : o.op = .call { callee := .builtin .append, args := #[s, x], argTypes := #[t, t] }) {bytes : Nat} {z : Value}
    (ht : P.underlying t = some (.slice e)) (he : Elem P e sz bytes z) (hzs : z.cells.size = sz) (hsz : 0 < sz) (hby : 0 < bytes)
    {vx : Value} (hs : a.eval s = v) (hx : a.eval x = vx)
    (H : Sat w0 w (Row e sz v n xs * R)) {m : Nat} {news : List Value} (hr : Reads w sz vx m news) (h1 : ∀ u ∈ news, u.oneCell' = true) (hb : (n + m) * bytes ≤ 140737488355328)
    (h : ∀ a' c' w', Sat w0 w' (Row e sz (.slice a' (n + m) c') (n + m) (xs ++ news) * R) → wpList P ops Q rest (a.put o.dst (.slice a' (n + m) c')) w') : wpList P ops Q (o :: rest) a w :=
  wpList_plain hgd fun _ hK => wp_append_sep s x t ho ht he hzs hsz hby hs hx H hr h1 hb fun a' c' w' H' => hK _ _ (h a' c' w' H')
end
end Go.Proofs.Ytmmigplciogggaa
