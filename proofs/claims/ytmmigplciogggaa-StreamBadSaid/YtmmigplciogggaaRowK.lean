/- Slices that are read alone, whatever mark their block bears: bytes of a string. -/
import Derived.Test.YtmmigplciogggaaRow
import Derived.Test.YtmmigplciogggaaUtfS
import Derived.Lib.ConvBytes
import Derived.Lib.SlBytesConst
namespace Go.Proofs.Ytmmigplciogggaa
open Go Go.RowKit Go.PlainAid

def bys (l : List Int) : List Value := l.map (Value.int .u8)
/-- The slice v, n elements of one cell each, reads as xs. -/
def RowK (e : TypeId) (v : Value) (n : Nat) (xs : List Value) : Asrt := fun h => xs.length = n ∧ ((v = .slice none 0 0 ∧ n = 0 ∧ h = Hp.emp) ∨
  ∃ g cap cur mk, v = .slice (some ⟨g, 0, none⟩) n cap ∧ n ≤ cap ∧ cap ≤ maxLen ∧ cur.toList.take n = xs ∧ h = Hp.one g (.cells cur e mk))
section
variable {w0 w : World} {R : Asrt} {e : TypeId} {v : Value} {n : Nat} {xs : List Value}
theorem Sat.rowKOpen (H : Sat w0 w (RowK e v n xs * R)) : xs.length = n ∧ ((v = .slice none 0 0 ∧ n = 0 ∧ Sat w0 w R) ∨
    ∃ g cap cur mk, v = .slice (some ⟨g, 0, none⟩) n cap ∧ n ≤ cap ∧ cap ≤ maxLen ∧ cur.toList.take n = xs ∧ Sat w0 w (Own g (.cells cur e mk) * R)) := by
  obtain ⟨h, ⟨x, y, hd, e1, ⟨hl, hx⟩, hR⟩, g⟩ := H.own
  refine ⟨hl, ?_⟩
  rcases hx with ⟨rfl, rfl, _⟩ | ⟨b, cap, cur, mk, rfl, h1, h2, h3, rfl⟩
  · exact .inl ⟨rfl, rfl, H.right⟩
  · exact .inr ⟨b, cap, cur, mk, rfl, h1, h2, h3, H.os, H.tape, H.output, h, ⟨_, y, hd, e1, rfl, hR⟩, g⟩
theorem Sat.rowKSlice (H : Sat w0 w (RowK e v n xs * R)) : ∃ a c, v = .slice a n c ∧ n ≤ c ∧ n ≤ maxLen := by
  rcases H.rowKOpen.2 with ⟨rfl, rfl, _⟩ | ⟨g, cap, cur, mk, rfl, hn, hc, _⟩
  · exact ⟨none, 0, rfl, Nat.le_refl _, by unfold maxLen; omega⟩
  · exact ⟨_, cap, rfl, hn, Nat.le_trans hn hc⟩
theorem Sat.rowKReads (H : Sat w0 w (RowK e v n xs * R)) : Reads w 1 v n xs := by
  obtain ⟨hl, h⟩ := H.rowKOpen
  refine ⟨by omega, ?_⟩
  rcases h with ⟨rfl, rfl, _⟩ | ⟨g, cap, cur, mk, rfl, hn, hc, hx, HB⟩
  · exact .inl ⟨rfl, rfl⟩
  · refine .inr ⟨_, cap, rfl, hn, fun j u hj => ?_⟩
    rw [addr_add0, Nat.zero_add]
    have hg := HB.get
    simp only [World.cell?, hg]
    rw [← hx, List.getElem?_take] at hj
    split at hj
    · simpa using hj
    · cases hj
theorem Sat.rowKNil (H : Sat w0 w R) (e : TypeId) : Sat w0 w (RowK e (.slice none 0 0) 0 [] * R) :=
  (H.cast (Asrt.emp_mul R).symm).imp (Asrt.sep_mono (fun h a => ⟨by simp, .inl ⟨rfl, rfl, a⟩⟩) fun _ b => b)
theorem Sat.mkRowK {g cap : Nat} {cur : Array Value} {mk : Nat × Nat} (H : Sat w0 w (Own g (.cells cur e mk) * R)) (n : Nat) (hn : n ≤ cap) (hc : cap ≤ maxLen) (hs : n ≤ cur.size) (hx : cur.toList.take n = xs) : Sat w0 w (RowK e (.slice (some ⟨g, 0, none⟩) n cap) n xs * R) :=
  H.imp (Asrt.sep_mono (fun h a => ⟨by rw [← hx, List.length_take, Array.length_toList]; omega, .inr ⟨g, cap, cur, mk, rfl, hn, hc, hx, a⟩⟩) fun _ b => b)
theorem Sat.toRowK (H : Sat w0 w (Row e 1 v n xs * R)) : Sat w0 w (RowK e v n xs * R) := by
  have hl := H.rowLen
  rcases H.rowOpen.2 with ⟨rfl, rfl, HR⟩ | ⟨g, cap, cur, rfl, h1, h2, h3, h4, HB⟩
  · have : xs = [] := List.eq_nil_of_length_eq_zero (by omega)
    subst this
    exact HR.rowKNil e
  · rw [Nat.mul_one] at h3 h4 hl
    exact Sat.mkRowK (mk := (0, 0)) HB n h1 h2 (by omega) h4
/-- '[]byte(s)'. -/
theorem Sat.bytesOf {P : Program} (H : Sat w0 w R) (src dst e : TypeId) (s : ByteArray) (hs : P.underlying src = some .string) (hd : P.underlying dst = some (.slice e)) (he : P.underlying e = some (.int .u8)) (hm : s.size ≤ 1000000) :
    ∃ g c W, (convert src dst (.string s)).run P w = .ok (.slice (some ⟨g, 0, none⟩) s.size c) W ∧ Sat w0 W (RowK e (.slice (some ⟨g, 0, none⟩) s.size c) s.size (bys (bl s)) * R) := by
  refine ⟨_, _, _, Lib.run_convert_string_bytes w src dst e s hs hd he, ?_⟩
  have hk := Lib.bytesWorld_at_old w e s
  have H1 : Sat w0 (Lib.bytesWorld w e s) (Own w.heap.size (.cells (Lib.bytesCells w e s) e ((Lib.bytesCells w e s).size, (Lib.bytesCells w e s).size + 1)) * R) := by
    refine H.new ?_ ?_ ?_ (Nat.le_refl _) (Lib.bytesWorld_at_new w e s) hk
    all_goals (simp [Lib.bytesWorld, World.freeze, World.alloc, World.drew, -World.alloc_eq, -World.drew_eq])
  have hge := grownCap_ge w s.size 0 e
  have hcm : grownCap w s.size 0 e ≤ maxLen := grownCap_le_maxLen w s.size 0 e (by unfold maxLen; omega)
  refine H1.mkRowK _ hge hcm ?_ ?_
  · simp [Lib.bytesCells]
  · have e1 : (Lib.bytesCells w e s).toList = bys (bl s) ++ List.replicate (grownCap w s.size 0 e - s.size) (.int .u8 0) := by
      simp [Lib.bytesCells, bys, bl]
    rw [e1]
    have e2 : s.size = (bys (bl s)).length := by simp [bys, bl_length]
    exact (congrArg (fun k => List.take k _) e2).trans List.take_left
/-- '[]byte("..")' of a constant. -/
theorem Sat.bytesConst (H : Sat w0 w R) (l : List Int) (cs : Array Value) (e : TypeId) (n : Nat) (mk : Nat × Nat) (h : cs.toList = bys l) (hn : n = l.length) (hm : l.length ≤ maxLen) : Sat w0 (w.alloc (.cells cs e mk)) (RowK e (.slice (some ⟨w.heap.size, 0, none⟩) n n) n (bys l) * R) := by
  subst hn
  have hs : cs.size = l.length := by rw [← Array.length_toList, h]; simp [bys]
  refine (H.allocO _).mkRowK _ (Nat.le_refl _) hm (by omega) ?_
  rw [h, List.take_of_length_le (by simp [bys])]
end
end Go.Proofs.Ytmmigplciogggaa
