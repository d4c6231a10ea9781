/- stream: New, fail, Held, take walked. -/
import Derived.Test.YtmmigplciogggaaPut
namespace Go.Proofs.Ytmmigplciogggaa
open Go Go.RowKit Go.PlainAid

/-- A stream's cells. -/
def Strm (p : Nat) (r : ByteArray) (vh : Value) (k e : Int) (c : Bool) : Asrt := Blk p #[.string r, vh, .int .i64 k, .int .i64 e, .bool c] 91
def sptr (p : Nat) : Value := .pointer (some ⟨p, 0, none⟩)

set_option maxHeartbeats 1000000 in
theorem New_calls (w0 w : World) (R : Asrt) (H : Sat w0 w R) : Calls Try.prog 18 #[] w (fun e w' => ∃ p, e = .returned (sptr p) ∧ Sat w0 w' (Strm p .empty (.slice none 0 0) 0 0 false * R)) := by
  go_enter Try.func18, Try.ntmps18
  go_wp2
  go_ret
  exact ⟨w.heap.size, rfl, H.alloc _ _⟩
set_option maxHeartbeats 1000000 in
theorem fail_calls (p : Nat) (r : ByteArray) (vh : Value) (k e x : Int) (c : Bool) (w0 w : World) (R : Asrt) (H : Sat w0 w (Strm p r vh k e c * R)) :
    Calls Try.prog 53 #[sptr p, .int .i64 x] w (fun y w' => y = .returned (.int .i64 x) ∧ Sat w0 w' (Strm p .empty (.slice none 0 0) 0 x c * R)) := by
  have H0 : Sat w0 w (Blk p #[.string r, vh, .int .i64 k, .int .i64 e, .bool c] 91 * R) := H
  have H1 := (((H0.setCell 3 (.int .i64 x)).setCell 1 (.slice none 0 0)).setCell 0 (.string .empty)).setCell 2 (.int .i64 0)
  have c0 := H0.cell 0
  have c1 := H0.cell 1
  have c2 := H0.cell 2
  have c3 := H0.cell 3
  have f0 := H0.free 0
  have f1 := H0.free 1
  have f2 := H0.free 2
  have f3 := H0.free 3
  simp only [List.getElem?_toArray, List.getElem?_cons_zero, List.getElem?_cons_succ] at c0 c1 c2 c3
  unfold sptr
  go_enter Try.func53, Try.ntmps53
  go_wp2
  go_ret
  exact ⟨rfl, H1⟩
set_option maxHeartbeats 1000000 in
theorem Held_calls (p : Nat) (r : ByteArray) (vh : Value) (k e : Int) (c : Bool) (n : Nat) (xs : List Value) (w0 w : World) (R : Asrt) (H : Sat w0 w (Row 3 1 vh n xs * (Strm p r vh k e c * R))) :
    Calls Try.prog 22 #[sptr p] w (fun y w' => y = .returned (.int .i64 n) ∧ w' = w) := by
  obtain ⟨ar, cr, rfl, _, hcm⟩ := H.rowSlice
  have HC := Box.mk hcm
  have H0 : Sat w0 w (Blk p #[.string r, .slice ar n cr, .int .i64 k, .int .i64 e, .bool c] 91 * _) := H.at2
  have c1 := H0.cell 1
  simp only [List.getElem?_toArray, List.getElem?_cons_zero, List.getElem?_cons_succ] at c1
  clear hcm
  unfold sptr
  go_enter Try.func22, Try.ntmps22
  go_wp2
  go_ret
  exact ⟨rfl, rfl⟩
end Go.Proofs.Ytmmigplciogggaa
