/- stream.Close, and Write on a stream that has ended. -/
import Derived.Test.YtmmigplciogggaaWrite
namespace Go.Proofs.Ytmmigplciogggaa
open Go Go.RowKit Go.PlainAid

set_option maxHeartbeats 1000000 in
set_option maxRecDepth 100000 in
theorem Write_err (p : Nat) (r : ByteArray) (vh vb : Value) (k e : Int) (w0 w : World) (R : Asrt) (H : Sat w0 w (Strm p r vh k e false * R)) (he : e ≠ 0) :
    Calls Try.prog 19 #[sptr p, vb] w (fun y w' => y = .returned (.tuple #[.slice none 0 0, .int .i64 e]) ∧ Sat w0 w' (Strm p r vh k e false * R)) := by
  have H0 : Sat w0 w (Blk p #[.string r, vh, .int .i64 k, .int .i64 e, .bool false] 91 * R) := H
  have c3 := H0.cell 3
  have c4 := H0.cell 4
  simp only [List.getElem?_toArray, List.getElem?_cons_zero, List.getElem?_cons_succ] at c3 c4
  unfold sptr
  go_enter Try.func19, Try.ntmps19
  go_wp2
  refine wp_text (by kernel_rfl) (by kernel_rfl) _ rfl ?_
  go_wp2
  refine ⟨?_, by kernel_rfl⟩
  go_wp2
  go_ret2
  exact ⟨rfl, H.drew⟩
set_option maxHeartbeats 1000000 in
set_option maxRecDepth 100000 in
theorem Write_closed (p : Nat) (r : ByteArray) (vh vb : Value) (k e : Int) (w0 w : World) (R : Asrt) (H : Sat w0 w (Strm p r vh k e true * R)) :
    Calls Try.prog 19 #[sptr p, vb] w (fun y w' => y = .returned (.tuple #[.slice none 0 0, .int .i64 11]) ∧ Sat w0 w' (Strm p r vh k e true * R)) := by
  have H0 : Sat w0 w (Blk p #[.string r, vh, .int .i64 k, .int .i64 e, .bool true] 91 * R) := H
  have c4 := H0.cell 4
  simp only [List.getElem?_toArray, List.getElem?_cons_zero, List.getElem?_cons_succ] at c4
  unfold sptr
  go_enter Try.func19, Try.ntmps19
  go_wp2
  go_ret2
  exact ⟨rfl, H⟩
set_option maxHeartbeats 1000000 in
set_option maxRecDepth 100000 in
theorem Close_err (p : Nat) (r : ByteArray) (vh : Value) (k e : Int) (w0 w : World) (R : Asrt) (H : Sat w0 w (Strm p r vh k e false * R)) (he : e ≠ 0) :
    Calls Try.prog 21 #[sptr p] w (fun y w' => y = .returned (.tuple #[.slice none 0 0, .int .i64 e]) ∧ Sat w0 w' (Strm p r vh k e false * R)) := by
  have H0 : Sat w0 w (Blk p #[.string r, vh, .int .i64 k, .int .i64 e, .bool false] 91 * R) := H
  have c3 := H0.cell 3
  have c4 := H0.cell 4
  simp only [List.getElem?_toArray, List.getElem?_cons_zero, List.getElem?_cons_succ] at c3 c4
  unfold sptr
  go_enter Try.func21, Try.ntmps21
  go_wp2
  refine wp_text (by kernel_rfl) (by kernel_rfl) _ rfl ?_
  go_wp2
  refine ⟨?_, by kernel_rfl⟩
  go_wp2
  go_ret2
  exact ⟨rfl, H.drew⟩
set_option maxHeartbeats 1000000 in
set_option maxRecDepth 100000 in
theorem Close_rest (p : Nat) (r : ByteArray) (vh : Value) (k : Int) (w0 w : World) (R : Asrt) (H : Sat w0 w (Strm p r vh k 0 false * R)) (hr : r.size ≠ 0) :
    Calls Try.prog 21 #[sptr p] w (fun y w' => y = .returned (.tuple #[.slice none 0 0, .int .i64 1]) ∧ Sat w0 w' (Strm p .empty (.slice none 0 0) 0 1 false * R)) := by
  have H0 : Sat w0 w (Blk p #[.string r, vh, .int .i64 k, .int .i64 0, .bool false] 91 * R) := H
  have c0 := H0.cell 0
  have c3 := H0.cell 3
  have c4 := H0.cell 4
  simp only [List.getElem?_toArray, List.getElem?_cons_zero, List.getElem?_cons_succ] at c0 c3 c4
  have hn := full_toList (s := r) (by omega)
  unfold sptr
  go_enter Try.func21, Try.ntmps21
  go_wp2_with (go_at_call 53; refine (fail_calls p r vh k 0 1 false w0 _ _ H).mono ?_; rintro e w6 ⟨rfl, H6⟩)
  go_ret2
  exact ⟨rfl, H6⟩
set_option maxHeartbeats 1000000 in
set_option maxRecDepth 100000 in
theorem Close_ok (p : Nat) (r : ByteArray) (vh : Value) (k : Int) (h : List Int) (w0 w : World) (R : Asrt) (H : Sat w0 w (Strm p r vh k 0 false * (Row 3 1 vh h.length (ints h) * R))) (hr : r.size = 0) (hh : ∀ x ∈ h, okC x) (hl : h.length ≤ 1000000) :
    Calls Try.prog 21 #[sptr p] w (fun y w' => ∃ v, y = .returned (.tuple #[v, .int .i64 0]) ∧ Sat w0 w' (Strm p r (.slice none 0 0) k 0 true * (Row 5 1 v (encs (ordS h)).length (bys (encs (ordS h))) * R))) := by
  have H0 : Sat w0 w (Blk p #[.string r, vh, .int .i64 k, .int .i64 0, .bool false] 91 * _) := H
  have c0 := H0.cell 0
  have c1 := H0.cell 1
  have c3 := H0.cell 3
  have c4 := H0.cell 4
  simp only [List.getElem?_toArray, List.getElem?_cons_zero, List.getElem?_cons_succ] at c0 c1 c3 c4
  have hn := empty_toList hr
  have HG := Box.mk (give_calls h vh w0 w _ H.at2 hl hh)
  unfold sptr
  go_enter Try.func21, Try.ntmps21
  go_wp2_with (go_at_call 55; refine HG.out.mono ?_; rintro e w6 ⟨v, rfl, H6⟩
               have H7 : Sat w0 w6 (Blk p #[.string r, vh, .int .i64 k, .int .i64 0, .bool false] 91 * _) := H6.at3
               have d4 : w6.cell? ⟨p, 4, none⟩ = some (.bool false) := by rw [H7.cell]; rfl
               have e4 : w6.frozen? ⟨p, 4, none⟩ = false := H7.free 4
               have H8 := H7.setCell 4 (.bool true)
               have d1 : (w6.setCell ⟨p, 4, none⟩ (.bool true)).cell? ⟨p, 1, none⟩ = some vh := by rw [H8.cell]; rfl
               have e1 : (w6.setCell ⟨p, 4, none⟩ (.bool true)).frozen? ⟨p, 1, none⟩ = false := H8.free 1
               have H9 := H8.setCell 1 (.slice none 0 0))
  go_ret2
  exact ⟨v, rfl, H9.at3.right⟩
end Go.Proofs.Ytmmigplciogggaa
