/- The reference's lines, number. -/
import Derived.Test.YtmmigplciogggaaRefWrite
namespace Go.Proofs.Ytmmigplciogggaa
open Go Go.RowKit Go.PlainAid

theorem eStr : Elem Try.prog 9 1 16 (.string .empty) := by unfold Elem; kernel_rfl
def strs (l : List ByteArray) : List Value := l.map Value.string
theorem strs_cell (l : List ByteArray) : ∀ u ∈ strs l, u.oneCell' = true := by
  intro u hu
  simp only [strs, List.mem_map] at hu
  obtain ⟨x, _, rfl⟩ := hu
  rfl
/-- A text's lines. -/
def linesGo : List Int → List Int → List (List Int)
  | [], _ => []
  | b :: t, cur => if b = 10 then cur :: linesGo t [] else linesGo t (cur ++ [b])
set_option maxHeartbeats 4000000 in
set_option maxRecDepth 100000 in
theorem lines_calls (M : ByteArray) (hs : M.size ≤ 100000) (w0 w : World) (R : Asrt) (H : Sat w0 w R) :
    Calls Try.prog 96 #[.string M] w (fun e w' => ∃ (v : Value) (L : List ByteArray), e = .returned v ∧ L.map bl = linesGo (bl M) [] ∧ Sat w0 w' (Row 9 1 v L.length (strs L) * R)) := by
  have g := get_bt M
  go_enter Try.func96, Try.ntmps96
  go_wp2
  go_loopg [3, 4, 5] (M.size) (fun gk v3 v4 v5 wr => ∃ (at' i : Nat) (L : List ByteArray), gk = M.size - i ∧ at' ≤ i ∧ i ≤ M.size ∧ v4 = .int .i64 at' ∧ v5 = .int .i64 i ∧ Box (L.map bl ++ linesGo ((bl M).drop i) (((bl M).drop at').take (i - at')) = linesGo (bl M) []) ∧ L.length ≤ i ∧ Sat w0 wr (Row 9 1 v3 L.length (strs L) * R))
  case atStart => exact ⟨0, 0, [], rfl, by omega, by omega, rfl, rfl, ⟨by simp⟩, by simp, H.rowNil _ _⟩
  case round =>
    obtain ⟨at', i, L, rfl, hat, hi, rfl, rfl, HL, hLl, HI⟩ := hrel
    clear H
    by_cases hlt : i < M.size
    · have hdrop := bl_drop M i hlt
      have htk : ((bl M).drop at').take (i + 1 - at') = ((bl M).drop at').take (i - at') ++ [bt M i] := by
        have hq : ((bl M).drop at')[i - at']? = some (bt M i) := by rw [List.getElem?_drop, show at' + (i - at') = i by omega]; exact bl_get M i hlt
        obtain ⟨h1, h2⟩ := List.getElem?_eq_some_iff.1 hq
        rw [show i + 1 - at' = i - at' + 1 by omega, List.take_succ_eq_append_getElem h1, h2]
      have HD := Box.mk hdrop
      have HT := Box.mk htk
      have HB : Box ((L.length + 1) * 16 ≤ 140737488355328) := ⟨by omega⟩
      clear hdrop htk
      by_cases hb : bt M i = 10
      · have HBB := Box.mk hb
        have hbb : (bt M i == 10) = true := by simp [hb]
        obtain ⟨E, hE⟩ : ∃ E, M.extract at' i = E := ⟨_, rfl⟩
        have HE : Box (bl E = ((bl M).drop at').take (i - at')) := ⟨by rw [← hE, bl_extract]⟩
        clear hb
        go_wp2_with (first
          | (at_builtin; go_loud (refine wpList_append_sep (w0 := w0) rfl (.tmp 16) (.tmp 21) 40 rfl Try.underlying40 eStr rfl (by decide) (by decide) rfl rfl (HI.allocX _) (reads_newg _ #[.string E] 9 1 _ rfl (by simp)) (strs_cell [E]) HB.out ?_); intro a3 c3 w3 H3))
        go_roundg (M.size - (i + 1))
        case measure => omega
        case rel =>
          refine ⟨i + 1, i + 1, L ++ [E], rfl, by omega, by omega, by go_num, by go_num, ⟨?_⟩, by simp; omega, by rw [List.length_append, show strs (L ++ [E]) = strs L ++ [.string E] by simp [strs]]; exact H3⟩
          have := HL.out
          rw [HD.out, linesGo, if_pos HBB.out] at this
          rw [← this]
          simp [HE.out]
      · have HBB := Box.mk hb
        have hbb : (bt M i == 10) = false := by simpa using hb
        clear hb
        go_wp2
        go_roundg (M.size - (i + 1))
        case measure => omega
        case rel =>
          refine ⟨at', i + 1, L, rfl, by omega, by omega, rfl, by go_num, ⟨?_⟩, by omega, HI⟩
          have := HL.out
          rw [HD.out, linesGo, if_neg HBB.out] at this
          rw [HT.out]; exact this
    · obtain rfl : i = M.size := by omega
      go_wp2
      go_ret
      refine ⟨u3, L, rfl, ?_, HI⟩
      have := HL.out
      rw [List.drop_of_length_le (by rw [bl_length]; exact Nat.le_refl _), linesGo, List.append_nil] at this
      exact this
end Go.Proofs.Ytmmigplciogggaa
