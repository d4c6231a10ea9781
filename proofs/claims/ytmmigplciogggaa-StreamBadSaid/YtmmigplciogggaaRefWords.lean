/- The reference's words. -/
import Derived.Test.YtmmigplciogggaaRefTab
import Derived.Test.YtmmigplciogggaaRowSet
namespace Go.Proofs.Ytmmigplciogggaa
open Go Go.RowKit Go.PlainAid

set_option maxHeartbeats 4000000 in
set_option maxRecDepth 100000 in
theorem words_calls (M : ByteArray) (hs : M.size ≤ 100000) (w0 w : World) (R : Asrt) (H : Sat w0 w R) :
    Calls Try.prog 97 #[.string M] w (fun e w' => ∃ (v : Value) (L : List ByteArray), e = .returned v ∧ L.map bl = wordsGo (bl M) [] ∧ Sat w0 w' (Row 9 1 v L.length (strs L) * R)) := by
  have g := get_bt M
  have H1 : Sat w0 (w.alloc (.cells #[.string .empty] 9)) (Row 9 1 (.slice (some ⟨w.heap.size, 0, none⟩) 1 1) 1 (strs [.empty]) * R) := (H.alloc _ _).rowShut (Nat.le_refl _) (by simp [maxLen]) rfl rfl
  go_enter Try.func97, Try.ntmps97
  go_wp2
  go_loopg [3, 4] (M.size) (fun gk v3 v4 wr => ∃ (i : Nat) (L : List ByteArray) (c : ByteArray) (gb cp : Nat), gk = M.size - i ∧ i ≤ M.size ∧ v4 = .int .i64 i ∧ v3 = .slice (some ⟨gb, 0, none⟩) (L.length + 1) cp ∧ Box (L.map bl ++ wordsGo ((bl M).drop i) (bl c) = wordsGo (bl M) []) ∧ L.length ≤ i ∧ c.size ≤ i ∧ Sat w0 wr (Row 9 1 (.slice (some ⟨gb, 0, none⟩) (L.length + 1) cp) (L.length + 1) (strs L ++ [.string c]) * R))
  case atStart => exact ⟨0, [], .empty, w.heap.size, 1, rfl, by omega, rfl, rfl, ⟨by simp; rfl⟩, by simp, by decide, H1⟩
  case round =>
    obtain ⟨i, L, c, gb, cp, rfl, hi, rfl, rfl, HL, hLl, hcs, HI⟩ := hrel
    clear H H1
    obtain ⟨_, _, hsl, hcp, hcm⟩ := HI.rowSlice
    have HCM := Box.mk hcm
    clear hsl hcp hcm
    by_cases hlt : i < M.size
    · have HD := Box.mk (bl_drop M i hlt)
      have HB : Box ((L.length + 1 + 1) * 16 ≤ 140737488355328) := ⟨by omega⟩
      by_cases hb : bt M i = 32
      · have HBB := Box.mk hb
        have hbb : (bt M i == 32) = true := by simp [hb]
        clear hb
        go_wp2_with (first
          | (at_builtin; go_loud (refine wpList_append_sep (w0 := w0) rfl (.tmp 16) (.tmp 17) 40 rfl Try.underlying40 eStr rfl (by decide) (by decide) rfl rfl (HI.allocX _) (reads_newg _ #[.string .empty] 9 1 _ rfl (by simp)) (strs_cell [.empty]) HB.out ?_); intro a3 c3 w3 H3))
        obtain ⟨g3, rfl⟩ := H3.rowSome (by omega)
        go_roundg (M.size - (i + 1))
        case measure => omega
        case rel =>
          refine ⟨i + 1, L ++ [c], .empty, g3, c3, rfl, by omega, by go_num, by simp, ⟨?_⟩, by simp; omega, Nat.zero_le _, ?_⟩
          · have := HL.out
            rw [HD.out, wordsGo, if_pos HBB.out] at this
            rw [← this]
            simp; rfl
          · rw [show strs (L ++ [c]) = strs L ++ [.string c] by simp [strs], show (L ++ [c]).length = L.length + 1 by simp]; exact H3
      · have HBB := Box.mk hb
        have hbb : (bt M i == 32) = false := by simpa using hb
        have b0 := bt_nonneg M i
        have b1 := bt_le M i
        clear hb
        have hcell : wr.drew.cell? ⟨gb, L.length, none⟩ = some (.string c) := HI.drew.rowCell (by simp [strs])
        have hcv : ∀ W : World, (convert 32 9 (.slice (some ⟨W.heap.size, 0, none⟩) 1 1)).run Try.prog (W.alloc (.cells #[.int .u8 (bt M i)] 5)) = .ok (.string (strOfNums [bt M i])) (W.alloc (.cells #[.int .u8 (bt M i)] 5)) := fun W => conv1 W (bt M i)
        have hcv1 : (convert 32 9 (.slice (some ⟨wr.heap.size, 0, none⟩) 1 1)).run Try.prog (wr.alloc (.cells #[.int .u8 (bt M i)] 5)).drew = .ok (.string (strOfNums [bt M i])) (wr.alloc (.cells #[.int .u8 (bt M i)] 5)).drew := hcv wr.drew
        have hsz : (strOfNums [bt M i]).size = 1 := by rw [← bl_length, bl_strOf (by simp; omega)]; rfl
        have H2 := (HI.allocX (.cells #[.int .u8 (bt M i)] 5)).drew
        have hz2 := H2.rowFree L.length
        have hc2 := H2.rowCell (i := L.length) (v := .string c) (by simp [strs])
        have H3 := H2.rowSet L.length (by omega) (.string (c ++ strOfNums [bt M i]))
        have hix : (L.length : Int) + 1 - 1 = L.length := by omega
        clear hcv
        go_wp2
        refine wp_text (by kernel_rfl) (by kernel_rfl) _ rfl ?_
        go_wp2
        refine ⟨?_, by kernel_rfl⟩
        go_wp2
        go_roundg (M.size - (i + 1))
        case measure => omega
        case rel =>
          refine ⟨i + 1, L, c ++ strOfNums [bt M i], gb, cp, rfl, by omega, by go_num, rfl, ⟨?_⟩, by omega, ?_, ?_⟩
          · have := HL.out
            rw [HD.out, wordsGo, if_neg HBB.out] at this
            rw [bl_append, bl_strOf (by simp; omega)]; exact this
          · rw [← bl_length, bl_append, List.length_append, bl_length, bl_length, hsz]; omega
          · have e : (strs L ++ [Value.string c]).set L.length (.string (c ++ strOfNums [bt M i])) = strs L ++ [.string (c ++ strOfNums [bt M i])] := by
              rw [show L.length = (strs L).length by simp [strs], List.set_append_right _ _ (Nat.le_refl _)]; simp
            rw [← e]; exact H3
    · obtain rfl : i = M.size := by omega
      go_wp2
      go_ret
      refine ⟨_, L ++ [c], rfl, ?_, by rw [show strs (L ++ [c]) = strs L ++ [.string c] by simp [strs], show (L ++ [c]).length = L.length + 1 by simp]; exact HI⟩
      have := HL.out
      rw [List.drop_of_length_le (by rw [bl_length]; exact Nat.le_refl _), wordsGo] at this
      simpa using this
end Go.Proofs.Ytmmigplciogggaa
