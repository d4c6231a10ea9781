/- StreamBytes and StreamBad where the text is not good: nothing is asked. -/
import Derived.Test.YtmmigplciogggaaStreamB
namespace Go.Proofs.Ytmmigplciogggaa
open Go Go.RowKit Go.PlainAid

set_option maxHeartbeats 8000000 in
set_option maxRecDepth 100000 in
theorem bytes_bad (s : ByteArray) (w : World) (hs : s.size ≤ maxLen) (hg : goodT ((bl s).take 120) = none) :
    Calls Try.prog 4 #[.string s] w (fun e w' => e = .returned (.bool true) ∧ Below w.heap.size w w') := by
  unfold maxLen at hs
  have hq : ∀ q, sptr q = .pointer (some ⟨q, 0, none⟩) := fun _ => rfl
  -- the text
  obtain ⟨cs, r, g⟩ := Rd.total _ ((bl s).take 120) (Nat.le_refl _)
  have hg2 := hg
  rw [goodT_eq g] at hg2
  have hT120 : ((bl s).take 120).length ≤ 120 := List.length_take_le _ _
  have HG := Box.mk hg
  have HG2 := Box.mk hg2
  have HRd := Box.mk g
  have HBe := Box.mk (begun5_calls w w _ (Sat.begin w))
  have HCut := Box.mk (fun W => Cut_calls s 120 (by omega) hs W)
  clear hg g hg2
  go_enter Try.func4, Try.ntmps4
  go_wp2_with (go_at_call 13; (with_reducible refine HBe.out.mono ?_); rintro e w1 ⟨rfl, H1⟩)
  refine (HCut.out _).mono ?_
  rintro e wz ⟨T, rfl, hT, rfl⟩
  rw [← hT] at HG HRd hT120
  rw [bl_length] at hT120
  have HRT := Box.mk (RText_calls T (by omega) (T.size + 1) (by omega) w w1 _ H1)
  clear hT HCut HBe
  by_cases hr : r = []
  · subst hr
    have hruns : runs 30 0 (ordS (cs.flatMap apart)) = true := by
      have h := HG2.out
      cases hx : runs 30 0 (ordS (cs.flatMap apart)) with
      | true => rfl
      | false => rw [if_pos ⟨rfl, hx⟩] at h; cases h
    obtain ⟨F, hF⟩ : ∃ F, ordS (cs.flatMap apart) = F := ⟨_, rfl⟩
    have hok := HRd.out.ok
    have hFv := formL_ok hok.1
    have hFl := ordS_length (cs.flatMap apart)
    have hfl := flat_len (cs := cs) fun c hc => (hok.1 c hc).1
    rw [hF] at hFv hFl hruns
    have hFN : F.length ≤ 1600 := by have := hok.2; rw [bl_length] at this; simp at this; omega
    have HFV := Box.mk hFv
    have HRU := Box.mk hruns
    obtain ⟨FM, hFM⟩ : ∃ FM, strOfNums (encs F) = FM := ⟨_, rfl⟩
    have hFMb : bl FM = encs F := by rw [← hFM]; exact bl_strOf (encs_bytes _ fun x hx => (hFv x hx).1)
    have hFMl : FM.size ≤ 6400 := by rw [← bl_length, hFMb]; have := encs_len F; omega
    have HFM := Box.mk hFM
    have HF := Box.mk hF
    have HRF : Box (readL (FM.size + 1) (bl FM) = some F) := ⟨by rw [hFMb, readL_Rd (Rd_encs F hFv) _ (by rw [← hFMb, bl_length]; omega), if_pos rfl]⟩
    rw [readL_Rd HRd.out _ (by rw [bl_length]; omega), if_pos rfl] at HRT
    clear hok hFv hFl hfl hruns hFM hFMb hF
    go_wp2_with (first
      | (go_at_call 15; (with_reducible refine HRT.out.mono ?_); rintro e w2 ⟨rfl, H2⟩; rw [HF.out, HFM.out]; have HRR := Read_calls FM (by omega) (FM.size + 1) (by omega) w w2 _ H2; rw [HRF.out] at HRR)
      | (go_at_call 16; (with_reducible refine HRR.mono ?_); rintro e w3 ⟨v3, rfl, H3⟩; have HMK := marks_calls F v3 w w3 _ H3 (by omega) (fun x hx => (HFV.out x hx).1); rw [HRU.out] at HMK)
      | (go_at_call 17; (with_reducible refine HMK.mono ?_); rintro e w4 ⟨rfl, H4⟩))
    go_ret
    exact ⟨rfl, H4.right.ended1⟩
  · rw [readL_Rd HRd.out _ (by rw [bl_length]; omega), if_neg hr] at HRT
    have HRN : Box (readL (ByteArray.empty.size + 1) (bl .empty) = some []) := ⟨rfl⟩
    clear hr
    go_wp2_with (first
      | (go_at_call 15; (with_reducible refine HRT.out.mono ?_); rintro e w2 ⟨rfl, H2⟩; have HRR := Read_calls .empty (by decide) (ByteArray.empty.size + 1) (by decide) w w2 _ H2; rw [HRN.out] at HRR)
      | (go_at_call 16; (with_reducible refine HRR.mono ?_); rintro e w4 ⟨v3, rfl, H4⟩))
    go_ret
    exact ⟨rfl, H4.right.ended1⟩
set_option maxHeartbeats 8000000 in
set_option maxRecDepth 100000 in
theorem bad_bad (s : ByteArray) (kind : Int) (w : World) (hs : s.size ≤ maxLen) (hg : goodT ((bl s).take 40) = none) :
    Calls Try.prog 5 #[.string s, .int .i64 kind] w (fun e w' => e = .returned (.bool true) ∧ Below w.heap.size w w') := by
  unfold maxLen at hs
  have hq : ∀ q, sptr q = .pointer (some ⟨q, 0, none⟩) := fun _ => rfl
  -- the text
  obtain ⟨cs, r, g⟩ := Rd.total _ ((bl s).take 40) (Nat.le_refl _)
  have hg2 := hg
  rw [goodT_eq g] at hg2
  have hT40 : ((bl s).take 40).length ≤ 40 := List.length_take_le _ _
  have HG := Box.mk hg
  have HG2 := Box.mk hg2
  have HRd := Box.mk g
  have HBe := Box.mk (begun5_calls w w _ (Sat.begin w))
  have HCut := Box.mk (fun W => Cut_calls s 40 (by omega) hs W)
  clear hg g hg2
  go_enter Try.func5, Try.ntmps5
  go_wp2_with (go_at_call 13; (with_reducible refine HBe.out.mono ?_); rintro e w1 ⟨rfl, H1⟩)
  refine (HCut.out _).mono ?_
  rintro e wz ⟨T, rfl, hT, rfl⟩
  rw [← hT] at HG HRd hT40
  rw [bl_length] at hT40
  have HRT := Box.mk (RText_calls T (by omega) (T.size + 1) (by omega) w w1 _ H1)
  clear hT HCut HBe
  by_cases hr : r = []
  · subst hr
    have hruns : runs 30 0 (ordS (cs.flatMap apart)) = true := by
      have h := HG2.out
      cases hx : runs 30 0 (ordS (cs.flatMap apart)) with
      | true => rfl
      | false => rw [if_pos ⟨rfl, hx⟩] at h; cases h
    obtain ⟨F, hF⟩ : ∃ F, ordS (cs.flatMap apart) = F := ⟨_, rfl⟩
    have hok := HRd.out.ok
    have hFv := formL_ok hok.1
    have hFl := ordS_length (cs.flatMap apart)
    have hfl := flat_len (cs := cs) fun c hc => (hok.1 c hc).1
    rw [hF] at hFv hFl hruns
    have hFN : F.length ≤ 1600 := by have := hok.2; rw [bl_length] at this; simp at this; omega
    have HFV := Box.mk hFv
    have HRU := Box.mk hruns
    obtain ⟨FM, hFM⟩ : ∃ FM, strOfNums (encs F) = FM := ⟨_, rfl⟩
    have hFMb : bl FM = encs F := by rw [← hFM]; exact bl_strOf (encs_bytes _ fun x hx => (hFv x hx).1)
    have hFMl : FM.size ≤ 6400 := by rw [← bl_length, hFMb]; have := encs_len F; omega
    have HFM := Box.mk hFM
    have HF := Box.mk hF
    have HRF : Box (readL (FM.size + 1) (bl FM) = some F) := ⟨by rw [hFMb, readL_Rd (Rd_encs F hFv) _ (by rw [← hFMb, bl_length]; omega), if_pos rfl]⟩
    rw [readL_Rd HRd.out _ (by rw [bl_length]; omega), if_pos rfl] at HRT
    clear hok hFv hFl hfl hruns hFM hFMb hF
    go_wp2_with (first
      | (go_at_call 15; (with_reducible refine HRT.out.mono ?_); rintro e w2 ⟨rfl, H2⟩; rw [HF.out, HFM.out]; have HRR := Read_calls FM (by omega) (FM.size + 1) (by omega) w w2 _ H2; rw [HRF.out] at HRR)
      | (go_at_call 16; (with_reducible refine HRR.mono ?_); rintro e w3 ⟨v3, rfl, H3⟩; have HMK := marks_calls F v3 w w3 _ H3 (by omega) (fun x hx => (HFV.out x hx).1); rw [HRU.out] at HMK)
      | (go_at_call 17; (with_reducible refine HMK.mono ?_); rintro e w4 ⟨rfl, H4⟩))
    go_ret
    exact ⟨rfl, H4.right.ended1⟩
  · rw [readL_Rd HRd.out _ (by rw [bl_length]; omega), if_neg hr] at HRT
    have HRN : Box (readL (ByteArray.empty.size + 1) (bl .empty) = some []) := ⟨rfl⟩
    clear hr
    go_wp2_with (first
      | (go_at_call 15; (with_reducible refine HRT.out.mono ?_); rintro e w2 ⟨rfl, H2⟩; have HRR := Read_calls .empty (by decide) (ByteArray.empty.size + 1) (by decide) w w2 _ H2; rw [HRN.out] at HRR)
      | (go_at_call 16; (with_reducible refine HRR.mono ?_); rintro e w4 ⟨v3, rfl, H4⟩))
    go_ret
    exact ⟨rfl, H4.right.ended1⟩
end Go.Proofs.Ytmmigplciogggaa
