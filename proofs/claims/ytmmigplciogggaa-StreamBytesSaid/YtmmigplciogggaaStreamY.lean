/- StreamBytes: byte by byte, or at once. -/
import Derived.Test.YtmmigplciogggaaStreamB
namespace Go.Proofs.Ytmmigplciogggaa
open Go Go.RowKit Go.PlainAid

set_option maxHeartbeats 8000000 in
set_option maxRecDepth 100000 in
theorem bytes_good (s : ByteArray) (w : World) (hs : s.size ≤ maxLen) (F : List Int) (hg : goodT ((bl s).take 120) = some F) :
    Calls Try.prog 4 #[.string s] w (fun e w' => e = .returned (.bool true) ∧ Below w.heap.size w w') := by
  unfold maxLen at hs
  have hq : ∀ q, sptr q = .pointer (some ⟨q, 0, none⟩) := fun _ => rfl
  -- the text
  obtain ⟨cs, r, g⟩ := Rd.total _ ((bl s).take 120) (Nat.le_refl _)
  have hg2 := hg
  rw [goodT_eq g] at hg2
  split at hg2
  case isFalse => cases hg2
  rename_i hr
  obtain ⟨rfl, hruns⟩ := hr
  simp only [Option.some.injEq] at hg2
  have hok := g.ok
  have hFv := formL_ok hok.1
  have hFl := ordS_length (cs.flatMap apart)
  have hfl := flat_len (cs := cs) fun c hc => (hok.1 c hc).1
  rw [hg2] at hFv hFl hruns
  have hT120 : ((bl s).take 120).length ≤ 120 := List.length_take_le _ _
  have hFN : F.length ≤ 1600 := by have := hok.2; omega
  have HFV := Box.mk hFv
  have HRU := Box.mk hruns
  have HG := Box.mk hg
  have HG2 := Box.mk hg2
  have HRd := Box.mk g
  have HBe := Box.mk (begun5_calls w w _ (Sat.begin w))
  have HCut := Box.mk (fun W => Cut_calls s 120 (by omega) hs W)
  obtain ⟨FM, hFM⟩ : ∃ FM, strOfNums (encs F) = FM := ⟨_, rfl⟩
  have hFMb : bl FM = encs F := by rw [← hFM]; exact bl_strOf (encs_bytes _ fun x hx => (hFv x hx).1)
  have hFMl : FM.size ≤ 6400 := by rw [← bl_length, hFMb]; have := encs_len F; omega
  have HFM := Box.mk (And.intro hFM hFMb)
  have HRF : Box (readL (FM.size + 1) (bl FM) = some F) := ⟨by rw [hFMb, readL_Rd (Rd_encs F hFv) _ (by rw [← hFMb, bl_length]; omega), if_pos rfl]⟩
  clear hg g hg2 hok hFv hFl hfl hruns hFM hFMb
  go_enter Try.func4, Try.ntmps4
  go_wp2_with (go_at_call 13; (with_reducible refine HBe.out.mono ?_); rintro e w1 ⟨rfl, H1⟩)
  refine (HCut.out _).mono ?_
  rintro e wz ⟨T, rfl, hT, rfl⟩
  rw [← hT] at HG HRd hT120
  rw [bl_length] at hT120
  have HRT := Box.mk (RText_calls T (by omega) (T.size + 1) (by omega) w w1 _ H1)
  rw [readL_Rd HRd.out _ (by rw [bl_length]; omega), if_pos rfl] at HRT
  clear hT HCut HBe
  go_upto_region 9 with (first
    | (go_at_call 15; (with_reducible refine HRT.out.mono ?_); rintro e w2 ⟨rfl, H2⟩; rw [HG2.out, HFM.out.1]; have HRR := Read_calls FM (by omega) (FM.size + 1) (by omega) w w2 _ H2; rw [HRF.out] at HRR)
    | (go_at_call 16; (with_reducible refine HRR.mono ?_); rintro e w3 ⟨v3, rfl, H3⟩; have HMK := marks_calls F v3 w w3 _ H3 (by omega) (fun x hx => (HFV.out x hx).1); rw [HRU.out] at HMK)
    | (go_at_call 17; (with_reducible refine HMK.mono ?_); rintro e w4 ⟨rfl, H4⟩))
  have HQ := Box.mk hq
  have H4R := H4.right
  clear H1 H2 H3 H4 HRT HRR HMK HRU
  have HN := New_st w w4 _ H4R
  go_wp2_with fail
  refine HN.mono ?_
  rintro e w5 ⟨q, rfl, H5⟩
  have HN2 := New_st w w5 _ H5
  go_wp2_with fail
  refine HN2.mono ?_
  rintro e w6 ⟨q2, rfl, H6⟩
  clear HN HN2 H5 H4R
  -- at once
  obtain ⟨gb, cb, W, hconv, HW⟩ := H6.bytesOf (P := Try.prog) 9 32 5 T Try.underlying9 Try.underlying32 Try.underlying5 (by omega)
  have HW2 : Sat w W (RowK 5 (.slice (some ⟨gb, 0, none⟩) T.size cb) (bl T).length (bys (bl T)) * (StA q2 [] * (StA q [] * Old w))) := by rw [bl_length]; exact HW
  have HWr := Write_st q [] (bl T) _ w W _ HW2.at3 (bl_bytes T) (by simp [bl_length]; omega)
  go_wp2_with fail
  refine HWr.mono ?_
  rintro e w7 ⟨v7, out, err, rfl, H7, hx⟩
  rw [List.nil_append] at H7 hx
  have hgo := HG.out
  rw [← List.append_nil (bl T)] at hgo
  obtain ⟨cs2, r2, h2, m2, o2, g2, hs2, _⟩ := stOf_good hgo
  obtain ⟨rfl, hgv⟩ : err = 0 ∧ o2 = out := by
    rcases hx with ⟨_, h1, h2⟩ | ⟨h1, _⟩
    · rw [hs2] at h2
      exact ⟨h1, h2⟩
    · rw [hs2] at h1; cases h1
  subst hgv
  have HCl := Close_st q (bl T) w w7 _ H7
  go_wp2_with fail
  refine HCl.mono ?_
  rintro e w8 ⟨v8, out8, err8, rfl, H8, hol, hob, hx8⟩
  obtain ⟨rfl, hgv8⟩ : err8 = 0 ∧ encs F = o2 ++ out8 := by
    rcases hx8 with ⟨F2, h1, _, h2, h3⟩ | ⟨h1, _⟩
    · rw [HG.out] at h1; cases h1
      rw [hs2] at h3
      exact ⟨h2, h3.symm⟩
    · rw [HG.out] at h1; cases h1
  have i2 := stOf_inv hs2
  have hob2 := i2.2.2.2.2.2
  have hol2 := i2.2.2.2.2.1
  rw [bl_length] at hol2
  have hk7 := bytesOf_eq v7 _ o2 w8 H8.at2.rowReads
  have hk8 := bytesOf_eq v8 _ out8 w8 H8.rowReads
  have hO : strOfNums o2 ++ strOfNums out8 = FM := bl_inj (by rw [bl_append, bl_strOf hob2, bl_strOf hob, ← hgv8, HFM.out.2])
  have hsO : (strOfNums o2).size + (strOfNums out8).size ≤ 300000 := by rw [← bl_length, ← bl_length, bl_strOf hob2, bl_strOf hob]; omega
  have H9 : Sat w w8 (StA q2 [] * Old w) := (H8.cast (by ac_rfl) : Sat w w8 ((Row 5 1 v8 out8.length (bys out8) * (Row 5 1 v7 o2.length (bys o2) * RowK 5 (.slice (some ⟨gb, 0, none⟩) T.size cb) (bl T).length (bys (bl T)))) * (StA q2 [] * Old w))).right
  clear HCl hx hx8 hgv8 hob hob2 hol2 i2 hol H8 H7 hgo hs2 g2 HWr HW HW2 hconv H6
  go_wp2_with fail
  clear hO hsO hk7 hk8
  go_loopg [14, 15, 16, 17] (T.size) (fun g v14 v15 v16 v17 wr => ∃ (i : Nat) (O : ByteArray), g = T.size - i ∧ v15 = .int .i64 i ∧ v14 = .string O ∧ i ≤ T.size ∧ O.size ≤ 198400 ∧ Box (okS (stOf ((bl T).take i)) = true ∧ bl O = givS (stOf ((bl T).take i))) ∧ Sat w wr (StA q2 ((bl T).take i) * Old w))
  case atStart => exact ⟨0, .empty, rfl, rfl, rfl, by omega, by decide, ⟨⟨rfl, rfl⟩⟩, H9⟩
  case round =>
    obtain ⟨i, O, rfl, rfl, rfl, hi, hO, HSt, HI⟩ := hrel
    clear H9
    by_cases hlt : i < T.size
    · have HT1 : Box ((bl T).take i ++ [bt T i] = (bl T).take (i + 1)) := ⟨by
        have := bl_get T i hlt
        obtain ⟨hq, he⟩ := List.getElem?_eq_some_iff.1 this
        rw [List.take_succ_eq_append_getElem hq, he]⟩
      have gbt := get_bt T
      have b0 := bt_nonneg T i
      have b1 := bt_le T i
      have H1 := HI.bytesConst [bt T i] #[.int .u8 (bt T i)] 5 1 (0, 0) rfl rfl (by simp [maxLen])
      have HWr := Write_st q2 ((bl T).take i) [bt T i] _ w _ _ H1.at2 (by simp; omega) (by rw [List.length_take, bl_length]; simp; omega)
      have hgo := HG.out
      rw [← List.take_append_drop (i + 1) (bl T)] at hgo
      obtain ⟨cs3, r3, h3, m3, o3, g3, hs3, _⟩ := stOf_good hgo
      have HS3 := Box.mk hs3
      have i3 := stOf_inv hs3
      have hol3 := i3.2.2.2.2.1
      have HOB := Box.mk i3.2.2.2.2.2
      have hl3 : ((bl T).take (i + 1)).length ≤ 120 := by rw [List.length_take, bl_length]; omega
      have ho3 : o3.length ≤ 198400 := by omega
      clear hgo g3 hs3 i3 hol3 hl3 HI H1
      go_wp2_with fail
      refine HWr.mono ?_
      rintro e w10 ⟨v10, out, err, rfl, H10, hx⟩
      go_upto_region 19 with fail
      rw [HT1.out] at H10 hx
      obtain ⟨rfl, hgv⟩ : err = 0 ∧ o3 = givS (stOf ((bl T).take i)) ++ out := by
        rcases hx with ⟨_, h1, h2⟩ | ⟨h1, _⟩
        · rw [HS3.out] at h2; exact ⟨h1, h2⟩
        · rw [HS3.out] at h1; cases h1
      have hbO : bl (O ++ strOfNums out) = o3 := by
        have hb : ∀ x ∈ out, 0 ≤ x ∧ x ≤ 255 := fun x hx => HOB.out x (by rw [hgv]; exact List.mem_append_right _ hx)
        rw [bl_append, bl_strOf hb, HSt.out.2, ← hgv]
      have hsO : O.size + (strOfNums out).size ≤ 198400 := by
        have := congrArg List.length hbO
        rw [bl_append, List.length_append, bl_length, bl_length] at this; omega
      have HsO2 : Box ((O ++ strOfNums out).size ≤ 198400) := ⟨by rw [← bl_length, bl_append, List.length_append, bl_length, bl_length]; exact hsO⟩
      have hk10 := bytesOf_eq v10 _ out w10 H10.at2.rowReads
      have HbO := Box.mk hbO
      clear hx hgv hbO
      go_wp2_with fail
      go_roundg (T.size - (i + 1))
      case measure => omega
      case rel => exact ⟨i + 1, O ++ strOfNums out, rfl, by go_num, rfl, by omega, HsO2.out, ⟨by rw [HS3.out]; exact ⟨rfl, HbO.out⟩⟩, ((H10.at2.right).at2.right)⟩
    · obtain rfl : i = T.size := by omega
      have hTt : (bl T).take T.size = bl T := List.take_of_length_le (by rw [bl_length]; exact Nat.le_refl _)
      rw [hTt] at HI HSt
      have HCl := Close_st q2 (bl T) w wr _ HI
      clear HI hTt
      go_wp2_with fail
      refine HCl.mono ?_
      rintro e w10 ⟨v10, out, err, rfl, H10, hol, hob, hx⟩
      go_upto_region 23 with fail
      obtain ⟨rfl, hgv⟩ : err = 0 ∧ encs F = givS (stOf (bl T)) ++ out := by
        rcases hx with ⟨F2, h1, _, h2, h3⟩ | ⟨h1, _⟩
        · rw [HG.out] at h1; cases h1; exact ⟨h2, h3.symm⟩
        · rw [HG.out] at h1; cases h1
      have hO2 : O ++ strOfNums out = FM := bl_inj (by rw [bl_append, bl_strOf hob, HSt.out.2, ← hgv, HFM.out.2])
      have hsO : O.size + (strOfNums out).size ≤ 300000 := by rw [← bl_length (strOfNums out), bl_strOf hob]; omega
      have hk10 := bytesOf_eq v10 _ out w10 H10.rowReads
      clear hx hgv
      go_wp2_with fail
      go_ret
      exact ⟨by simp, H10.right.ended1⟩
end Go.Proofs.Ytmmigplciogggaa
