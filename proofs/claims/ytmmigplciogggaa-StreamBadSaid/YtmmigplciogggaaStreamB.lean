/- StreamAll where the text is not good. -/
import Derived.Test.YtmmigplciogggaaStreamG
namespace Go.Proofs.Ytmmigplciogggaa
open Go Go.RowKit Go.PlainAid

theorem okS_back {p q : List Int} (h : okS (stOf (p ++ q)) = true) : okS (stOf p) = true := by
  cases hs : stOf p with
  | ok r h m o => rfl
  | bad => rcases stOf_bad hs q with e | e <;> (rw [e] at h; cases h)
  | big => rw [stOf_big hs q] at h; cases h
theorem givS_len (p : List Int) (hp : p.length ≤ 200) : (givS (stOf p)).length ≤ 198400 := by
  cases hs : stOf p with
  | ok r h m o =>
    have := (stOf_inv hs).2.2.2.2.1
    show o.length ≤ 198400
    omega
  | bad => simp [givS]
  | big => simp [givS]
theorem givS_bytes (p : List Int) : ∀ x ∈ givS (stOf p), 0 ≤ x ∧ x ≤ 255 := by
  cases hs : stOf p with
  | ok r h m o => exact (stOf_inv hs).2.2.2.2.2
  | bad => intro x hx; cases hx
  | big => intro x hx; cases hx
set_option maxHeartbeats 8000000 in
set_option maxRecDepth 100000 in
theorem all_bad (s : ByteArray) (a1 : Option Addr) (len1 cap1 : Nat) (z1 : List Int) (w : World) (hs : s.size ≤ maxLen) (hc : CameInts w a1 len1 z1) (hl1 : len1 ≤ cap1) (hg : goodT ((bl s).take 200) = none) :
    Calls Try.prog 3 #[.string s, .slice a1 len1 cap1] w (fun e w' => e = .returned (.bool true) ∧ Below w.heap.size w w') := by
  unfold maxLen at hs
  have hq : ∀ q, sptr q = .pointer (some ⟨q, 0, none⟩) := fun _ => rfl
  obtain ⟨hl0, hc⟩ := hc
  have HC := Box.mk hc
  -- the text
  obtain ⟨cs, r, g⟩ := Rd.total _ ((bl s).take 200) (Nat.le_refl _)
  have hg2 := hg
  rw [goodT_eq g] at hg2
  have hT200 : ((bl s).take 200).length ≤ 200 := List.length_take_le _ _
  have HG := Box.mk hg
  have HG2 := Box.mk hg2
  have HRd := Box.mk g
  have HBe := Box.mk (begun5_calls w w _ (Sat.begin w))
  have HCut := Box.mk (fun W => Cut_calls s 200 (by omega) hs W)
  clear hc hg g hg2
  go_enter Try.func3, Try.ntmps3
  go_wp2_with (go_at_call 13; (with_reducible refine HBe.out.mono ?_); rintro e w1 ⟨rfl, H1⟩)
  refine (HCut.out _).mono ?_
  rintro e wz ⟨T, rfl, hT, rfl⟩
  rw [← hT] at HG HRd hT200
  rw [bl_length] at hT200
  have HRT := Box.mk (RText_calls T (by omega) (T.size + 1) (by omega) w w1 _ H1)
  clear hT HCut HBe
  by_cases hr : r = []
  · subst hr
    have hruns : runs 30 0 (ordS (cs.flatMap apart)) = true := by
      have h := HG2.out
      cases hx : runs 30 0 (ordS (cs.flatMap apart)) with
      | true => rfl
      | false => rw [if_pos ⟨rfl, hx⟩] at h; cases h
    obtain ⟨F, hF⟩ : ∃ F, ordS (cs.flatMap apart) = F := ⟨_, rfl⟩
    have hok := HRd.out.ok
    have hFv := formL_ok hok.1
    have hFl := ordS_length (cs.flatMap apart)
    have hfl := flat_len (cs := cs) fun c hc => (hok.1 c hc).1
    rw [hF] at hFv hFl hruns
    have hFN : F.length ≤ 1600 := by have := hok.2; rw [bl_length] at this; simp at this; omega
    have HFV := Box.mk hFv
    have HRU := Box.mk hruns
    obtain ⟨FM, hFM⟩ : ∃ FM, strOfNums (encs F) = FM := ⟨_, rfl⟩
    have hFMb : bl FM = encs F := by rw [← hFM]; exact bl_strOf (encs_bytes _ fun x hx => (hFv x hx).1)
    have hFMl : FM.size ≤ 6400 := by rw [← bl_length, hFMb]; have := encs_len F; omega
    have HFM := Box.mk hFM
    have HF := Box.mk hF
    have HRF : Box (readL (FM.size + 1) (bl FM) = some F) := ⟨by rw [hFMb, readL_Rd (Rd_encs F hFv) _ (by rw [← hFMb, bl_length]; omega), if_pos rfl]⟩
    rw [readL_Rd HRd.out _ (by rw [bl_length]; omega), if_pos rfl] at HRT
    clear hok hFv hFl hfl hruns hFM hFMb hF
    go_upto_region 9 with (first
      | (go_at_call 15; (with_reducible refine HRT.out.mono ?_); rintro e w2 ⟨rfl, H2⟩; rw [HF.out, HFM.out]; have HRR := Read_calls FM (by omega) (FM.size + 1) (by omega) w w2 _ H2; rw [HRF.out] at HRR)
      | (go_at_call 16; (with_reducible refine HRR.mono ?_); rintro e w3 ⟨v3, rfl, H3⟩; have HMK := marks_calls F v3 w w3 _ H3 (by omega) (fun x hx => (HFV.out x hx).1); rw [HRU.out] at HMK)
      | (go_at_call 17; (with_reducible refine HMK.mono ?_); rintro e w4 ⟨rfl, H4⟩))
    have H4R := H4.right
    clear H2 H3 H4 HRR HMK HRU H1 HRT
    have HN := New_st w w4 _ H4R
    go_wp2_with (go_at_call 18; (with_reducible refine HN.mono ?_); rintro e w5 ⟨q, rfl, H5⟩)
    clear HN H4R
    go_loopg [11, 12, 13, 14, 15, 16, 17] (61) (fun g v11 v12 v13 v14 v15 v16 v17 wr => ∃ (i at_ : Nat) (O : ByteArray) (fl : Bool), g = 61 - i ∧ v14 = .int .i64 i ∧ v12 = .int .i64 at_ ∧ v13 = .bool fl ∧ v11 = .string O ∧ at_ ≤ T.size ∧ i ≤ 61 ∧ i ≤ len1 + 1 ∧ O.size ≤ 198400 ∧ Box ((i = len1 + 1 ∨ i = 61) → at_ = T.size) ∧ Box (fl = !okS (stOf ((bl T).take at_))) ∧ Box (okS (stOf ((bl T).take at_)) = true → bl O = givS (stOf ((bl T).take at_))) ∧ Sat w wr (StA q ((bl T).take at_) * Old w))
    case atStart => exact ⟨0, 0, .empty, false, rfl, rfl, rfl, rfl, rfl, by omega, by omega, by omega, by decide, ⟨by omega⟩, ⟨rfl⟩, ⟨fun _ => rfl⟩, H5⟩
    case round =>
      obtain ⟨i, at_, O, fl, rfl, rfl, rfl, rfl, rfl, hat, hi61, hil, hO, HEnd, HFl, HSt, HI⟩ := hrel
      clear H5
      by_cases h1 : i ≤ len1 ∧ i ≤ 60
      · obtain ⟨h1a, h1b⟩ := h1
        by_cases h2a : i < len1
        · by_cases h2b : i < 60
          · obtain ⟨b, o, rfl, hcell⟩ := HC.out (by omega)
            obtain ⟨hz1, hz2, hz3⟩ := hcell i h2a
            have hz := HI.right.oldCell1 hz1
            obtain ⟨Z, hZ⟩ : ∃ Z, z1.getD i 0 = Z := ⟨_, rfl⟩
            rw [hZ] at hz hz2 hz3
            clear hcell hz1 hZ
            go_upto_region 19 with (fail)
            obtain ⟨to, hto⟩ : ∃ to : Nat, min (T.size : Int) ((at_ : Int) + max 0 (min Z 50)) = (to : Int) := ⟨(min (T.size : Int) ((at_ : Int) + max 0 (min Z 50))).toNat, by omega⟩
            have hto1 : at_ ≤ to := by omega
            have hto2 : to ≤ T.size := by omega
            have hto3 : (i + 1 = len1 + 1 ∨ i + 1 = 61) → to = T.size := by omega
            rw [hto]
            clear hto
            obtain ⟨E, hE⟩ : ∃ E, T.extract at_ to = E := ⟨_, rfl⟩
            have hEb : (bl T).take at_ ++ bl E = (bl T).take to := by rw [← hE]; exact bl_sub T at_ to hto1
            have hEs : E.size = to - at_ := by rw [← bl_length, ← hE, bl_extract, List.length_take, List.length_drop, bl_length]; omega
            have hpl : ((bl T).take at_).length + (bl E).length ≤ 1000 := by rw [List.length_take, bl_length, bl_length]; omega
            obtain ⟨gb, cb, W, hconv, HW⟩ := HI.bytesOf (P := Try.prog) 9 32 5 E Try.underlying9 Try.underlying32 Try.underlying5 (by omega)
            have HW2 : Sat w W (RowK 5 (.slice (some ⟨gb, 0, none⟩) E.size cb) (bl E).length (bys (bl E)) * (StA q ((bl T).take at_) * Old w)) := by rw [bl_length]; exact HW
            have HWr := Write_st q ((bl T).take at_) (bl E) _ w W _ HW2.at2 (bl_bytes E) hpl
            have hTk : ((bl T).take to).length ≤ 200 := by rw [List.length_take, bl_length]; omega
            have HE2 := Box.mk hEb
            have HTK := Box.mk hTk
            have hbk : okS (stOf ((bl T).take to)) = true → okS (stOf ((bl T).take at_)) = true := fun h => by rw [← hEb] at h; exact okS_back h
            have HBK := Box.mk hbk
            clear hTk hEb hEs HI HW HW2 hpl hbk
            go_upto_region 20 with (go_at_call 19; (refine HWr.mono ?_); rintro e w6 ⟨v6, out, err, rfl, H6, hx⟩)
            clear hE
            rw [HE2.out] at H6 hx
            have hk6 := bytesOf_eq v6 _ out w6 H6.at2.rowReads
            rcases hx with ⟨h1, rfl, hgv⟩ | ⟨h1, h2, rfl⟩
            · have hb : ∀ x ∈ out, 0 ≤ x ∧ x ≤ 255 := fun x hx => givS_bytes _ x (by rw [hgv]; exact List.mem_append_right _ hx)
              have hbO : bl (O ++ strOfNums out) = givS (stOf ((bl T).take to)) := by rw [bl_append, bl_strOf hb, HSt.out (HBK.out h1), ← hgv]
              have hsO : O.size + (strOfNums out).size ≤ 198400 := by
                have := givS_len _ HTK.out
                rw [← hbO, bl_append, List.length_append, bl_length, bl_length] at this; exact this
              have hsO2 : (O ++ strOfNums out).size ≤ 198400 := by rw [← bl_length, bl_append, List.length_append, bl_length, bl_length]; exact hsO
              obtain rfl : fl = false := by rw [HFl.out, HBK.out h1]; rfl
              have HbO := Box.mk hbO
              have H1' := Box.mk h1
              have HS2 := Box.mk hsO2
              clear hgv hbO h1 hsO2 hb
              go_wp2_with fail
              go_roundg (61 - (i + 1))
              case measure => omega
              case rel => exact ⟨i + 1, to, O ++ strOfNums out, false, rfl, by go_num, rfl, rfl, rfl, hto2, by omega, by omega, HS2.out, ⟨by omega⟩, ⟨by rw [H1'.out]; rfl⟩, ⟨fun _ => HbO.out⟩, (H6.cast (by ac_rfl) : Sat w w6 ((Row 5 1 v6 out.length (bys out) * RowK 5 (.slice (some ⟨gb, 0, none⟩) E.size cb) (bl E).length (bys (bl E))) * (StA q ((bl T).take to) * Old w))).right⟩
            · have hen : (err != 0) = true := by simpa using h2
              have hsO : O.size + (strOfNums []).size ≤ 198400 := by have : (strOfNums []).size = 0 := rfl; omega
              have hsO2 : (O ++ strOfNums []).size ≤ 198400 := by rw [← bl_length, bl_append, List.length_append, bl_length, bl_length]; exact hsO
              have H1' := Box.mk h1
              have HS2 := Box.mk hsO2
              clear h1 h2 hsO2
              cases fl
              · go_wp2_with fail
                go_roundg (61 - (i + 1))
                case measure => omega
                case rel => exact ⟨i + 1, to, O ++ strOfNums [], true, rfl, by go_num, rfl, rfl, rfl, hto2, by omega, by omega, HS2.out, ⟨by omega⟩, ⟨by rw [H1'.out]; rfl⟩, ⟨fun h => by rw [H1'.out] at h; cases h⟩, (H6.cast (by ac_rfl) : Sat w w6 ((Row 5 1 v6 ([] : List Int).length (bys []) * RowK 5 (.slice (some ⟨gb, 0, none⟩) E.size cb) (bl E).length (bys (bl E))) * (StA q ((bl T).take to) * Old w))).right⟩
              · go_wp2_with fail
                go_roundg (61 - (i + 1))
                case measure => omega
                case rel => exact ⟨i + 1, to, O ++ strOfNums [], true, rfl, by go_num, rfl, rfl, rfl, hto2, by omega, by omega, HS2.out, ⟨by omega⟩, ⟨by rw [H1'.out]; rfl⟩, ⟨fun h => by rw [H1'.out] at h; cases h⟩, (H6.cast (by ac_rfl) : Sat w w6 ((Row 5 1 v6 ([] : List Int).length (bys []) * RowK 5 (.slice (some ⟨gb, 0, none⟩) E.size cb) (bl E).length (bys (bl E))) * (StA q ((bl T).take to) * Old w))).right⟩
          · go_upto_region 19 with (fail)
            obtain ⟨to, hto⟩ : ∃ to, T.size = to := ⟨_, rfl⟩
            have hto1 : at_ ≤ to := by omega
            have hto2 : to ≤ T.size := by omega
            have hto3 : (i + 1 = len1 + 1 ∨ i + 1 = 61) → to = T.size := by omega
            rw [hto]
            clear hto
            obtain ⟨E, hE⟩ : ∃ E, T.extract at_ to = E := ⟨_, rfl⟩
            have hEb : (bl T).take at_ ++ bl E = (bl T).take to := by rw [← hE]; exact bl_sub T at_ to hto1
            have hEs : E.size = to - at_ := by rw [← bl_length, ← hE, bl_extract, List.length_take, List.length_drop, bl_length]; omega
            have hpl : ((bl T).take at_).length + (bl E).length ≤ 1000 := by rw [List.length_take, bl_length, bl_length]; omega
            obtain ⟨gb, cb, W, hconv, HW⟩ := HI.bytesOf (P := Try.prog) 9 32 5 E Try.underlying9 Try.underlying32 Try.underlying5 (by omega)
            have HW2 : Sat w W (RowK 5 (.slice (some ⟨gb, 0, none⟩) E.size cb) (bl E).length (bys (bl E)) * (StA q ((bl T).take at_) * Old w)) := by rw [bl_length]; exact HW
            have HWr := Write_st q ((bl T).take at_) (bl E) _ w W _ HW2.at2 (bl_bytes E) hpl
            have hTk : ((bl T).take to).length ≤ 200 := by rw [List.length_take, bl_length]; omega
            have HE2 := Box.mk hEb
            have HTK := Box.mk hTk
            have hbk : okS (stOf ((bl T).take to)) = true → okS (stOf ((bl T).take at_)) = true := fun h => by rw [← hEb] at h; exact okS_back h
            have HBK := Box.mk hbk
            clear hTk hEb hEs HI HW HW2 hpl hbk
            go_upto_region 20 with (go_at_call 19; (refine HWr.mono ?_); rintro e w6 ⟨v6, out, err, rfl, H6, hx⟩)
            clear hE
            rw [HE2.out] at H6 hx
            have hk6 := bytesOf_eq v6 _ out w6 H6.at2.rowReads
            rcases hx with ⟨h1, rfl, hgv⟩ | ⟨h1, h2, rfl⟩
            · have hb : ∀ x ∈ out, 0 ≤ x ∧ x ≤ 255 := fun x hx => givS_bytes _ x (by rw [hgv]; exact List.mem_append_right _ hx)
              have hbO : bl (O ++ strOfNums out) = givS (stOf ((bl T).take to)) := by rw [bl_append, bl_strOf hb, HSt.out (HBK.out h1), ← hgv]
              have hsO : O.size + (strOfNums out).size ≤ 198400 := by
                have := givS_len _ HTK.out
                rw [← hbO, bl_append, List.length_append, bl_length, bl_length] at this; exact this
              have hsO2 : (O ++ strOfNums out).size ≤ 198400 := by rw [← bl_length, bl_append, List.length_append, bl_length, bl_length]; exact hsO
              obtain rfl : fl = false := by rw [HFl.out, HBK.out h1]; rfl
              have HbO := Box.mk hbO
              have H1' := Box.mk h1
              have HS2 := Box.mk hsO2
              clear hgv hbO h1 hsO2 hb
              go_wp2_with fail
              go_roundg (61 - (i + 1))
              case measure => omega
              case rel => exact ⟨i + 1, to, O ++ strOfNums out, false, rfl, by go_num, rfl, rfl, rfl, hto2, by omega, by omega, HS2.out, ⟨by omega⟩, ⟨by rw [H1'.out]; rfl⟩, ⟨fun _ => HbO.out⟩, (H6.cast (by ac_rfl) : Sat w w6 ((Row 5 1 v6 out.length (bys out) * RowK 5 (.slice (some ⟨gb, 0, none⟩) E.size cb) (bl E).length (bys (bl E))) * (StA q ((bl T).take to) * Old w))).right⟩
            · have hen : (err != 0) = true := by simpa using h2
              have hsO : O.size + (strOfNums []).size ≤ 198400 := by have : (strOfNums []).size = 0 := rfl; omega
              have hsO2 : (O ++ strOfNums []).size ≤ 198400 := by rw [← bl_length, bl_append, List.length_append, bl_length, bl_length]; exact hsO
              have H1' := Box.mk h1
              have HS2 := Box.mk hsO2
              clear h1 h2 hsO2
              cases fl
              · go_wp2_with fail
                go_roundg (61 - (i + 1))
                case measure => omega
                case rel => exact ⟨i + 1, to, O ++ strOfNums [], true, rfl, by go_num, rfl, rfl, rfl, hto2, by omega, by omega, HS2.out, ⟨by omega⟩, ⟨by rw [H1'.out]; rfl⟩, ⟨fun h => by rw [H1'.out] at h; cases h⟩, (H6.cast (by ac_rfl) : Sat w w6 ((Row 5 1 v6 ([] : List Int).length (bys []) * RowK 5 (.slice (some ⟨gb, 0, none⟩) E.size cb) (bl E).length (bys (bl E))) * (StA q ((bl T).take to) * Old w))).right⟩
              · go_wp2_with fail
                go_roundg (61 - (i + 1))
                case measure => omega
                case rel => exact ⟨i + 1, to, O ++ strOfNums [], true, rfl, by go_num, rfl, rfl, rfl, hto2, by omega, by omega, HS2.out, ⟨by omega⟩, ⟨by rw [H1'.out]; rfl⟩, ⟨fun h => by rw [H1'.out] at h; cases h⟩, (H6.cast (by ac_rfl) : Sat w w6 ((Row 5 1 v6 ([] : List Int).length (bys []) * RowK 5 (.slice (some ⟨gb, 0, none⟩) E.size cb) (bl E).length (bys (bl E))) * (StA q ((bl T).take to) * Old w))).right⟩
        · go_upto_region 19 with (fail)
          obtain ⟨to, hto⟩ : ∃ to, T.size = to := ⟨_, rfl⟩
          have hto1 : at_ ≤ to := by omega
          have hto2 : to ≤ T.size := by omega
          have hto3 : (i + 1 = len1 + 1 ∨ i + 1 = 61) → to = T.size := by omega
          rw [hto]
          clear hto
          obtain ⟨E, hE⟩ : ∃ E, T.extract at_ to = E := ⟨_, rfl⟩
          have hEb : (bl T).take at_ ++ bl E = (bl T).take to := by rw [← hE]; exact bl_sub T at_ to hto1
          have hEs : E.size = to - at_ := by rw [← bl_length, ← hE, bl_extract, List.length_take, List.length_drop, bl_length]; omega
          have hpl : ((bl T).take at_).length + (bl E).length ≤ 1000 := by rw [List.length_take, bl_length, bl_length]; omega
          obtain ⟨gb, cb, W, hconv, HW⟩ := HI.bytesOf (P := Try.prog) 9 32 5 E Try.underlying9 Try.underlying32 Try.underlying5 (by omega)
          have HW2 : Sat w W (RowK 5 (.slice (some ⟨gb, 0, none⟩) E.size cb) (bl E).length (bys (bl E)) * (StA q ((bl T).take at_) * Old w)) := by rw [bl_length]; exact HW
          have HWr := Write_st q ((bl T).take at_) (bl E) _ w W _ HW2.at2 (bl_bytes E) hpl
          have hTk : ((bl T).take to).length ≤ 200 := by rw [List.length_take, bl_length]; omega
          have HE2 := Box.mk hEb
          have HTK := Box.mk hTk
          have hbk : okS (stOf ((bl T).take to)) = true → okS (stOf ((bl T).take at_)) = true := fun h => by rw [← hEb] at h; exact okS_back h
          have HBK := Box.mk hbk
          clear hTk hEb hEs HI HW HW2 hpl hbk
          go_upto_region 20 with (go_at_call 19; (refine HWr.mono ?_); rintro e w6 ⟨v6, out, err, rfl, H6, hx⟩)
          clear hE
          rw [HE2.out] at H6 hx
          have hk6 := bytesOf_eq v6 _ out w6 H6.at2.rowReads
          rcases hx with ⟨h1, rfl, hgv⟩ | ⟨h1, h2, rfl⟩
          · have hb : ∀ x ∈ out, 0 ≤ x ∧ x ≤ 255 := fun x hx => givS_bytes _ x (by rw [hgv]; exact List.mem_append_right _ hx)
            have hbO : bl (O ++ strOfNums out) = givS (stOf ((bl T).take to)) := by rw [bl_append, bl_strOf hb, HSt.out (HBK.out h1), ← hgv]
            have hsO : O.size + (strOfNums out).size ≤ 198400 := by
              have := givS_len _ HTK.out
              rw [← hbO, bl_append, List.length_append, bl_length, bl_length] at this; exact this
            have hsO2 : (O ++ strOfNums out).size ≤ 198400 := by rw [← bl_length, bl_append, List.length_append, bl_length, bl_length]; exact hsO
            obtain rfl : fl = false := by rw [HFl.out, HBK.out h1]; rfl
            have HbO := Box.mk hbO
            have H1' := Box.mk h1
            have HS2 := Box.mk hsO2
            clear hgv hbO h1 hsO2 hb
            go_wp2_with fail
            go_roundg (61 - (i + 1))
            case measure => omega
            case rel => exact ⟨i + 1, to, O ++ strOfNums out, false, rfl, by go_num, rfl, rfl, rfl, hto2, by omega, by omega, HS2.out, ⟨by omega⟩, ⟨by rw [H1'.out]; rfl⟩, ⟨fun _ => HbO.out⟩, (H6.cast (by ac_rfl) : Sat w w6 ((Row 5 1 v6 out.length (bys out) * RowK 5 (.slice (some ⟨gb, 0, none⟩) E.size cb) (bl E).length (bys (bl E))) * (StA q ((bl T).take to) * Old w))).right⟩
          · have hen : (err != 0) = true := by simpa using h2
            have hsO : O.size + (strOfNums []).size ≤ 198400 := by have : (strOfNums []).size = 0 := rfl; omega
            have hsO2 : (O ++ strOfNums []).size ≤ 198400 := by rw [← bl_length, bl_append, List.length_append, bl_length, bl_length]; exact hsO
            have H1' := Box.mk h1
            have HS2 := Box.mk hsO2
            clear h1 h2 hsO2
            cases fl
            · go_wp2_with fail
              go_roundg (61 - (i + 1))
              case measure => omega
              case rel => exact ⟨i + 1, to, O ++ strOfNums [], true, rfl, by go_num, rfl, rfl, rfl, hto2, by omega, by omega, HS2.out, ⟨by omega⟩, ⟨by rw [H1'.out]; rfl⟩, ⟨fun h => by rw [H1'.out] at h; cases h⟩, (H6.cast (by ac_rfl) : Sat w w6 ((Row 5 1 v6 ([] : List Int).length (bys []) * RowK 5 (.slice (some ⟨gb, 0, none⟩) E.size cb) (bl E).length (bys (bl E))) * (StA q ((bl T).take to) * Old w))).right⟩
            · go_wp2_with fail
              go_roundg (61 - (i + 1))
              case measure => omega
              case rel => exact ⟨i + 1, to, O ++ strOfNums [], true, rfl, by go_num, rfl, rfl, rfl, hto2, by omega, by omega, HS2.out, ⟨by omega⟩, ⟨by rw [H1'.out]; rfl⟩, ⟨fun h => by rw [H1'.out] at h; cases h⟩, (H6.cast (by ac_rfl) : Sat w w6 ((Row 5 1 v6 ([] : List Int).length (bys []) * RowK 5 (.slice (some ⟨gb, 0, none⟩) E.size cb) (bl E).length (bys (bl E))) * (StA q ((bl T).take to) * Old w))).right⟩
      · have hatT : at_ = T.size := HEnd.out (by omega)
        subst hatT
        have hTt : (bl T).take T.size = bl T := List.take_of_length_le (by rw [bl_length]; exact Nat.le_refl _)
        rw [hTt] at HI HSt HFl
        have HCl := Close_st q (bl T) w wr _ HI
        clear HI hTt HEnd
        by_cases h3 : i ≤ len1
        · go_upto_region 26 with (go_at_call 21; (refine HCl.mono ?_); rintro e w6 ⟨v6, out, err, rfl, H6, hol, hob, hx⟩)
          obtain ⟨he, rfl⟩ : err ≠ 0 ∧ out = [] := by
            rcases hx with ⟨F2, h1, _⟩ | ⟨h1, h2, h3⟩
            · rw [HG.out] at h1; cases h1
            · exact ⟨h2, h3⟩
          have hen : (err != 0) = true := by simpa using he
          have hsO : O.size + (strOfNums []).size ≤ 300000 := by have : (strOfNums []).size = 0 := rfl; omega
          have hk6 := bytesOf_eq v6 _ [] w6 H6.rowReads
          clear hx he
          cases fl
          · go_wp2_with fail
            go_ret
            exact ⟨rfl, H6.right.ended1⟩
          · go_wp2_with fail
            go_ret
            exact ⟨rfl, H6.right.ended1⟩
        · go_upto_region 26 with (go_at_call 21; (refine HCl.mono ?_); rintro e w6 ⟨v6, out, err, rfl, H6, hol, hob, hx⟩)
          obtain ⟨he, rfl⟩ : err ≠ 0 ∧ out = [] := by
            rcases hx with ⟨F2, h1, _⟩ | ⟨h1, h2, h3⟩
            · rw [HG.out] at h1; cases h1
            · exact ⟨h2, h3⟩
          have hen : (err != 0) = true := by simpa using he
          have hsO : O.size + (strOfNums []).size ≤ 300000 := by have : (strOfNums []).size = 0 := rfl; omega
          have hk6 := bytesOf_eq v6 _ [] w6 H6.rowReads
          clear hx he
          cases fl
          · go_wp2_with fail
            go_ret
            exact ⟨rfl, H6.right.ended1⟩
          · go_wp2_with fail
            go_ret
            exact ⟨rfl, H6.right.ended1⟩
  · rw [readL_Rd HRd.out _ (by rw [bl_length]; omega), if_neg hr] at HRT
    have HRN : Box (readL (ByteArray.empty.size + 1) (bl .empty) = some []) := ⟨rfl⟩
    clear hr
    go_upto_region 9 with (first
      | (go_at_call 15; (with_reducible refine HRT.out.mono ?_); rintro e w2 ⟨rfl, H2⟩; have HRR := Read_calls .empty (by decide) (ByteArray.empty.size + 1) (by decide) w w2 _ H2; rw [HRN.out] at HRR)
      | (go_at_call 16; (with_reducible refine HRR.mono ?_); rintro e w4 ⟨v3, rfl, H4⟩))
    have H4R := H4.right
    clear H2 H4 HRR H1 HRT
    have HN := New_st w w4 _ H4R
    go_wp2_with (go_at_call 18; (with_reducible refine HN.mono ?_); rintro e w5 ⟨q, rfl, H5⟩)
    clear HN H4R
    go_loopg [11, 12, 13, 14, 15, 16, 17] (61) (fun g v11 v12 v13 v14 v15 v16 v17 wr => ∃ (i at_ : Nat) (O : ByteArray) (fl : Bool), g = 61 - i ∧ v14 = .int .i64 i ∧ v12 = .int .i64 at_ ∧ v13 = .bool fl ∧ v11 = .string O ∧ at_ ≤ T.size ∧ i ≤ 61 ∧ i ≤ len1 + 1 ∧ O.size ≤ 198400 ∧ Box ((i = len1 + 1 ∨ i = 61) → at_ = T.size) ∧ Box (fl = !okS (stOf ((bl T).take at_))) ∧ Box (okS (stOf ((bl T).take at_)) = true → bl O = givS (stOf ((bl T).take at_))) ∧ Sat w wr (StA q ((bl T).take at_) * Old w))
    case atStart => exact ⟨0, 0, .empty, false, rfl, rfl, rfl, rfl, rfl, by omega, by omega, by omega, by decide, ⟨by omega⟩, ⟨rfl⟩, ⟨fun _ => rfl⟩, H5⟩
    case round =>
      obtain ⟨i, at_, O, fl, rfl, rfl, rfl, rfl, rfl, hat, hi61, hil, hO, HEnd, HFl, HSt, HI⟩ := hrel
      clear H5
      by_cases h1 : i ≤ len1 ∧ i ≤ 60
      · obtain ⟨h1a, h1b⟩ := h1
        by_cases h2a : i < len1
        · by_cases h2b : i < 60
          · obtain ⟨b, o, rfl, hcell⟩ := HC.out (by omega)
            obtain ⟨hz1, hz2, hz3⟩ := hcell i h2a
            have hz := HI.right.oldCell1 hz1
            obtain ⟨Z, hZ⟩ : ∃ Z, z1.getD i 0 = Z := ⟨_, rfl⟩
            rw [hZ] at hz hz2 hz3
            clear hcell hz1 hZ
            go_upto_region 19 with (fail)
            obtain ⟨to, hto⟩ : ∃ to : Nat, min (T.size : Int) ((at_ : Int) + max 0 (min Z 50)) = (to : Int) := ⟨(min (T.size : Int) ((at_ : Int) + max 0 (min Z 50))).toNat, by omega⟩
            have hto1 : at_ ≤ to := by omega
            have hto2 : to ≤ T.size := by omega
            have hto3 : (i + 1 = len1 + 1 ∨ i + 1 = 61) → to = T.size := by omega
            rw [hto]
            clear hto
            obtain ⟨E, hE⟩ : ∃ E, T.extract at_ to = E := ⟨_, rfl⟩
            have hEb : (bl T).take at_ ++ bl E = (bl T).take to := by rw [← hE]; exact bl_sub T at_ to hto1
            have hEs : E.size = to - at_ := by rw [← bl_length, ← hE, bl_extract, List.length_take, List.length_drop, bl_length]; omega
            have hpl : ((bl T).take at_).length + (bl E).length ≤ 1000 := by rw [List.length_take, bl_length, bl_length]; omega
            obtain ⟨gb, cb, W, hconv, HW⟩ := HI.bytesOf (P := Try.prog) 9 32 5 E Try.underlying9 Try.underlying32 Try.underlying5 (by omega)
            have HW2 : Sat w W (RowK 5 (.slice (some ⟨gb, 0, none⟩) E.size cb) (bl E).length (bys (bl E)) * (StA q ((bl T).take at_) * Old w)) := by rw [bl_length]; exact HW
            have HWr := Write_st q ((bl T).take at_) (bl E) _ w W _ HW2.at2 (bl_bytes E) hpl
            have hTk : ((bl T).take to).length ≤ 200 := by rw [List.length_take, bl_length]; omega
            have HE2 := Box.mk hEb
            have HTK := Box.mk hTk
            have hbk : okS (stOf ((bl T).take to)) = true → okS (stOf ((bl T).take at_)) = true := fun h => by rw [← hEb] at h; exact okS_back h
            have HBK := Box.mk hbk
            clear hTk hEb hEs HI HW HW2 hpl hbk
            go_upto_region 20 with (go_at_call 19; (refine HWr.mono ?_); rintro e w6 ⟨v6, out, err, rfl, H6, hx⟩)
            clear hE
            rw [HE2.out] at H6 hx
            have hk6 := bytesOf_eq v6 _ out w6 H6.at2.rowReads
            rcases hx with ⟨h1, rfl, hgv⟩ | ⟨h1, h2, rfl⟩
            · have hb : ∀ x ∈ out, 0 ≤ x ∧ x ≤ 255 := fun x hx => givS_bytes _ x (by rw [hgv]; exact List.mem_append_right _ hx)
              have hbO : bl (O ++ strOfNums out) = givS (stOf ((bl T).take to)) := by rw [bl_append, bl_strOf hb, HSt.out (HBK.out h1), ← hgv]
              have hsO : O.size + (strOfNums out).size ≤ 198400 := by
                have := givS_len _ HTK.out
                rw [← hbO, bl_append, List.length_append, bl_length, bl_length] at this; exact this
              have hsO2 : (O ++ strOfNums out).size ≤ 198400 := by rw [← bl_length, bl_append, List.length_append, bl_length, bl_length]; exact hsO
              obtain rfl : fl = false := by rw [HFl.out, HBK.out h1]; rfl
              have HbO := Box.mk hbO
              have H1' := Box.mk h1
              have HS2 := Box.mk hsO2
              clear hgv hbO h1 hsO2 hb
              go_wp2_with fail
              go_roundg (61 - (i + 1))
              case measure => omega
              case rel => exact ⟨i + 1, to, O ++ strOfNums out, false, rfl, by go_num, rfl, rfl, rfl, hto2, by omega, by omega, HS2.out, ⟨by omega⟩, ⟨by rw [H1'.out]; rfl⟩, ⟨fun _ => HbO.out⟩, (H6.cast (by ac_rfl) : Sat w w6 ((Row 5 1 v6 out.length (bys out) * RowK 5 (.slice (some ⟨gb, 0, none⟩) E.size cb) (bl E).length (bys (bl E))) * (StA q ((bl T).take to) * Old w))).right⟩
            · have hen : (err != 0) = true := by simpa using h2
              have hsO : O.size + (strOfNums []).size ≤ 198400 := by have : (strOfNums []).size = 0 := rfl; omega
              have hsO2 : (O ++ strOfNums []).size ≤ 198400 := by rw [← bl_length, bl_append, List.length_append, bl_length, bl_length]; exact hsO
              have H1' := Box.mk h1
              have HS2 := Box.mk hsO2
              clear h1 h2 hsO2
              cases fl
              · go_wp2_with fail
                go_roundg (61 - (i + 1))
                case measure => omega
                case rel => exact ⟨i + 1, to, O ++ strOfNums [], true, rfl, by go_num, rfl, rfl, rfl, hto2, by omega, by omega, HS2.out, ⟨by omega⟩, ⟨by rw [H1'.out]; rfl⟩, ⟨fun h => by rw [H1'.out] at h; cases h⟩, (H6.cast (by ac_rfl) : Sat w w6 ((Row 5 1 v6 ([] : List Int).length (bys []) * RowK 5 (.slice (some ⟨gb, 0, none⟩) E.size cb) (bl E).length (bys (bl E))) * (StA q ((bl T).take to) * Old w))).right⟩
              · go_wp2_with fail
                go_roundg (61 - (i + 1))
                case measure => omega
                case rel => exact ⟨i + 1, to, O ++ strOfNums [], true, rfl, by go_num, rfl, rfl, rfl, hto2, by omega, by omega, HS2.out, ⟨by omega⟩, ⟨by rw [H1'.out]; rfl⟩, ⟨fun h => by rw [H1'.out] at h; cases h⟩, (H6.cast (by ac_rfl) : Sat w w6 ((Row 5 1 v6 ([] : List Int).length (bys []) * RowK 5 (.slice (some ⟨gb, 0, none⟩) E.size cb) (bl E).length (bys (bl E))) * (StA q ((bl T).take to) * Old w))).right⟩
          · go_upto_region 19 with (fail)
            obtain ⟨to, hto⟩ : ∃ to, T.size = to := ⟨_, rfl⟩
            have hto1 : at_ ≤ to := by omega
            have hto2 : to ≤ T.size := by omega
            have hto3 : (i + 1 = len1 + 1 ∨ i + 1 = 61) → to = T.size := by omega
            rw [hto]
            clear hto
            obtain ⟨E, hE⟩ : ∃ E, T.extract at_ to = E := ⟨_, rfl⟩
            have hEb : (bl T).take at_ ++ bl E = (bl T).take to := by rw [← hE]; exact bl_sub T at_ to hto1
            have hEs : E.size = to - at_ := by rw [← bl_length, ← hE, bl_extract, List.length_take, List.length_drop, bl_length]; omega
            have hpl : ((bl T).take at_).length + (bl E).length ≤ 1000 := by rw [List.length_take, bl_length, bl_length]; omega
            obtain ⟨gb, cb, W, hconv, HW⟩ := HI.bytesOf (P := Try.prog) 9 32 5 E Try.underlying9 Try.underlying32 Try.underlying5 (by omega)
            have HW2 : Sat w W (RowK 5 (.slice (some ⟨gb, 0, none⟩) E.size cb) (bl E).length (bys (bl E)) * (StA q ((bl T).take at_) * Old w)) := by rw [bl_length]; exact HW
            have HWr := Write_st q ((bl T).take at_) (bl E) _ w W _ HW2.at2 (bl_bytes E) hpl
            have hTk : ((bl T).take to).length ≤ 200 := by rw [List.length_take, bl_length]; omega
            have HE2 := Box.mk hEb
            have HTK := Box.mk hTk
            have hbk : okS (stOf ((bl T).take to)) = true → okS (stOf ((bl T).take at_)) = true := fun h => by rw [← hEb] at h; exact okS_back h
            have HBK := Box.mk hbk
            clear hTk hEb hEs HI HW HW2 hpl hbk
            go_upto_region 20 with (go_at_call 19; (refine HWr.mono ?_); rintro e w6 ⟨v6, out, err, rfl, H6, hx⟩)
            clear hE
            rw [HE2.out] at H6 hx
            have hk6 := bytesOf_eq v6 _ out w6 H6.at2.rowReads
            rcases hx with ⟨h1, rfl, hgv⟩ | ⟨h1, h2, rfl⟩
            · have hb : ∀ x ∈ out, 0 ≤ x ∧ x ≤ 255 := fun x hx => givS_bytes _ x (by rw [hgv]; exact List.mem_append_right _ hx)
              have hbO : bl (O ++ strOfNums out) = givS (stOf ((bl T).take to)) := by rw [bl_append, bl_strOf hb, HSt.out (HBK.out h1), ← hgv]
              have hsO : O.size + (strOfNums out).size ≤ 198400 := by
                have := givS_len _ HTK.out
                rw [← hbO, bl_append, List.length_append, bl_length, bl_length] at this; exact this
              have hsO2 : (O ++ strOfNums out).size ≤ 198400 := by rw [← bl_length, bl_append, List.length_append, bl_length, bl_length]; exact hsO
              obtain rfl : fl = false := by rw [HFl.out, HBK.out h1]; rfl
              have HbO := Box.mk hbO
              have H1' := Box.mk h1
              have HS2 := Box.mk hsO2
              clear hgv hbO h1 hsO2 hb
              go_wp2_with fail
              go_roundg (61 - (i + 1))
              case measure => omega
              case rel => exact ⟨i + 1, to, O ++ strOfNums out, false, rfl, by go_num, rfl, rfl, rfl, hto2, by omega, by omega, HS2.out, ⟨by omega⟩, ⟨by rw [H1'.out]; rfl⟩, ⟨fun _ => HbO.out⟩, (H6.cast (by ac_rfl) : Sat w w6 ((Row 5 1 v6 out.length (bys out) * RowK 5 (.slice (some ⟨gb, 0, none⟩) E.size cb) (bl E).length (bys (bl E))) * (StA q ((bl T).take to) * Old w))).right⟩
            · have hen : (err != 0) = true := by simpa using h2
              have hsO : O.size + (strOfNums []).size ≤ 198400 := by have : (strOfNums []).size = 0 := rfl; omega
              have hsO2 : (O ++ strOfNums []).size ≤ 198400 := by rw [← bl_length, bl_append, List.length_append, bl_length, bl_length]; exact hsO
              have H1' := Box.mk h1
              have HS2 := Box.mk hsO2
              clear h1 h2 hsO2
              cases fl
              · go_wp2_with fail
                go_roundg (61 - (i + 1))
                case measure => omega
                case rel => exact ⟨i + 1, to, O ++ strOfNums [], true, rfl, by go_num, rfl, rfl, rfl, hto2, by omega, by omega, HS2.out, ⟨by omega⟩, ⟨by rw [H1'.out]; rfl⟩, ⟨fun h => by rw [H1'.out] at h; cases h⟩, (H6.cast (by ac_rfl) : Sat w w6 ((Row 5 1 v6 ([] : List Int).length (bys []) * RowK 5 (.slice (some ⟨gb, 0, none⟩) E.size cb) (bl E).length (bys (bl E))) * (StA q ((bl T).take to) * Old w))).right⟩
              · go_wp2_with fail
                go_roundg (61 - (i + 1))
                case measure => omega
                case rel => exact ⟨i + 1, to, O ++ strOfNums [], true, rfl, by go_num, rfl, rfl, rfl, hto2, by omega, by omega, HS2.out, ⟨by omega⟩, ⟨by rw [H1'.out]; rfl⟩, ⟨fun h => by rw [H1'.out] at h; cases h⟩, (H6.cast (by ac_rfl) : Sat w w6 ((Row 5 1 v6 ([] : List Int).length (bys []) * RowK 5 (.slice (some ⟨gb, 0, none⟩) E.size cb) (bl E).length (bys (bl E))) * (StA q ((bl T).take to) * Old w))).right⟩
        · go_upto_region 19 with (fail)
          obtain ⟨to, hto⟩ : ∃ to, T.size = to := ⟨_, rfl⟩
          have hto1 : at_ ≤ to := by omega
          have hto2 : to ≤ T.size := by omega
          have hto3 : (i + 1 = len1 + 1 ∨ i + 1 = 61) → to = T.size := by omega
          rw [hto]
          clear hto
          obtain ⟨E, hE⟩ : ∃ E, T.extract at_ to = E := ⟨_, rfl⟩
          have hEb : (bl T).take at_ ++ bl E = (bl T).take to := by rw [← hE]; exact bl_sub T at_ to hto1
          have hEs : E.size = to - at_ := by rw [← bl_length, ← hE, bl_extract, List.length_take, List.length_drop, bl_length]; omega
          have hpl : ((bl T).take at_).length + (bl E).length ≤ 1000 := by rw [List.length_take, bl_length, bl_length]; omega
          obtain ⟨gb, cb, W, hconv, HW⟩ := HI.bytesOf (P := Try.prog) 9 32 5 E Try.underlying9 Try.underlying32 Try.underlying5 (by omega)
          have HW2 : Sat w W (RowK 5 (.slice (some ⟨gb, 0, none⟩) E.size cb) (bl E).length (bys (bl E)) * (StA q ((bl T).take at_) * Old w)) := by rw [bl_length]; exact HW
          have HWr := Write_st q ((bl T).take at_) (bl E) _ w W _ HW2.at2 (bl_bytes E) hpl
          have hTk : ((bl T).take to).length ≤ 200 := by rw [List.length_take, bl_length]; omega
          have HE2 := Box.mk hEb
          have HTK := Box.mk hTk
          have hbk : okS (stOf ((bl T).take to)) = true → okS (stOf ((bl T).take at_)) = true := fun h => by rw [← hEb] at h; exact okS_back h
          have HBK := Box.mk hbk
          clear hTk hEb hEs HI HW HW2 hpl hbk
          go_upto_region 20 with (go_at_call 19; (refine HWr.mono ?_); rintro e w6 ⟨v6, out, err, rfl, H6, hx⟩)
          clear hE
          rw [HE2.out] at H6 hx
          have hk6 := bytesOf_eq v6 _ out w6 H6.at2.rowReads
          rcases hx with ⟨h1, rfl, hgv⟩ | ⟨h1, h2, rfl⟩
          · have hb : ∀ x ∈ out, 0 ≤ x ∧ x ≤ 255 := fun x hx => givS_bytes _ x (by rw [hgv]; exact List.mem_append_right _ hx)
            have hbO : bl (O ++ strOfNums out) = givS (stOf ((bl T).take to)) := by rw [bl_append, bl_strOf hb, HSt.out (HBK.out h1), ← hgv]
            have hsO : O.size + (strOfNums out).size ≤ 198400 := by
              have := givS_len _ HTK.out
              rw [← hbO, bl_append, List.length_append, bl_length, bl_length] at this; exact this
            have hsO2 : (O ++ strOfNums out).size ≤ 198400 := by rw [← bl_length, bl_append, List.length_append, bl_length, bl_length]; exact hsO
            obtain rfl : fl = false := by rw [HFl.out, HBK.out h1]; rfl
            have HbO := Box.mk hbO
            have H1' := Box.mk h1
            have HS2 := Box.mk hsO2
            clear hgv hbO h1 hsO2 hb
            go_wp2_with fail
            go_roundg (61 - (i + 1))
            case measure => omega
            case rel => exact ⟨i + 1, to, O ++ strOfNums out, false, rfl, by go_num, rfl, rfl, rfl, hto2, by omega, by omega, HS2.out, ⟨by omega⟩, ⟨by rw [H1'.out]; rfl⟩, ⟨fun _ => HbO.out⟩, (H6.cast (by ac_rfl) : Sat w w6 ((Row 5 1 v6 out.length (bys out) * RowK 5 (.slice (some ⟨gb, 0, none⟩) E.size cb) (bl E).length (bys (bl E))) * (StA q ((bl T).take to) * Old w))).right⟩
          · have hen : (err != 0) = true := by simpa using h2
            have hsO : O.size + (strOfNums []).size ≤ 198400 := by have : (strOfNums []).size = 0 := rfl; omega
            have hsO2 : (O ++ strOfNums []).size ≤ 198400 := by rw [← bl_length, bl_append, List.length_append, bl_length, bl_length]; exact hsO
            have H1' := Box.mk h1
            have HS2 := Box.mk hsO2
            clear h1 h2 hsO2
            cases fl
            · go_wp2_with fail
              go_roundg (61 - (i + 1))
              case measure => omega
              case rel => exact ⟨i + 1, to, O ++ strOfNums [], true, rfl, by go_num, rfl, rfl, rfl, hto2, by omega, by omega, HS2.out, ⟨by omega⟩, ⟨by rw [H1'.out]; rfl⟩, ⟨fun h => by rw [H1'.out] at h; cases h⟩, (H6.cast (by ac_rfl) : Sat w w6 ((Row 5 1 v6 ([] : List Int).length (bys []) * RowK 5 (.slice (some ⟨gb, 0, none⟩) E.size cb) (bl E).length (bys (bl E))) * (StA q ((bl T).take to) * Old w))).right⟩
            · go_wp2_with fail
              go_roundg (61 - (i + 1))
              case measure => omega
              case rel => exact ⟨i + 1, to, O ++ strOfNums [], true, rfl, by go_num, rfl, rfl, rfl, hto2, by omega, by omega, HS2.out, ⟨by omega⟩, ⟨by rw [H1'.out]; rfl⟩, ⟨fun h => by rw [H1'.out] at h; cases h⟩, (H6.cast (by ac_rfl) : Sat w w6 ((Row 5 1 v6 ([] : List Int).length (bys []) * RowK 5 (.slice (some ⟨gb, 0, none⟩) E.size cb) (bl E).length (bys (bl E))) * (StA q ((bl T).take to) * Old w))).right⟩
      · have hatT : at_ = T.size := HEnd.out (by omega)
        subst hatT
        have hTt : (bl T).take T.size = bl T := List.take_of_length_le (by rw [bl_length]; exact Nat.le_refl _)
        rw [hTt] at HI HSt HFl
        have HCl := Close_st q (bl T) w wr _ HI
        clear HI hTt HEnd
        by_cases h3 : i ≤ len1
        · go_upto_region 26 with (go_at_call 21; (refine HCl.mono ?_); rintro e w6 ⟨v6, out, err, rfl, H6, hol, hob, hx⟩)
          obtain ⟨he, rfl⟩ : err ≠ 0 ∧ out = [] := by
            rcases hx with ⟨F2, h1, _⟩ | ⟨h1, h2, h3⟩
            · rw [HG.out] at h1; cases h1
            · exact ⟨h2, h3⟩
          have hen : (err != 0) = true := by simpa using he
          have hsO : O.size + (strOfNums []).size ≤ 300000 := by have : (strOfNums []).size = 0 := rfl; omega
          have hk6 := bytesOf_eq v6 _ [] w6 H6.rowReads
          clear hx he
          cases fl
          · go_wp2_with fail
            go_ret
            exact ⟨rfl, H6.right.ended1⟩
          · go_wp2_with fail
            go_ret
            exact ⟨rfl, H6.right.ended1⟩
        · go_upto_region 26 with (go_at_call 21; (refine HCl.mono ?_); rintro e w6 ⟨v6, out, err, rfl, H6, hol, hob, hx⟩)
          obtain ⟨he, rfl⟩ : err ≠ 0 ∧ out = [] := by
            rcases hx with ⟨F2, h1, _⟩ | ⟨h1, h2, h3⟩
            · rw [HG.out] at h1; cases h1
            · exact ⟨h2, h3⟩
          have hen : (err != 0) = true := by simpa using he
          have hsO : O.size + (strOfNums []).size ≤ 300000 := by have : (strOfNums []).size = 0 := rfl; omega
          have hk6 := bytesOf_eq v6 _ [] w6 H6.rowReads
          clear hx he
          cases fl
          · go_wp2_with fail
            go_ret
            exact ⟨rfl, H6.right.ended1⟩
          · go_wp2_with fail
            go_ret
            exact ⟨rfl, H6.right.ended1⟩
end Go.Proofs.Ytmmigplciogggaa
