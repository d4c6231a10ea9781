/- StreamAll where the text is good. -/
import Derived.Test.YtmmigplciogggaaBegun5
import Derived.Test.YtmmigplciogggaaMarks5
import Derived.Lib.MinMax
namespace Go.Proofs.Ytmmigplciogggaa
open Go Go.RowKit Go.PlainAid

theorem Sat.oldCell {w0 w : World} {A : Asrt} (H : Sat w0 w (Old w0 * A)) {b o : Nat} {v : Value} (h : w0.cell? ⟨b, o, none⟩ = some v) : w.cell? ⟨b, o, none⟩ = some v := by
  have hlt : b < w0.heap.size := by
    rcases Nat.lt_or_ge b w0.heap.size with h' | h'
    · exact h'
    · simp [World.cell?, Array.getElem?_eq_none h'] at h
  rw [← h]
  exact H.ended.cell (p := ⟨b, o, none⟩) hlt
theorem Asrt.mul_emp (A : Asrt) : A * Emp = A := by rw [Asrt.mul_comm, Asrt.emp_mul]
theorem Sat.oldCell1 {w0 w : World} (H : Sat w0 w (Old w0)) {b o : Nat} {v : Value} (h : w0.cell? ⟨b, o, none⟩ = some v) : w.cell? ⟨b, o, none⟩ = some v := Sat.oldCell (H.cast (Asrt.mul_emp _).symm) h
theorem Sat.ended1 {w0 w : World} (H : Sat w0 w (Old w0)) : Below w0.heap.size w0 w := Sat.ended (H.cast (Asrt.mul_emp _).symm)
/-- Ints that came in. -/
def CameInts (w : World) (a : Option Addr) (n : Nat) (zs : List Int) : Prop := n ≤ 9223372036854775807 ∧ (0 < n → ∃ b o, a = some ⟨b, o, none⟩ ∧ ∀ i, i < n → w.cell? ⟨b, o + i, none⟩ = some (.int .i64 (zs.getD i 0)) ∧ -9223372036854775808 ≤ zs.getD i 0 ∧ zs.getD i 0 ≤ 9223372036854775807)
theorem bl_sub (T : ByteArray) (a b : Nat) (h : a ≤ b) : (bl T).take a ++ bl (T.extract a b) = (bl T).take b := by
  rw [bl_extract]
  have e : ((bl T).drop a).take (b - a) = ((bl T).take b).drop a := by rw [List.drop_take]
  rw [e]
  have e2 : (bl T).take a = ((bl T).take b).take a := by rw [List.take_take, Nat.min_eq_left h]
  rw [e2, List.take_append_drop]
set_option maxHeartbeats 8000000 in
set_option maxRecDepth 100000 in
theorem all_good (s : ByteArray) (a1 : Option Addr) (len1 cap1 : Nat) (z1 : List Int) (w : World) (hs : s.size ≤ maxLen) (hc : CameInts w a1 len1 z1) (hl1 : len1 ≤ cap1) (F : List Int) (hg : goodT ((bl s).take 200) = some F) :
    Calls Try.prog 3 #[.string s, .slice a1 len1 cap1] w (fun e w' => e = .returned (.bool true) ∧ Below w.heap.size w w') := by
  unfold maxLen at hs
  have hq : ∀ q, sptr q = .pointer (some ⟨q, 0, none⟩) := fun _ => rfl
  obtain ⟨hl0, hc⟩ := hc
  have HC := Box.mk hc
  -- the text
  obtain ⟨cs, r, g⟩ := Rd.total _ ((bl s).take 200) (Nat.le_refl _)
  have hg2 := hg
  rw [goodT_eq g] at hg2
  split at hg2
  case isFalse => cases hg2
  rename_i hr
  obtain ⟨rfl, hruns⟩ := hr
  simp only [Option.some.injEq] at hg2
  have hok := g.ok
  have hFv := formL_ok hok.1
  have hFl := ordS_length (cs.flatMap apart)
  have hfl := flat_len (cs := cs) fun c hc => (hok.1 c hc).1
  rw [hg2] at hFv hFl hruns
  have hT200 : ((bl s).take 200).length ≤ 200 := List.length_take_le _ _
  have hFN : F.length ≤ 1600 := by have := hok.2; omega
  have HFV := Box.mk hFv
  have HRU := Box.mk hruns
  have HG := Box.mk hg
  have HG2 := Box.mk hg2
  have HRd := Box.mk g
  have HBe := Box.mk (begun5_calls w w _ (Sat.begin w))
  have HCut := Box.mk (fun W => Cut_calls s 200 (by omega) hs W)
  obtain ⟨FM, hFM⟩ : ∃ FM, strOfNums (encs F) = FM := ⟨_, rfl⟩
  have hFMb : bl FM = encs F := by rw [← hFM]; exact bl_strOf (encs_bytes _ fun x hx => (hFv x hx).1)
  have hFMl : FM.size ≤ 6400 := by rw [← bl_length, hFMb]; have := encs_len F; omega
  have HFM := Box.mk (And.intro hFM hFMb)
  have HRF : Box (readL (FM.size + 1) (bl FM) = some F) := ⟨by rw [hFMb, readL_Rd (Rd_encs F hFv) _ (by rw [← hFMb, bl_length]; omega), if_pos rfl]⟩
  clear hc hg g hg2 hok hFv hFl hfl hruns hFM hFMb
  go_enter Try.func3, Try.ntmps3
  go_wp2_with (go_at_call 13; (with_reducible refine HBe.out.mono ?_); rintro e w1 ⟨rfl, H1⟩)
  refine (HCut.out _).mono ?_
  rintro e wz ⟨T, rfl, hT, rfl⟩
  rw [← hT] at HG HRd hT200
  rw [bl_length] at hT200
  have HRT := Box.mk (RText_calls T (by omega) (T.size + 1) (by omega) w w1 _ H1)
  rw [readL_Rd HRd.out _ (by rw [bl_length]; omega), if_pos rfl] at HRT
  clear hT HCut HBe
  go_upto_region 9 with (first
    | (go_at_call 15; (with_reducible refine HRT.out.mono ?_); rintro e w2 ⟨rfl, H2⟩; rw [HG2.out, HFM.out.1]; have HRR := Read_calls FM (by omega) (FM.size + 1) (by omega) w w2 _ H2; rw [HRF.out] at HRR)
    | (go_at_call 16; (with_reducible refine HRR.mono ?_); rintro e w3 ⟨v3, rfl, H3⟩; have HMK := marks_calls F v3 w w3 _ H3 (by omega) (fun x hx => (HFV.out x hx).1); rw [HRU.out] at HMK)
    | (go_at_call 17; (with_reducible refine HMK.mono ?_); rintro e w4 ⟨rfl, H4⟩))
  have HN := New_st w w4 _ H4.right
  go_wp2_with (go_at_call 18; (with_reducible refine HN.mono ?_); rintro e w5 ⟨q, rfl, H5⟩)
  have HQ := Box.mk hq
  clear H1 H2 H3 H4 HRT HRR HMK HRU
  have HRD := HRd
  go_loopg [11, 12, 13, 14, 15, 16, 17] (61) (fun g v11 v12 v13 v14 v15 v16 v17 wr => ∃ (i at_ : Nat) (O : ByteArray), g = 61 - i ∧ v14 = .int .i64 i ∧ v12 = .int .i64 at_ ∧ v13 = .bool false ∧ v11 = .string O ∧ at_ ≤ T.size ∧ i ≤ 61 ∧ i ≤ len1 + 1 ∧ Box ((i = len1 + 1 ∨ i = 61) → at_ = T.size) ∧ Box (okS (stOf ((bl T).take at_)) = true ∧ bl O = givS (stOf ((bl T).take at_))) ∧ Sat w wr (StA q ((bl T).take at_) * Old w))
  case atStart => exact ⟨0, 0, .empty, rfl, rfl, rfl, rfl, rfl, by omega, by omega, by omega, ⟨by omega⟩, ⟨⟨rfl, rfl⟩⟩, H5⟩
  case round =>
    obtain ⟨i, at_, O, rfl, rfl, rfl, rfl, rfl, hat, hi61, hil, HEnd, HSt, HI⟩ := hrel
    clear H5
    by_cases h1 : i ≤ len1 ∧ i ≤ 60
    · obtain ⟨h1a, h1b⟩ := h1
      by_cases h2a : i < len1
      · by_cases h2b : i < 60
        · obtain ⟨b, o, rfl, hcell⟩ := HC.out (by omega)
          obtain ⟨hz1, hz2, hz3⟩ := hcell i h2a
          have hz := HI.right.oldCell1 hz1
          obtain ⟨Z, hZ⟩ : ∃ Z, z1.getD i 0 = Z := ⟨_, rfl⟩
          rw [hZ] at hz hz2 hz3
          clear hcell hz1 hZ
          go_upto_region 19 with (fail)
          obtain ⟨to, hto⟩ : ∃ to : Nat, min (T.size : Int) ((at_ : Int) + max 0 (min Z 50)) = (to : Int) := ⟨(min (T.size : Int) ((at_ : Int) + max 0 (min Z 50))).toNat, by omega⟩
          have hto1 : at_ ≤ to := by omega
          have hto2 : to ≤ T.size := by omega
          have hto3 : (i + 1 = len1 + 1 ∨ i + 1 = 61) → to = T.size := by omega
          rw [hto]
          clear hto
          obtain ⟨E, hE⟩ : ∃ E, T.extract at_ to = E := ⟨_, rfl⟩
          have hEb : (bl T).take at_ ++ bl E = (bl T).take to := by rw [← hE]; exact bl_sub T at_ to hto1
          have hEs : E.size = to - at_ := by rw [← bl_length, ← hE, bl_extract, List.length_take, List.length_drop, bl_length]; omega
          have hpl : ((bl T).take at_).length + (bl E).length ≤ 1000 := by rw [List.length_take, bl_length, bl_length]; omega
          obtain ⟨gb, cb, W, hconv, HW⟩ := HI.bytesOf (P := Try.prog) 9 32 5 E Try.underlying9 Try.underlying32 Try.underlying5 (by omega)
          have HW2 : Sat w W (RowK 5 (.slice (some ⟨gb, 0, none⟩) E.size cb) (bl E).length (bys (bl E)) * (StA q ((bl T).take at_) * Old w)) := by rw [bl_length]; exact HW
          have HWr := Write_st q ((bl T).take at_) (bl E) _ w W _ HW2.at2 (bl_bytes E) hpl
          have HSplit : (bl T) = (bl T).take to ++ (bl T).drop to := (List.take_append_drop _ _).symm
          have hgo := HG.out
          rw [HSplit] at hgo
          obtain ⟨cs2, r2, h2, m2, o2, g2, hs2, hK2, hi2, hr2⟩ := stOf_good hgo
          have HE2 := Box.mk (And.intro hE hEb)
          have HS2 := Box.mk hs2
          have HX : Box (Rd ((bl T).take to) cs2 r2 ∧ Kept5 (cs2.flatMap apart) h2 o2 ∧ (∀ i, dec (r2.take i) = none)) := ⟨g2, hK2, hi2⟩
          have inv2 := stOf_inv hs2
          have hI2 := inv2.2.2.2.2.1
          have hTk : ((bl T).take to).length ≤ 200 := by rw [List.length_take, bl_length]; omega
          have hOl : o2.length ≤ 198400 := by omega
          have HOB := Box.mk inv2.2.2.2.2.2
          have HEs := Box.mk hEs
          clear HSplit hgo g2 hK2 hi2 hs2 inv2 hI2 hTk hEb hEs HI HW HW2 hpl
          go_upto_region 20 with (go_at_call 19; (refine HWr.mono ?_); rintro e w6 ⟨v6, out, err, rfl, H6, hx⟩)
          clear hE
          rw [HE2.out.2] at H6 hx
          obtain ⟨rfl, hgv⟩ : err = 0 ∧ o2 = givS (stOf ((bl T).take at_)) ++ out := by
            rcases hx with ⟨_, h1, h2⟩ | ⟨h1, _⟩
            · rw [HS2.out] at h2; exact ⟨h1, h2⟩
            · rw [HS2.out] at h1; cases h1
          have hbO : bl (O ++ strOfNums out) = o2 := by
            have hb : ∀ x ∈ out, 0 ≤ x ∧ x ≤ 255 := fun x hx => HOB.out x (by rw [hgv]; exact List.mem_append_right _ hx)
            rw [bl_append, bl_strOf hb, HSt.out.2, ← hgv]
          have hsO : O.size + (strOfNums out).size ≤ 198400 := by
            have := congrArg List.length hbO
            rw [bl_append, List.length_append, bl_length, bl_length] at this; omega
          have hk6 := bytesOf_eq v6 _ out w6 H6.at2.rowReads
          have HEarly := early_calls q ((bl T).take to) cs2 r2 h2 m2 o2 HS2.out HX.out.1 HX.out.2.1 HX.out.2.2 hr2 (by rw [List.length_take]; omega) (T.extract 0 to) (O ++ strOfNums out) (by rw [bl_extract]; simp) hbO w w6 _ H6
          have HbO := Box.mk hbO
          clear hx hgv hbO
          go_wp2_with (go_at_call 20; (refine HEarly.mono ?_); rintro e w7 ⟨rfl, H7⟩)
          go_roundg (61 - (i + 1))
          case measure => omega
          case rel => exact ⟨i + 1, to, O ++ strOfNums out, rfl, by go_num, rfl, rfl, rfl, hto2, by omega, by omega, ⟨by omega⟩, ⟨by rw [HS2.out]; exact ⟨rfl, HbO.out⟩⟩, H7.right.right |> fun h => (H7.cast (by ac_rfl) : Sat w w7 ((Row 5 1 v6 out.length (bys out) * RowK 5 (.slice (some ⟨gb, 0, none⟩) E.size cb) (bl E).length (bys (bl E))) * (StA q ((bl T).take to) * Old w))).right⟩
        · go_upto_region 19 with (fail)
          obtain ⟨to, hto⟩ : ∃ to, T.size = to := ⟨_, rfl⟩
          have hto1 : at_ ≤ to := by omega
          have hto2 : to ≤ T.size := by omega
          have hto3 : (i + 1 = len1 + 1 ∨ i + 1 = 61) → to = T.size := by omega
          rw [hto]
          clear hto
          obtain ⟨E, hE⟩ : ∃ E, T.extract at_ to = E := ⟨_, rfl⟩
          have hEb : (bl T).take at_ ++ bl E = (bl T).take to := by rw [← hE]; exact bl_sub T at_ to hto1
          have hEs : E.size = to - at_ := by rw [← bl_length, ← hE, bl_extract, List.length_take, List.length_drop, bl_length]; omega
          have hpl : ((bl T).take at_).length + (bl E).length ≤ 1000 := by rw [List.length_take, bl_length, bl_length]; omega
          obtain ⟨gb, cb, W, hconv, HW⟩ := HI.bytesOf (P := Try.prog) 9 32 5 E Try.underlying9 Try.underlying32 Try.underlying5 (by omega)
          have HW2 : Sat w W (RowK 5 (.slice (some ⟨gb, 0, none⟩) E.size cb) (bl E).length (bys (bl E)) * (StA q ((bl T).take at_) * Old w)) := by rw [bl_length]; exact HW
          have HWr := Write_st q ((bl T).take at_) (bl E) _ w W _ HW2.at2 (bl_bytes E) hpl
          have HSplit : (bl T) = (bl T).take to ++ (bl T).drop to := (List.take_append_drop _ _).symm
          have hgo := HG.out
          rw [HSplit] at hgo
          obtain ⟨cs2, r2, h2, m2, o2, g2, hs2, hK2, hi2, hr2⟩ := stOf_good hgo
          have HE2 := Box.mk (And.intro hE hEb)
          have HS2 := Box.mk hs2
          have HX : Box (Rd ((bl T).take to) cs2 r2 ∧ Kept5 (cs2.flatMap apart) h2 o2 ∧ (∀ i, dec (r2.take i) = none)) := ⟨g2, hK2, hi2⟩
          have inv2 := stOf_inv hs2
          have hI2 := inv2.2.2.2.2.1
          have hTk : ((bl T).take to).length ≤ 200 := by rw [List.length_take, bl_length]; omega
          have hOl : o2.length ≤ 198400 := by omega
          have HOB := Box.mk inv2.2.2.2.2.2
          have HEs := Box.mk hEs
          clear HSplit hgo g2 hK2 hi2 hs2 inv2 hI2 hTk hEb hEs HI HW HW2 hpl
          go_upto_region 20 with (go_at_call 19; (refine HWr.mono ?_); rintro e w6 ⟨v6, out, err, rfl, H6, hx⟩)
          clear hE
          rw [HE2.out.2] at H6 hx
          obtain ⟨rfl, hgv⟩ : err = 0 ∧ o2 = givS (stOf ((bl T).take at_)) ++ out := by
            rcases hx with ⟨_, h1, h2⟩ | ⟨h1, _⟩
            · rw [HS2.out] at h2; exact ⟨h1, h2⟩
            · rw [HS2.out] at h1; cases h1
          have hbO : bl (O ++ strOfNums out) = o2 := by
            have hb : ∀ x ∈ out, 0 ≤ x ∧ x ≤ 255 := fun x hx => HOB.out x (by rw [hgv]; exact List.mem_append_right _ hx)
            rw [bl_append, bl_strOf hb, HSt.out.2, ← hgv]
          have hsO : O.size + (strOfNums out).size ≤ 198400 := by
            have := congrArg List.length hbO
            rw [bl_append, List.length_append, bl_length, bl_length] at this; omega
          have hk6 := bytesOf_eq v6 _ out w6 H6.at2.rowReads
          have HEarly := early_calls q ((bl T).take to) cs2 r2 h2 m2 o2 HS2.out HX.out.1 HX.out.2.1 HX.out.2.2 hr2 (by rw [List.length_take]; omega) (T.extract 0 to) (O ++ strOfNums out) (by rw [bl_extract]; simp) hbO w w6 _ H6
          have HbO := Box.mk hbO
          clear hx hgv hbO
          go_wp2_with (go_at_call 20; (refine HEarly.mono ?_); rintro e w7 ⟨rfl, H7⟩)
          go_roundg (61 - (i + 1))
          case measure => omega
          case rel => exact ⟨i + 1, to, O ++ strOfNums out, rfl, by go_num, rfl, rfl, rfl, hto2, by omega, by omega, ⟨by omega⟩, ⟨by rw [HS2.out]; exact ⟨rfl, HbO.out⟩⟩, H7.right.right |> fun h => (H7.cast (by ac_rfl) : Sat w w7 ((Row 5 1 v6 out.length (bys out) * RowK 5 (.slice (some ⟨gb, 0, none⟩) E.size cb) (bl E).length (bys (bl E))) * (StA q ((bl T).take to) * Old w))).right⟩
      · go_upto_region 19 with (fail)
        obtain ⟨to, hto⟩ : ∃ to, T.size = to := ⟨_, rfl⟩
        have hto1 : at_ ≤ to := by omega
        have hto2 : to ≤ T.size := by omega
        have hto3 : (i + 1 = len1 + 1 ∨ i + 1 = 61) → to = T.size := by omega
        rw [hto]
        clear hto
        obtain ⟨E, hE⟩ : ∃ E, T.extract at_ to = E := ⟨_, rfl⟩
        have hEb : (bl T).take at_ ++ bl E = (bl T).take to := by rw [← hE]; exact bl_sub T at_ to hto1
        have hEs : E.size = to - at_ := by rw [← bl_length, ← hE, bl_extract, List.length_take, List.length_drop, bl_length]; omega
        have hpl : ((bl T).take at_).length + (bl E).length ≤ 1000 := by rw [List.length_take, bl_length, bl_length]; omega
        obtain ⟨gb, cb, W, hconv, HW⟩ := HI.bytesOf (P := Try.prog) 9 32 5 E Try.underlying9 Try.underlying32 Try.underlying5 (by omega)
        have HW2 : Sat w W (RowK 5 (.slice (some ⟨gb, 0, none⟩) E.size cb) (bl E).length (bys (bl E)) * (StA q ((bl T).take at_) * Old w)) := by rw [bl_length]; exact HW
        have HWr := Write_st q ((bl T).take at_) (bl E) _ w W _ HW2.at2 (bl_bytes E) hpl
        have HSplit : (bl T) = (bl T).take to ++ (bl T).drop to := (List.take_append_drop _ _).symm
        have hgo := HG.out
        rw [HSplit] at hgo
        obtain ⟨cs2, r2, h2, m2, o2, g2, hs2, hK2, hi2, hr2⟩ := stOf_good hgo
        have HE2 := Box.mk (And.intro hE hEb)
        have HS2 := Box.mk hs2
        have HX : Box (Rd ((bl T).take to) cs2 r2 ∧ Kept5 (cs2.flatMap apart) h2 o2 ∧ (∀ i, dec (r2.take i) = none)) := ⟨g2, hK2, hi2⟩
        have inv2 := stOf_inv hs2
        have hI2 := inv2.2.2.2.2.1
        have hTk : ((bl T).take to).length ≤ 200 := by rw [List.length_take, bl_length]; omega
        have hOl : o2.length ≤ 198400 := by omega
        have HOB := Box.mk inv2.2.2.2.2.2
        have HEs := Box.mk hEs
        clear HSplit hgo g2 hK2 hi2 hs2 inv2 hI2 hTk hEb hEs HI HW HW2 hpl
        go_upto_region 20 with (go_at_call 19; (refine HWr.mono ?_); rintro e w6 ⟨v6, out, err, rfl, H6, hx⟩)
        clear hE
        rw [HE2.out.2] at H6 hx
        obtain ⟨rfl, hgv⟩ : err = 0 ∧ o2 = givS (stOf ((bl T).take at_)) ++ out := by
          rcases hx with ⟨_, h1, h2⟩ | ⟨h1, _⟩
          · rw [HS2.out] at h2; exact ⟨h1, h2⟩
          · rw [HS2.out] at h1; cases h1
        have hbO : bl (O ++ strOfNums out) = o2 := by
          have hb : ∀ x ∈ out, 0 ≤ x ∧ x ≤ 255 := fun x hx => HOB.out x (by rw [hgv]; exact List.mem_append_right _ hx)
          rw [bl_append, bl_strOf hb, HSt.out.2, ← hgv]
        have hsO : O.size + (strOfNums out).size ≤ 198400 := by
          have := congrArg List.length hbO
          rw [bl_append, List.length_append, bl_length, bl_length] at this; omega
        have hk6 := bytesOf_eq v6 _ out w6 H6.at2.rowReads
        have HEarly := early_calls q ((bl T).take to) cs2 r2 h2 m2 o2 HS2.out HX.out.1 HX.out.2.1 HX.out.2.2 hr2 (by rw [List.length_take]; omega) (T.extract 0 to) (O ++ strOfNums out) (by rw [bl_extract]; simp) hbO w w6 _ H6
        have HbO := Box.mk hbO
        clear hx hgv hbO
        go_wp2_with (go_at_call 20; (refine HEarly.mono ?_); rintro e w7 ⟨rfl, H7⟩)
        go_roundg (61 - (i + 1))
        case measure => omega
        case rel => exact ⟨i + 1, to, O ++ strOfNums out, rfl, by go_num, rfl, rfl, rfl, hto2, by omega, by omega, ⟨by omega⟩, ⟨by rw [HS2.out]; exact ⟨rfl, HbO.out⟩⟩, H7.right.right |> fun h => (H7.cast (by ac_rfl) : Sat w w7 ((Row 5 1 v6 out.length (bys out) * RowK 5 (.slice (some ⟨gb, 0, none⟩) E.size cb) (bl E).length (bys (bl E))) * (StA q ((bl T).take to) * Old w))).right⟩
    · have hatT : at_ = T.size := HEnd.out (by omega)
      subst hatT
      have hTt : (bl T).take T.size = bl T := List.take_of_length_le (by rw [bl_length]; exact Nat.le_refl _)
      rw [hTt] at HI HSt
      have HCl := Close_st q (bl T) w wr _ HI
      have hOsz : O.size ≤ 198400 := by
        have h1 := HSt.out
        cases hs : stOf (bl T) with
        | ok r h m o =>
          rw [hs] at h1
          have := (stOf_inv hs).2.2.2.2.1
          rw [bl_length] at this
          have h2 := congrArg List.length h1.2
          rw [bl_length] at h2
          have h3 : (givS (WR.ok r h m o)).length = o.length := rfl
          omega
        | bad => rw [hs] at h1; cases h1.1
        | big => rw [hs] at h1; cases h1.1
      clear HI hTt HEnd
      have fin : ∀ (W : World) (out : List Int), encs F = givS (stOf (bl T)) ++ out → (∀ x ∈ out, 0 ≤ x ∧ x ≤ 255) → O ++ strOfNums out = FM := fun W out h1 h2 => bl_inj (by rw [bl_append, bl_strOf h2, HSt.out.2, ← h1, HFM.out.2])
      have FIN := Box.mk fin
      clear fin
      by_cases h3 : i ≤ len1
      · go_upto_region 26 with (go_at_call 21; (refine HCl.mono ?_); rintro e w6 ⟨v6, out, err, rfl, H6, hol, hob, hx⟩)
        obtain ⟨rfl, hgv⟩ : err = 0 ∧ encs F = givS (stOf (bl T)) ++ out := by
          rcases hx with ⟨F2, h1, _, h2, h3⟩ | ⟨h1, _⟩
          · rw [HG.out] at h1; cases h1; exact ⟨h2, h3.symm⟩
          · rw [HG.out] at h1; cases h1
        have hO := FIN.out w6 out hgv hob
        have hsO : O.size + (strOfNums out).size ≤ 300000 := by rw [← bl_length (strOfNums out), bl_strOf hob]; omega
        have hk6 := bytesOf_eq v6 _ out w6 H6.rowReads
        clear hx hgv
        go_wp2_with fail
        go_ret
        exact ⟨by simp, H6.right.ended1⟩
      · go_upto_region 26 with (go_at_call 21; (refine HCl.mono ?_); rintro e w6 ⟨v6, out, err, rfl, H6, hol, hob, hx⟩)
        obtain ⟨rfl, hgv⟩ : err = 0 ∧ encs F = givS (stOf (bl T)) ++ out := by
          rcases hx with ⟨F2, h1, _, h2, h3⟩ | ⟨h1, _⟩
          · rw [HG.out] at h1; cases h1; exact ⟨h2, h3.symm⟩
          · rw [HG.out] at h1; cases h1
        have hO := FIN.out w6 out hgv hob
        have hsO : O.size + (strOfNums out).size ≤ 300000 := by rw [← bl_length (strOfNums out), bl_strOf hob]; omega
        have hk6 := bytesOf_eq v6 _ out w6 H6.rowReads
        clear hx hgv
        go_wp2_with fail
        go_ret
        exact ⟨by simp, H6.right.ended1⟩
end Go.Proofs.Ytmmigplciogggaa
