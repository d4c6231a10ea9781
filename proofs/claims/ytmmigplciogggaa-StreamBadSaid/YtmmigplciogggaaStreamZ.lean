/- StreamBad: bytes that can begin no character are told at once, a character that is cut short when it is closed. -/
import Derived.Test.YtmmigplciogggaaStreamB
namespace Go.Proofs.Ytmmigplciogggaa
open Go Go.RowKit Go.PlainAid

set_option maxHeartbeats 8000000 in
set_option maxRecDepth 100000 in
theorem bad_good (s : ByteArray) (kind : Int) (w : World) (hs : s.size ≤ maxLen) (hk1 : -9223372036854775808 ≤ kind) (hk2 : kind ≤ 9223372036854775807) (F : List Int) (hg : goodT ((bl s).take 40) = some F) :
    Calls Try.prog 5 #[.string s, .int .i64 kind] w (fun e w' => e = .returned (.bool true) ∧ Below w.heap.size w w') := by
  unfold maxLen at hs
  have hq : ∀ q, sptr q = .pointer (some ⟨q, 0, none⟩) := fun _ => rfl
  -- the text
  obtain ⟨cs, r, g⟩ := Rd.total _ ((bl s).take 40) (Nat.le_refl _)
  have hg2 := hg
  rw [goodT_eq g] at hg2
  split at hg2
  case isFalse => cases hg2
  rename_i hr
  obtain ⟨rfl, hruns⟩ := hr
  simp only [Option.some.injEq] at hg2
  have hok := g.ok
  have hFv := formL_ok hok.1
  have hFl := ordS_length (cs.flatMap apart)
  have hfl := flat_len (cs := cs) fun c hc => (hok.1 c hc).1
  rw [hg2] at hFv hFl hruns
  have hT40 : ((bl s).take 40).length ≤ 40 := List.length_take_le _ _
  have hFN : F.length ≤ 1600 := by have := hok.2; omega
  have HFV := Box.mk hFv
  have HRU := Box.mk hruns
  have HG := Box.mk hg
  have HG2 := Box.mk hg2
  have HRd := Box.mk g
  have HBe := Box.mk (begun5_calls w w _ (Sat.begin w))
  have HCut := Box.mk (fun W => Cut_calls s 40 (by omega) hs W)
  obtain ⟨FM, hFM⟩ : ∃ FM, strOfNums (encs F) = FM := ⟨_, rfl⟩
  have hFMb : bl FM = encs F := by rw [← hFM]; exact bl_strOf (encs_bytes _ fun x hx => (hFv x hx).1)
  have hFMl : FM.size ≤ 6400 := by rw [← bl_length, hFMb]; have := encs_len F; omega
  have HFM := Box.mk (And.intro hFM hFMb)
  have HRF : Box (readL (FM.size + 1) (bl FM) = some F) := ⟨by rw [hFMb, readL_Rd (Rd_encs F hFv) _ (by rw [← hFMb, bl_length]; omega), if_pos rfl]⟩
  clear hg g hg2 hok hFv hFl hfl hruns hFM hFMb
  go_enter Try.func5, Try.ntmps5
  go_wp2_with (go_at_call 13; (with_reducible refine HBe.out.mono ?_); rintro e w1 ⟨rfl, H1⟩)
  refine (HCut.out _).mono ?_
  rintro e wz ⟨T, rfl, hT, rfl⟩
  rw [← hT] at HG HRd hT40
  rw [bl_length] at hT40
  have HRT := Box.mk (RText_calls T (by omega) (T.size + 1) (by omega) w w1 _ H1)
  rw [readL_Rd HRd.out _ (by rw [bl_length]; omega), if_pos rfl] at HRT
  clear hT HCut HBe
  go_upto_region 9 with (first
    | (go_at_call 15; (with_reducible refine HRT.out.mono ?_); rintro e w2 ⟨rfl, H2⟩; rw [HG2.out, HFM.out.1]; have HRR := Read_calls FM (by omega) (FM.size + 1) (by omega) w w2 _ H2; rw [HRF.out] at HRR)
    | (go_at_call 16; (with_reducible refine HRR.mono ?_); rintro e w3 ⟨v3, rfl, H3⟩; have HMK := marks_calls F v3 w w3 _ H3 (by omega) (fun x hx => (HFV.out x hx).1); rw [HRU.out] at HMK)
    | (go_at_call 17; (with_reducible refine HMK.mono ?_); rintro e w4 ⟨rfl, H4⟩))
  have HQ := Box.mk hq
  have H4R := H4.right
  have HRU2 := HRU
  clear H1 H2 H3 H4 HRT HRR HMK HRU
  obtain ⟨K, hK, hK6⟩ : ∃ K : Nat, ((kind.tmod 6 + 6).tmod 6) = (K : Int) ∧ K < 6 := by
    have h1 : -6 < kind.tmod 6 := by have := Int.lt_tmod_of_pos kind (show (0 : Int) < 6 by omega); omega
    have h2 : kind.tmod 6 < 6 := Int.tmod_lt_of_pos kind (by omega)
    refine ⟨((kind.tmod 6 + 6).tmod 6).toNat, ?_, ?_⟩
    · have := Int.tmod_nonneg 6 (show 0 ≤ kind.tmod 6 + 6 by omega); omega
    · have := Int.tmod_lt_of_pos (kind.tmod 6 + 6) (show (0 : Int) < 6 by omega); omega
  go_upto_region 10 with fail
  have hw : wrap64 (kind.tmod 6 + 6) = kind.tmod 6 + 6 := by
    have h1 : -6 < kind.tmod 6 := by have := Int.lt_tmod_of_pos kind (show (0 : Int) < 6 by omega); omega
    have h2 : kind.tmod 6 < 6 := Int.tmod_lt_of_pos kind (by omega)
    unfold wrap64
    omega
  rw [hw, hK]
  clear hw hK
  have HTake : Box (∃ h m o, takeL (cs.flatMap apart) [] 0 [] = some (h, m, o)) := ⟨by
    cases ht : takeL (cs.flatMap apart) [] 0 [] with
    | none =>
      rw [takeL_runs, runs_congr 30 _ _ 0 (mrk_ordS _).symm, HG2.out, HRU2.out] at ht
      cases ht
    | some s => exact ⟨s.1, s.2.1, s.2.2, rfl⟩⟩
  have HWL : Box (∀ B : List Int, B ≠ [] → dec B = none → ∃ h m o, writeL ((bl T ++ B).length + 1) (bl T ++ B) [] 0 [] = if beginsB B = true then .ok B h m o else .bad) := ⟨fun B hB hd => by
    obtain ⟨h, m, o, ht⟩ := HTake.out
    have g2 := HRd.out.append (q := B) (cs' := []) (r' := B) (.stop hd)
    rw [List.append_nil] at g2
    refine ⟨h, m, o, ?_⟩
    rw [writeL_Rd g2 _ _ _ _ (by omega), ht]
    dsimp only
    by_cases hb : beginsB B = true
    · rw [if_pos (.inr hb), if_pos hb]
    · rw [if_neg (by simp [hB, hb]), if_neg hb]⟩
  obtain rfl | rfl | rfl | rfl | rfl | rfl : K = 0 ∨ K = 1 ∨ K = 2 ∨ K = 3 ∨ K = 4 ∨ K = 5 := by omega
  · obtain ⟨h, m, o, hwl⟩ := HWL.out [255] (by simp) (by kernel_rfl)
    rw [if_neg (by decide +kernel)] at hwl
    have HW0 := Box.mk hwl
    obtain ⟨B, hB⟩ : ∃ B : ByteArray, B = ⟨#[255]⟩ := ⟨_, rfl⟩
    have hBb : bl B = [255] := by rw [hB]; rfl
    have HBB := Box.mk hBb
    have hBs : B.size ≤ 3 := by rw [hB]; decide
    obtain ⟨S, hS⟩ : ∃ S, T ++ B = S := ⟨_, rfl⟩
    have hSb : bl S = bl T ++ bl B := by rw [← hS, bl_append]
    have hSl : S.size ≤ 43 := by rw [← bl_length, hSb, List.length_append, bl_length, bl_length]; omega
    have HSb := Box.mk hSb
    clear hwl hBb hSb
    go_upto_region 11 with fail
    rw [← hB]
    clear hB
    go_wp2_with fail
    refine (New_calls w _ _ (H4R.allocX _)).mono ?_
    rintro e w5 ⟨q, rfl, H5⟩
    obtain ⟨gb, cb, W, hconv, HW⟩ := H5.bytesOf (P := Try.prog) 9 32 5 S Try.underlying9 Try.underlying32 Try.underlying5 (by omega)
    have hlen : (bl S).length ≤ 43 := by rw [bl_length]; exact hSl
    have HW2 : Sat w W (Strm q .empty (.slice none 0 0) 0 0 false * (Row 3 1 (.slice none 0 0) ([] : List Int).length (ints []) * (RowK 5 (.slice (some ⟨gb, 0, none⟩) S.size cb) (bl S).length (bys (bl S)) * Old w))) := by
      rw [bl_length]; exact (HW.at2.rowNil 3 1).at2
    have HWr := Write_calls q .empty (.slice none 0 0) _ [] 0 (bl S) w W _ HW2 (bl_bytes _) (by simp) (by omega) (by simp) (by have : ByteArray.empty.size = 0 := rfl; omega) ((bl S).length + 1) (by have : ByteArray.empty.size = 0 := rfl; omega)
    rw [show bl ByteArray.empty ++ bl S = bl S from rfl, HSb.out, HBB.out, HW0.out] at HWr
    rw [HQ.out] at HWr
    clear HW HW2 hlen H5
    go_wp2_with fail
    (with_reducible refine HWr.mono ?_)
    rintro e w6 ⟨rfl, H6⟩
    have HCl := Close_err q .empty (.slice none 0 0) 0 1 w w6 _ H6 (by omega)
    go_wp2_with fail
    refine HCl.mono ?_
    rintro e w7 ⟨rfl, H7⟩
    have HHd := Held_calls q .empty (.slice none 0 0) 0 1 false 0 [] w w7 _ (H7.rowNil 3 1)
    go_wp2_with fail
    refine HHd.mono ?_
    rintro e w8 ⟨rfl, rfl⟩
    go_wp2_with fail
    go_ret
    exact ⟨rfl, H7.right.right.ended1⟩
  · obtain ⟨h, m, o, hwl⟩ := HWL.out [192] (by simp) (by kernel_rfl)
    rw [if_neg (by decide +kernel)] at hwl
    have HW0 := Box.mk hwl
    obtain ⟨B, hB⟩ : ∃ B : ByteArray, B = ⟨#[192]⟩ := ⟨_, rfl⟩
    have hBb : bl B = [192] := by rw [hB]; rfl
    have HBB := Box.mk hBb
    have hBs : B.size ≤ 3 := by rw [hB]; decide
    obtain ⟨S, hS⟩ : ∃ S, T ++ B = S := ⟨_, rfl⟩
    have hSb : bl S = bl T ++ bl B := by rw [← hS, bl_append]
    have hSl : S.size ≤ 43 := by rw [← bl_length, hSb, List.length_append, bl_length, bl_length]; omega
    have HSb := Box.mk hSb
    clear hwl hBb hSb
    go_upto_region 11 with fail
    rw [← hB]
    clear hB
    go_wp2_with fail
    refine (New_calls w _ _ (H4R.allocX _)).mono ?_
    rintro e w5 ⟨q, rfl, H5⟩
    obtain ⟨gb, cb, W, hconv, HW⟩ := H5.bytesOf (P := Try.prog) 9 32 5 S Try.underlying9 Try.underlying32 Try.underlying5 (by omega)
    have hlen : (bl S).length ≤ 43 := by rw [bl_length]; exact hSl
    have HW2 : Sat w W (Strm q .empty (.slice none 0 0) 0 0 false * (Row 3 1 (.slice none 0 0) ([] : List Int).length (ints []) * (RowK 5 (.slice (some ⟨gb, 0, none⟩) S.size cb) (bl S).length (bys (bl S)) * Old w))) := by
      rw [bl_length]; exact (HW.at2.rowNil 3 1).at2
    have HWr := Write_calls q .empty (.slice none 0 0) _ [] 0 (bl S) w W _ HW2 (bl_bytes _) (by simp) (by omega) (by simp) (by have : ByteArray.empty.size = 0 := rfl; omega) ((bl S).length + 1) (by have : ByteArray.empty.size = 0 := rfl; omega)
    rw [show bl ByteArray.empty ++ bl S = bl S from rfl, HSb.out, HBB.out, HW0.out] at HWr
    rw [HQ.out] at HWr
    clear HW HW2 hlen H5
    go_wp2_with fail
    (with_reducible refine HWr.mono ?_)
    rintro e w6 ⟨rfl, H6⟩
    have HCl := Close_err q .empty (.slice none 0 0) 0 1 w w6 _ H6 (by omega)
    go_wp2_with fail
    refine HCl.mono ?_
    rintro e w7 ⟨rfl, H7⟩
    have HHd := Held_calls q .empty (.slice none 0 0) 0 1 false 0 [] w w7 _ (H7.rowNil 3 1)
    go_wp2_with fail
    refine HHd.mono ?_
    rintro e w8 ⟨rfl, rfl⟩
    go_wp2_with fail
    go_ret
    exact ⟨rfl, H7.right.right.ended1⟩
  · obtain ⟨h, m, o, hwl⟩ := HWL.out [237, 160] (by simp) (by kernel_rfl)
    rw [if_neg (by decide +kernel)] at hwl
    have HW0 := Box.mk hwl
    obtain ⟨B, hB⟩ : ∃ B : ByteArray, B = ⟨#[237, 160]⟩ := ⟨_, rfl⟩
    have hBb : bl B = [237, 160] := by rw [hB]; rfl
    have HBB := Box.mk hBb
    have hBs : B.size ≤ 3 := by rw [hB]; decide
    obtain ⟨S, hS⟩ : ∃ S, T ++ B = S := ⟨_, rfl⟩
    have hSb : bl S = bl T ++ bl B := by rw [← hS, bl_append]
    have hSl : S.size ≤ 43 := by rw [← bl_length, hSb, List.length_append, bl_length, bl_length]; omega
    have HSb := Box.mk hSb
    clear hwl hBb hSb
    go_upto_region 11 with fail
    rw [← hB]
    clear hB
    go_wp2_with fail
    refine (New_calls w _ _ (H4R.allocX _)).mono ?_
    rintro e w5 ⟨q, rfl, H5⟩
    obtain ⟨gb, cb, W, hconv, HW⟩ := H5.bytesOf (P := Try.prog) 9 32 5 S Try.underlying9 Try.underlying32 Try.underlying5 (by omega)
    have hlen : (bl S).length ≤ 43 := by rw [bl_length]; exact hSl
    have HW2 : Sat w W (Strm q .empty (.slice none 0 0) 0 0 false * (Row 3 1 (.slice none 0 0) ([] : List Int).length (ints []) * (RowK 5 (.slice (some ⟨gb, 0, none⟩) S.size cb) (bl S).length (bys (bl S)) * Old w))) := by
      rw [bl_length]; exact (HW.at2.rowNil 3 1).at2
    have HWr := Write_calls q .empty (.slice none 0 0) _ [] 0 (bl S) w W _ HW2 (bl_bytes _) (by simp) (by omega) (by simp) (by have : ByteArray.empty.size = 0 := rfl; omega) ((bl S).length + 1) (by have : ByteArray.empty.size = 0 := rfl; omega)
    rw [show bl ByteArray.empty ++ bl S = bl S from rfl, HSb.out, HBB.out, HW0.out] at HWr
    rw [HQ.out] at HWr
    clear HW HW2 hlen H5
    go_wp2_with fail
    (with_reducible refine HWr.mono ?_)
    rintro e w6 ⟨rfl, H6⟩
    have HCl := Close_err q .empty (.slice none 0 0) 0 1 w w6 _ H6 (by omega)
    go_wp2_with fail
    refine HCl.mono ?_
    rintro e w7 ⟨rfl, H7⟩
    have HHd := Held_calls q .empty (.slice none 0 0) 0 1 false 0 [] w w7 _ (H7.rowNil 3 1)
    go_wp2_with fail
    refine HHd.mono ?_
    rintro e w8 ⟨rfl, rfl⟩
    go_wp2_with fail
    go_ret
    exact ⟨rfl, H7.right.right.ended1⟩
  · obtain ⟨h, m, o, hwl⟩ := HWL.out [128] (by simp) (by kernel_rfl)
    rw [if_neg (by decide +kernel)] at hwl
    have HW0 := Box.mk hwl
    obtain ⟨B, hB⟩ : ∃ B : ByteArray, B = ⟨#[128]⟩ := ⟨_, rfl⟩
    have hBb : bl B = [128] := by rw [hB]; rfl
    have HBB := Box.mk hBb
    have hBs : B.size ≤ 3 := by rw [hB]; decide
    obtain ⟨S, hS⟩ : ∃ S, T ++ B = S := ⟨_, rfl⟩
    have hSb : bl S = bl T ++ bl B := by rw [← hS, bl_append]
    have hSl : S.size ≤ 43 := by rw [← bl_length, hSb, List.length_append, bl_length, bl_length]; omega
    have HSb := Box.mk hSb
    clear hwl hBb hSb
    go_upto_region 11 with fail
    rw [← hB]
    clear hB
    go_wp2_with fail
    refine (New_calls w _ _ (H4R.allocX _)).mono ?_
    rintro e w5 ⟨q, rfl, H5⟩
    obtain ⟨gb, cb, W, hconv, HW⟩ := H5.bytesOf (P := Try.prog) 9 32 5 S Try.underlying9 Try.underlying32 Try.underlying5 (by omega)
    have hlen : (bl S).length ≤ 43 := by rw [bl_length]; exact hSl
    have HW2 : Sat w W (Strm q .empty (.slice none 0 0) 0 0 false * (Row 3 1 (.slice none 0 0) ([] : List Int).length (ints []) * (RowK 5 (.slice (some ⟨gb, 0, none⟩) S.size cb) (bl S).length (bys (bl S)) * Old w))) := by
      rw [bl_length]; exact (HW.at2.rowNil 3 1).at2
    have HWr := Write_calls q .empty (.slice none 0 0) _ [] 0 (bl S) w W _ HW2 (bl_bytes _) (by simp) (by omega) (by simp) (by have : ByteArray.empty.size = 0 := rfl; omega) ((bl S).length + 1) (by have : ByteArray.empty.size = 0 := rfl; omega)
    rw [show bl ByteArray.empty ++ bl S = bl S from rfl, HSb.out, HBB.out, HW0.out] at HWr
    rw [HQ.out] at HWr
    clear HW HW2 hlen H5
    go_wp2_with fail
    (with_reducible refine HWr.mono ?_)
    rintro e w6 ⟨rfl, H6⟩
    have HCl := Close_err q .empty (.slice none 0 0) 0 1 w w6 _ H6 (by omega)
    go_wp2_with fail
    refine HCl.mono ?_
    rintro e w7 ⟨rfl, H7⟩
    have HHd := Held_calls q .empty (.slice none 0 0) 0 1 false 0 [] w w7 _ (H7.rowNil 3 1)
    go_wp2_with fail
    refine HHd.mono ?_
    rintro e w8 ⟨rfl, rfl⟩
    go_wp2_with fail
    go_ret
    exact ⟨rfl, H7.right.right.ended1⟩
  · obtain ⟨h, m, o, hwl⟩ := HWL.out [226, 130] (by simp) (by kernel_rfl)
    rw [if_pos (by decide +kernel)] at hwl
    have HW0 := Box.mk hwl
    obtain ⟨B, hB⟩ : ∃ B : ByteArray, B = ⟨#[226, 130]⟩ := ⟨_, rfl⟩
    have hBb : bl B = [226, 130] := by rw [hB]; rfl
    have HBB := Box.mk hBb
    have hBs : B.size ≤ 3 := by rw [hB]; decide
    obtain ⟨S, hS⟩ : ∃ S, T ++ B = S := ⟨_, rfl⟩
    have hSb : bl S = bl T ++ bl B := by rw [← hS, bl_append]
    have hSl : S.size ≤ 43 := by rw [← bl_length, hSb, List.length_append, bl_length, bl_length]; omega
    have HSb := Box.mk hSb
    clear hwl hBb hSb
    go_upto_region 11 with fail
    rw [← hB]
    clear hB
    go_wp2_with fail
    refine (New_calls w _ _ (H4R.allocX _)).mono ?_
    rintro e w5 ⟨q, rfl, H5⟩
    obtain ⟨gb, cb, W, hconv, HW⟩ := H5.bytesOf (P := Try.prog) 9 32 5 S Try.underlying9 Try.underlying32 Try.underlying5 (by omega)
    have hlen : (bl S).length ≤ 43 := by rw [bl_length]; exact hSl
    have HW2 : Sat w W (Strm q .empty (.slice none 0 0) 0 0 false * (Row 3 1 (.slice none 0 0) ([] : List Int).length (ints []) * (RowK 5 (.slice (some ⟨gb, 0, none⟩) S.size cb) (bl S).length (bys (bl S)) * Old w))) := by
      rw [bl_length]; exact (HW.at2.rowNil 3 1).at2
    have HWr := Write_calls q .empty (.slice none 0 0) _ [] 0 (bl S) w W _ HW2 (bl_bytes _) (by simp) (by omega) (by simp) (by have : ByteArray.empty.size = 0 := rfl; omega) ((bl S).length + 1) (by have : ByteArray.empty.size = 0 := rfl; omega)
    rw [show bl ByteArray.empty ++ bl S = bl S from rfl, HSb.out, HBB.out, HW0.out] at HWr
    rw [HQ.out] at HWr
    clear HW HW2 hlen H5
    go_wp2_with fail
    (with_reducible refine HWr.mono ?_)
    rintro e w6 ⟨v6, vh6, r6, rfl, hr6, H6⟩
    have HCl := Close_rest q r6 vh6 m w w6 _ H6 (by rw [← bl_length, hr6]; decide)
    go_wp2_with fail
    refine HCl.mono ?_
    rintro e w7 ⟨rfl, H7⟩
    have HHd := Held_calls q .empty (.slice none 0 0) 0 1 false 0 [] w w7 _ (H7.rowNil 3 1)
    go_wp2_with fail
    refine HHd.mono ?_
    rintro e w8 ⟨rfl, rfl⟩
    go_wp2_with fail
    go_ret
    exact ⟨rfl, H7.right.right.right.right.ended1⟩
  · obtain ⟨h, m, o, hwl⟩ := HWL.out [240, 159, 152] (by simp) (by kernel_rfl)
    rw [if_pos (by decide +kernel)] at hwl
    have HW0 := Box.mk hwl
    obtain ⟨B, hB⟩ : ∃ B : ByteArray, B = ⟨#[240, 159, 152]⟩ := ⟨_, rfl⟩
    have hBb : bl B = [240, 159, 152] := by rw [hB]; rfl
    have HBB := Box.mk hBb
    have hBs : B.size ≤ 3 := by rw [hB]; decide
    obtain ⟨S, hS⟩ : ∃ S, T ++ B = S := ⟨_, rfl⟩
    have hSb : bl S = bl T ++ bl B := by rw [← hS, bl_append]
    have hSl : S.size ≤ 43 := by rw [← bl_length, hSb, List.length_append, bl_length, bl_length]; omega
    have HSb := Box.mk hSb
    clear hwl hBb hSb
    go_upto_region 11 with fail
    rw [← hB]
    clear hB
    go_wp2_with fail
    refine (New_calls w _ _ (H4R.allocX _)).mono ?_
    rintro e w5 ⟨q, rfl, H5⟩
    obtain ⟨gb, cb, W, hconv, HW⟩ := H5.bytesOf (P := Try.prog) 9 32 5 S Try.underlying9 Try.underlying32 Try.underlying5 (by omega)
    have hlen : (bl S).length ≤ 43 := by rw [bl_length]; exact hSl
    have HW2 : Sat w W (Strm q .empty (.slice none 0 0) 0 0 false * (Row 3 1 (.slice none 0 0) ([] : List Int).length (ints []) * (RowK 5 (.slice (some ⟨gb, 0, none⟩) S.size cb) (bl S).length (bys (bl S)) * Old w))) := by
      rw [bl_length]; exact (HW.at2.rowNil 3 1).at2
    have HWr := Write_calls q .empty (.slice none 0 0) _ [] 0 (bl S) w W _ HW2 (bl_bytes _) (by simp) (by omega) (by simp) (by have : ByteArray.empty.size = 0 := rfl; omega) ((bl S).length + 1) (by have : ByteArray.empty.size = 0 := rfl; omega)
    rw [show bl ByteArray.empty ++ bl S = bl S from rfl, HSb.out, HBB.out, HW0.out] at HWr
    rw [HQ.out] at HWr
    clear HW HW2 hlen H5
    go_wp2_with fail
    (with_reducible refine HWr.mono ?_)
    rintro e w6 ⟨v6, vh6, r6, rfl, hr6, H6⟩
    have HCl := Close_rest q r6 vh6 m w w6 _ H6 (by rw [← bl_length, hr6]; decide)
    go_wp2_with fail
    refine HCl.mono ?_
    rintro e w7 ⟨rfl, H7⟩
    have HHd := Held_calls q .empty (.slice none 0 0) 0 1 false 0 [] w w7 _ (H7.rowNil 3 1)
    go_wp2_with fail
    refine HHd.mono ?_
    rintro e w8 ⟨rfl, rfl⟩
    go_wp2_with fail
    go_ret
    exact ⟨rfl, H7.right.right.right.right.ended1⟩
end Go.Proofs.Ytmmigplciogggaa
