/- The walk of the reference's First. -/
import Derived.Test.YtmmigplciogggaaRefUtf
namespace Go.Proofs.Ytmmigplciogggaa
open Go Go.RowKit Go.PlainAid

def RFirstIs (s : ByteArray) (w : World) (e : Ending) (w' : World) : Prop := e = .returned (firstR (dec (bl s))) ∧ Below w.heap.size w w'
theorem RFirstIs.none {s : ByteArray} {w w' : World} (h : dec (bl s) = none) (hb : Below w.heap.size w w') : RFirstIs s w (.returned (.tuple #[.int .i64 (-1), .int .i64 0])) w' := ⟨by rw [h]; rfl, hb⟩
theorem RFirstIs.some {s : ByteArray} {w w' : World} {c : Int} {n : Nat} {m : Int} (h : dec (bl s) = some (c, n)) (hm : m = n) (hb : Below w.heap.size w w') : RFirstIs s w (.returned (.tuple #[.int .i64 c, .int .i64 m])) w' := ⟨by rw [h, hm]; rfl, hb⟩
theorem rcont_yes {b : Int} (h0 : 0 ≤ b) (h : (b / 64 != 2) = false) : contB b = true := by
  have : b / 64 = 2 := by simpa using h
  unfold contB; simp; omega
theorem rcont_no {b : Int} (h : (b / 64 != 2) = true) : contB b = false := by
  have : b / 64 ≠ 2 := by simpa using h
  unfold contB; simp; omega
theorem valid_range {c : Int} (h : validB c = true) : 0 ≤ c ∧ c ≤ 1114111 := by unfold validB at h; simp at h; omega
theorem same_yes {c : Int} {s : ByteArray} {l : List Int} (h0 : 0 ≤ c) (h1 : c ≤ 1114111) (hl : bl s = l) (h : (!(strOfNums (enc c)).toList == s.toList) = false) : enc c = l := by
  have h : ((strOfNums (enc c)).toList == s.toList) = true := by simpa using h
  rw [same_iff, bl_strOf (enc_bytes h0 h1), hl] at h
  exact h
theorem same_no {c : Int} {s : ByteArray} {l : List Int} (h0 : 0 ≤ c) (h1 : c ≤ 1114111) (hl : bl s = l) (e : enc c = l) (h : (!(strOfNums (enc c)).toList == s.toList) = true) : False := by
  have h2 : ((strOfNums (enc c)).toList == s.toList) = true := by rw [same_iff, bl_strOf (enc_bytes h0 h1), hl]; exact e
  rw [h2] at h; cases h
theorem rdec_two {b0 b1 : Int} {t : List Int} (h : 192 ≤ b0) (h' : b0 < 224) : dec (b0 :: b1 :: t) = if (contB b1 = true) ∧ validB ((b0 - 192) * 64 + b1 % 64) = true ∧ 128 ≤ ((b0 - 192) * 64 + b1 % 64) then some (((b0 - 192) * 64 + b1 % 64), 2) else none := by
  by_cases a : b0 < 194
  · rw [dec_short (.inl (by unfold formN; rw [if_neg (by omega), if_neg (by omega), if_neg (by omega), if_neg (by omega)])), if_neg (by omega)]
  · have e : b0 % 32 = b0 - 192 := by omega
    rw [dec_two (by omega) h', e]
    by_cases c1 : contB b1 = true
    · rw [if_pos c1, if_pos ⟨c1, valid_yes (by omega) (by omega) (by omega), by omega⟩]
    · rw [if_neg c1, if_neg (fun q => c1 q.1)]
set_option maxHeartbeats 2000000 in
set_option maxRecDepth 100000 in
theorem rfirst_two (s : ByteArray) (h : 2 ≤ s.size) (hsz : s.size ≤ 140737488355328) (h0 : 192 ≤ bt s 0) (h1 : bt s 0 < 224) (w : World) (v : Bool) (hv : validB ((bt s 0 - 192) * 64 + bt s 1 % 64) = v) : Calls Try.prog 49 #[.string s] w (RFirstIs s w) := by
  have hd := rdec_two (b0 := bt s 0) (b1 := bt s 1) (t := (bl s).drop 2) h0 h1
  rw [← bl_cons2 s h] at hd
  have HD := Lib.hid hd; clear hd
  have hn := full_toList (s := s) (by omega)
  have g := get_bt s
  have g1 := bt_nonneg s 1
  have g1' := bt_le s 1
  have HV := Lib.hid hv; clear hv
  have he : bl (s.extract 0 2) = [bt s 0, bt s 1] := by rw [bl_extract, List.drop_zero, bl_cons2 s h]; rfl
  have HE := Lib.hid he; clear he
  go_enter Try.func49, Try.ntmps49
  go_wp2
  go_quiet (fail)
  go_wp2
  go_rounds 2
  go_wp2
  · go_ret2
    refine RFirstIs.none ?_ (below_drawn _ _)
    have c1 : contB (bt s 1) = false := by
      have q : (bt s 1 / 64 != 2) = true := by assumption
      exact rcont_no q
    rw [HD.out, if_neg]; rw [c1]; simp
  · refine wp_text (by kernel_rfl) (by kernel_rfl) _ rfl ?_
    have c1 : contB (bt s 1) = true := by
      have q : (bt s 1 / 64 != 2) = false := by assumption
      exact rcont_yes g1 q
    have C1 := Lib.hid c1; clear c1
    cases v with
    | false =>
      have hv := HV.out
      go_wp2_with (go_at_call 93; refine (rvalid_calls _ _).mono ?_; rintro e w' ⟨rfl, rfl⟩)
      refine ⟨?_, by kernel_rfl⟩
      go_wp2
      go_ret2
      exact RFirstIs.none (by rw [HD.out, if_neg]; rintro ⟨_, q, _⟩; rw [hv] at q; cases q) (below_drawn _ _)
    | true =>
      have hv := HV.out
      obtain ⟨hr0, hr1⟩ := valid_range hv
      go_wp2_with (first | (go_at_call 93; refine (rvalid_calls _ _).mono ?_; rintro e w' ⟨rfl, rfl⟩) | (go_at_call 94; refine (one_calls _ hr0 hr1 _).mono ?_; rintro e w' ⟨rfl, hb1⟩))
      refine ⟨?_, by kernel_rfl⟩
      go_wp2
      · go_ret2
        refine RFirstIs.none ?_ (below_from hb1)
        rw [HD.out, if_neg]; rintro ⟨_, _, q⟩
        exact same_no hr0 hr1 HE.out ((enc_two h0 h1 C1.out rfl).2 q) (by assumption)
      · go_ret2
        refine RFirstIs.some (n := 2) ?_ rfl (below_from hb1)
        rw [HD.out, if_pos]
        refine ⟨C1.out, hv, (enc_two h0 h1 C1.out rfl).1 (same_yes hr0 hr1 HE.out (by assumption))⟩
theorem rdec_three {b0 b1 b2 : Int} {t : List Int} (h : 224 ≤ b0) (h' : b0 < 240) : dec (b0 :: b1 :: b2 :: t) = if (contB b1 = true ∧ contB b2 = true) ∧ validB (((b0 - 224) * 64 + b1 % 64) * 64 + b2 % 64) = true ∧ 2048 ≤ (((b0 - 224) * 64 + b1 % 64) * 64 + b2 % 64) then some ((((b0 - 224) * 64 + b1 % 64) * 64 + b2 % 64), 3) else none := by
  have e : b0 % 16 = b0 - 224 := by omega
  rw [dec_three h h', e]
  generalize (((b0 - 224) * 64 + b1 % 64) * 64 + b2 % 64) = c
  by_cases cc : contB b1 = true ∧ contB b2 = true
  · rw [if_pos cc]
    by_cases v : validB c = true
    · by_cases l : 2048 ≤ c
      · rw [if_neg (by rw [v]; simp; omega), if_pos ⟨cc, v, l⟩]
      · rw [if_pos (.inl (by omega)), if_neg (fun q => l q.2.2)]
    · rw [if_pos (.inr (by simpa using v)), if_neg (fun q => v q.2.1)]
  · rw [if_neg cc, if_neg (fun q => cc q.1)]
set_option maxHeartbeats 2000000 in
set_option maxRecDepth 100000 in
theorem rfirst_three (s : ByteArray) (h : 3 ≤ s.size) (hsz : s.size ≤ 140737488355328) (h0 : 224 ≤ bt s 0) (h1 : bt s 0 < 240) (w : World) (v : Bool) (hv : validB (((bt s 0 - 224) * 64 + bt s 1 % 64) * 64 + bt s 2 % 64) = v) : Calls Try.prog 49 #[.string s] w (RFirstIs s w) := by
  have hd := rdec_three (b0 := bt s 0) (b1 := bt s 1) (b2 := bt s 2) (t := (bl s).drop 3) h0 h1
  rw [← bl_cons3 s h] at hd
  have HD := Lib.hid hd; clear hd
  have hn := full_toList (s := s) (by omega)
  have g := get_bt s
  have g1 := bt_nonneg s 1
  have g1' := bt_le s 1
  have g2 := bt_nonneg s 2
  have g2' := bt_le s 2
  have HV := Lib.hid hv; clear hv
  have he : bl (s.extract 0 3) = [bt s 0, bt s 1, bt s 2] := by rw [bl_extract, List.drop_zero, bl_cons3 s h]; rfl
  have HE := Lib.hid he; clear he
  go_enter Try.func49, Try.ntmps49
  go_wp2
  go_quiet (fail)
  go_wp2
  go_rounds 3
  go_wp2
  · go_ret2
    refine RFirstIs.none ?_ (below_drawn _ _)
    have c1 : contB (bt s 1) = false := by
      have q : (bt s 1 / 64 != 2) = true := by assumption
      exact rcont_no q
    rw [HD.out, if_neg]; rw [c1]; simp
  · go_ret2
    refine RFirstIs.none ?_ (below_drawn _ _)
    have c2 : contB (bt s 2) = false := by
      have q : (bt s 2 / 64 != 2) = true := by assumption
      exact rcont_no q
    rw [HD.out, if_neg]; rw [c2]; simp
  · refine wp_text (by kernel_rfl) (by kernel_rfl) _ rfl ?_
    have c1 : contB (bt s 1) = true := by
      have q : (bt s 1 / 64 != 2) = false := by assumption
      exact rcont_yes g1 q
    have C1 := Lib.hid c1; clear c1
    have c2 : contB (bt s 2) = true := by
      have q : (bt s 2 / 64 != 2) = false := by assumption
      exact rcont_yes g2 q
    have C2 := Lib.hid c2; clear c2
    cases v with
    | false =>
      have hv := HV.out
      go_wp2_with (go_at_call 93; refine (rvalid_calls _ _).mono ?_; rintro e w' ⟨rfl, rfl⟩)
      refine ⟨?_, by kernel_rfl⟩
      go_wp2
      go_ret2
      exact RFirstIs.none (by rw [HD.out, if_neg]; rintro ⟨_, q, _⟩; rw [hv] at q; cases q) (below_drawn _ _)
    | true =>
      have hv := HV.out
      obtain ⟨hr0, hr1⟩ := valid_range hv
      go_wp2_with (first | (go_at_call 93; refine (rvalid_calls _ _).mono ?_; rintro e w' ⟨rfl, rfl⟩) | (go_at_call 94; refine (one_calls _ hr0 hr1 _).mono ?_; rintro e w' ⟨rfl, hb1⟩))
      refine ⟨?_, by kernel_rfl⟩
      go_wp2
      · go_ret2
        refine RFirstIs.none ?_ (below_from hb1)
        rw [HD.out, if_neg]; rintro ⟨_, _, q⟩
        exact same_no hr0 hr1 HE.out ((enc_three h0 h1 C1.out C2.out rfl).2 q) (by assumption)
      · go_ret2
        refine RFirstIs.some (n := 3) ?_ rfl (below_from hb1)
        rw [HD.out, if_pos]
        refine ⟨⟨C1.out, C2.out⟩, hv, (enc_three h0 h1 C1.out C2.out rfl).1 (same_yes hr0 hr1 HE.out (by assumption))⟩
theorem rdec_four {b0 b1 b2 b3 : Int} {t : List Int} (h : 240 ≤ b0) (h' : b0 < 256) : dec (b0 :: b1 :: b2 :: b3 :: t) = if (contB b1 = true ∧ contB b2 = true ∧ contB b3 = true) ∧ validB ((((b0 - 240) * 64 + b1 % 64) * 64 + b2 % 64) * 64 + b3 % 64) = true ∧ 65536 ≤ ((((b0 - 240) * 64 + b1 % 64) * 64 + b2 % 64) * 64 + b3 % 64) then some (((((b0 - 240) * 64 + b1 % 64) * 64 + b2 % 64) * 64 + b3 % 64), 4) else none := by
  by_cases a : 245 ≤ b0
  · rw [dec_short (.inl (by unfold formN; rw [if_neg (by omega), if_neg (by omega), if_neg (by omega), if_neg (by omega)])), if_neg]
    rintro ⟨_, hv, _⟩
    rw [valid_no (by omega)] at hv
    cases hv
  have e : b0 % 8 = b0 - 240 := by omega
  rw [dec_four h (by omega), e]
  generalize ((((b0 - 240) * 64 + b1 % 64) * 64 + b2 % 64) * 64 + b3 % 64) = c
  by_cases cc : contB b1 = true ∧ contB b2 = true ∧ contB b3 = true
  · rw [if_pos cc]
    by_cases v : validB c = true
    · by_cases l : 65536 ≤ c
      · rw [if_neg (by rw [v]; simp; omega), if_pos ⟨cc, v, l⟩]
      · rw [if_pos (.inl (by omega)), if_neg (fun q => l q.2.2)]
    · rw [if_pos (.inr (by simpa using v)), if_neg (fun q => v q.2.1)]
  · rw [if_neg cc, if_neg (fun q => cc q.1)]
set_option maxHeartbeats 2000000 in
set_option maxRecDepth 100000 in
theorem rfirst_four (s : ByteArray) (h : 4 ≤ s.size) (hsz : s.size ≤ 140737488355328) (h0 : 240 ≤ bt s 0) (h1 : bt s 0 < 256) (w : World) (v : Bool) (hv : validB ((((bt s 0 - 240) * 64 + bt s 1 % 64) * 64 + bt s 2 % 64) * 64 + bt s 3 % 64) = v) : Calls Try.prog 49 #[.string s] w (RFirstIs s w) := by
  have hd := rdec_four (b0 := bt s 0) (b1 := bt s 1) (b2 := bt s 2) (b3 := bt s 3) (t := (bl s).drop 4) h0 h1
  rw [← bl_cons4 s h] at hd
  have HD := Lib.hid hd; clear hd
  have hn := full_toList (s := s) (by omega)
  have g := get_bt s
  have g1 := bt_nonneg s 1
  have g1' := bt_le s 1
  have g2 := bt_nonneg s 2
  have g2' := bt_le s 2
  have g3 := bt_nonneg s 3
  have g3' := bt_le s 3
  have HV := Lib.hid hv; clear hv
  have he : bl (s.extract 0 4) = [bt s 0, bt s 1, bt s 2, bt s 3] := by rw [bl_extract, List.drop_zero, bl_cons4 s h]; rfl
  have HE := Lib.hid he; clear he
  go_enter Try.func49, Try.ntmps49
  go_wp2
  go_quiet (fail)
  go_wp2
  go_rounds 4
  go_wp2
  · go_ret2
    refine RFirstIs.none ?_ (below_drawn _ _)
    have c1 : contB (bt s 1) = false := by
      have q : (bt s 1 / 64 != 2) = true := by assumption
      exact rcont_no q
    rw [HD.out, if_neg]; rw [c1]; simp
  · go_ret2
    refine RFirstIs.none ?_ (below_drawn _ _)
    have c2 : contB (bt s 2) = false := by
      have q : (bt s 2 / 64 != 2) = true := by assumption
      exact rcont_no q
    rw [HD.out, if_neg]; rw [c2]; simp
  · go_ret2
    refine RFirstIs.none ?_ (below_drawn _ _)
    have c3 : contB (bt s 3) = false := by
      have q : (bt s 3 / 64 != 2) = true := by assumption
      exact rcont_no q
    rw [HD.out, if_neg]; rw [c3]; simp
  · refine wp_text (by kernel_rfl) (by kernel_rfl) _ rfl ?_
    have c1 : contB (bt s 1) = true := by
      have q : (bt s 1 / 64 != 2) = false := by assumption
      exact rcont_yes g1 q
    have C1 := Lib.hid c1; clear c1
    have c2 : contB (bt s 2) = true := by
      have q : (bt s 2 / 64 != 2) = false := by assumption
      exact rcont_yes g2 q
    have C2 := Lib.hid c2; clear c2
    have c3 : contB (bt s 3) = true := by
      have q : (bt s 3 / 64 != 2) = false := by assumption
      exact rcont_yes g3 q
    have C3 := Lib.hid c3; clear c3
    cases v with
    | false =>
      have hv := HV.out
      go_wp2_with (go_at_call 93; refine (rvalid_calls _ _).mono ?_; rintro e w' ⟨rfl, rfl⟩)
      refine ⟨?_, by kernel_rfl⟩
      go_wp2
      go_ret2
      exact RFirstIs.none (by rw [HD.out, if_neg]; rintro ⟨_, q, _⟩; rw [hv] at q; cases q) (below_drawn _ _)
    | true =>
      have hv := HV.out
      obtain ⟨hr0, hr1⟩ := valid_range hv
      go_wp2_with (first | (go_at_call 93; refine (rvalid_calls _ _).mono ?_; rintro e w' ⟨rfl, rfl⟩) | (go_at_call 94; refine (one_calls _ hr0 hr1 _).mono ?_; rintro e w' ⟨rfl, hb1⟩))
      refine ⟨?_, by kernel_rfl⟩
      go_wp2
      · go_ret2
        refine RFirstIs.none ?_ (below_from hb1)
        rw [HD.out, if_neg]; rintro ⟨_, _, q⟩
        exact same_no hr0 hr1 HE.out ((enc_four h0 C1.out C2.out C3.out rfl).2 q) (by assumption)
      · go_ret2
        refine RFirstIs.some (n := 4) ?_ rfl (below_from hb1)
        rw [HD.out, if_pos]
        refine ⟨⟨C1.out, C2.out, C3.out⟩, hv, (enc_four h0 C1.out C2.out C3.out rfl).1 (same_yes hr0 hr1 HE.out (by assumption))⟩
theorem rfirst_empty (s : ByteArray) (h : s.size = 0) (w : World) : Calls Try.prog 49 #[.string s] w (RFirstIs s w) := by
  have hn := empty_toList h
  go_enter Try.func49, Try.ntmps49
  go_wp2
  go_ret2
  exact RFirstIs.none (by rw [(bl_nil_iff s).2 (empty_toList h)]; rfl) (Below.refl _ _)
set_option maxHeartbeats 2000000 in
set_option maxRecDepth 100000 in
theorem rfirst_bad (s : ByteArray) (h : 1 ≤ s.size) (hsz : s.size ≤ 140737488355328) (h0 : 128 ≤ bt s 0) (h1 : bt s 0 < 192) (w : World) : Calls Try.prog 49 #[.string s] w (RFirstIs s w) := by
  have hd : dec (bl s) = none := by
    rw [bl_cons1 s h]; refine dec_short (.inl ?_)
    unfold formN; rw [if_neg (by omega), if_neg (by omega), if_neg (by omega), if_neg (by omega)]
  have hn := full_toList (s := s) (by omega)
  have g := get_bt s
  go_enter Try.func49, Try.ntmps49
  go_wp2
  go_quiet (fail)
  go_wp2
  go_ret2
  exact RFirstIs.none hd (below_drawn _ _)
theorem short_no {s : ByteArray} (h : 1 ≤ s.size) (h0 : 192 ≤ bt s 0) (hs : s.size < 2 ∨ (224 ≤ bt s 0 ∧ s.size < 3) ∨ (240 ≤ bt s 0 ∧ s.size < 4)) : dec (bl s) = none := by
  rw [bl_cons1 s h]
  refine dec_short ?_
  simp only [List.length_drop, bl_length]
  unfold formN
  repeat' split
  all_goals omega
set_option maxHeartbeats 2000000 in
set_option maxRecDepth 100000 in
theorem rfirst_short (s : ByteArray) (h : 1 ≤ s.size) (hsz : s.size ≤ 140737488355328) (h0 : 192 ≤ bt s 0) (hs : s.size < 2 ∨ (224 ≤ bt s 0 ∧ s.size < 3) ∨ (240 ≤ bt s 0 ∧ s.size < 4)) (w : World) : Calls Try.prog 49 #[.string s] w (RFirstIs s w) := by
  have hd := short_no h h0 hs
  have hn := full_toList (s := s) (by omega)
  have g := get_bt s
  have hp : 192 ≤ bt s 0 ∧ bt s 0 < 224 ∧ s.size < 2 ∨ 224 ≤ bt s 0 ∧ bt s 0 < 240 ∧ s.size < 3 ∨ 240 ≤ bt s 0 ∧ s.size < 4 := by omega
  clear hs
  have hu := bt_le s 0
  rcases hp with ⟨p1, p2, p3⟩ | ⟨p1, p2, p3⟩ | ⟨p1, p3⟩
  · go_enter Try.func49, Try.ntmps49
    go_wp2
    go_quiet (fail)
    go_wp2
    go_ret2
    exact RFirstIs.none hd (below_drawn _ _)
  · go_enter Try.func49, Try.ntmps49
    go_wp2
    go_quiet (fail)
    go_wp2
    go_ret2
    exact RFirstIs.none hd (below_drawn _ _)
  · go_enter Try.func49, Try.ntmps49
    go_wp2
    go_quiet (fail)
    go_wp2
    go_ret2
    exact RFirstIs.none hd (below_drawn _ _)
set_option maxHeartbeats 2000000 in
set_option maxRecDepth 100000 in
theorem rfirst_one (s : ByteArray) (h : 1 ≤ s.size) (hsz : s.size ≤ 140737488355328) (hb : bt s 0 < 128) (w : World) : Calls Try.prog 49 #[.string s] w (RFirstIs s w) := by
  have g0 := bt_nonneg s 0
  have hd : dec (bl s) = some (bt s 0, 1) := by rw [bl_cons1 s h]; exact dec_one g0 hb
  have hv : validB (bt s 0) = true := valid_yes g0 (by omega) (by omega)
  have he : bl (s.extract 0 1) = [bt s 0] := by rw [bl_extract, List.drop_zero, bl_cons1 s h]; rfl
  have HE := Lib.hid he; clear he
  have hn := full_toList (s := s) (by omega)
  have g := get_bt s
  go_enter Try.func49, Try.ntmps49
  go_wp2
  go_quiet (fail)
  go_wp2
  go_rounds 1
  go_wp2
  refine wp_text (by kernel_rfl) (by kernel_rfl) _ rfl ?_
  go_wp2_with (first | (go_at_call 93; refine (rvalid_calls _ _).mono ?_; rintro e w' ⟨rfl, rfl⟩) | (go_at_call 94; refine (one_calls _ g0 (by omega) _).mono ?_; rintro e w' ⟨rfl, hb1⟩))
  refine ⟨?_, by kernel_rfl⟩
  go_wp2
  · exfalso
    exact same_no g0 (by omega) HE.out (by unfold enc; rw [if_pos hb]) (by assumption)
  · go_ret2
    exact RFirstIs.some hd rfl (below_from hb1)
/-- The reference's First: the first character and its bytes. -/
theorem RFirst_calls (s : ByteArray) (hsz : s.size ≤ 140737488355328) (w : World) : Calls Try.prog 49 #[.string s] w (RFirstIs s w) := by
  by_cases z : s.size = 0
  · exact rfirst_empty s z w
  by_cases a : bt s 0 < 128
  · exact rfirst_one s (by omega) hsz a w
  by_cases b : bt s 0 < 192
  · exact rfirst_bad s (by omega) hsz (by omega) b w
  by_cases c : s.size < 2 ∨ (224 ≤ bt s 0 ∧ s.size < 3) ∨ (240 ≤ bt s 0 ∧ s.size < 4)
  · exact rfirst_short s (by omega) hsz (by omega) c w
  have := bt_le s 0
  by_cases d : bt s 0 < 224
  · exact rfirst_two s (by omega) hsz (by omega) d w _ rfl
  by_cases e : bt s 0 < 240
  · exact rfirst_three s (by omega) hsz (by omega) e w _ rfl
  · exact rfirst_four s (by omega) hsz (by omega) (by omega) w _ rfl
end Go.Proofs.Ytmmigplciogggaa
