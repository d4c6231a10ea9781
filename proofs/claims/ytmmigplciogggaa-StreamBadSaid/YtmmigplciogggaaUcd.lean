/- The walks of package ucd. -/
import Derived.Test.YtmmigplciogggaaUtf
import Derived.Test.YtmmigplciogggaaTab
import Derived.Test.YtmmigplciogggaaRow
namespace Go.Proofs.Ytmmigplciogggaa
open Go Go.RowKit Go.PlainAid

theorem i64_or4 {x y : Int} (hx₀ : 0 ≤ x) (hx₁ : x < 134217728) (h₀ : 0 ≤ y) (h₁ : y < 16) : bits .or .i64 (x * 16) y = x * 16 + y := by
  have e : (2 : Int) ^ 40 = 1099511627776 := by decide
  exact bits_join .i64 40 (by decide) (fun n h0 h1 => by rw [IntKind.wrap_i64]; rw [e] at h1; omega) 4 (x * 16) y (by omega) (by omega) (by rw [e]; omega) h₀ (by omega) (by rw [e]; omega)
theorem hexL_cons (n b : Int) (t : List Int) : hexL n (b :: t) = if isHex b then ((hexL (n * 16 + hexV b) t).1, (hexL (n * 16 + hexV b) t).2 + 1) else (n, 0) := by
  rw [hexL]
theorem hexL_step {s : ByteArray} {k : Nat} {n : Int} (h : k < s.size) : hexL n ((bl s).drop k) = if isHex (bt s k) then ((hexL (n * 16 + hexV (bt s k)) ((bl s).drop (k + 1))).1, (hexL (n * 16 + hexV (bt s k)) ((bl s).drop (k + 1))).2 + 1) else (n, 0) := by
  rw [bl_drop s k h, hexL_cons]
theorem drop_end {s : ByteArray} {k : Nat} (h : s.size ≤ k) : (bl s).drop k = [] := List.drop_of_length_le (by rw [bl_length]; exact h)

def HexIs (s : ByteArray) (a : Nat) (w : World) (e : Ending) (w' : World) : Prop := e = .returned (.tuple #[.int .i64 (hexL 0 ((bl s).drop a)).1, .int .i64 ((a + (hexL 0 ((bl s).drop a)).2 : Nat) : Int)]) ∧ w = w'
theorem HexIs.mk {s : ByteArray} {a k : Nat} {n m : Int} {w : World} (h1 : (hexL 0 ((bl s).drop a)).1 = n) (h2 : a + (hexL 0 ((bl s).drop a)).2 = k) (hm : m = k) : HexIs s a w (.returned (.tuple #[.int .i64 n, .int .i64 m])) w := ⟨by rw [h1, h2, hm], rfl⟩
set_option maxHeartbeats 1000000 in
set_option maxRecDepth 100000 in
theorem hex_calls (s : ByteArray) (a : Nat) (hs : s.size ≤ 1000000) (ha : a ≤ s.size) (hb : (hexL 0 ((bl s).drop a)).1 < 2147483648) (w : World) :
    Calls Try.prog 127 #[.string s, .int .i64 a] w (HexIs s a w) := by
  have g := get_bt s
  have HB := Lib.hid hb; clear hb
  go_enter Try.func127, Try.ntmps127
  go_wp2
  go_loop [1, 6] (fun v1 v6 => ∃ (k : Nat) (n : Int), a ≤ k ∧ k ≤ s.size ∧ v1 = .int .i64 k ∧ v6 = .int .i64 n ∧ 0 ≤ n ∧ (hexL 0 ((bl s).drop a)).1 = (hexL n ((bl s).drop k)).1 ∧ a + (hexL 0 ((bl s).drop a)).2 = k + (hexL n ((bl s).drop k)).2)
    (fun v1 _ => s.size - (intOf v1).toNat)
  case atStart => exact ⟨a, 0, Nat.le_refl _, ha, rfl, rfl, by omega, rfl, rfl⟩
  case round =>
    obtain ⟨k, n, hak, hks, rfl, rfl, hn, h1, h2⟩ := hrel
    by_cases hlt : k < s.size
    · have hst := hexL_step (n := n) hlt
      have hg0 := bt_nonneg s k
      have hg1 := bt_le s k
      by_cases hx : isHex (bt s k) = true
      · rw [if_pos hx] at hst
        have hv := hexV_nonneg hx
        have hge := (hexL_ge ((bl s).drop (k + 1)) (n * 16 + hexV (bt s k)) (by omega)).1
        have hbb := HB.out
        rw [h1, hst] at hbb
        have hn2 : n < 134217728 := by simp only at hbb; omega
        have H1 := Lib.hid (h1.trans (congrArg Prod.fst hst)); have H2 := Lib.hid (h2.trans (congrArg (fun x => k + x) (congrArg Prod.snd hst)))
        clear h1 h2 hst hbb hge hv
        have hx' : (48 ≤ bt s k ∧ bt s k ≤ 57) ∨ (65 ≤ bt s k ∧ bt s k ≤ 70) := by simpa [isHex] using hx
        clear hx
        rcases hx' with ⟨x1, x2⟩ | ⟨x1, x2⟩
        · have e1 := i64_or4 (x := n) (y := bt s k - 48) hn hn2 (by omega) (by omega)
          have ev := Lib.hid (show hexV (bt s k) = bt s k - 48 by unfold hexV; rw [if_pos x2])
          go_wp2
          go_round
          case rel => exact ⟨k + 1, n * 16 + (bt s k - 48), by omega, by omega, by go_num, rfl, by omega, by rw [← ev.out]; exact H1.out, by rw [← ev.out]; have := H2.out; simp only at this; omega⟩
          case measure => simp [intOf]; omega
        · have e1 := i64_or4 (x := n) (y := bt s k - 65 + 10) hn hn2 (by omega) (by omega)
          have ev := Lib.hid (show hexV (bt s k) = bt s k - 65 + 10 by unfold hexV; rw [if_neg (by omega)]; omega)
          go_wp2
          go_round
          case rel => exact ⟨k + 1, n * 16 + (bt s k - 65 + 10), by omega, by omega, by go_num, rfl, by omega, by rw [← ev.out]; exact H1.out, by rw [← ev.out]; have := H2.out; simp only at this; omega⟩
          case measure => simp [intOf]; omega
      · have hx' : ¬ (48 ≤ bt s k ∧ bt s k ≤ 57) ∧ ¬ (65 ≤ bt s k ∧ bt s k ≤ 70) := by simpa [isHex] using hx
        rw [if_neg hx] at hst
        rw [hst] at h1 h2
        have H1 := Lib.hid h1; have H2 := Lib.hid h2; clear h1 h2 hst hx
        obtain ⟨y1, y2⟩ := hx'
        by_cases z : bt s k < 48
        · go_wp2
          all_goals first | (go_ret2; exact HexIs.mk H1.out H2.out rfl) | skip
        · by_cases z2 : bt s k < 65
          · have z3 : 57 < bt s k := by omega
            go_wp2
            all_goals first | (go_ret2; exact HexIs.mk H1.out H2.out rfl) | skip
          · have z3 : 57 < bt s k := by omega
            have z4 : 70 < bt s k := by omega
            go_wp2
            all_goals first | (go_ret2; exact HexIs.mk H1.out H2.out rfl) | skip
    · have hk : k = s.size := by omega
      rw [drop_end (by omega : s.size ≤ k)] at h1 h2
      have H1 := Lib.hid h1; have H2 := Lib.hid h2; clear h1 h2
      clear hk
      go_wp2
      go_ret2
      exact HexIs.mk H1.out H2.out rfl

theorem decL_step {s : ByteArray} {k : Nat} {n : Int} (h : k < s.size) : decL n ((bl s).drop k) = if 48 ≤ bt s k ∧ bt s k ≤ 57 then decL (10 * n + (bt s k - 48)) ((bl s).drop (k + 1)) else n := by
  rw [bl_drop s k h, decL]
def IntIs (x : Int) (w : World) (e : Ending) (w' : World) : Prop := e = .returned (.int .i64 x) ∧ w = w'
theorem IntIs.mk {x y : Int} {w : World} (h : x = y) : IntIs x w (.returned (.int .i64 y)) w := ⟨by rw [h], rfl⟩
set_option maxHeartbeats 1000000 in
set_option maxRecDepth 100000 in
theorem decimal_calls (s : ByteArray) (a : Nat) (hs : s.size ≤ 1000000) (ha : a ≤ s.size) (hb : decL 0 ((bl s).drop a) < 2147483648) (w : World) :
    Calls Try.prog 128 #[.string s, .int .i64 a] w (IntIs (decL 0 ((bl s).drop a)) w) := by
  have g := get_bt s
  have HB := Lib.hid hb; clear hb
  go_enter Try.func128, Try.ntmps128
  go_wp2
  go_loop [1, 5] (fun v1 v5 => ∃ (k : Nat) (n : Int), a ≤ k ∧ k ≤ s.size ∧ v1 = .int .i64 k ∧ v5 = .int .i64 n ∧ 0 ≤ n ∧ decL 0 ((bl s).drop a) = decL n ((bl s).drop k))
    (fun v1 _ => s.size - (intOf v1).toNat)
  case atStart => exact ⟨a, 0, Nat.le_refl _, ha, rfl, rfl, by omega, rfl⟩
  case round =>
    obtain ⟨k, n, hak, hks, rfl, rfl, hn, h1⟩ := hrel
    by_cases hlt : k < s.size
    · have hst := decL_step (n := n) hlt
      have hg0 := bt_nonneg s k
      have hg1 := bt_le s k
      by_cases hx : 48 ≤ bt s k ∧ bt s k ≤ 57
      · rw [if_pos hx] at hst
        obtain ⟨x1, x2⟩ := hx
        have hge := decL_ge ((bl s).drop (k + 1)) (10 * n + (bt s k - 48)) (by omega)
        have hbb := HB.out
        rw [h1, hst] at hbb
        have hn2 : n < 214748365 := by omega
        have H1 := Lib.hid (h1.trans hst)
        clear h1 hst hbb hge
        go_wp2
        go_round
        case rel => exact ⟨k + 1, 10 * n + (bt s k - 48), by omega, by omega, by go_num, rfl, by omega, H1.out⟩
        case measure => simp [intOf]; omega
      · rw [if_neg hx] at hst
        rw [hst] at h1
        have H1 := Lib.hid h1; clear h1 hst
        by_cases z : bt s k < 48
        · go_wp2
          all_goals first | (go_ret; exact IntIs.mk H1.out) | skip
        · have z3 : 57 < bt s k := by omega
          go_wp2
          all_goals first | (go_ret; exact IntIs.mk H1.out) | skip
    · rw [drop_end (by omega : s.size ≤ k)] at h1
      have H1 := Lib.hid h1; clear h1
      have hdd : decide ((k : Int) < (s.size : Int)) = false := by simp; omega
      go_wp2
      go_ret
      exact IntIs.mk H1.out
theorem lineL_step {s : ByteArray} {k : Nat} (h : k < s.size) : lineL ((bl s).drop k) = if bt s k = 10 then 0 else lineL ((bl s).drop (k + 1)) + 1 := by
  rw [bl_drop s k h, lineL]
set_option maxHeartbeats 1000000 in
set_option maxRecDepth 100000 in
theorem line_calls (s : ByteArray) (a : Nat) (hs : s.size ≤ 1000000) (ha : a ≤ s.size) (w : World) :
    Calls Try.prog 126 #[.string s, .int .i64 a] w (IntIs ((a + lineL ((bl s).drop a) + 1 : Nat) : Int) w) := by
  have g := get_bt s
  go_enter Try.func126, Try.ntmps126
  go_wp2
  go_loop [1] (fun v1 => ∃ (k : Nat), a ≤ k ∧ k ≤ s.size ∧ v1 = .int .i64 k ∧ a + lineL ((bl s).drop a) = k + lineL ((bl s).drop k))
    (fun v1 => s.size - (intOf v1).toNat)
  case atStart => exact ⟨a, Nat.le_refl _, ha, rfl, rfl⟩
  case round =>
    obtain ⟨k, hak, hks, rfl, h1⟩ := hrel
    by_cases hlt : k < s.size
    · have hst := lineL_step hlt
      by_cases hx : bt s k = 10
      · rw [if_pos hx] at hst
        rw [hst] at h1
        have H1 := Lib.hid h1; clear h1 hst
        have hx2 : (bt s k != 10) = false := by simp [hx]
        have HX := Lib.hid hx; clear hx
        go_wp2
        all_goals go_ret
        exact IntIs.mk (by have := H1.out; omega)
      · rw [if_neg hx] at hst
        rw [hst] at h1
        have H1 := Lib.hid h1; clear h1 hst
        have hx2 : (bt s k != 10) = true := by simp [hx]
        clear hx
        go_wp2
        go_round
        case rel => exact ⟨k + 1, by omega, by omega, by go_num, by have := H1.out; omega⟩
        case measure => simp [intOf]; omega
    · rw [drop_end (by omega : s.size ≤ k)] at h1
      have H1 := Lib.hid h1; clear h1
      have hdd : decide ((k : Int) < (s.size : Int)) = false := by simp; omega
      go_wp2
      go_ret
      exact IntIs.mk (by have := H1.out; simp [lineL] at this; omega)

theorem bl_CLS : bl CLS = clsText := bl_strOf fun x hx => by have := List.all_eq_true.1 clsText_bytes x hx; simpa using this
theorem CLS_size : CLS.size = 366 := by rw [← bl_length, bl_CLS, clsText_len]
def clsIn (rows : List (Int × Int × Int)) (c : Int) : Int := ((rows.find? fun r => decide (r.1 ≤ c ∧ c ≤ r.2.1)).map fun r => r.2.2).getD 0
def clsSorted : List (Int × Int × Int) → Bool
  | [] => true
  | a :: t => (decide (a.1 ≤ 2000000 ∧ a.2.1 ≤ 2000000 ∧ a.2.2 ≤ 2000000) && t.all fun b => decide (a.1 ≤ b.1)) && clsSorted t
theorem clsSorted_ok : clsSorted classTab = true := by kernel_rfl
theorem clsIn_early {a b x c : Int} {rest : List (Int × Int × Int)} (hs : clsSorted ((a, b, x) :: rest) = true) (h : c < a) : clsIn ((a, b, x) :: rest) c = 0 := by
  unfold clsIn
  rw [List.find?_eq_none.2]
  · rfl
  · intro r hr
    simp only [clsSorted, Bool.and_eq_true, List.all_eq_true, decide_eq_true_eq] at hs
    rcases List.mem_cons.1 hr with rfl | hr
    · simp; omega
    · have := hs.1.2 r hr; simp; omega
theorem clsIn_hit {a b x c : Int} {rest : List (Int × Int × Int)} (h : a ≤ c) (h' : c ≤ b) : clsIn ((a, b, x) :: rest) c = x := by simp [clsIn, h, h']
theorem clsIn_miss {a b x c : Int} {rest : List (Int × Int × Int)} (h' : b < c) : clsIn ((a, b, x) :: rest) c = clsIn rest c := by
  unfold clsIn
  rw [List.find?_cons_of_neg]
  simp; omega
theorem clsChk_cons {l : List Int} {a b c : Int} {rest : List (Int × Int × Int)} (h : clsChk l ((a, b, c) :: rest) = true) :
    (hexL 0 l).1 = a ∧ (hexL 0 (l.drop ((hexL 0 l).2 + 1))).1 = b ∧ decL 0 (l.drop ((hexL 0 l).2 + 1 + (hexL 0 (l.drop ((hexL 0 l).2 + 1))).2 + 1)) = c ∧
      (hexL 0 l).2 + 1 + (hexL 0 (l.drop ((hexL 0 l).2 + 1))).2 + 1 ≤ l.length ∧ clsChk (l.drop (lineL l + 1)) rest = true := by
  simp [clsChk, and_assoc] at h
  exact h.2

theorem clsSorted_le {a b c : Int} {rest : List (Int × Int × Int)} (h : clsSorted ((a, b, c) :: rest) = true) : a ≤ 2000000 ∧ b ≤ 2000000 ∧ c ≤ 2000000 := by
  simp only [clsSorted, Bool.and_eq_true, decide_eq_true_eq] at h
  exact h.1.1
theorem clsSorted_tail {a : Int × Int × Int} {t : List (Int × Int × Int)} (h : clsSorted (a :: t) = true) : clsSorted t = true := by
  simp only [clsSorted, Bool.and_eq_true] at h; exact h.2
theorem lineL_lt {l : List Int} : lineL l ≤ l.length := lineL_le l
set_option maxHeartbeats 2000000 in
set_option maxRecDepth 100000 in
theorem Class_calls (c : Int) (h1 : c ≤ 1114111) (w : World) : Calls Try.prog 103 #[.int .i64 c] w (IntIs (cls c) w) := by
  by_cases h0 : c < 768
  · have e : cls c = 0 := by
      show clsIn classTab c = 0
      have : classTab = (768, 788, 230) :: classTab.tail := rfl
      rw [this]
      exact clsIn_early (by rw [← this]; exact clsSorted_ok) h0
    have HE := Lib.hid e; clear e
    go_enter Try.func103, Try.ntmps103
    generalize hS : (Value.string _) = S
    clear hS
    go_wp2
    go_ret
    exact IntIs.mk HE.out
  have hsz := CLS_size
  have HS := Lib.hid hsz; clear hsz
  go_enter Try.func103, Try.ntmps103
  generalize hS : (Value.string _) = S
  have e : S = .string CLS := by rw [← hS]; kernel_rfl
  clear hS
  subst e
  go_wp2
  go_loop [3] (fun v3 => ∃ (k : Nat) (rows : List (Int × Int × Int)), k ≤ 367 ∧ v3 = .int .i64 k ∧ clsChk (clsText.drop k) rows = true ∧ clsSorted rows = true ∧ cls c = clsIn rows c)
    (fun v3 => 367 - (intOf v3).toNat)
  case atStart => exact ⟨0, classTab, by omega, rfl, clsChk_ok, clsSorted_ok, rfl⟩
  case round =>
    obtain ⟨k, rows, hk, rfl, hc, hsrt, hcls⟩ := hrel
    have hlen : (clsText.drop k).length = 366 - k := by rw [List.length_drop, clsText_len]
    by_cases hlt : k < 366
    · cases rows with
      | nil =>
        exfalso
        simp only [clsChk, List.isEmpty_iff_length_eq_zero] at hc
        omega
      | cons r rest =>
        obtain ⟨a, b, x⟩ := r
        obtain ⟨z1, z2, z3⟩ := clsSorted_le hsrt
        obtain ⟨q1, q2, q3, q4, q5⟩ := clsChk_cons hc
        obtain ⟨n1, e1⟩ : ∃ n, (hexL 0 (clsText.drop k)).2 = n := ⟨_, rfl⟩
        rw [e1] at q2 q3 q4
        simp only [List.drop_drop] at q2 q3 q4 q5
        obtain ⟨n2, e2⟩ : ∃ n, (hexL 0 (clsText.drop (k + (n1 + 1)))).2 = n := ⟨_, rfl⟩
        rw [e2] at q3 q4
        have c1 : ∀ W, Calls Try.prog 127 #[.string CLS, .int .i64 k] W (fun e w' => e = .returned (.tuple #[.int .i64 a, .int .i64 ((k + n1 : Nat) : Int)]) ∧ W = w') := fun W =>
          (hex_calls CLS k (by rw [HS.out]; omega) (by rw [HS.out]; omega) (by rw [bl_CLS, q1]; omega) W).mono fun e w' h => by
            unfold HexIs at h; rw [bl_CLS, q1, e1] at h; exact h
        have c2 : ∀ W (z : Int), z = (k + (n1 + 1) : Nat) → Calls Try.prog 127 #[.string CLS, .int .i64 z] W (fun e w' => e = .returned (.tuple #[.int .i64 b, .int .i64 ((k + (n1 + 1) + n2 : Nat) : Int)]) ∧ W = w') := fun W z hz => hz ▸
          (hex_calls CLS (k + (n1 + 1)) (by rw [HS.out]; omega) (by rw [HS.out]; omega) (by rw [bl_CLS, q2]; omega) W).mono fun e w' h => by
            unfold HexIs at h; rw [bl_CLS, q2, e2] at h; exact h
        have c3 : ∀ W (z : Int), z = (k + (n1 + 1) + n2 + 1 : Nat) → Calls Try.prog 128 #[.string CLS, .int .i64 z] W (fun e w' => e = .returned (.int .i64 x) ∧ W = w') := fun W z hz => hz ▸
          (decimal_calls CLS (k + (n1 + 1) + n2 + 1) (by rw [HS.out]; omega) (by rw [HS.out]; omega) (by rw [bl_CLS, show k + (n1 + 1) + n2 + 1 = k + (n1 + 1 + n2 + 1) by omega, q3]; omega) W).mono fun e w' h => by
            unfold IntIs at h; rw [bl_CLS, show k + (n1 + 1) + n2 + 1 = k + (n1 + 1 + n2 + 1) by omega, q3] at h; exact h
        have c4 : ∀ W, Calls Try.prog 126 #[.string CLS, .int .i64 k] W (fun e w' => e = .returned (.int .i64 ((k + lineL (clsText.drop k) + 1 : Nat) : Int)) ∧ W = w') := fun W =>
          (line_calls CLS k (by rw [HS.out]; omega) (by rw [HS.out]; omega) W).mono fun e w' h => by
            unfold IntIs at h; rw [bl_CLS] at h; exact h
        have C1 := Lib.hid c1; have C2 := Lib.hid c2; have C3 := Lib.hid c3; have C4 := Lib.hid c4
        have Q5 := Lib.hid q5; have HC := Lib.hid hcls; have HSO := Lib.hid hsrt; have HL := Lib.hid hlen
        have hk2 : k + n1 + n2 + 2 ≤ 366 := by omega
        clear c1 c2 c3 c4 q1 q2 q3 q4 q5 hcls hsrt e1 e2 hc hlen
        obtain ⟨m, hm⟩ : ∃ m, lineL (clsText.drop k) = m := ⟨_, rfl⟩
        have hm2 : m ≤ 366 - k := by rw [← hm, ← HL.out]; exact lineL_lt
        have HM := Lib.hid hm; clear hm
        go_wp2_with fail
        refine (C1.out _).mono ?_
        rintro e w' ⟨rfl, rfl⟩
        go_wp2_with fail
        · go_ret
          exact IntIs.mk (by rw [HC.out]; exact clsIn_early HSO.out (by assumption))
        · refine (C2.out _ _ (by omega)).mono ?_
          rintro e w' ⟨rfl, rfl⟩
          go_wp2_with fail
          · refine (C3.out _ _ (by omega)).mono ?_
            rintro e w' ⟨rfl, rfl⟩
            go_wp2_with fail
            go_ret
            exact IntIs.mk (by rw [HC.out]; exact clsIn_hit (by assumption) (by assumption))
          · refine (C4.out _).mono ?_
            rintro e w' ⟨rfl, rfl⟩
            go_wp2_with fail
            go_round
            case rel => exact ⟨k + m + 1, rest, by omega, by rw [HM.out]; go_num, by have := Q5.out; rw [HM.out] at this; exact this, clsSorted_tail HSO.out, by rw [HC.out]; exact clsIn_miss (by assumption)⟩
            case measure => rw [HM.out]; simp [intOf]; omega
    · cases rows with
      | nil =>
        have HC := Lib.hid hcls; clear hcls hc hsrt
        go_wp2_with fail
        go_ret
        exact IntIs.mk HC.out
      | cons r rest =>
        exfalso
        obtain ⟨a, b, x⟩ := r
        have := clsChk_cons hc
        omega
end Go.Proofs.Ytmmigplciogggaa
