/- The walk of ucd.Map. -/
import Derived.Test.YtmmigplciogggaaUcd
namespace Go.Proofs.Ytmmigplciogggaa
open Go Go.RowKit Go.PlainAid

/-! ## Map -/
def ints (l : List Int) : List Value := l.map (Value.int .i64)
theorem ints_cell (l : List Int) : ∀ u ∈ ints l, u.oneCell' = true := by
  intro u hu
  simp only [ints, List.mem_map] at hu
  obtain ⟨x, _, rfl⟩ := hu
  rfl
theorem eInt : Elem Try.prog 3 1 8 (.int .i64 0) := by unfold Elem; kernel_rfl
theorem bl_MAPS : bl MAPS = mapText := bl_strOf fun x hx => by have := List.all_eq_true.1 mapText_bytes x hx; simpa using this
theorem mapText_len : mapText.length = 1304 := by kernel_rfl
theorem MAPS_size : MAPS.size = 1304 := by rw [← bl_length, bl_MAPS, mapText_len]
def mapIn (rows : List (Int × List Int)) (c : Int) : List Int := ((rows.find? fun r => decide (r.1 = c)).map fun r => r.2).getD []
def mapSorted : List (Int × List Int) → Bool
  | [] => true
  | a :: t => (decide (a.1 ≤ 2000000 ∧ a.2.length ≤ 8 ∧ 0 < a.2.length) && (a.2.all fun x => decide (x ≤ 2000000))) && (t.all fun b => decide (a.1 < b.1)) && mapSorted t
theorem mapSorted_ok : mapSorted mapTab = true := by kernel_rfl
theorem mapSorted_le {a : Int} {xs : List Int} {rest : List (Int × List Int)} (h : mapSorted ((a, xs) :: rest) = true) : (a ≤ 2000000 ∧ xs.length ≤ 8 ∧ 0 < xs.length) ∧ (∀ x ∈ xs, x ≤ 2000000) ∧ (∀ b ∈ rest, a < b.1) ∧ mapSorted rest = true := by
  simp only [mapSorted, Bool.and_eq_true, decide_eq_true_eq, List.all_eq_true] at h
  exact ⟨h.1.1.1, h.1.1.2, h.1.2, h.2⟩
theorem mapIn_early {a c : Int} {xs : List Int} {rest : List (Int × List Int)} (hs : mapSorted ((a, xs) :: rest) = true) (h : c < a) : mapIn ((a, xs) :: rest) c = [] := by
  have hr := (mapSorted_le hs).2.2.1
  unfold mapIn
  rw [List.find?_eq_none.2]
  · rfl
  · intro r hm
    rcases List.mem_cons.1 hm with rfl | hm
    · simp; omega
    · have := hr r hm; simp; omega
theorem mapIn_hit {a c : Int} {xs : List Int} {rest : List (Int × List Int)} (h : a = c) : mapIn ((a, xs) :: rest) c = xs := by simp [mapIn, h]
theorem mapIn_miss {a c : Int} {xs : List Int} {rest : List (Int × List Int)} (h : a < c) : mapIn ((a, xs) :: rest) c = mapIn rest c := by
  unfold mapIn
  rw [List.find?_cons_of_neg]
  simp; omega
theorem mapChk_cons {l : List Int} {a : Int} {xs : List Int} {rest : List (Int × List Int)} (h : mapChk l ((a, xs) :: rest) = true) :
    0 < l.length ∧ (hexL 0 l).1 = a ∧ mapTail 9 (l.drop (hexL 0 l).2) = xs ∧ (hexL 0 l).2 ≤ l.length ∧ mapChk (l.drop (lineL l + 1)) rest = true := by
  simp [mapChk, and_assoc] at h
  exact ⟨by have := h.1; exact List.length_pos_iff.2 this, h.2⟩
/-- A new slice of ints. -/
def IntsOut (w0 : World) (R : Asrt) (l : List Int) (e : Ending) (w' : World) : Prop :=
  ∃ a c, e = .returned (.slice a l.length c) ∧ (l = [] → a = none ∧ c = 0) ∧ Sat w0 w' (Row 3 1 (.slice a l.length c) l.length (ints l) * R)
theorem IntsOut.nil {w0 w : World} {R : Asrt} {l : List Int} (h : l = []) (H : Sat w0 w R) : IntsOut w0 R l (.returned (.slice none 0 0)) w := by
  subst h; exact ⟨none, 0, rfl, fun _ => ⟨rfl, rfl⟩, H.rowNil _ _⟩
theorem IntsOut.mk {w0 w : World} {R : Asrt} {l ys : List Int} {a : Option Addr} {c : Nat} (h : l = ys) (hne : 0 < ys.length) (H : Sat w0 w (Row 3 1 (.slice a ys.length c) ys.length (ints ys) * R)) : IntsOut w0 R l (.returned (.slice a ys.length c)) w := by
  subst h; exact ⟨a, c, rfl, fun h => by rw [h] at hne; simp at hne, H⟩
set_option maxHeartbeats 2000000 in
set_option maxRecDepth 100000 in
theorem Map_calls (c : Int) (h1 : c ≤ 1114111) (w0 w : World) (R : Asrt) (H : Sat w0 w R) : Calls Try.prog 125 #[.int .i64 c] w (IntsOut w0 R (mapOf c)) := by
  by_cases h0 : c < 192
  · have e : mapOf c = [] := by
      show mapIn mapTab c = []
      have : mapTab = (192, [65, 768]) :: mapTab.tail := rfl
      rw [this]
      exact mapIn_early (by rw [← this]; exact mapSorted_ok) h0
    have HE := Box.mk e; clear e
    go_enter Try.func125, Try.ntmps125
    generalize hS : (Value.string _) = S
    clear hS
    go_wp2
    go_ret
    exact IntsOut.nil HE.out H
  obtain ⟨M, hM⟩ : ∃ M, M = MAPS := ⟨_, rfl⟩
  have hbl : bl M = mapText := by rw [hM]; exact bl_MAPS
  have hsz : M.size = 1304 := by rw [hM]; exact MAPS_size
  have HS := Box.mk hsz; clear hsz
  have HBL := Box.mk hbl; clear hbl
  go_enter Try.func125, Try.ntmps125
  generalize hS : (Value.string _) = S
  have e : S = .string M := by rw [← hS, hM]; kernel_rfl
  clear hS hM
  subst e
  go_wp2
  go_loop [3] (fun v3 => ∃ (k : Nat) (rows : List (Int × List Int)), k ≤ 1305 ∧ v3 = .int .i64 k ∧ mapChk (mapText.drop k) rows = true ∧ mapSorted rows = true ∧ mapOf c = mapIn rows c)
    (fun v3 => 1305 - (intOf v3).toNat)
  case atStart => exact ⟨0, mapTab, by omega, rfl, mapChk_ok, mapSorted_ok, rfl⟩
  case round =>
    obtain ⟨k, rows, hk, rfl, hc, hsrt, hcls⟩ := hrel
    have hlen : (mapText.drop k).length = 1304 - k := by rw [List.length_drop, mapText_len]
    by_cases hlt : k < 1304
    rotate_left
    · cases rows with
      | nil =>
        have HC := Box.mk hcls; clear hcls hc hsrt
        go_wp2_with fail
        go_ret
        exact IntsOut.nil HC.out H
      | cons r rest =>
        exfalso
        have := mapChk_cons hc
        omega
    cases rows with
    | nil =>
      exfalso
      simp only [mapChk, List.isEmpty_iff_length_eq_zero] at hc
      omega
    | cons r rest =>
      obtain ⟨a, xs⟩ := r
      obtain ⟨⟨z1, z2, z3⟩, z4, z5, z6⟩ := mapSorted_le hsrt
      clear z5
      have Z6 := Box.mk z6; clear z6
      obtain ⟨q0, q1, q2, q3, q5⟩ := mapChk_cons hc
      obtain ⟨n1, e1⟩ : ∃ n, (hexL 0 (mapText.drop k)).2 = n := ⟨_, rfl⟩
      rw [e1] at q2 q3
      simp only [List.drop_drop] at q2 q5
      have c1 : ∀ W, Calls Try.prog 127 #[.string M, .int .i64 k] W (fun e w' => e = .returned (.tuple #[.int .i64 a, .int .i64 ((k + n1 : Nat) : Int)]) ∧ W = w') := fun W =>
        (hex_calls M k (by rw [HS.out]; omega) (by rw [HS.out]; omega) (by rw [HBL.out, q1]; omega) W).mono fun e w' h => by
          unfold HexIs at h; rw [HBL.out, q1, e1] at h; exact h
      have c4 : ∀ W, Calls Try.prog 126 #[.string M, .int .i64 k] W (fun e w' => e = .returned (.int .i64 ((k + lineL (mapText.drop k) + 1 : Nat) : Int)) ∧ W = w') := fun W =>
        (line_calls M k (by rw [HS.out]; omega) (by rw [HS.out]; omega) W).mono fun e w' h => by
          unfold IntIs at h; rw [HBL.out] at h; exact h
      have C1 := Box.mk c1; have C4 := Box.mk c4
      have Q5 := Box.mk q5; have HC := Box.mk hcls; have HSO := Box.mk hsrt; have HL := Box.mk hlen; have Q2 := Box.mk q2; have Z4 := Box.mk z4
      have hk2 : k + n1 ≤ 1304 := by omega
      clear c1 c4 q0 q1 q2 q3 q5 hcls hsrt e1 hc hlen z4
      obtain ⟨m, hm⟩ : ∃ m, lineL (mapText.drop k) = m := ⟨_, rfl⟩
      have hm2 : m ≤ 1304 - k := by rw [← hm, ← HL.out]; exact lineL_lt
      have HM := Box.mk hm; clear hm
      have hd1 : decide ((k : Int) < 1304) = true := by simp; omega
      rcases Int.lt_trichotomy a c with hac | hac | hac
      · -- a row ahead of it
        go_wp2_with fail
        refine (C1.out _).mono ?_
        rintro e w' ⟨rfl, rfl⟩
        go_wp2_with fail
        refine (C4.out _).mono ?_
        rintro e w' ⟨rfl, rfl⟩
        go_wp2_with fail
        go_round
        case rel => exact ⟨k + m + 1, rest, by omega, by rw [HM.out]; go_num, by have := Q5.out; rw [HM.out] at this; exact this, Z6.out, by rw [HC.out]; exact mapIn_miss hac⟩
        case measure => rw [HM.out]; simp [intOf]; omega
      · -- its row
        subst hac
        have hX : mapOf a = xs := by rw [HC.out]; exact mapIn_hit rfl
        have HX := Box.mk hX; clear hX
        have hlt' : ¬ a < a := by omega
        go_wp2_with fail
        refine (C1.out _).mono ?_
        rintro e w' ⟨rfl, rfl⟩
        go_wp2_with fail
        have g := get_bt M
        have hsz := HS.out
        go_loopw [5, 6] (fun v5 v6 wr => ∃ (p f : Nat) (ys : List Int) (a' : Option Addr) (c' : Nat), p ≤ 1304 ∧ v5 = .int .i64 p ∧ v6 = .slice a' ys.length c' ∧ ys ++ mapTail f (mapText.drop p) = xs ∧ ys.length + f = 9 ∧
            Sat w0 wr (Row 3 1 (.slice a' ys.length c') ys.length (ints ys) * R))
          (fun v5 _ _ => 1304 - (intOf v5).toNat)
        case atStart => exact ⟨k + n1, 9, [], none, 0, by omega, by go_num, rfl, Q2.out, rfl, H.rowNil _ _⟩
        case round =>
          obtain ⟨p, f, ys, a', c', hp, rfl, rfl, hys, hf, HY⟩ := hrel
          have hyl : ys.length ≤ 8 := by have := congrArg List.length hys; simp at this; omega
          obtain ⟨f, rfl⟩ : ∃ f', f = f' + 1 := ⟨f - 1, by omega⟩
          have done : ∀ (hnot : mapTail (f + 1) (mapText.drop p) = []), ys = xs := fun hnot => by rw [hnot] at hys; simpa using hys
          by_cases hpl : p < 1304
          · have hdr : mapText.drop p = bt M p :: mapText.drop (p + 1) := by rw [← HBL.out]; exact bl_drop M p (by rw [hsz]; exact hpl)
            by_cases hb : bt M p = 32
            · have ht : mapTail (f + 1) (mapText.drop p) = (hexL 0 (mapText.drop (p + 1))).1 :: mapTail f ((mapText.drop (p + 1)).drop (hexL 0 (mapText.drop (p + 1))).2) := by rw [hdr, hb]; rfl
              rw [ht] at hys
              obtain ⟨x, hx⟩ : ∃ x, (hexL 0 (mapText.drop (p + 1))).1 = x := ⟨_, rfl⟩
              obtain ⟨m2, hm2'⟩ : ∃ x, (hexL 0 (mapText.drop (p + 1))).2 = x := ⟨_, rfl⟩
              rw [hx, hm2', List.drop_drop] at hys
              have hxx : x ≤ 2000000 := Z4.out x (by rw [← hys]; simp)
              have hle : p + 1 + m2 ≤ 1304 := by
                have := (hexL_ge (mapText.drop (p + 1)) 0 (by omega)).2
                rw [hm2', List.length_drop, mapText_len] at this; omega
              have c2 : ∀ W, Calls Try.prog 127 #[.string M, .int .i64 ((p : Int) + 1)] W (fun e w' => e = .returned (.tuple #[.int .i64 x, .int .i64 ((p + 1 + m2 : Nat) : Int)]) ∧ W = w') := fun W =>
                (hex_calls M (p + 1) (by rw [HS.out]; omega) (by rw [HS.out]; omega) (by rw [HBL.out, hx]; omega) W).mono fun e w' h => by
                  unfold HexIs at h; rw [HBL.out, hx, hm2'] at h; exact h
              have C2 := Box.mk c2; have HYS := Box.mk hys; have HB := Box.mk hb
              clear c2 hys hb ht hdr done hx hm2'
              have e1 : (bt M p == 32) = true := by rw [HB.out]; rfl
              have hd2 : decide ((p : Int) < 1304) = true := by simp; omega
              go_wp2_with fail
              refine (C2.out _).mono ?_
              rintro e w' ⟨rfl, rfl⟩
              have hbnd : (ys.length + 1) * 8 ≤ 140737488355328 := by omega
              go_wp2_with (at_builtin; go_loud (refine wpList_append_sep (w0 := w0) (R := R) rfl (.tmp 40) (.tmp 42) 22 rfl Try.underlying22 eInt rfl (by decide) (by decide) rfl rfl (HY.allocX _) (reads_new _ #[.int .i64 x] 3 1 rfl) (ints_cell [x]) hbnd ?_; intro a2 c2 w2 H2))
              go_roundw
              case rel => exact ⟨p + 1 + m2, f, ys ++ [x], a2, c2, by omega, by go_num, by simp, by have := HYS.out; simpa using this, by simp; omega, by simpa [ints] using H2⟩
              case measure => simp [intOf]; omega
            · have hnot : mapTail (f + 1) (mapText.drop p) = [] := by
                rw [hdr]; unfold mapTail; split
                · rename_i h; exact absurd (by simpa using congrArg List.head? h) hb
                · rfl
              have HD := Box.mk (done hnot)
              clear done hnot hdr hys
              have e1 : (bt M p == 32) = false := by simpa using hb
              have hd2 : decide ((p : Int) < 1304) = true := by simp; omega
              clear hb
              go_wp2_with fail
              go_ret
              exact IntsOut.mk (by rw [HX.out, ← HD.out]) (by rw [HD.out]; exact z3) HY
          · have hnot : mapTail (f + 1) (mapText.drop p) = [] := by
              rw [List.drop_of_length_le (by rw [mapText_len]; omega)]; rfl
            have HD := Box.mk (done hnot)
            clear done hnot hys
            have hd2 : decide ((p : Int) < 1304) = false := by simp; omega
            clear hpl
            go_wp2_with fail
            go_ret
            exact IntsOut.mk (by rw [HX.out, ← HD.out]) (by rw [HD.out]; exact z3) HY
      · -- a row behind it
        have hX : mapOf c = [] := by rw [HC.out]; exact mapIn_early HSO.out hac
        have HX := Box.mk hX; clear hX
        have hne : (a == c) = false := by simp; omega
        go_wp2_with fail
        refine (C1.out _).mono ?_
        rintro e w' ⟨rfl, rfl⟩
        go_wp2_with fail
        go_rounds 1
        go_ret
        exact IntsOut.nil HX.out H
end Go.Proofs.Ytmmigplciogggaa
