/- The law's early, where nothing fell. -/
import Derived.Test.YtmmigplciogggaaStrSt
import Derived.Test.YtmmigplciogggaaRowSet
namespace Go.Proofs.Ytmmigplciogggaa
open Go Go.RowKit Go.PlainAid

/-- The front of a row. -/
theorem Sat.rowFront {w0 w : World} {R : Asrt} {e : TypeId} {sz : Nat} {a : Option Addr} {N c : Nat} {xs : List Value} (H : Sat w0 w (Row e sz (.slice a N c) N xs * R)) (n : Nat) (hn : n ≤ N) : Sat w0 w (Row e sz (.slice a n c) n (xs.take (n * sz)) * R) := by
  have hmul : n * sz ≤ N * sz := Nat.mul_le_mul_right _ hn
  obtain ⟨hl, ⟨h1, h2, HR⟩ | ⟨g, cap, cur, h1, h2, h3, h4, h5, HB⟩⟩ := H.rowOpen
  · simp only [Value.slice.injEq] at h1
    obtain ⟨rfl, rfl, rfl⟩ := h1
    obtain rfl : n = 0 := by omega
    simp only [Nat.zero_mul, List.take_zero]
    exact HR.rowNil _ _
  · simp only [Value.slice.injEq] at h1
    obtain ⟨rfl, _, rfl⟩ := h1
    exact HB.rowShut (by omega) h3 h4 (by rw [← h5, List.take_take, Nat.min_eq_left hmul])
theorem Sat.rowCap {w0 w : World} {R : Asrt} {e : TypeId} {sz : Nat} {a : Option Addr} {N M c : Nat} {xs : List Value} (H : Sat w0 w (Row e sz (.slice a N c) M xs * R)) : N ≤ c ∧ c ≤ maxLen := by
  obtain ⟨hl, ⟨h1, h2, HR⟩ | ⟨g, cap, cur, h1, h2, h3, h4, h5, HB⟩⟩ := H.rowOpen
  · simp only [Value.slice.injEq] at h1
    obtain ⟨rfl, rfl, rfl⟩ := h1
    simp [maxLen]
  · simp only [Value.slice.injEq] at h1
    obtain ⟨rfl, rfl, rfl⟩ := h1
    exact ⟨h2, h3⟩
theorem held_st {q : Nat} {p r h : List Int} {m : Nat} {o : List Int} (hs : stOf p = .ok r h m o) (w0 w : World) (R : Asrt) (H : Sat w0 w (StA q p * R)) (x : Int) (hx : (h.length : Int) = x) :
    Calls Try.prog 22 #[sptr q] w (fun e w' => e = .returned (.int .i64 x) ∧ w = w') := by
  obtain ⟨rs, vh, e1, H1⟩ := H.stOk hs
  refine (Held_calls q rs vh m 0 false h.length (ints h) w0 w R H1.at2).mono ?_
  rintro e w' ⟨rfl, rfl⟩
  exact ⟨by rw [hx], rfl⟩
set_option maxHeartbeats 8000000 in
set_option maxRecDepth 100000 in
theorem early_calls (q : Nat) (p cs r h : List Int) (m : Nat) (o : List Int) (hs : stOf p = .ok r h m o) (g : Rd p cs r) (K : Kept5 (cs.flatMap apart) h o) (hi : ∀ i, dec (r.take i) = none) (hr3 : r.length ≤ 3) (hpl : p.length ≤ 1000)
    (sA sO : ByteArray) (hA : bl sA = p) (hO : bl sO = o) (w0 w : World) (R : Asrt) (H : Sat w0 w (StA q p * R)) :
    Calls Try.prog 20 #[sptr q, .string sA, .string sO] w (fun e w' => e = .returned (.bool true) ∧ Sat w0 w' (StA q p * R)) := by
  obtain ⟨pc, hp, gc⟩ := g.head
  have hok := g.ok
  have hrd : ∀ i, Rd (pc ++ r.take i) cs (r.take i) := fun i => by
    have := gc.append (q := r.take i) (cs' := []) (r' := r.take i) (.stop (hi i))
    rwa [List.append_nil] at this
  have HRd : Box (∀ i k, (pc ++ r.take i).length < k → readL k (pc ++ r.take i) = if r.take i = [] then some cs else none) := ⟨fun i k hk => readL_Rd (hrd i) k hk⟩
  have hpcl : pc.length + r.length = p.length := by rw [hp, List.length_append]
  obtain ⟨F, hF⟩ : ∃ F, ordS (cs.flatMap apart) = F := ⟨_, rfl⟩
  have hE := K.early
  have hFv := formL_ok hok.1
  have hFl := ordS_length (cs.flatMap apart)
  have hfl := flat_len (cs := cs) fun c hc => (hok.1 c hc).1
  rw [hF] at hE hFv hFl
  have HOK : Box (∀ c ∈ cs, okC c) := ⟨fun c hc => (hok.1 c hc).1⟩
  have HFF := Box.mk hF
  have hcl : cs.length ≤ 1000 := by omega
  have hFN : F.length ≤ 8000 := by omega
  have HFV := Box.mk hFv
  obtain ⟨T, hT⟩ : ∃ T, lastS F.length F = T := ⟨_, rfl⟩
  have hTl : T ≤ F.length := by rw [← hT]; exact lastS_le _ _
  rw [hT] at hE
  have HE := Box.mk hE
  have HTT := Box.mk hT
  have HA : Box (bl sA = pc ++ r.take (r.length - 0)) := ⟨by rw [hA, hp, List.take_of_length_le (by omega)]⟩
  have HO := Box.mk hO
  have HS := Box.mk hs
  clear hs g K hi hp gc hok hrd hF hE hFv hFl hfl hT hA hO
  have hq : sptr q = .pointer (some ⟨q, 0, none⟩) := rfl
  go_enter Try.func20, Try.ntmps20
  go_wp2
  go_loopg [1, 7, 8, 9, 10, 11, 12, 13] (4) (fun g v1 v7 v8 v9 v10 v11 v12 v13 wr => ∃ (k : Nat) (s : ByteArray), g = 4 - k ∧ k ≤ r.length ∧ v7 = .int .i64 k ∧ v1 = .string s ∧ Box (bl s = pc ++ r.take (r.length - k)) ∧ Sat w0 wr (StA q p * R))
  case atStart => exact ⟨0, sA, rfl, by omega, rfl, rfl, HA, H⟩
  case round =>
    obtain ⟨k, s, rfl, hk, rfl, rfl, HB, HI⟩ := hrel
    clear H HA
    have hk4 : (k : Int) < 4 := by omega
    have hsl : s.size = pc.length + (r.length - k) := by rw [← bl_length, HB.out, List.length_append, List.length_take]; omega
    have hrk := HRd.out (r.length - k) (s.size + 1) (by rw [List.length_append, List.length_take]; omega)
    have HR := Box.mk (Read_calls s (by omega) (s.size + 1) (by omega) w0 wr _ HI)
    rw [HB.out, hrk] at HR
    clear hrk
    by_cases hlt : k < r.length
    · rw [if_neg (by intro e; have := congrArg List.length e; rw [List.length_take] at this; simp at this; omega)] at HR
      have hn := full_toList (s := s) (by omega)
      obtain ⟨E, hE⟩ : ∃ E, s.extract 0 (s.size - 1) = E := ⟨_, rfl⟩
      have HEX : Box (bl E = pc ++ r.take (r.length - (k + 1))) := ⟨by
        rw [← hE, bl_extract, List.drop_zero, HB.out, Nat.sub_zero, List.take_append, List.take_of_length_le (by omega), List.take_take]
        congr 2
        omega⟩
      have hz1 : 1 ≤ s.size := by omega
      clear HI
      go_wp2_with (go_at_call 16; (with_reducible refine HR.out.mono ?_); rintro e w1 ⟨rfl, H1⟩)
      go_roundg (4 - (k + 1))
      case measure => omega
      case rel => exact ⟨k + 1, E, rfl, by omega, by go_num, by rw [← hsl, hE], HEX, H1⟩
    · obtain rfl : k = r.length := by omega
      rw [if_pos (by simp)] at HR
      clear HI
      go_wp2_with (first
        | (go_at_call 16; (with_reducible refine HR.out.mono ?_); rintro e w1 ⟨v1, rfl, H1⟩)
        | (go_at_call 48; (refine (RChars_calls cs v1 w0 _ _ H1 (by omega) HOK.out).mono ?_); rintro e w2 ⟨v2, rfl, H2⟩; rw [HFF.out] at H2; obtain ⟨a2, c2, rfl, _, _⟩ := H2.rowSlice))
      obtain ⟨hc1, hc2⟩ := H2.rowCap
      have HCM := Box.mk hc2
      clear hc2
      obtain ⟨wo, rfl⟩ : ∃ wo : World, wo = w2 := ⟨_, rfl⟩
      go_loopg [11] (F.length) (fun g v11 wr => ∃ (j : Nat) (e : Int), j = g ∧ v11 = .int .i64 e ∧ Box (e = j) ∧ j ≤ F.length ∧ Box (lastS j F = T) ∧ Sat w0 wr (Row 3 1 (.slice a2 F.length c2) F.length (ints F) * (Row 3 1 v1 cs.length (ints cs) * (StA q p * R))))
      case atStart => exact ⟨F.length, F.length, rfl, rfl, ⟨rfl⟩, by omega, HTT, H2⟩
      case round =>
        obtain ⟨j, e, rfl, rfl, HJ, hj, HL, HI⟩ := hrel
        clear H2
        cases j with
        | zero =>
          obtain rfl : e = 0 := HJ.out
          have HT0 : Box (T = 0) := ⟨HL.out.symm⟩
          have hn : 0 ≤ F.length := by omega
          have hfl : (F.take 0).length = 0 := by rw [List.length_take]; omega
          have hE := HE.out
          rw [HT0.out, show 0 - 1 = 0 from rfl] at hE
          have HWr : Box (Calls Try.prog 47 #[.slice a2 0 c2] wr (fun e w' => e = .returned (.tuple #[.string sO, .bool true]) ∧ Sat w0 w' (StA q p * R))) := ⟨by
            have HI2 := HI.rowFront 0 hn
            rw [Nat.mul_one, show (ints F).take 0 = ints (F.take 0) by simp [ints, List.map_take]] at HI2
            have hW := WriteR_calls (F.take 0) (.slice a2 0 c2) w0 wr _ (by rw [hfl]; exact HI2) (by omega) (fun x hx => HFV.out x (List.mem_of_mem_take hx))
            rw [show strOfNums (encs (F.take 0)) = sO from bl_inj (by rw [bl_strOf (encs_bytes _ fun x hx => (HFV.out x (List.mem_of_mem_take hx)).1), HO.out]; exact hE.1.symm)] at hW
            refine hW.mono ?_
            rintro e w' ⟨h1, h2⟩
            exact ⟨h1, h2.right.right⟩⟩
          have HH : Box (∀ W, Sat w0 W (StA q p * R) → Calls Try.prog 22 #[sptr q] W (fun e w' => e = .returned (.int .i64 ((F.length : Int) - 0)) ∧ W = w')) := ⟨fun W HW => held_st HS.out w0 W R HW _ (by rw [hE.2]; omega)⟩
          clear hE hfl
          go_wp2_with (first
            | (go_at_call 47; (with_reducible refine HWr.out.mono ?_); rintro e w4 ⟨rfl, H4⟩)
            | (go_at_call 22; (refine (HH.out _ H4).mono ?_); rintro e w5 ⟨rfl, rfl⟩))
          go_ret
          exact ⟨by simp, H4⟩
        | succ i =>
          obtain rfl : e = (i : Int) + 1 := HJ.out
          obtain ⟨gF, rfl⟩ := HI.rowSome (by omega)
          have hcell : wr.cell? ⟨gF, i, none⟩ = some (.int .i64 (F.getD i 0)) := HI.rowCell (ints_at (by omega))
          obtain ⟨x, hx⟩ : ∃ x, F.getD i 0 = x := ⟨_, rfl⟩
          have hxm : x ∈ F := by
            rw [← hx, List.getD, List.getElem?_eq_getElem (by omega)]; exact List.getElem_mem _
          rw [hx] at hcell
          have hxo := (HFV.out x hxm).1
          have HCl := Box.mk (RClass_calls x hxo.2 w0 wr _ HI)
          obtain ⟨C, hC⟩ : ∃ C, cls x = C := ⟨_, rfl⟩
          rw [hC] at HCl
          have HX := Box.mk (And.intro hx hC)
          have hij : (i : Int) + 1 > 0 := by omega
          clear hx hC hxm hxo
          by_cases hc : C > 0
          · go_wp2_with (go_at_call 50; (with_reducible refine HCl.out.mono ?_); rintro e w3 ⟨rfl, H3⟩)
            go_roundg (i)
            case measure => omega
            case rel =>
              refine ⟨i, i, rfl, rfl, ⟨rfl⟩, by omega, ⟨?_⟩, H3⟩
              have := HL.out
              rwa [lastS, HX.out.1, if_pos (by rw [HX.out.2]; exact hc)] at this
          · have hcd : decide (C > 0) = false := by simpa using hc
            have HT0 : Box (T = i + 1) := ⟨by have := HL.out; rw [lastS, HX.out.1, if_neg (by rw [HX.out.2]; exact hc)] at this; exact this.symm⟩
            have hn : i ≤ F.length := by omega
            have hfl : (F.take i).length = i := by rw [List.length_take]; omega
            have hE := HE.out
            rw [HT0.out, Nat.add_sub_cancel] at hE
            have HWr : Box (∀ W, Sat w0 W (Row 3 1 (.slice (some ⟨gF, 0, none⟩) F.length c2) F.length (ints F) * (Row 3 1 v1 cs.length (ints cs) * (StA q p * R))) → Calls Try.prog 47 #[.slice (some ⟨gF, 0, none⟩) i c2] W (fun e w' => e = .returned (.tuple #[.string sO, .bool true]) ∧ Sat w0 w' (StA q p * R))) := ⟨by
              intro W HW0
              have HI2 := HW0.rowFront i hn
              rw [Nat.mul_one, show (ints F).take i = ints (F.take i) by simp [ints, List.map_take]] at HI2
              have hW := WriteR_calls (F.take i) (.slice (some ⟨gF, 0, none⟩) i c2) w0 W _ (by rw [hfl]; exact HI2) (by omega) (fun x hx => HFV.out x (List.mem_of_mem_take hx))
              rw [show strOfNums (encs (F.take i)) = sO from bl_inj (by rw [bl_strOf (encs_bytes _ fun x hx => (HFV.out x (List.mem_of_mem_take hx)).1), HO.out]; exact hE.1.symm)] at hW
              refine hW.mono ?_
              rintro e w' ⟨h1, h2⟩
              exact ⟨h1, h2.right.right⟩⟩
            have HH : Box (∀ W, Sat w0 W (StA q p * R) → Calls Try.prog 22 #[sptr q] W (fun e w' => e = .returned (.int .i64 ((F.length : Int) - i)) ∧ W = w')) := ⟨fun W HW => held_st HS.out w0 W R HW _ (by rw [hE.2]; omega)⟩
            clear hE hfl
            go_wp2_with (first
              | (go_at_call 50; (with_reducible refine HCl.out.mono ?_); rintro e w3 ⟨rfl, H3⟩)
              | (go_at_call 47; (refine (HWr.out _ H3).mono ?_); rintro e w4 ⟨rfl, H4⟩)
              | (go_at_call 22; (refine (HH.out _ H4).mono ?_); rintro e w5 ⟨rfl, rfl⟩))
            go_ret
            exact ⟨by simp, H4⟩
end Go.Proofs.Ytmmigplciogggaa
