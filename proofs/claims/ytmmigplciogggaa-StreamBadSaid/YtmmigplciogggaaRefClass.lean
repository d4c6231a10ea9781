/- The reference's Class. -/
import Derived.Test.YtmmigplciogggaaRefWords
import Derived.Deep.Cut
namespace Go.Proofs.Ytmmigplciogggaa
open Go Go.RowKit Go.PlainAid

/-- It hands back v; what was owned is owned still. -/
def Ret (v : Value) (w0 : World) (R : Asrt) (e : Ending) (w' : World) : Prop := e = .returned v ∧ Sat w0 w' R
theorem cls_find (c : Int) : cls c = ((classTab.find? fun r => decide (r.1 ≤ c ∧ c ≤ r.2.1)).map fun r => r.2.2).getD 0 := rfl
theorem cls_words_at {l : List Int} (h : l ∈ linesGo clsText []) : l.length ≤ 40 ∧ ∃ a b x, wordsGo l [] = [a, b, x] ∧ wordOk a = true ∧ wordOk b = true ∧ wordOk x = true := by
  have := List.all_eq_true.1 cls_words l h
  simp only [Bool.and_eq_true, decide_eq_true_eq, List.all_eq_true] at this
  obtain ⟨⟨h1, h2⟩, h3⟩ := this
  refine ⟨h1, ?_⟩
  match hw : wordsGo l [], h2, h3 with
  | [a, b, x], _, h3 => exact ⟨a, b, x, rfl, h3 a (by simp), h3 b (by simp), h3 x (by simp)⟩
theorem wordOk_parts {l : List Int} (h : wordOk l = true) : l.length ≤ 6 ∧ ∀ b ∈ l, hexB b = true := by
  simp only [wordOk, Bool.and_eq_true, decide_eq_true_eq, List.all_eq_true] at h; exact h
set_option maxHeartbeats 4000000 in
set_option maxRecDepth 100000 in
theorem RClass_calls (c : Int) (h1 : c ≤ 1114111) (w0 w : World) (R : Asrt) (H : Sat w0 w R) : Calls Try.prog 50 #[.int .i64 c] w (Ret (.int .i64 (cls c)) w0 R) := by
  by_cases h0 : c < 768
  · have e : cls c = 0 := by
      show clsIn classTab c = 0
      have : classTab = (768, 788, 230) :: classTab.tail := rfl
      rw [this]
      exact clsIn_early (by rw [← this]; exact clsSorted_ok) h0
    have HE := Box.mk e; clear e
    go_enter Try.func50, Try.ntmps50
    generalize hS : (Value.string _) = S
    clear hS
    go_wp2
    go_ret
    exact ⟨by rw [HE.out]; rfl, H⟩
  obtain ⟨M, hM⟩ : ∃ M, M = CLS := ⟨_, rfl⟩
  have hbl : bl M = clsText := by rw [hM]; exact bl_CLS
  have hsz : M.size ≤ 100000 := by rw [hM, CLS_size]; decide
  have HLn := Box.mk (lines_calls M hsz w0 w R H)
  have HBL := Box.mk hbl
  clear hbl hsz
  go_enter Try.func50, Try.ntmps50
  generalize hS : (Value.string _) = S
  have e : S = .string M := by rw [← hS, hM]; kernel_rfl
  clear hS hM
  subst e
  go_wp2_with (go_at_call 96; refine HLn.out.mono ?_; rintro e w1 ⟨v, L, rfl, hL, H1⟩)
  obtain ⟨av, cv, rfl, _, hcm⟩ := H1.rowSlice
  have HCM := Box.mk hcm
  have HLL : Box (L.map bl = linesGo clsText []) := ⟨by rw [hL, HBL.out]⟩
  have hll : L.length ≤ 100 := by
    have h2 := congrArg List.length HLL.out
    rw [List.length_map] at h2
    have h3 : (linesGo clsText []).length ≤ 100 := by decide +kernel
    omega
  clear hcm hL H
  go_wp2_with fail
  go_loopg [4, 5] (L.length) (fun g v4 v5 wr => ∃ i : Nat, g = L.length - i ∧ i ≤ L.length ∧ v4 = .int .i64 i ∧ Box (cls c = clsIn (classTab.drop i) c) ∧ Sat w0 wr (Row 9 1 (.slice av L.length cv) L.length (strs L) * R))
  case atStart => exact ⟨0, rfl, by omega, rfl, ⟨rfl⟩, H1⟩
  case round =>
    obtain ⟨i, rfl, hi, rfl, HC, HI⟩ := hrel
    clear H1
    have hrows : L.map (fun s => clsRow (bl s)) = classTab := by
      rw [← cls_lines, ← HLL.out, List.map_map]; rfl
    by_cases hlt : i < L.length
    · obtain ⟨g, rfl⟩ := HI.rowSome (by omega)
      obtain ⟨s, hs⟩ : ∃ s, L[i]? = some s := ⟨L[i], List.getElem?_eq_getElem hlt⟩
      have hrow : classTab.drop i = clsRow (bl s) :: classTab.drop (i + 1) := by
        obtain ⟨hq, hqe⟩ := List.getElem?_eq_some_iff.1 hs
        have hq2 : i < classTab.length := by rw [← hrows, List.length_map]; exact hq
        rw [List.drop_eq_getElem_cons hq2]
        congr 1
        have : classTab[i]? = some (clsRow (bl s)) := by rw [← hrows, List.getElem?_map, hs]; rfl
        rw [List.getElem?_eq_getElem hq2] at this
        exact Option.some.inj this
      have hmem : bl s ∈ linesGo clsText [] := by rw [← HLL.out]; exact List.mem_map_of_mem (List.mem_of_getElem? hs)
      obtain ⟨hl40, a, b, x, hw, oa, ob, ox⟩ := cls_words_at hmem
      have hcr : clsRow (bl s) = (numL 16 a, numL 16 b, numL 10 x) := by unfold clsRow; rw [hw]
      rw [hcr] at hrow
      have hcell : wr.cell? ⟨g, i, none⟩ = some (.string s) := HI.rowCell (by simp [strs, hs])
      have hss : s.size ≤ 100000 := by rw [← bl_length]; omega
      have HW := Box.mk (words_calls s hss w0 wr _ HI)
      obtain ⟨A, hA⟩ : ∃ A, numL 16 a = A := ⟨_, rfl⟩
      obtain ⟨B, hB⟩ : ∃ B, numL 16 b = B := ⟨_, rfl⟩
      obtain ⟨X, hX⟩ : ∃ X, numL 10 x = X := ⟨_, rfl⟩
      rw [hA, hB, hX] at hrow
      have HROW := Box.mk hrow
      have HWE := Box.mk hw
      have NA : Box (∀ t W, bl t = a → Calls Try.prog 98 #[.string t, .int .i64 16] W (fun e w' => e = .returned (.int .i64 A) ∧ W = w')) := ⟨fun t W ht => by
        have hp := wordOk_parts oa
        have := number_calls t 16 (.inl rfl) (by rw [← bl_length, ht]; exact hp.1) (by rw [ht]; exact hp.2) W
        rwa [ht, hA] at this⟩
      have NB : Box (∀ t W, bl t = b → Calls Try.prog 98 #[.string t, .int .i64 16] W (fun e w' => e = .returned (.int .i64 B) ∧ W = w')) := ⟨fun t W ht => by
        have hp := wordOk_parts ob
        have := number_calls t 16 (.inl rfl) (by rw [← bl_length, ht]; exact hp.1) (by rw [ht]; exact hp.2) W
        rwa [ht, hB] at this⟩
      have NX : Box (∀ t W, bl t = x → Calls Try.prog 98 #[.string t, .int .i64 10] W (fun e w' => e = .returned (.int .i64 X) ∧ W = w')) := ⟨fun t W ht => by
        have hp := wordOk_parts ox
        have := number_calls t 10 (.inr rfl) (by rw [← bl_length, ht]; exact hp.1) (by rw [ht]; exact hp.2) W
        rwa [ht, hX] at this⟩
      clear hrows hs hrow hmem hl40 hw oa ob ox hcr hss hA hB hX
      go_upto_region 8 with (go_at_call 97; refine HW.out.mono ?_; rintro e w2 ⟨v2, W, rfl, hW, H2⟩)
      rw [HWE.out] at hW
      obtain ⟨sa, sb, sx, rfl, ha, hb, hx⟩ : ∃ sa sb sx, W = [sa, sb, sx] ∧ bl sa = a ∧ bl sb = b ∧ bl sx = x := by
        match W, hW with
        | [p, q, r], h => simp only [List.map_cons, List.map_nil, List.cons.injEq, and_true] at h; exact ⟨p, q, r, rfl, h.1, h.2.1, h.2.2⟩
      obtain ⟨a2, c2, rfl, _, _⟩ := H2.rowSlice
      obtain ⟨g2, rfl⟩ := H2.rowSome (by simp)
      simp only [List.length_cons, List.length_nil, Nat.zero_add] at H2 ⊢
      have k0 : w2.cell? ⟨g2, 0, none⟩ = some (.string sa) := H2.rowCell (by simp [strs])
      have k1 : w2.cell? ⟨g2, 1, none⟩ = some (.string sb) := H2.rowCell (by simp [strs])
      have k2 : w2.cell? ⟨g2, 2, none⟩ = some (.string sx) := H2.rowCell (by simp [strs])
      have MA := Box.mk (NA.out sa w2 ha)
      have MB := Box.mk (NB.out sb w2 hb)
      have MX := Box.mk (NX.out sx w2 hx)
      clear ha hb hx hW
      by_cases hA : A ≤ c
      · have hA2 : c ≥ A := hA
        by_cases hB : c ≤ B
        · go_wp2_with (first
            | (go_at_call 98; (with_reducible refine MA.out.mono ?_); rintro e w3 ⟨rfl, rfl⟩)
            | (go_at_call 98; (with_reducible refine MB.out.mono ?_); rintro e w3 ⟨rfl, rfl⟩)
            | (go_at_call 98; (with_reducible refine MX.out.mono ?_); rintro e w3 ⟨rfl, rfl⟩))
          go_ret
          have := HC.out
          rw [HROW.out, clsIn_hit hA hB] at this
          exact ⟨by rw [this]; rfl, H2.right.right⟩
        · go_wp2_with (first
            | (go_at_call 98; (with_reducible refine MA.out.mono ?_); rintro e w3 ⟨rfl, rfl⟩)
            | (go_at_call 98; (with_reducible refine MB.out.mono ?_); rintro e w3 ⟨rfl, rfl⟩))
          go_roundg (L.length - (i + 1))
          case measure => omega
          case rel =>
            refine ⟨i + 1, rfl, by omega, by go_num, ⟨?_⟩, H2.right⟩
            have := HC.out
            rw [HROW.out, clsIn_miss (by omega)] at this
            exact this
      · have hA2 : ¬ c ≥ A := hA
        go_wp2_with (first
          | (go_at_call 98; (with_reducible refine MA.out.mono ?_); rintro e w3 ⟨rfl, rfl⟩))
        go_roundg (L.length - (i + 1))
        case measure => omega
        case rel =>
          refine ⟨i + 1, rfl, by omega, by go_num, ⟨?_⟩, H2.right⟩
          have := HC.out
          rw [HROW.out] at this
          rw [this]
          unfold clsIn
          rw [List.find?_cons_of_neg (by simp; omega)]
    · obtain rfl : i = L.length := by omega
      have hd : classTab.drop L.length = [] := List.drop_of_length_le (by rw [← hrows, List.length_map]; exact Nat.le_refl _)
      have HD := Box.mk hd
      clear hd hrows
      go_wp2
      go_ret
      have := HC.out
      rw [HD.out] at this
      exact ⟨by rw [this]; rfl, HI.right⟩
end Go.Proofs.Ytmmigplciogggaa
