/- The reference's Map. -/
import Derived.Test.YtmmigplciogggaaRefClass
namespace Go.Proofs.Ytmmigplciogggaa
open Go Go.RowKit Go.PlainAid

theorem map_words_at {l : List Int} (h : l ∈ linesGo mapText []) : l.length ≤ 60 ∧ ∃ a t, wordsGo l [] = a :: t ∧ 1 ≤ t.length ∧ t.length ≤ 8 ∧ wordOk a = true ∧ ∀ x ∈ t, wordOk x = true := by
  have := List.all_eq_true.1 map_words l h
  simp only [Bool.and_eq_true, decide_eq_true_eq, List.all_eq_true] at this
  obtain ⟨⟨h1, h2⟩, h3⟩ := this
  refine ⟨h1, ?_⟩
  match hw : wordsGo l [], h2, h3 with
  | a :: t, h2, h3 => exact ⟨a, t, rfl, by simp at h2; omega, by simp at h2; omega, h3 a (by simp), fun x hx => h3 x (by simp [hx])⟩
set_option maxHeartbeats 4000000 in
set_option maxRecDepth 100000 in
theorem RMap_calls (c : Int) (h1 : c ≤ 1114111) (w0 w : World) (R : Asrt) (H : Sat w0 w R) : Calls Try.prog 123 #[.int .i64 c] w (IntsOut w0 R (mapOf c)) := by
  by_cases h0 : c < 192
  · have e : mapOf c = [] := by
      show mapIn mapTab c = []
      have : mapTab = (192, [65, 768]) :: mapTab.tail := rfl
      rw [this]
      exact mapIn_early (by rw [← this]; exact mapSorted_ok) h0
    have HE := Box.mk e; clear e
    go_enter Try.func123, Try.ntmps123
    generalize hS : (Value.string _) = S
    clear hS
    go_wp2
    go_ret
    exact IntsOut.nil HE.out H
  obtain ⟨M, hM⟩ : ∃ M, M = MAPS := ⟨_, rfl⟩
  have hbl : bl M = mapText := by rw [hM]; exact bl_MAPS
  have hsz : M.size ≤ 100000 := by rw [hM, MAPS_size]; decide
  have HLn := Box.mk (lines_calls M hsz w0 w R H)
  have HBL := Box.mk hbl
  clear hbl hsz
  go_enter Try.func123, Try.ntmps123
  generalize hS : (Value.string _) = S
  have e : S = .string M := by rw [← hS, hM]; kernel_rfl
  clear hS hM
  subst e
  go_wp2_with (go_at_call 96; refine HLn.out.mono ?_; rintro e w1 ⟨v, L, rfl, hL, H1⟩)
  obtain ⟨av, cv, rfl, _, hcm⟩ := H1.rowSlice
  have HCM := Box.mk hcm
  have HLL : Box (L.map bl = linesGo mapText []) := ⟨by rw [hL, HBL.out]⟩
  have hll : L.length ≤ 200 := by
    have h2 := congrArg List.length HLL.out
    rw [List.length_map] at h2
    have h3 : (linesGo mapText []).length ≤ 200 := by decide +kernel
    omega
  clear hcm hL H
  go_wp2_with fail
  go_loopg [4, 5, 6, 7] (L.length) (fun g v4 v5 v6 v7 wr => ∃ i : Nat, g = L.length - i ∧ i ≤ L.length ∧ v4 = .int .i64 i ∧ Box (mapOf c = mapIn (mapTab.drop i) c) ∧ Sat w0 wr (Row 9 1 (.slice av L.length cv) L.length (strs L) * R))
  case atStart => exact ⟨0, rfl, by omega, rfl, ⟨rfl⟩, H1⟩
  case round =>
    obtain ⟨i, rfl, hi, rfl, HC, HI⟩ := hrel
    clear H1
    have hrows : L.map (fun s => mapRow (bl s)) = mapTab := by
      rw [← map_lines, ← HLL.out, List.map_map]; rfl
    by_cases hlt : i < L.length
    · obtain ⟨g, rfl⟩ := HI.rowSome (by omega)
      obtain ⟨s, hs⟩ : ∃ s, L[i]? = some s := ⟨L[i], List.getElem?_eq_getElem hlt⟩
      have hrow : mapTab.drop i = mapRow (bl s) :: mapTab.drop (i + 1) := by
        obtain ⟨hq, hqe⟩ := List.getElem?_eq_some_iff.1 hs
        have hq2 : i < mapTab.length := by rw [← hrows, List.length_map]; exact hq
        rw [List.drop_eq_getElem_cons hq2]
        congr 1
        have : mapTab[i]? = some (mapRow (bl s)) := by rw [← hrows, List.getElem?_map, hs]; rfl
        rw [List.getElem?_eq_getElem hq2] at this
        exact Option.some.inj this
      have hmem : bl s ∈ linesGo mapText [] := by rw [← HLL.out]; exact List.mem_map_of_mem (List.mem_of_getElem? hs)
      obtain ⟨hl40, a, t, hw, t1, t8, oa, ot⟩ := map_words_at hmem
      have hcr : mapRow (bl s) = (numL 16 a, t.map (numL 16)) := by unfold mapRow; rw [hw]
      rw [hcr] at hrow
      have hcell : wr.cell? ⟨g, i, none⟩ = some (.string s) := HI.rowCell (by simp [strs, hs])
      have hss : s.size ≤ 100000 := by rw [← bl_length]; omega
      have HW := Box.mk (words_calls s hss w0 wr _ HI)
      obtain ⟨A, hA⟩ : ∃ A, numL 16 a = A := ⟨_, rfl⟩
      rw [hA] at hrow
      have HROW := Box.mk hrow
      have HWE := Box.mk hw
      have NN : Box (∀ t a W, bl t = a → wordOk a = true → Calls Try.prog 98 #[.string t, .int .i64 16] W (fun e w' => e = .returned (.int .i64 (numL 16 a)) ∧ W = w')) := ⟨fun t a W ht oa => by
        have hp := wordOk_parts oa
        have := number_calls t 16 (.inl rfl) (by rw [← bl_length, ht]; exact hp.1) (by rw [ht]; exact hp.2) W
        rwa [ht] at this⟩
      have HA := Box.mk hA
      have OA := Box.mk oa
      have OT := Box.mk ot
      clear hrows hs hrow hmem hl40 hw oa ot hcr hss hA
      go_upto_region 8 with (go_at_call 97; refine HW.out.mono ?_; rintro e w2 ⟨v2, W, rfl, hW, H2⟩)
      rw [HWE.out] at hW
      obtain ⟨sa, ts, rfl, ha, ht⟩ : ∃ sa ts, W = sa :: ts ∧ bl sa = a ∧ ts.map bl = t := by
        match W, hW with
        | p :: q, h => simp only [List.map_cons, List.cons.injEq] at h; exact ⟨p, q, rfl, h.1, h.2⟩
      have htl : ts.length = t.length := by rw [← ht, List.length_map]
      obtain ⟨a2, c2, rfl, _, hcm2⟩ := H2.rowSlice
      have HCM2 := Box.mk hcm2
      obtain ⟨g2, rfl⟩ := H2.rowSome (by simp)
      have k0 : w2.cell? ⟨g2, 0, none⟩ = some (.string sa) := H2.rowCell (by simp [strs])
      have MA : Box (Calls Try.prog 98 #[.string sa, .int .i64 16] w2 (fun e w' => e = .returned (.int .i64 A) ∧ w2 = w')) := ⟨by
        have := NN.out sa a w2 ha OA.out
        rwa [HA.out] at this⟩
      have HT := Box.mk ht
      have HTL := Box.mk htl
      have hts : ts.length ≤ 8 := by omega
      clear ha ht hW hcm2 htl
      by_cases hA : A = c
      · have hA2 : (A != c) = false := by simp [hA]
        have HAC := Box.mk hA
        clear hA
        go_wp2_with (first
          | (go_at_call 98; (with_reducible refine MA.out.mono ?_); rintro e w3 ⟨rfl, rfl⟩))
        clear HI
        go_loopg [6, 7] (ts.length) (fun g v6 v7 wr => ∃ (k : Nat) (a6 : Option Addr) (c6 : Nat), g = ts.length - k ∧ k ≤ ts.length ∧ v7 = .int .i64 ((k : Int) + 1) ∧ v6 = .slice a6 k c6 ∧ Sat w0 wr (Row 3 1 (.slice a6 k c6) k (ints ((t.take k).map (numL 16))) * (Row 9 1 (.slice (some ⟨g2, 0, none⟩) (ts.length + 1) c2) (ts.length + 1) (strs (sa :: ts)) * R)))
        case atStart => exact ⟨0, none, 0, rfl, by omega, rfl, rfl, (H2.imp (Asrt.sep_mono (fun _ a => a) fun h b => b) |>.at2.right).rowNil _ _⟩
        case round =>
          obtain ⟨k, a6, c6, rfl, hk, rfl, rfl, HK⟩ := hrel
          clear H2
          by_cases hlt2 : k < ts.length
          · obtain ⟨x, hx⟩ : ∃ x, ts[k]? = some x := ⟨ts[k], List.getElem?_eq_getElem hlt2⟩
            have hlt3 : (k : Int) + 1 < (ts.length : Int) + 1 := by omega
            have hcx : wr.cell? ⟨g2, k + 1, none⟩ = some (.string x) := HK.at2.rowCell (by simp [strs, hx])
            have hbx : t[k]? = some (bl x) := by rw [← HT.out, List.getElem?_map, hx]; rfl
            have hT : (t.take (k + 1)).map (numL 16) = (t.take k).map (numL 16) ++ [numL 16 (bl x)] := by
              obtain ⟨hq, hqe⟩ := List.getElem?_eq_some_iff.1 hbx
              rw [List.take_succ_eq_append_getElem hq, List.map_append, hqe]; rfl
            have NX : Box (∀ W, Calls Try.prog 98 #[.string x, .int .i64 16] W (fun e w' => e = .returned (.int .i64 (numL 16 (bl x))) ∧ W = w')) := ⟨fun W => NN.out x (bl x) W rfl (OT.out _ (List.mem_of_getElem? hbx))⟩
            obtain ⟨X, hX⟩ : ∃ X, numL 16 (bl x) = X := ⟨_, rfl⟩
            rw [hX] at NX hT
            have HTT := Box.mk hT
            have HB : Box ((k + 1) * 8 ≤ 140737488355328) := ⟨by omega⟩
            clear hx hbx hT hX
            go_wp2_with (first
              | (go_at_call 98; (with_reducible refine (NX.out _).mono ?_); rintro e w3 ⟨rfl, rfl⟩)
              | (at_builtin; go_loud (refine wpList_append_sep (w0 := w0) rfl (.tmp 34) (.tmp 40) 22 rfl Try.underlying22 eInt rfl (by decide) (by decide) rfl rfl (HK.allocX _) (reads_newg _ #[.int .i64 X] 3 1 _ rfl (by simp)) (ints_cell [X]) HB.out ?_); intro a3 c3 w3 H3))
            go_roundg (ts.length - (k + 1))
            case measure => omega
            case rel => exact ⟨k + 1, a3, c3, rfl, by omega, by go_num, rfl, by rw [HTT.out, show ints ((t.take k).map (numL 16) ++ [X]) = ints ((t.take k).map (numL 16)) ++ [.int .i64 X] by simp [ints]]; exact H3⟩
          · obtain rfl : k = ts.length := by omega
            go_wp2
            go_ret
            have h1 := HC.out
            rw [HROW.out, mapIn_hit HAC.out] at h1
            have h2 : mapOf c = (t.take ts.length).map (numL 16) := by rw [h1, List.take_of_length_le (by rw [HTL.out]; exact Nat.le_refl _)]
            have h3 : ((t.take ts.length).map (numL 16)).length = ts.length := by rw [List.length_map, List.length_take, ← HTL.out]; omega
            have h4 := HK.imp (Asrt.sep_mono (fun _ a => a) fun h b => b)
            have h5 : Sat w0 wr (Row 3 1 (.slice a6 ts.length c6) ts.length (ints ((t.take ts.length).map (numL 16))) * R) := HK.at2.right
            obtain ⟨ys, hys⟩ : ∃ ys, (t.take ts.length).map (numL 16) = ys := ⟨_, rfl⟩
            rw [hys] at h2 h3 h5
            rw [← h3] at h5 ⊢
            exact IntsOut.mk h2 (by rw [h3, HTL.out]; omega) h5
      · have hA2 : (A != c) = true := by simpa using hA
        have HAC := Box.mk hA
        clear hA
        go_wp2_with (first
          | (go_at_call 98; (with_reducible refine MA.out.mono ?_); rintro e w3 ⟨rfl, rfl⟩))
        go_roundg (L.length - (i + 1))
        case measure => omega
        case rel =>
          refine ⟨i + 1, rfl, by omega, by go_num, ⟨?_⟩, H2.right⟩
          have := HC.out
          rw [HROW.out] at this
          rw [this]
          unfold mapIn
          rw [List.find?_cons_of_neg (by simpa using HAC.out)]
    · obtain rfl : i = L.length := by omega
      have hd : mapTab.drop L.length = [] := List.drop_of_length_le (by rw [← hrows, List.length_map]; exact Nat.le_refl _)
      have HD := Box.mk hd
      clear hd hrows
      go_wp2
      go_ret
      have := HC.out
      rw [HD.out] at this
      exact IntsOut.nil this HI.right
end Go.Proofs.Ytmmigplciogggaa
