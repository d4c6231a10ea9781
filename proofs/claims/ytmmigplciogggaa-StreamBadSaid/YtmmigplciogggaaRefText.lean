/- The reference's Chars. -/
import Derived.Test.YtmmigplciogggaaRefChars
import Derived.Test.YtmmigplciogggaaRowSet
import Derived.Deep.QuietTactic
import Derived.BigQuiet
namespace Go.Proofs.Ytmmigplciogggaa
open Go Go.RowKit Go.PlainAid

theorem ints_set (l : List Int) (i : Nat) (x : Int) : (ints l).set i (.int .i64 x) = ints (l.set i x) := by simp [ints, List.map_set]
theorem map_cls_set (l : List Int) (i : Nat) (x : Int) : (l.map cls).set i (cls x) = (l.set i x).map cls := by simp [List.map_set]
theorem ints_snoc (l : List Int) (x : Int) : ints (l ++ [x]) = ints l ++ [.int .i64 x] := by simp [ints]
theorem ints_at {l : List Int} {i : Nat} (h : i < l.length) : (ints l)[i]? = some (.int .i64 (l.getD i 0)) := by simp [ints, List.getD, h]
theorem ints_cls_at {l : List Int} {i : Nat} (h : i < l.length) : (ints (l.map cls))[i]? = some (.int .i64 (cls (l.getD i 0))) := by simp [ints, List.getD, h]
theorem ints_len (l : List Int) : (ints l).length = l.length := by simp [ints]
set_option maxHeartbeats 8000000 in
set_option maxRecDepth 100000 in
theorem RChars_calls (l : List Int) (v : Value) (w0 w : World) (R : Asrt) (H : Sat w0 w (Row 3 1 v l.length (ints l) * R)) (hm : l.length ≤ 100000) (hl : ∀ x ∈ l, okC x) :
    Calls Try.prog 48 #[v] w (IntsRow w0 (Row 3 1 v l.length (ints l) * R) (ordS (l.flatMap apart))) := by
  obtain ⟨ar, cr, rfl, hcr, hcm⟩ := H.rowSlice
  have HL := Box.mk hl
  have HCM := Box.mk hcm
  clear hl hcm hcr
  go_enter Try.func48, Try.ntmps48
  go_wp2
  go_loopg [3, 4, 5, 6, 7, 8, 9, 10] (l.length) (fun g v3 v4 v5 v6 v7 v8 v9 v10 wr => ∃ (t : Nat) (O : List Int) (a3 a4 : Option Addr) (c3 c4 : Nat), g = l.length - t ∧ t ≤ l.length ∧ v5 = .int .i64 t ∧ v3 = .slice a3 O.length c3 ∧ v4 = .slice a4 O.length c4 ∧ Box (O = charsF ((l.take t).flatMap apart) []) ∧ O.length ≤ 8 * t ∧ Sat w0 wr (Row 3 1 (.slice a3 O.length c3) O.length (ints O) * (Row 3 1 (.slice a4 O.length c4) O.length (ints (O.map cls)) * (Row 3 1 (.slice ar l.length cr) l.length (ints l) * R))))
  case atStart => exact ⟨0, [], none, none, 0, 0, rfl, by omega, rfl, rfl, rfl, ⟨rfl⟩, by simp, (H.rowNil _ _).rowNil _ _⟩
  case round =>
    obtain ⟨t, O, a3, a4, c3, c4, rfl, ht, rfl, rfl, rfl, HO, hOl, HI⟩ := hrel
    clear H
    by_cases hlt : t < l.length
    · obtain ⟨gr, rfl⟩ := HI.at3.rowSome (by omega)
      obtain ⟨x, hx⟩ : ∃ x, l[t]? = some x := ⟨l[t], List.getElem?_eq_getElem hlt⟩
      have hT : l.take (t + 1) = l.take t ++ [x] := by
        obtain ⟨hq, rfl⟩ := List.getElem?_eq_some_iff.1 hx
        exact List.take_succ_eq_append_getElem hq
      have hcell : wr.cell? ⟨gr, t, none⟩ = some (.int .i64 x) := HI.at3.rowCell (by simp [ints, hx])
      have hxo := HL.out x (List.mem_of_getElem? hx)
      have HA := Box.mk (RApart_calls x hxo.2 w0 wr _ HI)
      have hap := apart_ok hxo
      obtain ⟨X, hX⟩ : ∃ X, apart x = X := ⟨_, rfl⟩
      rw [hX] at HA hap
      have HXO := Box.mk hap.1
      have hXl : X.length ≤ 8 := hap.2
      have HO2 : Box (charsF ((l.take (t + 1)).flatMap apart) [] = charsF X O) := ⟨by rw [hT, List.flatMap_append, charsF_append, ← HO.out]; simp [hX]⟩
      clear hx hT hxo hX hap HI
      go_wp2_with (go_at_call 95; (with_reducible refine HA.out.mono ?_); rintro e w1 ⟨aX, cX, rfl, _, H1⟩)
      obtain ⟨wo, rfl⟩ : ∃ wo : World, wo = w1 := ⟨_, rfl⟩
      obtain ⟨_, _, _, _, hcmX⟩ := H1.rowSlice
      have HCMX := Box.mk hcmX
      clear hcmX HA
      go_loopg [3, 4, 7, 8, 9, 10] (X.length) (fun g v3 v4 v7 v8 v9 v10 wr => ∃ (k : Nat) (P : List Int) (a3 a4 : Option Addr) (c3 c4 : Nat), g = X.length - k ∧ k ≤ X.length ∧ v7 = .int .i64 k ∧ v3 = .slice a3 P.length c3 ∧ v4 = .slice a4 P.length c4 ∧ Box (P = charsF (X.take k) O) ∧ P.length ≤ 8 * t + k ∧ Sat w0 wr (Row 3 1 (.slice a3 P.length c3) P.length (ints P) * (Row 3 1 (.slice a4 P.length c4) P.length (ints (P.map cls)) * (Row 3 1 (.slice aX X.length cX) X.length (ints X) * (Row 3 1 (.slice (some ⟨gr, 0, none⟩) l.length cr) l.length (ints l) * R)))))
      case atStart => exact ⟨0, O, a3, a4, c3, c4, rfl, by omega, rfl, rfl, rfl, ⟨rfl⟩, by omega, H1.at3.at3⟩
      case round =>
        obtain ⟨k, P, a3, a4, c3, c4, rfl, hk, rfl, rfl, rfl, HP, hPl, HI⟩ := hrel
        clear H1
        by_cases hltk : k < X.length
        · obtain ⟨y, hy⟩ : ∃ y, X[k]? = some y := ⟨X[k], List.getElem?_eq_getElem hltk⟩
          have hT : X.take (k + 1) = X.take k ++ [y] := by
            obtain ⟨hq, rfl⟩ := List.getElem?_eq_some_iff.1 hy
            exact List.take_succ_eq_append_getElem hq
          obtain ⟨gX, rfl⟩ := HI.at3.rowSome (by omega)
          have hcell : wr.cell? ⟨gX, k, none⟩ = some (.int .i64 y) := HI.at3.rowCell (by simp [ints, hy])
          have hyo := HXO.out y (List.mem_of_getElem? hy)
          have HP2 : Box (charsF (X.take (k + 1)) O = bub P.length (P ++ [y])) := ⟨by rw [hT, charsF_snoc, ← HP.out]⟩
          have HB : Box ((P.length + 1) * 8 ≤ 140737488355328) := ⟨by omega⟩
          have HY := Box.mk hyo.2
          have hXk : Box ((ints X)[k]? = some (.int .i64 y)) := ⟨by simp [ints, hy]⟩
          clear hy hT hyo
          go_upto_region 10 with (at_builtin; go_loud (refine wpList_append_sep (w0 := w0) rfl (.tmp 28) (.tmp 33) 22 rfl Try.underlying22 eInt rfl (by decide) (by decide) rfl rfl (HI.allocX _) (reads_newg _ #[.int .i64 y] 3 1 _ rfl (by simp)) (ints_cell [y]) HB.out ?_); intro a3' c3' w3 H3)
          clear HI
          have hcell2 : w3.cell? ⟨gX, k, none⟩ = some (.int .i64 y) := H3.at3.rowCell hXk.out
          have HCl := Box.mk (RClass_calls y HY.out w0 w3 _ H3)
          go_upto_region 11 with (first
            | (go_at_call 50; (with_reducible refine HCl.out.mono ?_); rintro e w4 ⟨rfl, H4⟩)
            | (at_builtin; go_loud (refine wpList_append_sep (w0 := w0) rfl (.tmp 35) (.tmp 41) 22 rfl Try.underlying22 eInt rfl (by decide) (by decide) rfl rfl (H4.at2.allocX _) (reads_newg _ #[.int .i64 (cls y)] 3 1 _ rfl (by simp)) (ints_cell [cls y]) HB.out ?_); intro a4' c4' w5 H5))
          obtain ⟨g3, rfl⟩ := H5.at2.rowSome (by omega)
          obtain ⟨g4, rfl⟩ := H5.rowSome (by omega)
          have H6 : Sat w0 w5 (Row 3 1 (.slice (some ⟨g3, 0, none⟩) (P.length + 1) c3') (P.length + 1) (ints (P ++ [y])) * (Row 3 1 (.slice (some ⟨g4, 0, none⟩) (P.length + 1) c4') (P.length + 1) (ints ((P ++ [y]).map cls)) * (Row 3 1 (.slice (some ⟨gX, 0, none⟩) X.length cX) X.length (ints X) * (Row 3 1 (.slice (some ⟨gr, 0, none⟩) l.length cr) l.length (ints l) * R)))) := by
            rw [ints_snoc, List.map_append, List.map_singleton, ints_snoc]; exact H5.at2
          obtain ⟨wo2, rfl⟩ : ∃ wo : World, wo = w5 := ⟨_, rfl⟩
          obtain ⟨T, hT⟩ : ∃ T, bub P.length (P ++ [y]) = T := ⟨_, rfl⟩
          rw [hT] at HP2
          have HQ : Box (bub P.length (P ++ [y]) = T ∧ (P ++ [y]).length = P.length + 1) := ⟨hT, by simp⟩
          have hpn : ((P.length : Int) + 1 - 1) = P.length := by omega
          clear hT H5 H4 H3 hcell2 hcell
          obtain ⟨hne, _⟩ : (g3 ≠ g4) ∧ True := by
            obtain ⟨c1, _, _, _, _, HB1⟩ := H6.rowBlk
            obtain ⟨c2, _, _, _, _, HB2⟩ := HB1.at2.rowBlk
            exact ⟨fun e => HB2.blk_ne e.symm, trivial⟩
          have hne2 : g4 ≠ g3 := fun e => hne e.symm
          have HNE := Box.mk hne
          clear hne hne2
          go_wp2_with fail
          go_loopg [8, 9, 10] (P.length) (fun g v8 v9 v10 wr => ∃ (j : Nat) (e : Int) (Q : List Int), j = g ∧ v8 = .int .i64 e ∧ e = j ∧ j ≤ P.length ∧ Box (bub j Q = T ∧ Q.length = P.length + 1) ∧ Sat w0 wr (Row 3 1 (.slice (some ⟨g3, 0, none⟩) (P.length + 1) c3') (P.length + 1) (ints Q) * (Row 3 1 (.slice (some ⟨g4, 0, none⟩) (P.length + 1) c4') (P.length + 1) (ints (Q.map cls)) * (Row 3 1 (.slice (some ⟨gX, 0, none⟩) X.length cX) X.length (ints X) * (Row 3 1 (.slice (some ⟨gr, 0, none⟩) l.length cr) l.length (ints l) * R)))))
          case atStart => exact ⟨P.length, P.length, P ++ [y], rfl, rfl, rfl, by omega, HQ, H6⟩
          case round =>
            obtain ⟨j, e, Q, rfl, rfl, he, hj, HQ, HI⟩ := hrel
            clear H6
            cases j with
            | zero =>
              obtain rfl : e = 0 := by omega
              clear he
              go_wp2_with fail
              go_quiet (fail)
              go_wp2
              go_roundg (X.length - (k + 1))
              case measure => omega
              case rel =>
                obtain ⟨hb, hq⟩ := HQ.out
                have hqT : Q = T := hb
                refine ⟨k + 1, Q, some ⟨g3, 0, none⟩, some ⟨g4, 0, none⟩, c3', c4', rfl, by omega, by go_num, by rw [hq], by rw [hq], ⟨by rw [HP2.out]; exact hqT⟩, by omega, ?_⟩
                rw [hq]; exact HI.drewN _
            | succ i =>
              obtain rfl : e = (i : Int) + 1 := by omega
              clear he
              obtain ⟨hb, hq⟩ := HQ.out
              have m1 : wr.cell? ⟨g4, i + 1, none⟩ = some (.int .i64 (cls (Q.getD (i + 1) 0))) := HI.at2.rowCell (ints_cls_at (by omega))
              have m2 : wr.cell? ⟨g4, i, none⟩ = some (.int .i64 (cls (Q.getD i 0))) := HI.at2.rowCell (ints_cls_at (by omega))
              have o1 : wr.cell? ⟨g3, i + 1, none⟩ = some (.int .i64 (Q.getD (i + 1) 0)) := HI.rowCell (ints_at (by omega))
              have o2 : wr.cell? ⟨g3, i, none⟩ = some (.int .i64 (Q.getD i 0)) := HI.rowCell (ints_at (by omega))
              have f1 := HI.rowFree (i + 1)
              have f2 := HI.rowFree i
              have f3 := HI.at2.rowFree (i + 1)
              have f4 := HI.at2.rowFree i
              obtain ⟨A, hA⟩ : ∃ A, Q.getD (i + 1) 0 = A := ⟨_, rfl⟩
              obtain ⟨B, hB⟩ : ∃ B, Q.getD i 0 = B := ⟨_, rfl⟩
              obtain ⟨CA, hCA⟩ : ∃ CA, cls A = CA := ⟨_, rfl⟩
              obtain ⟨CB, hCB⟩ : ∃ CB, cls B = CB := ⟨_, rfl⟩
              rw [hA, hCA] at m1
              rw [hB, hCB] at m2
              rw [hA] at o1
              rw [hB] at o2
              have HAB := Box.mk (And.intro hA (And.intro hB (And.intro hCA hCB)))
              have HQQ := Box.mk (And.intro hb hq)
              clear hA hB hCA hCB hb hq HQ
              have hi1 : (i : Int) + 1 > 0 := by omega
              by_cases hc1 : CA > 0
              · by_cases hc2 : CB > CA
                · go_wp2_with fail
                  go_quiet (fail)
                  go_wp2_with fail
                  go_quiet (fail)
                  have hne : ¬ g3 = g4 := HNE.out
                  have hne2 : ¬ g4 = g3 := fun e => HNE.out e.symm
                  go_wp2
                  go_roundg (i)
                  case measure => omega
                  case rel =>
                    obtain ⟨hb, hq⟩ := HQQ.out
                    obtain ⟨hA, hB, hCA, hCB⟩ := HAB.out
                    refine ⟨i, i, (Q.set i A).set (i + 1) B, rfl, rfl, rfl, by omega, ⟨?_, by simp [hq]⟩, ?_⟩
                    · rw [← hb, bub_go (by rw [hA, hCA]; exact hc1) (by rw [hA, hB, hCA, hCB]; exact hc2), hA, hB]
                    · rw [← ints_set, ← ints_set, ← map_cls_set, ← map_cls_set, hCA, hCB, ← ints_set, ← ints_set]
                      have G := fun z => ((((HI.drewN z).rowSet i (by omega) (.int .i64 A)).at2.rowSet i (by omega) (.int .i64 CA)).at2.rowSet (i + 1) (by omega) (.int .i64 B)).at2.rowSet (i + 1) (by omega) (.int .i64 CB)
                      exact (G _).at2
                · have hc2b : decide (CB > CA) = false := by simpa using hc2
                  go_wp2_with fail
                  go_quiet (fail)
                  go_wp2
                  go_roundg (X.length - (k + 1))
                  case measure => omega
                  case rel =>
                    obtain ⟨hb, hq⟩ := HQQ.out
                    obtain ⟨hA, hB, hCA, hCB⟩ := HAB.out
                    have hqT : Q = T := by rw [← hb, bub_stop (by rw [hA, hB, hCA, hCB]; omega)]
                    refine ⟨k + 1, Q, some ⟨g3, 0, none⟩, some ⟨g4, 0, none⟩, c3', c4', rfl, by omega, by go_num, by rw [hq], by rw [hq], ⟨by rw [HP2.out]; exact hqT⟩, by omega, ?_⟩
                    rw [hq]; exact HI.drewN _
              · have hc1b : decide (CA > 0) = false := by simpa using hc1
                go_wp2_with fail
                go_quiet (fail)
                go_wp2
                go_roundg (X.length - (k + 1))
                case measure => omega
                case rel =>
                  obtain ⟨hb, hq⟩ := HQQ.out
                  obtain ⟨hA, hB, hCA, hCB⟩ := HAB.out
                  have hqT : Q = T := by rw [← hb, bub_stop (by rw [hA, hB, hCA, hCB]; omega)]
                  refine ⟨k + 1, Q, some ⟨g3, 0, none⟩, some ⟨g4, 0, none⟩, c3', c4', rfl, by omega, by go_num, by rw [hq], by rw [hq], ⟨by rw [HP2.out]; exact hqT⟩, by omega, ?_⟩
                  rw [hq]; exact HI.drewN _
        · obtain rfl : k = X.length := by omega
          go_wp2
          go_roundg (l.length - (t + 1))
          case measure => omega
          case rel =>
            refine ⟨t + 1, P, a3, a4, c3, c4, rfl, by omega, by go_num, rfl, rfl, ⟨?_⟩, by omega, HI.at3.right⟩
            rw [HO2.out, HP.out, List.take_of_length_le (Nat.le_refl _)]
    · obtain rfl : t = l.length := by omega
      go_wp2
      go_ret
      refine ⟨.slice a3 O.length c3, ?_⟩
      have e : O = ordS (l.flatMap apart) := by rw [HO.out, List.take_of_length_le (Nat.le_refl _), charsF_ord]
      rw [← e]
      exact ⟨rfl, HI.at2.right⟩
end Go.Proofs.Ytmmigplciogggaa
