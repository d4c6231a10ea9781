/- A character taken apart: hangul.Split, norm.Apart. -/
import Derived.Test.YtmmigplciogggaaUcdMap
import Derived.WalkSpells
namespace Go.Proofs.Ytmmigplciogggaa
open Go Go.RowKit Go.PlainAid

/-- A syllable's letters; none: it is no syllable. -/
def splitS (c : Int) : List Int :=
  if c < 44032 ∨ 55204 ≤ c then [] else
  [4352 + (c - 44032) / 588, 4449 + (c - 44032) / 28 % 21] ++ if (c - 44032) % 28 = 0 then [] else [4519 + (c - 44032) % 28]
/-- What a character comes to. -/
def apart (c : Int) : List Int := if splitS c ≠ [] then splitS c else if mapOf c ≠ [] then mapOf c else [c]
theorem IntsOut.new {w0 w : World} {R : Asrt} {l : List Int} {cs : Array Value} {n : Nat} {t : TypeId} (ht : t = 3) (h : cs.toList = ints l) (hn : n = l.length) (h0 : 0 < l.length) (hm : l.length ≤ maxLen) (H : Sat w0 w R) :
    IntsOut w0 R l (.returned (.slice (some ⟨w.heap.size, 0, none⟩) n n)) (w.alloc (.cells cs t)) := by
  subst ht hn
  have hs : cs.size = l.length * 1 := by rw [← Array.length_toList, h]; simp [ints]
  refine ⟨_, _, rfl, fun h => by rw [h] at h0; simp at h0, (H.alloc cs _).rowShut (Nat.le_refl _) hm hs ?_⟩
  rw [h, List.take_of_length_le]; simp [ints]
set_option maxHeartbeats 1000000 in
set_option maxRecDepth 100000 in
theorem Split_calls (c : Int) (h0 : 0 ≤ c) (h1 : c ≤ 1114111) (w0 w : World) (R : Asrt) (H : Sat w0 w R) : Calls Try.prog 124 #[.int .i64 c] w (IntsOut w0 R (splitS c)) := by
  by_cases a : c < 44032
  · have e : splitS c = [] := by unfold splitS; rw [if_pos (.inl a)]
    have E := Box.mk e; clear e
    go_enter Try.func124, Try.ntmps124
    go_wp2
    go_ret
    exact IntsOut.nil E.out H
  by_cases b : 55204 ≤ c
  · have e : splitS c = [] := by unfold splitS; rw [if_pos (.inr b)]
    have E := Box.mk e; clear e
    go_enter Try.func124, Try.ntmps124
    go_wp2
    go_ret
    exact IntsOut.nil E.out H
  by_cases d : (c - 44032) % 28 = 0
  · have e : splitS c = [4352 + (c - 44032) / 588, 4449 + (c - 44032) / 28 % 21] := by unfold splitS; rw [if_neg (by omega), if_pos d]; rfl
    have E := Box.mk e; clear e
    have D := Box.mk d
    have d' : ¬ 0 < (c - 44032) % 28 := by omega
    clear d
    go_enter Try.func124, Try.ntmps124
    go_wp2
    go_ret
    rw [E.out]
    exact IntsOut.new rfl rfl rfl (by simp) (by simp [maxLen]) H
  · have e : splitS c = [4352 + (c - 44032) / 588, 4449 + (c - 44032) / 28 % 21, 4519 + (c - 44032) % 28] := by unfold splitS; rw [if_neg (by omega), if_neg d]; rfl
    have E := Box.mk e; clear e
    have d' : 0 < (c - 44032) % 28 := by omega
    have hb3 : (2 + 1) * 8 ≤ 140737488355328 := by decide
    clear d
    have H1 : Sat w0 (w.alloc (.cells #[.int .i64 (4352 + (c - 44032) / 588), .int .i64 (4449 + (c - 44032) / 28 % 21)] 3)) (Row 3 1 (.slice (some ⟨w.heap.size, 0, none⟩) 2 2) 2 (ints [4352 + (c - 44032) / 588, 4449 + (c - 44032) / 28 % 21]) * R) :=
      (H.alloc _ _).rowShut (Nat.le_refl _) (by simp [maxLen]) rfl rfl
    go_enter Try.func124, Try.ntmps124
    go_wp2_with (at_builtin; (refine wpList_append_sep (w0 := w0) (R := R) rfl (.tmp 24) (.tmp 28) 22 rfl Try.underlying22 eInt rfl (by decide) (by decide) rfl rfl (H1.allocX _) (reads_newg _ #[.int .i64 (4519 + (c - 44032) % 28)] 3 1 _ rfl (by simp)) (ints_cell [4519 + (c - 44032) % 28]) hb3 ?_); intro a2 c2 w2 H2)
    go_ret
    exact IntsOut.mk E.out (by simp) H2
theorem splitS_range {c : Int} (h : splitS c = []) : c < 44032 ∨ 55204 ≤ c := by
  unfold splitS at h
  split at h
  · assumption
  · simp at h
set_option maxHeartbeats 1000000 in
set_option maxRecDepth 100000 in
theorem Apart_calls (c : Int) (h0 : 0 ≤ c) (h1 : c ≤ 1114111) (w0 w : World) (R : Asrt) (H : Sat w0 w R) : Calls Try.prog 102 #[.int .i64 c] w (IntsOut w0 R (apart c)) := by
  have hneq := fun (W : World) (a : Option Addr) (n c : Nat) => run_neq_slice_nil_any (P := Try.prog) W 22 3 a n c 0 0 Try.underlying22
  by_cases hs : splitS c = []
  · have S1 := Box.mk hs; clear hs
    by_cases hm : mapOf c = []
    · have S2 := Box.mk hm; clear hm
      have E := Box.mk (show apart c = [c] by unfold apart; rw [if_neg (by rw [S1.out]; simp), if_neg (by rw [S2.out]; simp)])
      go_enter Try.func102, Try.ntmps102
      go_wp2_with fail
      refine (Split_calls c h0 h1 w0 _ R H).mono ?_
      rintro e w1 ⟨a, k, rfl, hnil, H1⟩
      obtain ⟨rfl, rfl⟩ := hnil S1.out
      clear hnil
      go_wp2_with fail
      refine (Map_calls c h1 w0 _ R H1.right).mono ?_
      rintro e w2 ⟨a, k, rfl, hnil, H2⟩
      obtain ⟨rfl, rfl⟩ := hnil S2.out
      clear hnil
      go_wp2_with fail
      go_ret
      rw [E.out]
      exact IntsOut.new rfl rfl rfl (by simp) (by simp [maxLen]) H2.right
    · have S2 := Box.mk hm
      have hl : 0 < (mapOf c).length := List.length_pos_iff.2 hm
      have L := Box.mk hl
      clear hm hl
      have E := Box.mk (show apart c = mapOf c by unfold apart; rw [if_neg (by rw [S1.out]; simp), if_pos S2.out])
      go_enter Try.func102, Try.ntmps102
      go_wp2_with fail
      refine (Split_calls c h0 h1 w0 _ R H).mono ?_
      rintro e w1 ⟨a, k, rfl, hnil, H1⟩
      obtain ⟨rfl, rfl⟩ := hnil S1.out
      clear hnil
      go_wp2_with fail
      refine (Map_calls c h1 w0 _ R H1.right).mono ?_
      rintro e w2 ⟨a, k, rfl, hnil, H2⟩
      clear hnil
      obtain ⟨ad, rfl⟩ := H2.rowSome L.out
      go_wp2_with fail
      go_ret
      exact IntsOut.mk E.out L.out H2
  · have S1 := Box.mk hs
    have L := Box.mk (List.length_pos_iff.2 hs)
    clear hs
    have E := Box.mk (show apart c = splitS c by unfold apart; rw [if_pos S1.out])
    go_enter Try.func102, Try.ntmps102
    go_wp2_with fail
    refine (Split_calls c h0 h1 w0 _ R H).mono ?_
    rintro e w1 ⟨a, k, rfl, hnil, H1⟩
    clear hnil
    obtain ⟨ad, rfl⟩ := H1.rowSome L.out
    go_wp2_with fail
    go_ret
    exact IntsOut.mk E.out L.out H1
end Go.Proofs.Ytmmigplciogggaa
