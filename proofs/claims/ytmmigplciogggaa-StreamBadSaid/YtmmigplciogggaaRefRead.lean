/- The reference's Read, Write; the laws' Cut. -/
import Derived.Test.YtmmigplciogggaaWriteS
import Derived.Test.YtmmigplciogggaaRefFirst
namespace Go.Proofs.Ytmmigplciogggaa
open Go Go.RowKit Go.PlainAid

/-- A text's characters. -/
def readL : Nat → List Int → Option (List Int)
  | 0, _ => some []
  | k + 1, l => match l with
    | [] => some []
    | _ => match dec l with
      | none => none
      | some (c, n) => (readL k (l.drop n)).map (c :: ·)
theorem readL_nil (k : Nat) : readL k [] = some [] := by cases k <;> rfl
section
variable {l : List Int} {k : Nat} (hl : l.length < k) (hne : l ≠ [])
include hl hne
theorem readL_none (hd : dec l = none) : readL k l = none := by
  cases k with
  | zero => omega
  | succ k =>
    cases l with
    | nil => exact absurd rfl hne
    | cons b t => simp only [readL, hd]
theorem readL_step {c : Int} {n : Nat} (hd : dec l = some (c, n)) : ∃ j, k = j + 1 ∧ (l.drop n).length < j ∧ readL k l = (readL j (l.drop n)).map (c :: ·) := by
  cases k with
  | zero => omega
  | succ k =>
    cases l with
    | nil => exact absurd rfl hne
    | cons b t =>
      have := dec_ok hd
      exact ⟨k, rfl, by rw [List.length_drop]; omega, by simp only [readL, hd]⟩
end
/-- How Read ends. -/
def ReadIs (w0 : World) (R : Asrt) (o : Option (List Int)) (e : Ending) (w' : World) : Prop :=
  match o with
  | none => e = .returned (.tuple #[.slice none 0 0, .bool false]) ∧ Sat w0 w' R
  | some l => ∃ v, e = .returned (.tuple #[v, .bool true]) ∧ Sat w0 w' (Row 3 1 v l.length (ints l) * R)
set_option maxHeartbeats 1000000 in
theorem Cut_calls (s : ByteArray) (n : Nat) (hn : n ≤ 100000) (hs : s.size ≤ 9223372036854775807) (w : World) : Calls Try.prog 14 #[.string s, .int .i64 n] w (fun e w' => ∃ t : ByteArray, e = .returned (.string t) ∧ bl t = (bl s).take n ∧ w = w') := by
  by_cases h : s.size > n
  · go_enter Try.func14, Try.ntmps14
    go_wp2
    go_ret
    exact ⟨s.extract 0 n, rfl, by rw [bl_extract]; simp, rfl⟩
  · go_enter Try.func14, Try.ntmps14
    go_wp2
    go_ret
    exact ⟨s, rfl, by rw [List.take_of_length_le (by rw [bl_length]; omega)], rfl⟩
set_option maxHeartbeats 4000000 in
set_option maxRecDepth 100000 in
theorem Read_calls (s : ByteArray) (hs : s.size ≤ 100000) (k : Nat) (hk : s.size < k) (w0 w : World) (R : Asrt) (H : Sat w0 w R) : Calls Try.prog 16 #[.string s] w (ReadIs w0 R (readL k (bl s))) := by
  obtain ⟨W, hW⟩ : ∃ W, readL k (bl s) = W := ⟨_, rfl⟩
  rw [hW]
  have HWW := Box.mk hW
  clear hW
  go_enter Try.func16, Try.ntmps16
  go_wp2
  go_loopg [0, 4, 5, 6] (s.size) (fun g v0 v4 v5 v6 wr => ∃ (r : ByteArray) (acc : List Int) (j : Nat), v0 = .string r ∧ g = r.size ∧ r.size ≤ 100000 ∧ r.size < j ∧ Box ((readL j (bl r)).map (acc ++ ·) = W) ∧ acc.length + r.size ≤ s.size ∧ Sat w0 wr (Row 3 1 v4 acc.length (ints acc) * R))
  case atStart => exact ⟨s, [], k, rfl, rfl, hs, hk, ⟨by rw [← HWW.out]; simp⟩, by simp, H.rowNil _ _⟩
  case round =>
    obtain ⟨r, acc, j, rfl, rfl, hr, hj, HW, hal, HI⟩ := hrel
    clear H
    by_cases hz : r.size = 0
    · have hn := empty_toList hz
      go_wp2
      go_ret2
      have he : bl r = [] := (bl_nil_iff r).2 (empty_toList hz)
      have := HW.out
      rw [he, readL_nil] at this
      rw [← this]
      simp only [Option.map_some, List.append_nil]
      exact ⟨u4, rfl, HI⟩
    · have hn := full_toList (s := r) (by omega)
      have hne : bl r ≠ [] := by intro e; have := bl_length r; rw [e] at this; simp at this; omega
      have HNE := Box.mk hne
      have hbl : (bl r).length < j := by rw [bl_length]; exact hj
      have HBL := Box.mk hbl
      have HF := Box.mk (RFirst_calls r (by omega) wr)
      clear hne hbl
      cases hd : dec (bl r) with
      | none =>
        have HD := Box.mk hd
        have hfr : firstR (dec (bl r)) = .tuple #[.int .i64 (-1), .int .i64 0] := by rw [hd]; rfl
        have HFR := Box.mk hfr
        clear hd hfr
        go_wp2_with (first
          | (go_at_call 49; refine HF.out.mono ?_; rintro e w1 ⟨rfl, hb1⟩; rw [HFR.out]))
        go_ret2
        have := HW.out
        rw [readL_none HBL.out HNE.out HD.out] at this
        rw [← this]
        exact ⟨rfl, (HI.below hb1).right⟩
      | some cn =>
        obtain ⟨c, n⟩ := cn
        have HD := Box.mk hd
        have hfr : firstR (dec (bl r)) = .tuple #[.int .i64 c, .int .i64 n] := by rw [hd]; rfl
        have HFR := Box.mk hfr
        obtain ⟨n1, n2, oc, _⟩ := dec_ok hd
        rw [bl_length] at n2
        clear hd hfr oc
        obtain ⟨E, hE⟩ : ∃ E, r.extract n r.size = E := ⟨_, rfl⟩
        have hex : bl E = (bl r).drop n := by rw [← hE, bl_extract, List.take_of_length_le (by rw [List.length_drop, bl_length]; exact Nat.le_refl _)]
        have hexs : E.size = r.size - n := by rw [← bl_length, hex, List.length_drop, bl_length]
        obtain ⟨j2, hj1, hj2, hws⟩ := readL_step HBL.out HNE.out HD.out
        rw [← hex] at hj2 hws
        rw [bl_length] at hj2
        have HW2 : Box ((readL j2 (bl E)).map (acc ++ [c] ++ ·) = W) := ⟨by
          rw [← HW.out, hws, Option.map_map]
          congr 1
          funext x
          simp⟩
        have HEXS := Box.mk hexs
        have HB : Box ((acc.length + 1) * 8 ≤ 140737488355328) := ⟨by omega⟩
        clear hex hexs hws hj1
        go_wp2_with (first
          | (go_at_call 49; refine HF.out.mono ?_; rintro e w1 ⟨rfl, hb1⟩; rw [HFR.out]; have HI1 := HI.below hb1)
          | (at_builtin; go_loud (refine wpList_append_sep (w0 := w0) rfl (.tmp 16) (.tmp 18) 22 rfl Try.underlying22 eInt rfl (by decide) (by decide) rfl rfl (HI1.allocX _) (reads_newg _ #[.int .i64 c] 3 1 _ rfl (by simp)) (ints_cell [c]) HB.out ?_); intro a3 c3 w3 H3))
        go_roundg (E.size)
        case measure => have := HEXS.out; omega
        case rel => exact ⟨E, acc ++ [c], j2, rfl, rfl, by have := HEXS.out; omega, hj2, HW2, by have := HEXS.out; simp; omega, by rw [List.length_append, show ints (acc ++ [c]) = ints acc ++ [.int .i64 c] by simp [ints]]; exact H3⟩
end Go.Proofs.Ytmmigplciogggaa
