/- norm.Order: runs of marks, sorted. -/
import Derived.Test.YtmmigplciogggaaSort
import Derived.Test.YtmmigplciogggaaUcdMap
namespace Go.Proofs.Ytmmigplciogggaa
open Go Go.RowKit Go.PlainAid

theorem eMark : Elem Try.prog 156 2 16 (.agg #[.int .i64 0, .int .i64 0]) := by unfold Elem; kernel_rfl
def marks (l : List Mk) : List Value := l.flatMap Go.Proofs.Ytmmigplciogggaa.mk
theorem marks_length (l : List Mk) : (marks l).length = l.length * 2 := enc_length mk_len l
theorem Sat.markOpen {w0 w : World} {R : Asrt} {v : Value} {l : List Mk} {n : Nat} (H : Sat w0 w (Row 156 2 v n (marks l) * R)) :
    l.length = n ∧ ((v = .slice none 0 0 ∧ l = [] ∧ n = 0 ∧ Sat w0 w R) ∨ ∃ g cap sp, v = .slice (some ⟨g, 0, none⟩) n cap ∧ n ≤ cap ∧ cap ≤ maxLen ∧ n * 2 + sp.length = cap * 2 ∧ Sat w0 w (EBlk Go.Proofs.Ytmmigplciogggaa.mk 156 g l sp * R)) := by
  obtain ⟨hl, h⟩ := H.rowOpen
  rw [marks_length] at hl
  have hl : l.length = n := by omega
  refine ⟨hl, ?_⟩
  rcases h with ⟨rfl, rfl, HX⟩ | ⟨g, cap, cur, rfl, h1, h2, h3, h4, HX⟩
  · exact .inl ⟨rfl, List.eq_nil_of_length_eq_zero hl, rfl, HX⟩
  · refine .inr ⟨g, cap, cur.toList.drop (n * 2), rfl, h1, h2, ?_, ?_⟩
    · rw [List.length_drop, Array.length_toList]; omega
    · unfold EBlk
      have : cur = (l.flatMap Go.Proofs.Ytmmigplciogggaa.mk ++ cur.toList.drop (n * 2)).toArray := by
        have : l.flatMap Go.Proofs.Ytmmigplciogggaa.mk = cur.toList.take (n * 2) := h4.symm
        rw [this, List.take_append_drop]
      rw [← this]; exact HX
theorem Sat.markShut {w0 w : World} {R : Asrt} {l : List Mk} {g n cap : Nat} {sp : List Value} (H : Sat w0 w (EBlk Go.Proofs.Ytmmigplciogggaa.mk 156 g l sp * R)) (hl : l.length = n) (h1 : n ≤ cap) (h2 : cap ≤ maxLen) (h3 : n * 2 + sp.length = cap * 2) :
    Sat w0 w (Row 156 2 (.slice (some ⟨g, 0, none⟩) n cap) n (marks l) * R) := by
  unfold EBlk at H
  refine H.rowShut h1 h2 ?_ ?_
  · have := marks_length l
    unfold marks at this
    simp only [List.size_toArray, List.length_append, this]; omega
  · have := marks_length l
    unfold marks at this ⊢
    simp only []
    rw [← hl, ← this, List.take_left]

set_option maxHeartbeats 1000000 in
set_option maxRecDepth 100000 in
theorem ins_none (w : World) (f : Value) : Calls Try.prog 160 #[.slice none 0 0, .int .i64 0, .int .i64 0, f] w (fun e w' => e = .returned (.tuple #[]) ∧ w' = w) := by
  go_enter Try.func160, Try.ntmps160
  go_wp2
  go_loop [8, 9] (fun v8 v9 => v8 = .int .i64 1) (fun v8 v9 => 0)
  case atStart => rfl
  case round =>
    obtain rfl := hrel
    go_wp2
    go_returns
    exact ⟨rfl, rfl⟩
set_option maxHeartbeats 1000000 in
set_option maxRecDepth 100000 in
theorem stable_none (w : World) (f : Value) : Calls Try.prog 145 #[.slice none 0 0, .int .i64 0, f] w (fun e w' => e = .returned (.tuple #[]) ∧ w' = w) := by
  go_enter Try.func145, Try.ntmps145
  go_wp2
  go_loop [7, 8] (fun v7 v8 => v7 = .int .i64 0 ∧ v8 = .int .i64 20) (fun v7 v8 => 0)
  case atStart => exact ⟨rfl, rfl⟩
  case round =>
    obtain ⟨rfl, rfl⟩ := hrel
    go_wp2_with (go_at_call 160; refine (ins_none _ _).mono ?_; rintro e w1 ⟨rfl, rfl⟩)
    go_loop [6, 7, 8, 9] (fun v6 v7 v8 v9 => v6 = .int .i64 20) (fun v6 v7 v8 v9 => 0)
    case atStart => rfl
    case round =>
      obtain rfl := hrel
      go_wp2
      go_returns
      exact ⟨rfl, rfl⟩
set_option maxHeartbeats 1000000 in
set_option maxRecDepth 100000 in
theorem sortS_calls (l : List Mk) (v : Value) (n : Nat) (w0 w : World) (R : Asrt) (H : Sat w0 w (Row 156 2 v n (marks l) * R)) (hm : n ≤ 1000000000) (hs : Small l) :
    Calls Try.prog 130 #[v, .func (.func 131) #[] #[]] w (Done w0 (Row 156 2 v n (marks (srt l)) * R)) := by
  obtain ⟨hl, ⟨rfl, rfl, rfl, H'⟩ | ⟨g, cap, sp, rfl, h1, h2, h3, H'⟩⟩ := H.markOpen
  · go_enter Try.func130, Try.ntmps130
    go_wp2_with (go_at_call 145; refine (stable_none _ _).mono ?_; rintro e w1 ⟨rfl, rfl⟩)
    go_returns
    exact ⟨rfl, H⟩
  · have H2 := Box.mk h2
    have HS := Box.mk hs
    clear h2 hs
    go_enter Try.func130, Try.ntmps130
    go_wp2_with (go_at_call 145; refine (stable_calls g l sp cap n w0 _ R H' hl hm HS.out).mono ?_; rintro e w1 ⟨rfl, H1⟩)
    go_returns
    exact ⟨rfl, H1.markShut ((srt_SS l).length.trans hl) h1 H2.out h3⟩
end Go.Proofs.Ytmmigplciogggaa
