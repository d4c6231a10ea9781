/- The stable sort of marks: rotation. -/
import Derived.Test.YtmmigplciogggaaIns
namespace Go.Proofs.Ytmmigplciogggaa
open Go Go.RowKit

theorem swapR_at : ∀ (n : Nat) (A X B Y C : List Mk) (i j : Nat), X.length = n → Y.length = n → i = A.length → j = A.length + n + B.length → swapR (A ++ X ++ B ++ Y ++ C) i j n = A ++ Y ++ B ++ X ++ C := by
  intro n
  induction n with
  | zero =>
    intro A X B Y C i j hX hY _ _
    rw [List.eq_nil_of_length_eq_zero hX, List.eq_nil_of_length_eq_zero hY]; rfl
  | succ n ih =>
    intro A X B Y C i j hX hY hi hj
    rcases nil_or_snoc X with rfl | ⟨X0, x, rfl⟩
    · simp at hX
    rcases nil_or_snoc Y with rfl | ⟨Y0, y, rfl⟩
    · simp at hY
    have h1 := ih A X0 ([x] ++ B) Y0 ([y] ++ C) i j (by simpa using hX) (by simpa using hY) hi (by simp; omega)
    rw [swapR, show A ++ (X0 ++ [x]) ++ B ++ (Y0 ++ [y]) ++ C = A ++ X0 ++ ([x] ++ B) ++ Y0 ++ ([y] ++ C) by simp, h1]
    have h2 := (swp_at (A ++ Y0) (B ++ X0) C x y (i + n) (j + n) (by simp at hX hY ⊢; omega) (by simp at hX hY ⊢; omega)).1
    rw [show A ++ Y0 ++ ([x] ++ B) ++ X0 ++ ([y] ++ C) = A ++ Y0 ++ x :: (B ++ X0 ++ y :: C) by simp, h2]
    simp
theorem take_drop_len {α : Type} (l : List α) (n : Nat) (h : n ≤ l.length) : ∃ A B, l = A ++ B ∧ A.length = n := ⟨l.take n, l.drop n, (List.take_append_drop n l).symm, by rw [List.length_take]; omega⟩

/-- Two ranges of one length change places. -/
theorem swapRange_at (g : Nat) (A X B Y C : List Mk) (sp : List Value) (n m cap : Nat) (za zb zn : Int) (f : Value) (w0 w : World) (R : Asrt) (l : List Mk) (hl : l = A ++ X ++ B ++ Y ++ C) (H : Sat w0 w (EBlk mk 156 g l sp * R))
    (hX : X.length = n) (hY : Y.length = n) (ha : za = A.length) (hb : zb = (A.length : Int) + n + B.length) (hn : zn = n) (hm : l.length = m) (hm2 : m ≤ 1000000000) :
    Calls Try.prog 169 #[.slice (some ⟨g, 0, none⟩) m cap, .int .i64 za, .int .i64 zb, .int .i64 zn, f] w (Done w0 (EBlk mk 156 g (A ++ Y ++ B ++ X ++ C) sp * R)) := by
  subst ha hn hm
  obtain rfl : zb = ((A.length + n + B.length : Nat) : Int) := by rw [hb]; omega
  have hll : l.length = A.length + X.length + B.length + Y.length + C.length := by rw [hl]; simp; omega
  have := swapRange_calls g l sp A.length (A.length + n + B.length) n cap f w0 w R H (by omega) (by omega) hm2
  rw [hl, swapR_at n A X B Y C A.length (A.length + n + B.length) hX hY rfl rfl, ← hl] at this
  exact this

set_option maxHeartbeats 4000000 in
set_option maxRecDepth 100000 in
theorem rot_calls (g : Nat) (P X Y Q : List Mk) (sp : List Value) (za zm zb : Int) (cap n : Nat) (w0 w : World) (R : Asrt) (l : List Mk) (hl : l = P ++ (X ++ Y) ++ Q) (H : Sat w0 w (EBlk mk 156 g l sp * R)) (ha : za = P.length) (hm : zm = P.length + X.length) (hb : zb = P.length + X.length + Y.length)
    (hn : l.length = n) (hn2 : n ≤ 1000000000) (hX : 0 < X.length) (hY : 0 < Y.length) :
    Calls Try.prog 167 #[.slice (some ⟨g, 0, none⟩) n cap, .int .i64 za, .int .i64 zm, .int .i64 zb, .func (.func 131) #[] #[]] w
      (Done w0 (EBlk mk 156 g (P ++ (Y ++ X) ++ Q) sp * R)) := by
  have hln : P.length + (X.length + Y.length) + Q.length = n := by rw [← hn, hl]; simp; omega
  rw [hl] at H
  clear hn hl
  subst ha hm hb
  go_enter Try.func167, Try.ntmps167
  go_wp2
  go_loopg [10, 11] (X.length + Y.length) (fun k v10 v11 wr => ∃ S X' Y' T : List Mk, k = X'.length + Y'.length ∧ 0 < X'.length ∧ 0 < Y'.length ∧ S.length + X'.length = X.length ∧ Y'.length + T.length = Y.length ∧ v10 = .int .i64 X'.length ∧ v11 = .int .i64 Y'.length ∧
    Y ++ X = S ++ (Y' ++ X') ++ T ∧ Sat w0 wr (EBlk mk 156 g (P ++ (S ++ (X' ++ Y') ++ T) ++ Q) sp * R))
  case atStart => exact ⟨[], X, Y, [], rfl, hX, hY, by simp, by simp, by go_num, by go_num, by simp, by simpa using H⟩
  case round =>
    obtain ⟨S, X', Y', T, rfl, hX', hY', hSX, hYT, rfl, rfl, hYX, HI⟩ := hrel
    have HYX := Box.mk hYX
    have hlen : (P ++ (S ++ (X' ++ Y') ++ T) ++ Q).length = n := by simp; omega
    have HLn := Box.mk hlen
    clear hYX hlen H
    rcases Nat.lt_trichotomy X'.length Y'.length with hlt | heq | hgt
    · have hne : ¬ (X'.length : Int) = Y'.length := by omega
      obtain ⟨Y1, Y2, rfl, hY1⟩ := take_drop_len Y' (Y'.length - X'.length) (by omega)
      have hY2 : Y2.length = X'.length := by simp at hY1 hlt; omega
      have HE : Box (P ++ (S ++ (X' ++ (Y1 ++ Y2)) ++ T) ++ Q = (P ++ S) ++ X' ++ Y1 ++ Y2 ++ (T ++ Q)) := ⟨by simp⟩
      have hYl : (Y1 ++ Y2).length = Y1.length + X'.length := by simp [hY2]
      have HY2 := Box.mk hY2
      rw [hYl] at hlt hY1 hYT hne ⊢
      clear hYl hY2 hY1
      have hps : (P ++ S).length = P.length + S.length := by simp
      go_wp2_with (go_at_call 169; refine (swapRange_at g (P ++ S) X' Y1 Y2 (T ++ Q) sp X'.length n cap _ _ _ _ w0 _ R _ HE.out HI rfl HY2.out (by rw [hps]; omega) (by rw [hps]; omega) rfl HLn.out hn2).mono ?_; rintro e w1 ⟨rfl, H1⟩)
      go_roundg (X'.length + Y1.length)
      case measure => have := HY2.out; simp only [List.length_append]; omega
      case rel => exact ⟨S, Y2, Y1, X' ++ T, by rw [HY2.out], by rw [HY2.out]; omega, by omega, by rw [HY2.out]; omega, by simp; omega, by rw [HY2.out], by go_num, by rw [HYX.out]; simp, by simpa using H1⟩
    · have hee : (X'.length : Int) = Y'.length := by omega
      have HE : Box (P ++ (S ++ (X' ++ Y') ++ T) ++ Q = (P ++ S) ++ X' ++ [] ++ Y' ++ (T ++ Q)) := ⟨by simp⟩
      have hps : (P ++ S).length = P.length + S.length := by simp
      have Heq := Box.mk heq
      rw [← heq]
      clear hee heq
      go_wp2_with (go_at_call 169; refine (swapRange_at g (P ++ S) X' [] Y' (T ++ Q) sp X'.length n cap _ _ _ _ w0 _ R _ HE.out HI rfl Heq.out.symm (by rw [hps]; omega) (by rw [hps]; simp; omega) rfl HLn.out hn2).mono ?_; rintro e w1 ⟨rfl, H1⟩)
      go_returns
      exact ⟨rfl, by rw [HYX.out]; simpa using H1⟩
    · have hne : ¬ (X'.length : Int) = Y'.length := by omega
      obtain ⟨X1, X2, rfl, hX1⟩ := take_drop_len X' Y'.length (by omega)
      have HE : Box (P ++ (S ++ ((X1 ++ X2) ++ Y') ++ T) ++ Q = (P ++ S) ++ X1 ++ X2 ++ Y' ++ (T ++ Q)) := ⟨by simp⟩
      have hXl : (X1 ++ X2).length = Y'.length + X2.length := by simp [hX1]
      have HX1 := Box.mk hX1
      rw [hXl] at hgt hSX hne ⊢
      clear hXl hX1
      have hps : (P ++ S).length = P.length + S.length := by simp
      go_wp2_with (go_at_call 169; refine (swapRange_at g (P ++ S) X1 X2 Y' (T ++ Q) sp Y'.length n cap _ _ _ _ w0 _ R _ HE.out HI HX1.out rfl (by rw [hps]; omega) (by rw [hps]; omega) rfl HLn.out hn2).mono ?_; rintro e w1 ⟨rfl, H1⟩)
      go_roundg (X2.length + Y'.length)
      case measure => have := HX1.out; simp only [List.length_append]; omega
      case rel => exact ⟨S ++ Y', X2, X1, T, by rw [HX1.out], by omega, by rw [HX1.out]; omega, by simp; omega, by rw [HX1.out]; omega, by go_num, by rw [HX1.out], by rw [HYX.out]; simp, by simpa using H1⟩
end Go.Proofs.Ytmmigplciogggaa
