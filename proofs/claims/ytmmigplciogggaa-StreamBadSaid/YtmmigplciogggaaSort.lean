/- The stable sort of marks, whole. -/
import Derived.Test.YtmmigplciogggaaSym
namespace Go.Proofs.Ytmmigplciogggaa
open Go Go.RowKit

theorem sym_all : ∀ N, SymOk N := by
  intro N
  induction N with
  | zero => intro g P L1 L2 Q sp za zm zb cap n w0 w R l _ _ _ _ _ _ _ _ _ _ h1 h2 h3; omega
  | succ N ih =>
    intro g P L1 L2 Q sp za zm zb cap n w0 w R l hl H ha hm hb hn hn2 hS1 hS2 hsm h1 h2 hN
    rcases Nat.lt_or_ge L1.length 2 with h3 | h3
    · obtain ⟨x, rfl⟩ := List.length_eq_one_iff.1 (show L1.length = 1 by omega)
      exact sym_one g P L2 Q x sp za zm zb cap n w0 w R l (by rw [hl]; simp) H ha (by rw [hm]; simp) (by rw [hb]; simp) hn hn2 hS2 hsm
    · rcases Nat.lt_or_ge L2.length 2 with h4 | h4
      · obtain ⟨x, rfl⟩ := List.length_eq_one_iff.1 (show L2.length = 1 by omega)
        exact sym_last g P L1 Q x sp za zm zb cap n w0 w R l (by rw [hl]) H ha hm (by rw [hb]; simp) hn hn2 hS1 hsm h3
      · rcases Nat.lt_or_ge ((L1.length + L2.length) / 2) L1.length with h5 | h5
        · exact sym_step N ih g P L1 L2 Q sp za zm zb cap n w0 w R l hl H ha hm hb hn hn2 hS1 hS2 hsm h3 h4 hN _ _ _ rfl (Or.inl ⟨h5, rfl, rfl⟩)
        · exact sym_step N ih g P L1 L2 Q sp za zm zb cap n w0 w R l hl H ha hm hb hn hn2 hS1 hS2 hsm h3 h4 hN _ _ _ rfl (Or.inr ⟨h5, rfl, rfl⟩)
theorem sym_calls (g : Nat) (P L1 L2 Q : List Mk) (sp : List Value) (za zm zb : Int) (cap n : Nat) (w0 w : World) (R : Asrt) (l : List Mk) (hl : l = P ++ (L1 ++ L2) ++ Q) (H : Sat w0 w (EBlk mk 156 g l sp * R)) (ha : za = P.length) (hm : zm = (P.length : Int) + L1.length) (hb : zb = (P.length : Int) + L1.length + L2.length)
    (hn : l.length = n) (hn2 : n ≤ 1000000000) (hS1 : Srtd L1) (hS2 : Srtd L2) (hsm : Small l) (h1 : 0 < L1.length) (h2 : 0 < L2.length) :
    Calls Try.prog 161 #[.slice (some ⟨g, 0, none⟩) n cap, .int .i64 za, .int .i64 zm, .int .i64 zb, .func (.func 131) #[] #[]] w
      (Merged w0 g P L1 L2 Q sp R) := sym_all _ g P L1 L2 Q sp za zm zb cap n w0 w R l hl H ha hm hb hn hn2 hS1 hS2 (fun x hx => hsm x (by rw [hl]; simp only [List.mem_append] at hx ⊢; rcases hx with q | q <;> simp [q])) h1 h2 (Nat.le_refl _)

theorem ins_at (g : Nat) (P L Q : List Mk) (sp : List Value) (za zb : Int) (cap n : Nat) (w0 w : World) (R : Asrt) (l : List Mk) (hl : l = P ++ L ++ Q) (H : Sat w0 w (EBlk mk 156 g l sp * R)) (ha : za = P.length) (hb : zb = (P.length : Int) + L.length) (hn : l.length = n)
    (hm : n ≤ 1000000000) (hs : Small l) :
    Calls Try.prog 160 #[.slice (some ⟨g, 0, none⟩) n cap, .int .i64 za, .int .i64 zb, .func (.func 131) #[] #[]] w
      (fun e w' => ∃ M, SS L M ∧ Done w0 (EBlk mk 156 g (P ++ M ++ Q) sp * R) e w') := by
  subst ha
  obtain rfl : zb = ((P.length + L.length : Nat) : Int) := by rw [hb]; omega
  exact ins_calls g P L Q sp P.length (P.length + L.length) cap n w0 w R (hl ▸ H) rfl rfl (hl ▸ hn) hm (fun x hx => hs x (by rw [hl]; simp [hx]))

/-- The same marks, equals as they stood. -/
def Same (L M : List Mk) : Prop := ∀ k : Int, M.filter (cls1 k) = L.filter (cls1 k)
theorem Same.piece {L A X Y B : List Mk} (h : Same L (A ++ X ++ B)) (g : SS X Y) : Same L (A ++ Y ++ B) := fun k => by
  have h1 := h k
  have h2 : Y.filter (cls1 k) = X.filter (cls1 k) := g.same k
  simp only [List.filter_append] at h1 ⊢
  rw [h2]; exact h1
theorem Same.small {L M : List Mk} (h : Same L M) (hs : Small L) : Small M := fun x hx => hs x ((SS.mem h).1 hx)
/-- Sorted pieces of b, the last one maybe shorter. -/
inductive BS (b : Nat) : List Mk → Prop
  | last (l : List Mk) : l.length ≤ b → Srtd l → BS b l
  | cons (X l : List Mk) : X.length = b → Srtd X → BS b l → BS b (X ++ l)
/-- Sorted pieces of b, all whole. -/
inductive Full (b : Nat) : List Mk → Prop
  | nil : Full b []
  | snoc (A X : List Mk) : Full b A → X.length = b → Srtd X → Full b (A ++ X)
theorem Full.bs {b : Nat} {A : List Mk} (h : Full b A) : ∀ l, BS b l → BS b (A ++ l) := by
  induction h with
  | nil => intro l h; exact h
  | snoc A X _ hl hs ih => intro l h; rw [List.append_assoc]; exact ih _ (.cons X l hl hs h)
theorem BS.all {b : Nat} {l : List Mk} (h : BS b l) (hl : l.length ≤ b) : Srtd l := by
  cases h with
  | last _ _ h => exact h
  | cons X l hX hs _ =>
    have : l = [] := List.eq_nil_of_length_eq_zero (by simp at hl; omega)
    rw [this, List.append_nil]; exact hs
theorem BS.one {b : Nat} {l : List Mk} (h : BS b l) (hl : b ≤ l.length) : ∃ X l', l = X ++ l' ∧ X.length = b ∧ Srtd X ∧ BS b l' := by
  cases h with
  | last _ h1 h => exact ⟨l, [], by simp, by omega, h, .last [] (by simp) List.Pairwise.nil⟩
  | cons X l hX hs h => exact ⟨X, l, rfl, hX, hs, h⟩

set_option maxHeartbeats 4000000 in
set_option maxRecDepth 100000 in
theorem stable_calls (g : Nat) (L : List Mk) (sp : List Value) (cap n : Nat) (w0 w : World) (R : Asrt) (H : Sat w0 w (EBlk mk 156 g L sp * R)) (hn : L.length = n)
    (hm : n ≤ 1000000000) (hs : Small L) :
    Calls Try.prog 145 #[.slice (some ⟨g, 0, none⟩) n cap, .int .i64 n, .func (.func 131) #[] #[]] w
      (Done w0 (EBlk mk 156 g (srt L) sp * R)) := by
  have HS := Box.mk hs
  have HN := Box.mk hn
  clear hs hn
  go_enter Try.func145, Try.ntmps145
  go_wp2
  go_loopg [7, 8] (n) (fun k v7 v8 wr => ∃ A B : List Mk, k = B.length ∧ A.length + B.length = n ∧ v7 = .int .i64 A.length ∧ v8 = .int .i64 ((A.length : Int) + 20) ∧ Box (Full 20 A) ∧ Box (Same L (A ++ B)) ∧ Sat w0 wr (EBlk mk 156 g (A ++ B) sp * R))
  case atStart => exact ⟨[], L, HN.out.symm, by simp [HN.out], by go_num, by go_num, ⟨.nil⟩, ⟨fun _ => rfl⟩, H⟩
  case round =>
    obtain ⟨A, B, rfl, hAB, rfl, rfl, HF, HSa, HI⟩ := hrel
    clear H
    have HLn : Box ((A ++ B).length = n) := ⟨by simp [hAB]⟩
    by_cases hlt : (A.length : Int) + 20 ≤ n
    · obtain ⟨X, B, rfl, hX⟩ := take_drop_len B 20 (by omega)
      have HX := Box.mk hX
      have HEQ : Box (A ++ (X ++ B) = A ++ X ++ B) := ⟨by simp⟩
      clear hX
      go_wp2_with (go_at_call 160; refine (ins_at g A X B sp _ _ cap n w0 _ R _ HEQ.out HI rfl (by rw [HX.out]; rfl) HLn.out hm (HSa.out.small HS.out)).mono ?_; rintro e w1 ⟨Y, hY, rfl, H1⟩)
      have hYl : Y.length = 20 := by rw [hY.length, HX.out]
      go_roundg (B.length)
      case measure => have := HX.out; simp; omega
      case rel => exact ⟨A ++ Y, B, rfl, by have := HX.out; simp at hAB ⊢; omega, by simp [hYl], by simp [hYl], ⟨.snoc _ _ HF.out hYl hY.sorted⟩, ⟨by have := HSa.out; rw [HEQ.out] at this; exact this.piece hY⟩, H1⟩
    · have HEQ : Box (A ++ B = A ++ B ++ []) := ⟨by simp⟩
      go_wp2_with (go_at_call 160; refine (ins_at g A B [] sp _ _ cap n w0 _ R _ HEQ.out HI rfl (by omega) HLn.out hm (HSa.out.small HS.out)).mono ?_; rintro e w1 ⟨Y, hY, rfl, H1⟩)
      have hM : ∃ M, M = A ++ Y := ⟨_, rfl⟩
      obtain ⟨M, hM⟩ := hM
      rw [List.append_nil, ← hM] at H1
      have HM1 : Box (Same L M) := ⟨by have := HSa.out; rw [HEQ.out] at this; have := this.piece hY; rw [List.append_nil] at this; rw [hM]; exact this⟩
      have HM2 : Box (BS 20 M) := ⟨by rw [hM]; exact HF.out.bs _ (.last _ (by rw [hY.length]; omega) hY.sorted)⟩
      have HM3 : Box (M.length = n) := ⟨by rw [hM, List.length_append, hY.length]; exact hAB⟩
      clear hM HEQ HF HSa HI HLn hlt hY hAB
      go_loopg [6, 7, 8, 9] (n - 20) (fun k v6 v7 v8 v9 wr => ∃ (bs : Nat) (M : List Mk), k = n - bs ∧ 20 ≤ bs ∧ bs ≤ 2000000000 ∧ v6 = .int .i64 bs ∧ Box (Same L M) ∧ Box (BS bs M) ∧ Box (M.length = n) ∧ Sat w0 wr (EBlk mk 156 g M sp * R))
      case atStart => exact ⟨20, M, rfl, by omega, by omega, rfl, HM1, HM2, HM3, H1⟩
      case round =>
        obtain ⟨bs, M, rfl, hb1, hb2, rfl, HM1, HM2, HM3, HI⟩ := hrel
        clear H1
        by_cases hlt : bs < n
        · obtain ⟨wo, rfl⟩ : ∃ wo : World, wo = wr := ⟨_, rfl⟩
          go_wp2
          go_loopg [7, 8] (n) (fun k v7 v8 wi => ∃ A B : List Mk, k = B.length ∧ A.length + B.length = n ∧ v7 = .int .i64 A.length ∧ v8 = .int .i64 ((A.length : Int) + 2 * bs) ∧ Box (Full (2 * bs) A) ∧ Box (Same L (A ++ B)) ∧ Box (BS bs B) ∧ Sat w0 wi (EBlk mk 156 g (A ++ B) sp * R))
          case atStart => exact ⟨[], M, HM3.out.symm, by simp [HM3.out], rfl, by simp, ⟨.nil⟩, HM1, HM2, HI⟩
          case round =>
            obtain ⟨A, B, rfl, hAB, rfl, rfl, HF, HSa, HB, HJ⟩ := hrel
            clear HI
            have HLn : Box ((A ++ B).length = n) := ⟨by simp [hAB]⟩
            by_cases hle : (A.length : Int) + 2 * bs ≤ n
            · obtain ⟨X1, B1, hB1, hX1, hS1, hBS1⟩ := HB.out.one (by omega)
              have hl1 : B.length = bs + B1.length := by rw [hB1, List.length_append, hX1]
              obtain ⟨X2, B2, hB2, hX2, hS2, hBS2⟩ := hBS1.one (by omega)
              have hl2 : B1.length = bs + B2.length := by rw [hB2, List.length_append, hX2]
              have HEQ : Box (A ++ B = A ++ (X1 ++ X2) ++ B2) := ⟨by rw [hB1, hB2]; simp⟩
              have HX1 := Box.mk hX1
              have HX2 := Box.mk hX2
              have HS12 := Box.mk (And.intro hS1 hS2)
              have HBS2 := Box.mk hBS2
              have HL := Box.mk (And.intro hl1 hl2)
              clear hX1 hX2 hS1 hS2 hBS1 hBS2 hB1 hB2 hl1 hl2
              go_wp2_with (go_at_call 161; refine (sym_calls g A X1 X2 B2 sp _ _ _ cap n w0 _ R _ HEQ.out HJ rfl (by rw [HX1.out]) (by rw [HX1.out, HX2.out]; omega) HLn.out hm HS12.out.1 HS12.out.2 (HSa.out.small HS.out) (by rw [HX1.out]; omega) (by rw [HX2.out]; omega)).mono ?_; rintro e w1 ⟨Y, hY, rfl, H1⟩)
              have hYl : Y.length = 2 * bs := by rw [hY.length, List.length_append, HX1.out, HX2.out]; omega
              go_roundg (B2.length)
              case measure => have := HL.out; omega
              case rel => exact ⟨A ++ Y, B2, rfl, by have := HL.out; simp only [List.length_append]; omega, by simp only [List.length_append, hYl]; go_num, by simp only [List.length_append, hYl]; go_num, ⟨.snoc _ _ HF.out hYl hY.sorted⟩, ⟨by have := HSa.out; rw [HEQ.out] at this; exact this.piece hY⟩, HBS2, H1⟩
            · by_cases hgt : A.length + bs < n
              · obtain ⟨X1, X2, hB1, hX1, hS1, hBS1⟩ := HB.out.one (by omega)
                have hl1 : B.length = bs + X2.length := by rw [hB1, List.length_append, hX1]
                have hS2 := hBS1.all (by omega)
                have HEQ : Box (A ++ B = A ++ (X1 ++ X2) ++ []) := ⟨by rw [hB1]; simp⟩
                have HX1 := Box.mk hX1
                have HS12 := Box.mk (And.intro hS1 hS2)
                have HL := Box.mk hl1
                clear hX1 hS1 hS2 hBS1 hB1 hl1
                go_wp2_with (go_at_call 161; refine (sym_calls g A X1 X2 [] sp _ _ _ cap n w0 _ R _ HEQ.out HJ rfl (by rw [HX1.out]) (by have := HL.out; rw [HX1.out]; omega) HLn.out hm HS12.out.1 HS12.out.2 (HSa.out.small HS.out) (by rw [HX1.out]; omega) (by have := HL.out; omega)).mono ?_; rintro e w1 ⟨Y, hY, rfl, H1⟩)
                go_roundg (n - 2 * bs)
                case measure => omega
                case rel =>
                  have hYl : Y.length = B.length := by have := HL.out; rw [hY.length, List.length_append, HX1.out]; omega
                  refine ⟨2 * bs, A ++ Y, rfl, by omega, by omega, by go_num, ⟨?_⟩, ⟨HF.out.bs _ (.last _ (by omega) hY.sorted)⟩, ⟨by rw [List.length_append]; omega⟩, by simpa using H1⟩
                  have := HSa.out
                  rw [HEQ.out] at this
                  have := this.piece hY
                  rwa [List.append_nil] at this
              · have hS2 := Box.mk (HB.out.all (by omega))
                go_wp2
                go_roundg (n - 2 * bs)
                case measure => omega
                case rel => exact ⟨2 * bs, A ++ B, rfl, by omega, by omega, by go_num, HSa, ⟨HF.out.bs _ (.last _ (by omega) hS2.out)⟩, HLn, HJ⟩
        · go_wp2
          go_returns
          refine ⟨rfl, ?_⟩
          rw [← SS.srt_eq (⟨HM1.out, HM2.out.all (by have := HM3.out; omega)⟩ : SS L M)]
          exact HI
end Go.Proofs.Ytmmigplciogggaa
