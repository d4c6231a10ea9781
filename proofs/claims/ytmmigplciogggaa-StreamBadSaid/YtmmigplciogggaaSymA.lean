/- The stable sort of marks: the merge, its short cases. -/
import Derived.Test.YtmmigplciogggaaRot
namespace Go.Proofs.Ytmmigplciogggaa
open Go Go.RowKit

/-- What a merge of two sorted rows leaves. -/
def Merged (w0 : World) (g : Nat) (P L1 L2 Q : List Mk) (sp : List Value) (R : Asrt) (e : Ending) (w' : World) : Prop :=
  ∃ M, SS (L1 ++ L2) M ∧ Done w0 (EBlk mk 156 g (P ++ M ++ Q) sp * R) e w'
def Srtd (l : List Mk) : Prop := l.Pairwise (fun x y => x.2 ≤ y.2)

theorem set_two (X T : List Mk) (x z : Mk) : ((X ++ x :: z :: T).set X.length z).set (X.length + 1) x = X ++ z :: x :: T := by
  rw [List.set_append_right _ _ (Nat.le_refl _), Nat.sub_self, List.set_cons_zero, List.set_append_right _ _ (by omega), show X.length + 1 - X.length = 1 by omega, List.set_cons_succ, List.set_cons_zero]
set_option maxHeartbeats 4000000 in
set_option maxRecDepth 100000 in
theorem sym_one (g : Nat) (P L2 Q : List Mk) (x : Mk) (sp : List Value) (za zm zb : Int) (cap n : Nat) (w0 w : World) (R : Asrt) (l : List Mk) (hl : l = P ++ (x :: L2) ++ Q) (H : Sat w0 w (EBlk mk 156 g l sp * R)) (ha : za = P.length) (hm : zm = (P.length : Int) + 1) (hb : zb = (P.length : Int) + 1 + L2.length)
    (hn : l.length = n) (hn2 : n ≤ 1000000000) (hS : Srtd L2) (hsm : Small (x :: L2)) :
    Calls Try.prog 161 #[.slice (some ⟨g, 0, none⟩) n cap, .int .i64 za, .int .i64 zm, .int .i64 zb, .func (.func 131) #[] #[]] w
      (Merged w0 g P [x] L2 Q sp R) := by
  have hln : P.length + (1 + L2.length) + Q.length = n := by rw [← hn, hl]; simp; omega
  rw [hl] at H
  have HS := Box.mk hS
  have HSm := Box.mk hsm
  have HD := H.drew
  have hx := hsm x (by simp)
  have HX := Box.mk hx
  clear hn hl hS hsm hx
  subst ha hm hb
  have hone : ((P.length : Int) + 1 - P.length == 1) = true := by simp; omega
  go_enter Try.func161, Try.ntmps161
  go_wp2
  go_loopg [10, 11, 12] (L2.length) (fun k v10 v11 v12 wr => ∃ i j : Nat, k = j - i ∧ i ≤ j ∧ j ≤ L2.length ∧ v10 = .int .i64 ((P.length : Int) + 1 + i) ∧ v11 = .int .i64 ((P.length : Int) + 1 + j) ∧ 
    (i = 0 ∨ ∃ y, L2[i - 1]? = some y ∧ y.2 < x.2) ∧ (j = L2.length ∨ ∃ y, L2[j]? = some y ∧ x.2 ≤ y.2) ∧ Sat w0 wr (EBlk mk 156 g (P ++ (x :: L2) ++ Q) sp * R))
  case atStart => exact ⟨0, L2.length, rfl, by omega, by omega, by go_num, by go_num, Or.inl rfl, Or.inl rfl, H⟩
  case round =>
    obtain ⟨i, j, rfl, hij, hj, rfl, rfl, hlo, hhi, HI⟩ := hrel
    have HLo := Box.mk hlo
    have HHi := Box.mk hhi
    clear hlo hhi H HD
    have HD := HI.drew
    by_cases hlt : i < j
    · obtain ⟨h, hh⟩ : ∃ h, h = (i + j) / 2 := ⟨_, rfl⟩
      obtain ⟨y, hy⟩ : ∃ y, L2[h]? = some y := ⟨L2[h]'(by omega), List.getElem?_eq_getElem (by omega)⟩
      have hyS := HSm.out y (List.mem_cons_of_mem _ (List.mem_of_getElem? hy))
      have gy : (P ++ (x :: L2) ++ Q)[P.length + 1 + h]? = some y := by
        have hlt2 : h < L2.length := by omega
        rw [show P ++ (x :: L2) ++ Q = P ++ ([x] ++ (L2 ++ Q)) by simp, List.getElem?_append_right (by omega), List.getElem?_append_right (by simp; omega), List.getElem?_append_left (by simp; omega)]
        simp only [List.length_singleton]
        rw [show P.length + 1 + h - P.length - 1 = h by omega]
        exact hy
      have gx : (P ++ (x :: L2) ++ Q)[P.length]? = some x := by
        rw [show P ++ (x :: L2) ++ Q = P ++ ([x] ++ (L2 ++ Q)) by simp, List.getElem?_append_right (by omega)]
        simp
      have HGx := Box.mk gx
      have HGy := Box.mk gy
      have HY := Box.mk hy
      have HYs := Box.mk hyS
      have HH := Box.mk hh
      have hz : ((P.length : Int) + 1 + i + ((P.length : Int) + 1 + j)) / 2 = (P.length : Int) + 1 + h := by omega
      clear gx gy hy hyS hh
      by_cases hyx : y.2 < x.2
      · have hcs : y.2 - x.2 < 0 := by omega
        go_wp2
        clear hz
        have hhl : h < L2.length := by have := HH.out; omega
        refine wp_text (by kernel_rfl) (by kernel_rfl) _ rfl ?_
        go_wp2_with (first
          | refine wpList_loadE (enc := mk) (k := 2) rfl (.tmp 43) 156 rfl aMark sMark mk_len _ (P.length + 1 + h) rfl (by omega) HD y HGy.out ?_
          | refine wpList_loadE (enc := mk) (k := 2) rfl (.tmp 47) 156 rfl aMark sMark mk_len _ (P.length) rfl (by omega) HD x HGx.out ?_
          | (go_at_call 131; refine (cmp_calls y x HYs.out.1 HYs.out.2 HX.out.1 HX.out.2 _).mono ?_; rintro e w1 ⟨rfl, hb⟩; have HD1 := HD.below hb))
        refine ⟨?_, by kernel_rfl⟩
        go_wp2
        go_roundg (j - (h + 1))
        case measure => have := HH.out; omega
        case rel => exact ⟨h + 1, j, rfl, by have := HH.out; omega, hj, by go_num, by go_num, Or.inr ⟨y, by simpa using HY.out, hyx⟩, HHi.out, HD1⟩
      · have hcs : ¬ y.2 - x.2 < 0 := by omega
        go_wp2
        clear hz
        have hhl : h < L2.length := by have := HH.out; omega
        refine wp_text (by kernel_rfl) (by kernel_rfl) _ rfl ?_
        go_wp2_with (first
          | refine wpList_loadE (enc := mk) (k := 2) rfl (.tmp 43) 156 rfl aMark sMark mk_len _ (P.length + 1 + h) rfl (by omega) HD y HGy.out ?_
          | refine wpList_loadE (enc := mk) (k := 2) rfl (.tmp 47) 156 rfl aMark sMark mk_len _ (P.length) rfl (by omega) HD x HGx.out ?_
          | (go_at_call 131; refine (cmp_calls y x HYs.out.1 HYs.out.2 HX.out.1 HX.out.2 _).mono ?_; rintro e w1 ⟨rfl, hb⟩; have HD1 := HD.below hb))
        refine ⟨?_, by kernel_rfl⟩
        go_wp2
        go_roundg (h - i)
        case measure => have := HH.out; omega
        case rel => exact ⟨i, h, rfl, by have := HH.out; omega, by omega, by go_num, by go_num, HLo.out, Or.inr ⟨y, HY.out, by omega⟩, HD1⟩
    · obtain rfl : i = j := by omega
      obtain ⟨A, B, hAB, hA⟩ := take_drop_len L2 i hj
      have hAx : ∀ y ∈ A, y.2 < x.2 := fun y hy => by
        rcases HLo.out with rfl | ⟨z, hz, hzx⟩
        · rw [List.eq_nil_of_length_eq_zero hA] at hy; cases hy
        · have hs := HS.out
          unfold Srtd at hs
          rcases nil_or_snoc A with rfl | ⟨A', u, rfl⟩
          · cases hy
          · have hu : u = z := by
              rw [hAB, List.append_assoc, List.getElem?_append_right (by simp at hA; omega)] at hz
              simp at hA
              rw [show i - 1 - A'.length = 0 by omega] at hz
              simpa using hz
            subst hu
            rw [hAB, List.append_assoc] at hs
            rcases List.mem_append.1 hy with hy | hy
            · have := (List.pairwise_append.1 hs).2.2 y hy u (by simp); omega
            · have : y = u := by simpa using hy
              subst this; exact hzx
      have hBx : ∀ y ∈ B, x.2 ≤ y.2 := fun y hy => by
        rcases HHi.out with rfl | ⟨z, hz, hzx⟩
        · have : B = [] := List.eq_nil_of_length_eq_zero (by have := congrArg List.length hAB; simp at this; omega)
          rw [this] at hy; cases hy
        · have hs := HS.out
          unfold Srtd at hs
          cases B with
          | nil => cases hy
          | cons u B =>
            have hu : u = z := by
              rw [hAB, List.getElem?_append_right (by omega), hA] at hz
              simpa using hz
            subst hu
            rw [hAB] at hs
            rcases List.mem_cons.1 hy with rfl | hy
            · exact hzx
            · have := (List.pairwise_cons.1 (List.pairwise_append.1 hs).2.1).1 y hy; omega
      have HAx := Box.mk hAx
      have HBx := Box.mk hBx
      have hl2 : L2.length = i + B.length := by rw [hAB, ← hA]; simp
      have HL2 := Box.mk hl2
      rw [hAB] at HI
      have HAB := Box.mk hAB
      clear hAx hBx HLo HHi HD hAB hl2 hlt hij
      go_wp2
      obtain ⟨wo, rfl⟩ : ∃ wo : World, wo = wr := ⟨_, rfl⟩
      go_loopg [13] (A.length) (fun k v13 wi => ∃ A1 A2 : List Mk, k = A2.length ∧ A = A1 ++ A2 ∧ v13 = .int .i64 ((P.length : Int) + A1.length) ∧ Sat w0 wi (EBlk mk 156 g (P ++ (A1 ++ x :: (A2 ++ B)) ++ Q) sp * R))
      case atStart => exact ⟨[], A, rfl, rfl, by go_num, by simpa using HI⟩
      case round =>
        obtain ⟨A1, A2, rfl, hAA, rfl, HJ⟩ := hrel
        have hAl : i = A1.length + A2.length := by rw [← hA, hAA]; simp
        have HAA := Box.mk hAA
        clear hAA HI hA
        have HE := HJ.drew
        cases A2 with
        | nil =>
          simp only [List.length_nil, Nat.add_zero] at hAl
          have hA0 : ¬ (P.length : Int) + A1.length < (P.length : Int) + 1 + i - 1 := by omega
          have HAl := Box.mk hAl
          clear hAl
          go_wp2
          go_returns
          have e0 : A = A1 := by simpa using HAA.out
          rw [HAB.out] at HS ⊢
          refine ⟨A1 ++ x :: B, ?_, rfl, by simpa using HJ⟩
          rw [← e0]
          exact SS.insertFront HS.out HAx.out HBx.out
        | cons z A2 =>
          simp only [List.length_cons] at hAl
          have hA0 : (P.length : Int) + A1.length < (P.length : Int) + 1 + i - 1 := by omega
          have HAl := Box.mk hAl
          clear hAl
          have gl : (P ++ (A1 ++ x :: (z :: A2 ++ B)) ++ Q) = (P ++ A1) ++ x :: z :: (A2 ++ B ++ Q) := by simp
          have gx : (P ++ (A1 ++ x :: (z :: A2 ++ B)) ++ Q)[P.length + A1.length]? = some x := by rw [gl, List.getElem?_append_right (by simp)]; simp
          have gz : (P ++ (A1 ++ x :: (z :: A2 ++ B)) ++ Q)[P.length + A1.length + 1]? = some z := by rw [gl, List.getElem?_append_right (by simp)]; simp [show P.length + A1.length + 1 - (P.length + A1.length) = 1 by omega]
          have gn : (P ++ (A1 ++ x :: (z :: A2 ++ B)) ++ Q).length = P.length + A1.length + 2 + A2.length + B.length + Q.length := by simp; omega
          have gs : ((P ++ (A1 ++ x :: (z :: A2 ++ B)) ++ Q).set (P.length + A1.length) z).set (P.length + A1.length + 1) x = (P ++ A1) ++ z :: x :: (A2 ++ B ++ Q) := by
            rw [gl, show P.length + A1.length = (P ++ A1).length by simp]
            exact set_two (P ++ A1) _ x z
          have GX := Box.mk gx
          have GZ := Box.mk gz
          have GN := Box.mk gn
          have GS := Box.mk gs
          clear gl gx gz gn gs
          go_wp2
          refine wp_text (by kernel_rfl) (by kernel_rfl) _ rfl ?_
          go_wp2_with (first
            | refine wpList_loadE (enc := mk) (k := 2) rfl (.tmp 69) 156 rfl aMark sMark mk_len _ (P.length + A1.length + 1) rfl (by omega) HE z GZ.out ?_
            | refine wpList_loadE (enc := mk) (k := 2) rfl (.tmp 73) 156 rfl aMark sMark mk_len _ (P.length + A1.length) rfl (by omega) HE x GX.out ?_
            | (refine wpList_storeE (enc := mk) (k := 2) rfl (.tmp 75) (.tmp 70) 156 rfl iMark mk_len mk_one _ (P.length + A1.length) rfl (by omega) z rfl HE (by have := HL2.out; have := HAl.out; rw [GN.out]; omega) ?_; intro w2 H2)
            | (refine wpList_storeE (enc := mk) (k := 2) rfl (.tmp 76) (.tmp 74) 156 rfl iMark mk_len mk_one _ (P.length + A1.length + 1) rfl (by omega) x rfl H2 (by have := HAl.out; rw [List.length_set, GN.out]; omega) ?_; intro w3 H3))
          refine ⟨?_, by kernel_rfl⟩
          go_wp2
          go_roundg (A2.length)
          case measure => simp
          case rel => exact ⟨A1 ++ [z], A2, rfl, by rw [HAA.out]; simp, by go_num, by rw [GS.out] at H3; simpa using H3⟩
end Go.Proofs.Ytmmigplciogggaa
