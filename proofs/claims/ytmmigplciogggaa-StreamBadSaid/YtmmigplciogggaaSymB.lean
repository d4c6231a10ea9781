/- The stable sort of marks: the merge, its second short case. -/
import Derived.Test.YtmmigplciogggaaSymA
namespace Go.Proofs.Ytmmigplciogggaa
open Go Go.RowKit

theorem get_mid {α : Type} {X Y : List α} {x : α} {n : Nat} (h : n = X.length) : (X ++ x :: Y)[n]? = some x := by subst h; rw [List.getElem?_append_right (Nat.le_refl _)]; simp
theorem get_of {α : Type} {L A B : List α} {x : α} {i : Nat} (h : L = A ++ x :: B) (hi : i = A.length) : L[i]? = some x := by rw [h]; exact get_mid hi

set_option maxHeartbeats 4000000 in
set_option maxRecDepth 100000 in
theorem sym_last (g : Nat) (P L1 Q : List Mk) (x : Mk) (sp : List Value) (za zm zb : Int) (cap n : Nat) (w0 w : World) (R : Asrt) (l : List Mk) (hl : l = P ++ (L1 ++ [x]) ++ Q) (H : Sat w0 w (EBlk mk 156 g l sp * R)) (ha : za = P.length) (hm : zm = (P.length : Int) + L1.length) (hb : zb = (P.length : Int) + L1.length + 1)
    (hn : l.length = n) (hn2 : n ≤ 1000000000) (hS : Srtd L1) (hsm : Small (L1 ++ [x])) (h2 : 2 ≤ L1.length) :
    Calls Try.prog 161 #[.slice (some ⟨g, 0, none⟩) n cap, .int .i64 za, .int .i64 zm, .int .i64 zb, .func (.func 131) #[] #[]] w
      (Merged w0 g P L1 [x] Q sp R) := by
  have hln : P.length + (L1.length + 1) + Q.length = n := by rw [← hn, hl]; simp; omega
  have HLL : Box (l = P ++ (L1 ++ [x]) ++ Q) := ⟨hl⟩
  have HLN := Box.mk hn
  have HS := Box.mk hS
  have HSm := Box.mk hsm
  have HD := H.drew
  have hx := hsm x (by simp)
  have HX := Box.mk hx
  clear hn hl hS hsm hx
  subst ha hm hb
  have hone : ((P.length : Int) + L1.length - P.length == 1) = false := by simp; omega
  have htwo : ((P.length : Int) + L1.length + 1 - ((P.length : Int) + L1.length) == 1) = true := by simp; omega
  go_enter Try.func161, Try.ntmps161
  go_wp2
  go_loopg [14, 15, 16] (L1.length) (fun k v10 v11 v12 wr => ∃ i j : Nat, k = j - i ∧ i ≤ j ∧ j ≤ L1.length ∧ v10 = .int .i64 ((P.length : Int) + i) ∧ v11 = .int .i64 ((P.length : Int) + j) ∧ 
    (i = 0 ∨ ∃ y, L1[i - 1]? = some y ∧ y.2 ≤ x.2) ∧ (j = L1.length ∨ ∃ y, L1[j]? = some y ∧ x.2 < y.2) ∧ Sat w0 wr (EBlk mk 156 g l sp * R))
  case atStart => exact ⟨0, L1.length, rfl, by omega, by omega, by go_num, by go_num, Or.inl rfl, Or.inl rfl, H⟩
  case round =>
    obtain ⟨i, j, rfl, hij, hj, rfl, rfl, hlo, hhi, HI⟩ := hrel
    have HLo := Box.mk hlo
    have HHi := Box.mk hhi
    clear hlo hhi H HD
    have HD := HI.drew
    by_cases hlt : i < j
    · obtain ⟨h, hh⟩ : ∃ h, h = (i + j) / 2 := ⟨_, rfl⟩
      obtain ⟨y, hy⟩ : ∃ y, L1[h]? = some y := ⟨L1[h]'(by omega), List.getElem?_eq_getElem (by omega)⟩
      have hyS := HSm.out y (List.mem_append_left _ (List.mem_of_getElem? hy))
      have gy : l[P.length + h]? = some y := by
        have hlt2 : h < L1.length := by omega
        rw [HLL.out, show P ++ (L1 ++ [x]) ++ Q = P ++ (L1 ++ ([x] ++ Q)) by simp, List.getElem?_append_right (by omega), List.getElem?_append_left (by omega), show P.length + h - P.length = h by omega]
        exact hy
      have gx : l[P.length + L1.length]? = some x := by
        rw [HLL.out, show P ++ (L1 ++ [x]) ++ Q = (P ++ L1) ++ x :: Q by simp]
        exact get_mid (by simp)
      have HGx := Box.mk gx
      have HGy := Box.mk gy
      have HY := Box.mk hy
      have HYs := Box.mk hyS
      have HH := Box.mk hh
      have hz : ((P.length : Int) + i + ((P.length : Int) + j)) / 2 = (P.length : Int) + h := by omega
      clear gx gy hy hyS hh
      by_cases hyx : x.2 < y.2
      · have hcs : x.2 - y.2 < 0 := by omega
        go_wp2
        clear hz
        have hhl : h < L1.length := by have := HH.out; omega
        refine wp_text (by kernel_rfl) (by kernel_rfl) _ rfl ?_
        go_wp2_with (first
          | refine wpList_loadE (enc := mk) (k := 2) rfl (.tmp 95) 156 rfl aMark sMark mk_len _ (P.length + L1.length) rfl (by omega) HD x HGx.out ?_
          | refine wpList_loadE (enc := mk) (k := 2) rfl (.tmp 99) 156 rfl aMark sMark mk_len _ (P.length + h) rfl (by omega) HD y HGy.out ?_
          | (go_at_call 131; refine (cmp_calls x y HX.out.1 HX.out.2 HYs.out.1 HYs.out.2 _).mono ?_; rintro e w1 ⟨rfl, hb⟩; have HD1 := HD.below hb))
        refine ⟨?_, by kernel_rfl⟩
        go_wp2
        go_roundg (h - i)
        case measure => have := HH.out; omega
        case rel => exact ⟨i, h, rfl, by have := HH.out; omega, by omega, by go_num, by go_num, HLo.out, Or.inr ⟨y, HY.out, hyx⟩, HD1⟩
      · have hcs : (!decide (x.2 - y.2 < 0)) = true := by simp; omega
        go_wp2
        clear hz
        have hhl : h < L1.length := by have := HH.out; omega
        refine wp_text (by kernel_rfl) (by kernel_rfl) _ rfl ?_
        go_wp2_with (first
          | refine wpList_loadE (enc := mk) (k := 2) rfl (.tmp 95) 156 rfl aMark sMark mk_len _ (P.length + L1.length) rfl (by omega) HD x HGx.out ?_
          | refine wpList_loadE (enc := mk) (k := 2) rfl (.tmp 99) 156 rfl aMark sMark mk_len _ (P.length + h) rfl (by omega) HD y HGy.out ?_
          | (go_at_call 131; refine (cmp_calls x y HX.out.1 HX.out.2 HYs.out.1 HYs.out.2 _).mono ?_; rintro e w1 ⟨rfl, hb⟩; have HD1 := HD.below hb))
        refine ⟨?_, by kernel_rfl⟩
        go_wp2
        go_roundg (j - (h + 1))
        case measure => have := HH.out; omega
        case rel => exact ⟨h + 1, j, rfl, by have := HH.out; omega, hj, by go_num, by go_num, Or.inr ⟨y, by simpa using HY.out, by omega⟩, HHi.out, HD1⟩
    · obtain rfl : i = j := by omega
      obtain ⟨A, B, hAB, hA⟩ := take_drop_len L1 i hj
      have hAx : ∀ y ∈ A, y.2 ≤ x.2 := fun y hy => by
        rcases HLo.out with rfl | ⟨z, hz, hzx⟩
        · rw [List.eq_nil_of_length_eq_zero hA] at hy; cases hy
        · have hs := HS.out
          unfold Srtd at hs
          rcases nil_or_snoc A with rfl | ⟨A', u, rfl⟩
          · cases hy
          · have hu : u = z := by
              rw [hAB, List.append_assoc, List.getElem?_append_right (by simp at hA; omega)] at hz
              simp at hA
              rw [show i - 1 - A'.length = 0 by omega] at hz
              simpa using hz
            subst hu
            rw [hAB, List.append_assoc] at hs
            rcases List.mem_append.1 hy with hy | hy
            · have := (List.pairwise_append.1 hs).2.2 y hy u (by simp); omega
            · have : y = u := by simpa using hy
              subst this; exact hzx
      have hBx : ∀ y ∈ B, x.2 < y.2 := fun y hy => by
        rcases HHi.out with rfl | ⟨z, hz, hzx⟩
        · have : B = [] := List.eq_nil_of_length_eq_zero (by have := congrArg List.length hAB; simp at this; omega)
          rw [this] at hy; cases hy
        · have hs := HS.out
          unfold Srtd at hs
          cases B with
          | nil => cases hy
          | cons u B =>
            have hu : u = z := by
              rw [hAB, List.getElem?_append_right (by omega), hA] at hz
              simpa using hz
            subst hu
            rw [hAB] at hs
            rcases List.mem_cons.1 hy with rfl | hy
            · exact hzx
            · have := (List.pairwise_cons.1 (List.pairwise_append.1 hs).2.1).1 y hy; omega
      have HAx := Box.mk hAx
      have HBx := Box.mk hBx
      have hl2 : L1.length = i + B.length := by rw [hAB, ← hA]; simp
      have HL2 := Box.mk hl2
      rw [HLL.out, hAB] at HI
      have HAB := Box.mk hAB
      have HA := Box.mk hA
      clear hAx hBx HLo HHi HD hAB hl2 hlt hij hA
      go_wp2
      obtain ⟨wo, rfl⟩ : ∃ wo : World, wo = wr := ⟨_, rfl⟩
      go_loopg [17] (B.length) (fun k v13 wi => ∃ B1 B2 : List Mk, k = B1.length ∧ B = B1 ++ B2 ∧ v13 = .int .i64 ((P.length : Int) + i + B1.length) ∧ Sat w0 wi (EBlk mk 156 g (P ++ (A ++ B1 ++ x :: B2) ++ Q) sp * R))
      case atStart => exact ⟨B, [], rfl, by simp, by have := HL2.out; go_num, by simpa using HI⟩
      case round =>
        obtain ⟨B1, B2, rfl, hBB, rfl, HJ⟩ := hrel
        have HBB := Box.mk hBB
        clear hBB HI
        have HE := HJ.drew
        rcases nil_or_snoc B1 with rfl | ⟨B1, z, rfl⟩
        · have hA0 : ¬ (P.length : Int) + i + (([] : List Mk).length : Int) > (P.length : Int) + i := by simp
          go_wp2
          go_returns
          have e0 : B = B2 := HBB.out
          refine ⟨A ++ x :: B, ?_, rfl, by rw [e0]; simpa using HJ⟩
          rw [HAB.out] at HS ⊢
          exact SS.insert (SS.refl HS.out) HAx.out HBx.out
        · have gl : (P ++ (A ++ (B1 ++ [z]) ++ x :: B2) ++ Q) = (P ++ A ++ B1) ++ z :: x :: (B2 ++ Q) := by simp
          have gz : (P ++ (A ++ (B1 ++ [z]) ++ x :: B2) ++ Q)[P.length + i + B1.length]? = some z := get_of gl (by simp [HA.out, Nat.add_assoc])
          have gx : (P ++ (A ++ (B1 ++ [z]) ++ x :: B2) ++ Q)[P.length + i + B1.length + 1]? = some x := get_of (A := P ++ A ++ B1 ++ [z]) (B := B2 ++ Q) (by simp) (by simp [HA.out, Nat.add_assoc])
          have gn : (P ++ (A ++ (B1 ++ [z]) ++ x :: B2) ++ Q).length = P.length + i + B1.length + 2 + B2.length + Q.length := by simp [HA.out]; omega
          have gs : ((P ++ (A ++ (B1 ++ [z]) ++ x :: B2) ++ Q).set (P.length + i + B1.length) x).set (P.length + i + B1.length + 1) z = (P ++ A ++ B1) ++ x :: z :: (B2 ++ Q) := by
            rw [gl, show P.length + i + B1.length = (P ++ A ++ B1).length by simp [HA.out, Nat.add_assoc]]
            exact set_two (P ++ A ++ B1) _ z x
          have gs2 : ((P ++ (A ++ (B1 ++ [z]) ++ x :: B2) ++ Q).set (P.length + i + B1.length + 1) z).set (P.length + i + B1.length) x = (P ++ A ++ B1) ++ x :: z :: (B2 ++ Q) := by
            rw [List.set_comm _ _ (by omega)]; exact gs
          have hB1 : ((B1 ++ [z]).length : Int) = (B1.length : Int) + 1 := by simp
          rw [hB1]
          have GX := Box.mk gx
          have GZ := Box.mk gz
          have GN := Box.mk gn
          have GS := Box.mk gs2
          have hbl : P.length + i + B1.length + 1 < n := by
            have h1 := HL2.out
            have h3 := congrArg List.length HBB.out
            simp at h3
            omega
          clear gl gx gz gn gs gs2 hB1
          go_wp2
          refine wp_text (by kernel_rfl) (by kernel_rfl) _ rfl ?_
          go_wp2_with (first
            | refine wpList_loadE (enc := mk) (k := 2) rfl (.tmp 121) 156 rfl aMark sMark mk_len _ (P.length + i + B1.length) rfl (by omega) HE z GZ.out ?_
            | refine wpList_loadE (enc := mk) (k := 2) rfl (.tmp 125) 156 rfl aMark sMark mk_len _ (P.length + i + B1.length + 1) rfl (by omega) HE x GX.out ?_
            | (refine wpList_storeE (enc := mk) (k := 2) rfl (.tmp 127) (.tmp 122) 156 rfl iMark mk_len mk_one _ (P.length + i + B1.length + 1) rfl (by omega) z rfl HE (by rw [GN.out]; omega) ?_; intro w2 H2)
            | (refine wpList_storeE (enc := mk) (k := 2) rfl (.tmp 128) (.tmp 126) 156 rfl iMark mk_len mk_one _ (P.length + i + B1.length) rfl (by omega) x rfl H2 (by rw [List.length_set, GN.out]; omega) ?_; intro w3 H3))
          refine ⟨?_, by kernel_rfl⟩
          go_wp2
          go_roundg (B1.length)
          case measure => simp
          case rel => exact ⟨B1, z :: B2, rfl, by rw [HBB.out]; simp, by go_num, by rw [GS.out] at H3; simpa using H3⟩
end Go.Proofs.Ytmmigplciogggaa
