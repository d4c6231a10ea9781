/- The stable sort of marks: the merge. -/
import Derived.Test.YtmmigplciogggaaSymB
import Derived.Deep.Cut
namespace Go.Proofs.Ytmmigplciogggaa
open Go Go.RowKit

/-- What the merge of two sorted rows is asked to do. -/
def SymOk (N : Nat) : Prop := ∀ (g : Nat) (P L1 L2 Q : List Mk) (sp : List Value) (za zm zb : Int) (cap n : Nat) (w0 w : World) (R : Asrt) (l : List Mk), l = P ++ (L1 ++ L2) ++ Q → Sat w0 w (EBlk mk 156 g l sp * R) → za = P.length → zm = (P.length : Int) + L1.length → zb = (P.length : Int) + L1.length + L2.length →
    l.length = n → n ≤ 1000000000 → Srtd L1 → Srtd L2 → Small (L1 ++ L2) → 0 < L1.length → 0 < L2.length → L1.length + L2.length ≤ N →
    Calls Try.prog 161 #[.slice (some ⟨g, 0, none⟩) n cap, .int .i64 za, .int .i64 zm, .int .i64 zb, .func (.func 131) #[] #[]] w
      (Merged w0 g P L1 L2 Q sp R)

/-- The plain law of the split: where the two rows are parted. -/
theorem split_law {L1 L2 A1 A2 B1 B2 : List Mk} {h s s0 r0 : Nat} (h1 : Srtd L1) (h2 : Srtd L2) (e1 : L1 = A1 ++ A2) (e2 : L2 = B1 ++ B2) (l1 : A1.length = s) (l2 : B1.length = h - s) (hs0 : s0 ≤ s) (hr0 : s ≤ r0)
    (hz : s0 = 0 ∨ s0 = h - L2.length) (hr : r0 = h ∨ r0 = L1.length) (hh : h ≤ L2.length + s0)
    (hlo : s = s0 ∨ ∃ x y, L1[s - 1]? = some x ∧ L2[h - s]? = some y ∧ x.2 ≤ y.2) (hhi : s = r0 ∨ ∃ x y, L1[s]? = some x ∧ L2[h - 1 - s]? = some y ∧ y.2 < x.2) (hsh : s ≤ h) :
    (∀ x ∈ A2, ∀ y ∈ B1, y.2 < x.2) ∧ (∀ x ∈ A1, ∀ y ∈ B2, x.2 ≤ y.2) := by
  unfold Srtd at h1 h2
  constructor
  · intro x hx y hy
    rcases hhi with rfl | ⟨u, v, hu, hv, huv⟩
    · rcases hr with rfl | rfl
      · have : B1 = [] := List.eq_nil_of_length_eq_zero (by omega)
        rw [this] at hy; cases hy
      · have : A2 = [] := List.eq_nil_of_length_eq_zero (by have := congrArg List.length e1; simp at this; omega)
        rw [this] at hx; cases hx
    · cases A2 with
      | nil => cases hx
      | cons a A2 =>
        have hau : a = u := by
          rw [e1, get_mid l1.symm] at hu
          exact Option.some.inj hu
        rcases nil_or_snoc B1 with rfl | ⟨B1, b, rfl⟩
        · cases hy
        · have hbv : b = v := by
            rw [e2, get_of (A := B1) (B := B2) (x := b) (by simp) (by simp at l2; omega)] at hv
            exact Option.some.inj hv
          subst hau hbv
          rw [e1] at h1
          rw [e2] at h2
          have hxa : a.2 ≤ x.2 := by
            rcases List.mem_cons.1 hx with rfl | hx
            · exact Int.le_refl _
            · exact (List.pairwise_cons.1 (List.pairwise_append.1 h1).2.1).1 x hx
          have hyb : y.2 ≤ b.2 := by
            rcases List.mem_append.1 hy with hy | hy
            · exact (List.pairwise_append.1 (List.pairwise_append.1 h2).1).2.2 y hy b (by simp)
            · have : y = b := by simpa using hy
              rw [this]; exact Int.le_refl _
          omega
  · intro x hx y hy
    rcases hlo with rfl | ⟨u, v, hu, hv, huv⟩
    · rcases hz with rfl | rfl
      · have : A1 = [] := List.eq_nil_of_length_eq_zero l1
        rw [this] at hx; cases hx
      · have : B2 = [] ∨ A1 = [] := by
          rcases Nat.lt_or_ge h L2.length with q | q
          · right; exact List.eq_nil_of_length_eq_zero (by omega)
          · left; exact List.eq_nil_of_length_eq_zero (by have := congrArg List.length e2; simp at this; omega)
        rcases this with q | q
        · rw [q] at hy; cases hy
        · rw [q] at hx; cases hx
    · cases B2 with
      | nil => cases hy
      | cons b B2 =>
        have hbv : b = v := by
          rw [e2, get_mid l2.symm] at hv
          exact Option.some.inj hv
        rcases nil_or_snoc A1 with rfl | ⟨A1, a, rfl⟩
        · cases hx
        · have hau : a = u := by
            rw [e1, get_of (A := A1) (B := A2) (x := a) (by simp) (by simp at l1; omega)] at hu
            exact Option.some.inj hu
          subst hau hbv
          rw [e1] at h1
          rw [e2] at h2
          have hyb : b.2 ≤ y.2 := by
            rcases List.mem_cons.1 hy with rfl | hy
            · exact Int.le_refl _
            · exact (List.pairwise_cons.1 (List.pairwise_append.1 h2).2.1).1 y hy
          have hxa : x.2 ≤ a.2 := by
            rcases List.mem_append.1 hx with hx | hx
            · exact (List.pairwise_append.1 (List.pairwise_append.1 h1).1).2.2 x hx a (by simp)
            · have : x = a := by simpa using hx
              rw [this]; exact Int.le_refl _
          omega


set_option maxHeartbeats 8000000 in
set_option maxRecDepth 100000 in
theorem sym_step (N : Nat) (IH : SymOk N) (g : Nat) (P L1 L2 Q : List Mk) (sp : List Value) (za zm zb : Int) (cap n : Nat) (w0 w : World) (R : Asrt) (l : List Mk) (hl : l = P ++ (L1 ++ L2) ++ Q) (H : Sat w0 w (EBlk mk 156 g l sp * R)) (ha : za = P.length) (hm : zm = (P.length : Int) + L1.length) (hb : zb = (P.length : Int) + L1.length + L2.length)
    (hn : l.length = n) (hn2 : n ≤ 1000000000) (hS1 : Srtd L1) (hS2 : Srtd L2) (hsm : Small (L1 ++ L2)) (h1 : 2 ≤ L1.length) (h2 : 2 ≤ L2.length) (hN : L1.length + L2.length ≤ N + 1) (h s0 r0 : Nat) (hh : h = (L1.length + L2.length) / 2)
    (hsr : (h < L1.length ∧ s0 = h - L2.length ∧ r0 = h) ∨ (L1.length ≤ h ∧ s0 = 0 ∧ r0 = L1.length)) :
    Calls Try.prog 161 #[.slice (some ⟨g, 0, none⟩) n cap, .int .i64 za, .int .i64 zm, .int .i64 zb, .func (.func 131) #[] #[]] w
      (Merged w0 g P L1 L2 Q sp R) := by
  have hln : P.length + (L1.length + L2.length) + Q.length = n := by rw [← hn, hl]; simp; omega
  have HLL : Box (l = P ++ (L1 ++ L2) ++ Q) := ⟨hl⟩
  have HLN := Box.mk hn
  have HS1 := Box.mk hS1
  have HS2 := Box.mk hS2
  have HSm := Box.mk hsm
  have HIH := Box.mk IH
  have HZ : Box (s0 = 0 ∨ s0 = h - L2.length) := ⟨by omega⟩
  have HR : Box (r0 = h ∨ r0 = L1.length) := ⟨by omega⟩
  have hb1 : h ≤ L2.length + s0 := by omega
  have hb2 : r0 ≤ h := by omega
  have hb3 : r0 ≤ L1.length := by omega
  have hb4 : s0 ≤ r0 := by omega
  have hb5 : 2 ≤ h := by omega
  have hb6 : h + 2 ≤ L1.length + L2.length := by omega
  have HH := Box.mk hh
  subst ha hm hb
  have hone : ((P.length : Int) + L1.length - P.length == 1) = false := by simp; omega
  have htwo : ((P.length : Int) + L1.length + L2.length - ((P.length : Int) + L1.length) == 1) = false := by simp; omega
  have hmid : ((P.length : Int) + ((P.length : Int) + L1.length + L2.length)) / 2 = (P.length : Int) + h := by omega
  have hst : (P.length : Int) + h + ((P.length : Int) + L1.length) - ((P.length : Int) + L1.length + L2.length) = (P.length : Int) + h - L2.length := by omega
  clear hn hl hS1 hS2 hsm IH hh
  go_enter Try.func161, Try.ntmps161
  have hsr' : ((P.length : Int) + L1.length > (P.length : Int) + h ∧ h < L1.length ∧ s0 = h - L2.length ∧ r0 = h) ∨ (¬ (P.length : Int) + L1.length > (P.length : Int) + h ∧ L1.length ≤ h ∧ s0 = 0 ∧ r0 = L1.length) := by
    rcases hsr with q | q
    · exact Or.inl ⟨by omega, q⟩
    · exact Or.inr ⟨by omega, q⟩
  clear hsr
  rcases hsr' with ⟨hgt, hq, hs0, hr0⟩ | ⟨hgt, hq, hs0, hr0⟩
  all_goals
    have Hs0 := Box.mk hs0
    have Hr0 := Box.mk hr0
    have Hq := Box.mk hq
    clear hs0 hr0 hq
    go_wp2
    clear hst hgt hone htwo hmid
    go_loopg [20, 21, 23] (r0 - s0) (fun k v20 v21 v23 wr => ∃ s r : Nat, k = r - s ∧ s0 ≤ s ∧ s ≤ r ∧ r ≤ r0 ∧ v20 = .int .i64 ((P.length : Int) + s) ∧ v21 = .int .i64 ((P.length : Int) + r) ∧
      (s = s0 ∨ ∃ x y, L1[s - 1]? = some x ∧ L2[h - s]? = some y ∧ x.2 ≤ y.2) ∧ (r = r0 ∨ ∃ x y, L1[r]? = some x ∧ L2[h - 1 - r]? = some y ∧ y.2 < x.2) ∧ Sat w0 wr (EBlk mk 156 g l sp * R))
    case atStart =>
      have q1 := Hs0.out
      have q2 := Hr0.out
      have q3 := Hq.out
      have q4 := HH.out
      exact ⟨s0, r0, by omega, by omega, by omega, by omega, by go_num, by go_num, Or.inl rfl, Or.inl rfl, H⟩
    case round =>
      obtain ⟨s, r, rfl, hs0, hsr, hr0, rfl, rfl, hlo, hhi, HI⟩ := hrel
      have HLo := Box.mk hlo
      have HHi := Box.mk hhi
      clear hlo hhi H
      have HD := HI.drew
      by_cases hlt : s < r
      · obtain ⟨c, hc⟩ : ∃ c, c = (s + r) / 2 := ⟨_, rfl⟩
        obtain ⟨x, hx⟩ : ∃ x, L1[c]? = some x := ⟨L1[c]'(by omega), List.getElem?_eq_getElem (by omega)⟩
        obtain ⟨y, hy⟩ : ∃ y, L2[h - 1 - c]? = some y := ⟨L2[h - 1 - c]'(by omega), List.getElem?_eq_getElem (by omega)⟩
        have hxS := HSm.out x (List.mem_append_left _ (List.mem_of_getElem? hx))
        have hyS := HSm.out y (List.mem_append_right _ (List.mem_of_getElem? hy))
        have hc1 : s ≤ c ∧ c < r := by omega
        have gx : l[P.length + c]? = some x := by
          rw [HLL.out, List.append_assoc, List.getElem?_append_right (by omega), List.append_assoc, List.getElem?_append_left (by omega), show P.length + c - P.length = c by omega]
          exact hx
        obtain ⟨d, hd⟩ : ∃ d, d = L1.length + (h - 1 - c) := ⟨_, rfl⟩
        have gy : l[P.length + d]? = some y := by
          rw [HLL.out, List.append_assoc, List.getElem?_append_right (by omega), List.append_assoc, List.getElem?_append_right (by omega), List.getElem?_append_left (by omega), show P.length + d - P.length - L1.length = h - 1 - c by omega]
          exact hy
        have hz : ((P.length : Int) + s + ((P.length : Int) + r)) / 2 = (P.length : Int) + c := by omega
        have hz2 : (P.length : Int) + h + ((P.length : Int) + L1.length) - 1 - ((P.length : Int) + c) = (P.length : Int) + d := by omega
        have hdl : d < L1.length + L2.length := by omega
        have HGx := Box.mk gx
        have HGy := Box.mk gy
        have HXe := Box.mk hx
        have HYe := Box.mk hy
        have HXs := Box.mk hxS
        have HYs := Box.mk hyS
        have HC := Box.mk hc
        have HDd := Box.mk hd
        clear gx gy hx hy hxS hyS hc hd
        by_cases hyx : y.2 < x.2
        · have hcs : (!decide (y.2 - x.2 < 0)) = false := by simp; omega
          go_wp2
          clear hz hz2
          refine wp_text (by kernel_rfl) (by kernel_rfl) _ rfl ?_
          go_wp2_with (first
            | refine wpList_loadE (enc := mk) (k := 2) rfl (.tmp 163) 156 rfl aMark sMark mk_len _ (P.length + d) rfl (by have := HDd.out; omega) HD y HGy.out ?_
            | refine wpList_loadE (enc := mk) (k := 2) rfl (.tmp 167) 156 rfl aMark sMark mk_len _ (P.length + c) rfl (by omega) HD x HGx.out ?_
            | (go_at_call 131; refine (cmp_calls y x HYs.out.1 HYs.out.2 HXs.out.1 HXs.out.2 _).mono ?_; rintro e w1 ⟨rfl, hb⟩; have HD1 := HD.below hb))
          refine ⟨?_, by kernel_rfl⟩
          go_wp2
          go_roundg (c - s)
          case measure => omega
          case rel => exact ⟨s, c, rfl, hs0, by omega, by omega, by go_num, by go_num, HLo.out, Or.inr ⟨x, y, HXe.out, HYe.out, hyx⟩, HD1⟩
        · have hcs : (!decide (y.2 - x.2 < 0)) = true := by simp; omega
          go_wp2
          clear hz hz2
          refine wp_text (by kernel_rfl) (by kernel_rfl) _ rfl ?_
          go_wp2_with (first
            | refine wpList_loadE (enc := mk) (k := 2) rfl (.tmp 163) 156 rfl aMark sMark mk_len _ (P.length + d) rfl (by have := HDd.out; omega) HD y HGy.out ?_
            | refine wpList_loadE (enc := mk) (k := 2) rfl (.tmp 167) 156 rfl aMark sMark mk_len _ (P.length + c) rfl (by omega) HD x HGx.out ?_
            | (go_at_call 131; refine (cmp_calls y x HYs.out.1 HYs.out.2 HXs.out.1 HXs.out.2 _).mono ?_; rintro e w1 ⟨rfl, hb⟩; have HD1 := HD.below hb))
          refine ⟨?_, by kernel_rfl⟩
          go_wp2
          go_roundg (r - (c + 1))
          case measure => omega
          case rel => exact ⟨c + 1, r, rfl, by omega, by omega, by omega, by go_num, by go_num, Or.inr ⟨x, y, by simpa using HXe.out, by rw [show h - (c + 1) = h - 1 - c by omega]; exact HYe.out, by omega⟩, HHi.out, HD1⟩
      · obtain rfl : s = r := by omega
        obtain ⟨A1, A2, hA, hA1⟩ := take_drop_len L1 s (by omega)
        obtain ⟨B1, B2, hB, hB1⟩ := take_drop_len L2 (h - s) (by omega)
        have HC := Box.mk (split_law HS1.out HS2.out hA hB hA1 hB1 hs0 hr0 HZ.out HR.out hb1 HLo.out HHi.out (by omega))
        obtain ⟨e, he⟩ : ∃ e, e = h - s := ⟨_, rfl⟩
        rw [← he] at hB1
        have hes : s + e = h := by omega
        have hA2 : s + A2.length = L1.length := by rw [hA, ← hA1]; simp
        have hB2 : e + B2.length = L2.length := by rw [hB, ← hB1]; simp
        have hend : (P.length : Int) + h + ((P.length : Int) + L1.length) - ((P.length : Int) + s) = (P.length : Int) + L1.length + e := by omega
        have hle : l = (P ++ A1) ++ (A2 ++ B1) ++ (B2 ++ Q) := by rw [HLL.out, hA, hB]; simp
        have hsS : Srtd (A1 ++ A2) ∧ Srtd (B1 ++ B2) := ⟨by rw [← hA]; exact HS1.out, by rw [← hB]; exact HS2.out⟩
        have hsm : Small (A1 ++ A2 ++ (B1 ++ B2)) := by rw [← hA, ← hB]; exact HSm.out
        have HLe := Box.mk hle
        have HSS := Box.mk hsS
        have HSMM := Box.mk hsm
        have HA := Box.mk hA
        have HB := Box.mk hB
        have HA1 := Box.mk hA1
        have HB1 := Box.mk hB1
        have HA2 := Box.mk hA2
        have HB2 := Box.mk hB2
        have HE := Box.mk hes
        have HN2 : Box (∀ A B : List Mk, A = A1 ++ B1 → B = A2 ++ B2 → (P ++ (A ++ B) ++ Q).length = n) := ⟨fun A B hA hB => by rw [hA, hB]; simp; omega⟩
        have hk1 : (0 < A2.length ∧ 0 < e ∧ s < L1.length) ∨ (A2.length = 0 ∧ ¬ s < L1.length) ∨ (e = 0 ∧ s < L1.length ∧ ¬ 0 < e) := by omega
        have hk2 : (0 < s ∧ 0 < e ∧ s < h) ∨ (s = 0 ∧ ¬ 0 < s) ∨ (e = 0 ∧ 0 < s ∧ ¬ s < h) := by omega
        have hk3 : (0 < A2.length ∧ 0 < B2.length ∧ (P.length : Int) + h < (P.length : Int) + L1.length + e ∧ e < L2.length) ∨ (A2.length = 0 ∧ ¬ (P.length : Int) + h < (P.length : Int) + L1.length + e) ∨ (B2.length = 0 ∧ (P.length : Int) + h < (P.length : Int) + L1.length + e ∧ ¬ e < L2.length) := by omega
        have HK2 := Box.mk hk2
        have HK3 := Box.mk hk3
        have hA10 : A1.length = 0 → A1 = [] := List.eq_nil_of_length_eq_zero
        have HP1 : Box ((P ++ A1).length = P.length + s) := ⟨by simp [hA1]⟩
        clear hle hsS hsm hA hB hA1 hB1 hA2 hB2 hes hk2 hk3 HLo HHi he hlt hb1 hb2 hb3 hb4 hA10 HD
        rcases hk1 with ⟨k1, k2, k3⟩ | ⟨k1, k3⟩ | ⟨k1, k3, k2⟩
        · go_upto_region 41 with (go_at_call 167; refine (rot_calls g (P ++ A1) A2 B1 (B2 ++ Q) sp _ _ _ cap n w0 _ R l HLe.out HI (by rw [HP1.out]; omega) (by have := HA2.out; rw [HP1.out]; omega) (by have := HA2.out; rw [HP1.out, HB1.out]; omega) HLN.out hn2 k1 (by rw [HB1.out]; exact k2)).mono ?_; rintro e w1 ⟨rfl, HN⟩)
          have HM := HN
          rw [show P ++ A1 ++ (B1 ++ A2) ++ (B2 ++ Q) = P ++ ((A1 ++ B1) ++ (A2 ++ B2)) ++ Q by simp] at HM
          clear HN
          have HPW : Box (Srtd A1 ∧ Srtd A2 ∧ Srtd B1 ∧ Srtd B2) := ⟨(List.pairwise_append.1 HSS.out.1).1, (List.pairwise_append.1 HSS.out.1).2.1, (List.pairwise_append.1 HSS.out.2).1, (List.pairwise_append.1 HSS.out.2).2.1⟩
          have HPS : Box (Small (A1 ++ B1) ∧ Small (A2 ++ B2)) := ⟨fun x hx => HSMM.out x (by simp only [List.mem_append] at hx ⊢; rcases hx with q | q <;> simp [q]), fun x hx => HSMM.out x (by simp only [List.mem_append] at hx ⊢; rcases hx with q | q <;> simp [q])⟩
          have HEQ1 : Box (P ++ ((A1 ++ B1) ++ (A2 ++ B2)) ++ Q = P ++ (A1 ++ B1) ++ (A2 ++ B2 ++ Q)) := ⟨by simp⟩
          have HK5 := HK2.out
          clear HK2 HI
          rcases HK5 with ⟨k4, k5, k6⟩ | ⟨k4, k5⟩ | ⟨k4, k5, k6⟩
          · go_upto_region 43 with (go_at_call 161; refine (HIH.out g P A1 B1 (A2 ++ B2 ++ Q) sp _ _ _ cap n w0 _ R _ HEQ1.out HM rfl (by rw [HA1.out]) (by have := HE.out; rw [HA1.out, HB1.out]; omega) (HN2.out _ _ rfl rfl) hn2 (HPW.out.1) (HPW.out.2.2.1) HPS.out.1 (by rw [HA1.out]; omega) (by rw [HB1.out]; exact k5) (by have := HE.out; rw [HA1.out, HB1.out]; omega)).mono ?_; rintro e w1 ⟨M1, hM1, rfl, HN⟩)
            all_goals (
              have HM1 := Box.mk hM1
              clear hM1 HM
              have HM := HN
              rw [show P ++ M1 ++ (A2 ++ B2 ++ Q) = P ++ (M1 ++ (A2 ++ B2)) ++ Q by simp] at HM
              clear HN
              have HP2 : Box ((P ++ M1).length = P.length + h) := ⟨by have h1 := HM1.out.length; have h2 := HE.out; have h3 := HA1.out; have h4 := HB1.out; simp only [List.length_append] at h1 ⊢; omega⟩
              have HEQ2 : Box (P ++ (M1 ++ (A2 ++ B2)) ++ Q = P ++ M1 ++ (A2 ++ B2) ++ Q) := ⟨by simp⟩
              have HN3 : Box (∀ l, l = P ++ (M1 ++ (A2 ++ B2)) ++ Q → l.length = n) := ⟨fun l hl => by have h1 := HM1.out.length; have h2 := HN2.out _ _ rfl rfl; rw [hl]; simp only [List.length_append] at h1 h2 ⊢; omega⟩
              have HK4 := HK3.out
              clear HK3
              rcases HK4 with ⟨m1, m2, m3, m4⟩ | ⟨m1, m3⟩ | ⟨m1, m3, m4⟩
              · go_wp2_with (go_at_call 161; refine (HIH.out g (P ++ M1) A2 B2 Q sp _ _ _ cap n w0 _ R _ HEQ2.out HM (by rw [HP2.out]; omega) (by have := HA2.out; rw [HP2.out]; omega) (by have := HA2.out; have := HB2.out; rw [HP2.out]; omega) (HN3.out _ rfl) hn2 (HPW.out.2.1) (HPW.out.2.2.2) HPS.out.2 m1 m2 (by have := HA2.out; have := HB2.out; omega)).mono ?_; rintro e w1 ⟨M2, hM2, rfl, HN⟩)
                all_goals (
                  go_returns
                  exact ⟨M1 ++ M2, by rw [HA.out, HB.out]; exact SS.merge HM1.out hM2 HC.out.1 HC.out.2 HSS.out.1 HSS.out.2, rfl, by simpa using HN⟩)
              · go_wp2
                all_goals (
                  go_returns
                  refine ⟨M1 ++ (A2 ++ B2), ?_, rfl, HM⟩
                  rw [HA.out, HB.out]
                  refine SS.merge HM1.out (SS.refl ?_) HC.out.1 HC.out.2 HSS.out.1 HSS.out.2
                  rw [List.eq_nil_of_length_eq_zero m1]
                  exact HPW.out.2.2.2)
              · go_wp2
                all_goals (
                  go_returns
                  refine ⟨M1 ++ (A2 ++ B2), ?_, rfl, HM⟩
                  rw [HA.out, HB.out]
                  refine SS.merge HM1.out (SS.refl ?_) HC.out.1 HC.out.2 HSS.out.1 HSS.out.2
                  rw [List.eq_nil_of_length_eq_zero m1, List.append_nil]
                  exact HPW.out.2.1))
          · have HM1 : Box (SS (A1 ++ B1) (A1 ++ B1)) := ⟨SS.refl (by rw [List.eq_nil_of_length_eq_zero (HA1.out.trans k4)]; exact HPW.out.2.2.1)⟩
            go_upto_region 43 with fail
            all_goals (
              obtain ⟨M1, hM1⟩ : ∃ M1, M1 = A1 ++ B1 := ⟨_, rfl⟩
              have HM1 : Box (SS (A1 ++ B1) M1) := by rw [hM1]; exact HM1
              rw [← hM1] at HM
              clear hM1
              have HP2 : Box ((P ++ M1).length = P.length + h) := ⟨by have h1 := HM1.out.length; have h2 := HE.out; have h3 := HA1.out; have h4 := HB1.out; simp only [List.length_append] at h1 ⊢; omega⟩
              have HEQ2 : Box (P ++ (M1 ++ (A2 ++ B2)) ++ Q = P ++ M1 ++ (A2 ++ B2) ++ Q) := ⟨by simp⟩
              have HN3 : Box (∀ l, l = P ++ (M1 ++ (A2 ++ B2)) ++ Q → l.length = n) := ⟨fun l hl => by have h1 := HM1.out.length; have h2 := HN2.out _ _ rfl rfl; rw [hl]; simp only [List.length_append] at h1 h2 ⊢; omega⟩
              have HK4 := HK3.out
              clear HK3
              rcases HK4 with ⟨m1, m2, m3, m4⟩ | ⟨m1, m3⟩ | ⟨m1, m3, m4⟩
              · go_wp2_with (go_at_call 161; refine (HIH.out g (P ++ M1) A2 B2 Q sp _ _ _ cap n w0 _ R _ HEQ2.out HM (by rw [HP2.out]; omega) (by have := HA2.out; rw [HP2.out]; omega) (by have := HA2.out; have := HB2.out; rw [HP2.out]; omega) (HN3.out _ rfl) hn2 (HPW.out.2.1) (HPW.out.2.2.2) HPS.out.2 m1 m2 (by have := HA2.out; have := HB2.out; omega)).mono ?_; rintro e w1 ⟨M2, hM2, rfl, HN⟩)
                all_goals (
                  go_returns
                  exact ⟨M1 ++ M2, by rw [HA.out, HB.out]; exact SS.merge HM1.out hM2 HC.out.1 HC.out.2 HSS.out.1 HSS.out.2, rfl, by simpa using HN⟩)
              · go_wp2
                all_goals (
                  go_returns
                  refine ⟨M1 ++ (A2 ++ B2), ?_, rfl, HM⟩
                  rw [HA.out, HB.out]
                  refine SS.merge HM1.out (SS.refl ?_) HC.out.1 HC.out.2 HSS.out.1 HSS.out.2
                  rw [List.eq_nil_of_length_eq_zero m1]
                  exact HPW.out.2.2.2)
              · go_wp2
                all_goals (
                  go_returns
                  refine ⟨M1 ++ (A2 ++ B2), ?_, rfl, HM⟩
                  rw [HA.out, HB.out]
                  refine SS.merge HM1.out (SS.refl ?_) HC.out.1 HC.out.2 HSS.out.1 HSS.out.2
                  rw [List.eq_nil_of_length_eq_zero m1, List.append_nil]
                  exact HPW.out.2.1))
          · have HM1 : Box (SS (A1 ++ B1) (A1 ++ B1)) := ⟨SS.refl (by rw [List.eq_nil_of_length_eq_zero (HB1.out.trans k4), List.append_nil]; exact HPW.out.1)⟩
            go_upto_region 43 with fail
            all_goals (
              obtain ⟨M1, hM1⟩ : ∃ M1, M1 = A1 ++ B1 := ⟨_, rfl⟩
              have HM1 : Box (SS (A1 ++ B1) M1) := by rw [hM1]; exact HM1
              rw [← hM1] at HM
              clear hM1
              have HP2 : Box ((P ++ M1).length = P.length + h) := ⟨by have h1 := HM1.out.length; have h2 := HE.out; have h3 := HA1.out; have h4 := HB1.out; simp only [List.length_append] at h1 ⊢; omega⟩
              have HEQ2 : Box (P ++ (M1 ++ (A2 ++ B2)) ++ Q = P ++ M1 ++ (A2 ++ B2) ++ Q) := ⟨by simp⟩
              have HN3 : Box (∀ l, l = P ++ (M1 ++ (A2 ++ B2)) ++ Q → l.length = n) := ⟨fun l hl => by have h1 := HM1.out.length; have h2 := HN2.out _ _ rfl rfl; rw [hl]; simp only [List.length_append] at h1 h2 ⊢; omega⟩
              have HK4 := HK3.out
              clear HK3
              rcases HK4 with ⟨m1, m2, m3, m4⟩ | ⟨m1, m3⟩ | ⟨m1, m3, m4⟩
              · go_wp2_with (go_at_call 161; refine (HIH.out g (P ++ M1) A2 B2 Q sp _ _ _ cap n w0 _ R _ HEQ2.out HM (by rw [HP2.out]; omega) (by have := HA2.out; rw [HP2.out]; omega) (by have := HA2.out; have := HB2.out; rw [HP2.out]; omega) (HN3.out _ rfl) hn2 (HPW.out.2.1) (HPW.out.2.2.2) HPS.out.2 m1 m2 (by have := HA2.out; have := HB2.out; omega)).mono ?_; rintro e w1 ⟨M2, hM2, rfl, HN⟩)
                all_goals (
                  go_returns
                  exact ⟨M1 ++ M2, by rw [HA.out, HB.out]; exact SS.merge HM1.out hM2 HC.out.1 HC.out.2 HSS.out.1 HSS.out.2, rfl, by simpa using HN⟩)
              · go_wp2
                all_goals (
                  go_returns
                  refine ⟨M1 ++ (A2 ++ B2), ?_, rfl, HM⟩
                  rw [HA.out, HB.out]
                  refine SS.merge HM1.out (SS.refl ?_) HC.out.1 HC.out.2 HSS.out.1 HSS.out.2
                  rw [List.eq_nil_of_length_eq_zero m1]
                  exact HPW.out.2.2.2)
              · go_wp2
                all_goals (
                  go_returns
                  refine ⟨M1 ++ (A2 ++ B2), ?_, rfl, HM⟩
                  rw [HA.out, HB.out]
                  refine SS.merge HM1.out (SS.refl ?_) HC.out.1 HC.out.2 HSS.out.1 HSS.out.2
                  rw [List.eq_nil_of_length_eq_zero m1, List.append_nil]
                  exact HPW.out.2.1))
        · have HM := HI
          rw [HLe.out, List.eq_nil_of_length_eq_zero k1, show P ++ A1 ++ ([] ++ B1) ++ (B2 ++ Q) = P ++ ((A1 ++ B1) ++ ([] ++ B2)) ++ Q by simp, ← List.eq_nil_of_length_eq_zero k1] at HM
          go_upto_region 41 with fail
          have HPW : Box (Srtd A1 ∧ Srtd A2 ∧ Srtd B1 ∧ Srtd B2) := ⟨(List.pairwise_append.1 HSS.out.1).1, (List.pairwise_append.1 HSS.out.1).2.1, (List.pairwise_append.1 HSS.out.2).1, (List.pairwise_append.1 HSS.out.2).2.1⟩
          have HPS : Box (Small (A1 ++ B1) ∧ Small (A2 ++ B2)) := ⟨fun x hx => HSMM.out x (by simp only [List.mem_append] at hx ⊢; rcases hx with q | q <;> simp [q]), fun x hx => HSMM.out x (by simp only [List.mem_append] at hx ⊢; rcases hx with q | q <;> simp [q])⟩
          have HEQ1 : Box (P ++ ((A1 ++ B1) ++ (A2 ++ B2)) ++ Q = P ++ (A1 ++ B1) ++ (A2 ++ B2 ++ Q)) := ⟨by simp⟩
          have HK5 := HK2.out
          clear HK2 HI
          rcases HK5 with ⟨k4, k5, k6⟩ | ⟨k4, k5⟩ | ⟨k4, k5, k6⟩
          · go_upto_region 43 with (go_at_call 161; refine (HIH.out g P A1 B1 (A2 ++ B2 ++ Q) sp _ _ _ cap n w0 _ R _ HEQ1.out HM rfl (by rw [HA1.out]) (by have := HE.out; rw [HA1.out, HB1.out]; omega) (HN2.out _ _ rfl rfl) hn2 (HPW.out.1) (HPW.out.2.2.1) HPS.out.1 (by rw [HA1.out]; omega) (by rw [HB1.out]; exact k5) (by have := HE.out; rw [HA1.out, HB1.out]; omega)).mono ?_; rintro e w1 ⟨M1, hM1, rfl, HN⟩)
            all_goals (
              have HM1 := Box.mk hM1
              clear hM1 HM
              have HM := HN
              rw [show P ++ M1 ++ (A2 ++ B2 ++ Q) = P ++ (M1 ++ (A2 ++ B2)) ++ Q by simp] at HM
              clear HN
              have HP2 : Box ((P ++ M1).length = P.length + h) := ⟨by have h1 := HM1.out.length; have h2 := HE.out; have h3 := HA1.out; have h4 := HB1.out; simp only [List.length_append] at h1 ⊢; omega⟩
              have HEQ2 : Box (P ++ (M1 ++ (A2 ++ B2)) ++ Q = P ++ M1 ++ (A2 ++ B2) ++ Q) := ⟨by simp⟩
              have HN3 : Box (∀ l, l = P ++ (M1 ++ (A2 ++ B2)) ++ Q → l.length = n) := ⟨fun l hl => by have h1 := HM1.out.length; have h2 := HN2.out _ _ rfl rfl; rw [hl]; simp only [List.length_append] at h1 h2 ⊢; omega⟩
              have HK4 := HK3.out
              clear HK3
              rcases HK4 with ⟨m1, m2, m3, m4⟩ | ⟨m1, m3⟩ | ⟨m1, m3, m4⟩
              · go_wp2_with (go_at_call 161; refine (HIH.out g (P ++ M1) A2 B2 Q sp _ _ _ cap n w0 _ R _ HEQ2.out HM (by rw [HP2.out]; omega) (by have := HA2.out; rw [HP2.out]; omega) (by have := HA2.out; have := HB2.out; rw [HP2.out]; omega) (HN3.out _ rfl) hn2 (HPW.out.2.1) (HPW.out.2.2.2) HPS.out.2 m1 m2 (by have := HA2.out; have := HB2.out; omega)).mono ?_; rintro e w1 ⟨M2, hM2, rfl, HN⟩)
                all_goals (
                  go_returns
                  exact ⟨M1 ++ M2, by rw [HA.out, HB.out]; exact SS.merge HM1.out hM2 HC.out.1 HC.out.2 HSS.out.1 HSS.out.2, rfl, by simpa using HN⟩)
              · go_wp2
                all_goals (
                  go_returns
                  refine ⟨M1 ++ (A2 ++ B2), ?_, rfl, HM⟩
                  rw [HA.out, HB.out]
                  refine SS.merge HM1.out (SS.refl ?_) HC.out.1 HC.out.2 HSS.out.1 HSS.out.2
                  rw [List.eq_nil_of_length_eq_zero m1]
                  exact HPW.out.2.2.2)
              · go_wp2
                all_goals (
                  go_returns
                  refine ⟨M1 ++ (A2 ++ B2), ?_, rfl, HM⟩
                  rw [HA.out, HB.out]
                  refine SS.merge HM1.out (SS.refl ?_) HC.out.1 HC.out.2 HSS.out.1 HSS.out.2
                  rw [List.eq_nil_of_length_eq_zero m1, List.append_nil]
                  exact HPW.out.2.1))
          · have HM1 : Box (SS (A1 ++ B1) (A1 ++ B1)) := ⟨SS.refl (by rw [List.eq_nil_of_length_eq_zero (HA1.out.trans k4)]; exact HPW.out.2.2.1)⟩
            go_upto_region 43 with fail
            all_goals (
              obtain ⟨M1, hM1⟩ : ∃ M1, M1 = A1 ++ B1 := ⟨_, rfl⟩
              have HM1 : Box (SS (A1 ++ B1) M1) := by rw [hM1]; exact HM1
              rw [← hM1] at HM
              clear hM1
              have HP2 : Box ((P ++ M1).length = P.length + h) := ⟨by have h1 := HM1.out.length; have h2 := HE.out; have h3 := HA1.out; have h4 := HB1.out; simp only [List.length_append] at h1 ⊢; omega⟩
              have HEQ2 : Box (P ++ (M1 ++ (A2 ++ B2)) ++ Q = P ++ M1 ++ (A2 ++ B2) ++ Q) := ⟨by simp⟩
              have HN3 : Box (∀ l, l = P ++ (M1 ++ (A2 ++ B2)) ++ Q → l.length = n) := ⟨fun l hl => by have h1 := HM1.out.length; have h2 := HN2.out _ _ rfl rfl; rw [hl]; simp only [List.length_append] at h1 h2 ⊢; omega⟩
              have HK4 := HK3.out
              clear HK3
              rcases HK4 with ⟨m1, m2, m3, m4⟩ | ⟨m1, m3⟩ | ⟨m1, m3, m4⟩
              · go_wp2_with (go_at_call 161; refine (HIH.out g (P ++ M1) A2 B2 Q sp _ _ _ cap n w0 _ R _ HEQ2.out HM (by rw [HP2.out]; omega) (by have := HA2.out; rw [HP2.out]; omega) (by have := HA2.out; have := HB2.out; rw [HP2.out]; omega) (HN3.out _ rfl) hn2 (HPW.out.2.1) (HPW.out.2.2.2) HPS.out.2 m1 m2 (by have := HA2.out; have := HB2.out; omega)).mono ?_; rintro e w1 ⟨M2, hM2, rfl, HN⟩)
                all_goals (
                  go_returns
                  exact ⟨M1 ++ M2, by rw [HA.out, HB.out]; exact SS.merge HM1.out hM2 HC.out.1 HC.out.2 HSS.out.1 HSS.out.2, rfl, by simpa using HN⟩)
              · go_wp2
                all_goals (
                  go_returns
                  refine ⟨M1 ++ (A2 ++ B2), ?_, rfl, HM⟩
                  rw [HA.out, HB.out]
                  refine SS.merge HM1.out (SS.refl ?_) HC.out.1 HC.out.2 HSS.out.1 HSS.out.2
                  rw [List.eq_nil_of_length_eq_zero m1]
                  exact HPW.out.2.2.2)
              · go_wp2
                all_goals (
                  go_returns
                  refine ⟨M1 ++ (A2 ++ B2), ?_, rfl, HM⟩
                  rw [HA.out, HB.out]
                  refine SS.merge HM1.out (SS.refl ?_) HC.out.1 HC.out.2 HSS.out.1 HSS.out.2
                  rw [List.eq_nil_of_length_eq_zero m1, List.append_nil]
                  exact HPW.out.2.1))
          · have HM1 : Box (SS (A1 ++ B1) (A1 ++ B1)) := ⟨SS.refl (by rw [List.eq_nil_of_length_eq_zero (HB1.out.trans k4), List.append_nil]; exact HPW.out.1)⟩
            go_upto_region 43 with fail
            all_goals (
              obtain ⟨M1, hM1⟩ : ∃ M1, M1 = A1 ++ B1 := ⟨_, rfl⟩
              have HM1 : Box (SS (A1 ++ B1) M1) := by rw [hM1]; exact HM1
              rw [← hM1] at HM
              clear hM1
              have HP2 : Box ((P ++ M1).length = P.length + h) := ⟨by have h1 := HM1.out.length; have h2 := HE.out; have h3 := HA1.out; have h4 := HB1.out; simp only [List.length_append] at h1 ⊢; omega⟩
              have HEQ2 : Box (P ++ (M1 ++ (A2 ++ B2)) ++ Q = P ++ M1 ++ (A2 ++ B2) ++ Q) := ⟨by simp⟩
              have HN3 : Box (∀ l, l = P ++ (M1 ++ (A2 ++ B2)) ++ Q → l.length = n) := ⟨fun l hl => by have h1 := HM1.out.length; have h2 := HN2.out _ _ rfl rfl; rw [hl]; simp only [List.length_append] at h1 h2 ⊢; omega⟩
              have HK4 := HK3.out
              clear HK3
              rcases HK4 with ⟨m1, m2, m3, m4⟩ | ⟨m1, m3⟩ | ⟨m1, m3, m4⟩
              · go_wp2_with (go_at_call 161; refine (HIH.out g (P ++ M1) A2 B2 Q sp _ _ _ cap n w0 _ R _ HEQ2.out HM (by rw [HP2.out]; omega) (by have := HA2.out; rw [HP2.out]; omega) (by have := HA2.out; have := HB2.out; rw [HP2.out]; omega) (HN3.out _ rfl) hn2 (HPW.out.2.1) (HPW.out.2.2.2) HPS.out.2 m1 m2 (by have := HA2.out; have := HB2.out; omega)).mono ?_; rintro e w1 ⟨M2, hM2, rfl, HN⟩)
                all_goals (
                  go_returns
                  exact ⟨M1 ++ M2, by rw [HA.out, HB.out]; exact SS.merge HM1.out hM2 HC.out.1 HC.out.2 HSS.out.1 HSS.out.2, rfl, by simpa using HN⟩)
              · go_wp2
                all_goals (
                  go_returns
                  refine ⟨M1 ++ (A2 ++ B2), ?_, rfl, HM⟩
                  rw [HA.out, HB.out]
                  refine SS.merge HM1.out (SS.refl ?_) HC.out.1 HC.out.2 HSS.out.1 HSS.out.2
                  rw [List.eq_nil_of_length_eq_zero m1]
                  exact HPW.out.2.2.2)
              · go_wp2
                all_goals (
                  go_returns
                  refine ⟨M1 ++ (A2 ++ B2), ?_, rfl, HM⟩
                  rw [HA.out, HB.out]
                  refine SS.merge HM1.out (SS.refl ?_) HC.out.1 HC.out.2 HSS.out.1 HSS.out.2
                  rw [List.eq_nil_of_length_eq_zero m1, List.append_nil]
                  exact HPW.out.2.1))
        · have HM := HI
          have hb0 : B1 = [] := List.eq_nil_of_length_eq_zero (by rw [HB1.out]; exact k1)
          rw [HLe.out, hb0, show P ++ A1 ++ (A2 ++ []) ++ (B2 ++ Q) = P ++ ((A1 ++ []) ++ (A2 ++ B2)) ++ Q by simp, ← hb0] at HM
          clear hb0
          go_upto_region 41 with fail
          have HPW : Box (Srtd A1 ∧ Srtd A2 ∧ Srtd B1 ∧ Srtd B2) := ⟨(List.pairwise_append.1 HSS.out.1).1, (List.pairwise_append.1 HSS.out.1).2.1, (List.pairwise_append.1 HSS.out.2).1, (List.pairwise_append.1 HSS.out.2).2.1⟩
          have HPS : Box (Small (A1 ++ B1) ∧ Small (A2 ++ B2)) := ⟨fun x hx => HSMM.out x (by simp only [List.mem_append] at hx ⊢; rcases hx with q | q <;> simp [q]), fun x hx => HSMM.out x (by simp only [List.mem_append] at hx ⊢; rcases hx with q | q <;> simp [q])⟩
          have HEQ1 : Box (P ++ ((A1 ++ B1) ++ (A2 ++ B2)) ++ Q = P ++ (A1 ++ B1) ++ (A2 ++ B2 ++ Q)) := ⟨by simp⟩
          have HK5 := HK2.out
          clear HK2 HI
          rcases HK5 with ⟨k4, k5, k6⟩ | ⟨k4, k5⟩ | ⟨k4, k5, k6⟩
          · go_upto_region 43 with (go_at_call 161; refine (HIH.out g P A1 B1 (A2 ++ B2 ++ Q) sp _ _ _ cap n w0 _ R _ HEQ1.out HM rfl (by rw [HA1.out]) (by have := HE.out; rw [HA1.out, HB1.out]; omega) (HN2.out _ _ rfl rfl) hn2 (HPW.out.1) (HPW.out.2.2.1) HPS.out.1 (by rw [HA1.out]; omega) (by rw [HB1.out]; exact k5) (by have := HE.out; rw [HA1.out, HB1.out]; omega)).mono ?_; rintro e w1 ⟨M1, hM1, rfl, HN⟩)
            all_goals (
              have HM1 := Box.mk hM1
              clear hM1 HM
              have HM := HN
              rw [show P ++ M1 ++ (A2 ++ B2 ++ Q) = P ++ (M1 ++ (A2 ++ B2)) ++ Q by simp] at HM
              clear HN
              have HP2 : Box ((P ++ M1).length = P.length + h) := ⟨by have h1 := HM1.out.length; have h2 := HE.out; have h3 := HA1.out; have h4 := HB1.out; simp only [List.length_append] at h1 ⊢; omega⟩
              have HEQ2 : Box (P ++ (M1 ++ (A2 ++ B2)) ++ Q = P ++ M1 ++ (A2 ++ B2) ++ Q) := ⟨by simp⟩
              have HN3 : Box (∀ l, l = P ++ (M1 ++ (A2 ++ B2)) ++ Q → l.length = n) := ⟨fun l hl => by have h1 := HM1.out.length; have h2 := HN2.out _ _ rfl rfl; rw [hl]; simp only [List.length_append] at h1 h2 ⊢; omega⟩
              have HK4 := HK3.out
              clear HK3
              rcases HK4 with ⟨m1, m2, m3, m4⟩ | ⟨m1, m3⟩ | ⟨m1, m3, m4⟩
              · go_wp2_with (go_at_call 161; refine (HIH.out g (P ++ M1) A2 B2 Q sp _ _ _ cap n w0 _ R _ HEQ2.out HM (by rw [HP2.out]; omega) (by have := HA2.out; rw [HP2.out]; omega) (by have := HA2.out; have := HB2.out; rw [HP2.out]; omega) (HN3.out _ rfl) hn2 (HPW.out.2.1) (HPW.out.2.2.2) HPS.out.2 m1 m2 (by have := HA2.out; have := HB2.out; omega)).mono ?_; rintro e w1 ⟨M2, hM2, rfl, HN⟩)
                all_goals (
                  go_returns
                  exact ⟨M1 ++ M2, by rw [HA.out, HB.out]; exact SS.merge HM1.out hM2 HC.out.1 HC.out.2 HSS.out.1 HSS.out.2, rfl, by simpa using HN⟩)
              · go_wp2
                all_goals (
                  go_returns
                  refine ⟨M1 ++ (A2 ++ B2), ?_, rfl, HM⟩
                  rw [HA.out, HB.out]
                  refine SS.merge HM1.out (SS.refl ?_) HC.out.1 HC.out.2 HSS.out.1 HSS.out.2
                  rw [List.eq_nil_of_length_eq_zero m1]
                  exact HPW.out.2.2.2)
              · go_wp2
                all_goals (
                  go_returns
                  refine ⟨M1 ++ (A2 ++ B2), ?_, rfl, HM⟩
                  rw [HA.out, HB.out]
                  refine SS.merge HM1.out (SS.refl ?_) HC.out.1 HC.out.2 HSS.out.1 HSS.out.2
                  rw [List.eq_nil_of_length_eq_zero m1, List.append_nil]
                  exact HPW.out.2.1))
          · have HM1 : Box (SS (A1 ++ B1) (A1 ++ B1)) := ⟨SS.refl (by rw [List.eq_nil_of_length_eq_zero (HA1.out.trans k4)]; exact HPW.out.2.2.1)⟩
            go_upto_region 43 with fail
            all_goals (
              obtain ⟨M1, hM1⟩ : ∃ M1, M1 = A1 ++ B1 := ⟨_, rfl⟩
              have HM1 : Box (SS (A1 ++ B1) M1) := by rw [hM1]; exact HM1
              rw [← hM1] at HM
              clear hM1
              have HP2 : Box ((P ++ M1).length = P.length + h) := ⟨by have h1 := HM1.out.length; have h2 := HE.out; have h3 := HA1.out; have h4 := HB1.out; simp only [List.length_append] at h1 ⊢; omega⟩
              have HEQ2 : Box (P ++ (M1 ++ (A2 ++ B2)) ++ Q = P ++ M1 ++ (A2 ++ B2) ++ Q) := ⟨by simp⟩
              have HN3 : Box (∀ l, l = P ++ (M1 ++ (A2 ++ B2)) ++ Q → l.length = n) := ⟨fun l hl => by have h1 := HM1.out.length; have h2 := HN2.out _ _ rfl rfl; rw [hl]; simp only [List.length_append] at h1 h2 ⊢; omega⟩
              have HK4 := HK3.out
              clear HK3
              rcases HK4 with ⟨m1, m2, m3, m4⟩ | ⟨m1, m3⟩ | ⟨m1, m3, m4⟩
              · go_wp2_with (go_at_call 161; refine (HIH.out g (P ++ M1) A2 B2 Q sp _ _ _ cap n w0 _ R _ HEQ2.out HM (by rw [HP2.out]; omega) (by have := HA2.out; rw [HP2.out]; omega) (by have := HA2.out; have := HB2.out; rw [HP2.out]; omega) (HN3.out _ rfl) hn2 (HPW.out.2.1) (HPW.out.2.2.2) HPS.out.2 m1 m2 (by have := HA2.out; have := HB2.out; omega)).mono ?_; rintro e w1 ⟨M2, hM2, rfl, HN⟩)
                all_goals (
                  go_returns
                  exact ⟨M1 ++ M2, by rw [HA.out, HB.out]; exact SS.merge HM1.out hM2 HC.out.1 HC.out.2 HSS.out.1 HSS.out.2, rfl, by simpa using HN⟩)
              · go_wp2
                all_goals (
                  go_returns
                  refine ⟨M1 ++ (A2 ++ B2), ?_, rfl, HM⟩
                  rw [HA.out, HB.out]
                  refine SS.merge HM1.out (SS.refl ?_) HC.out.1 HC.out.2 HSS.out.1 HSS.out.2
                  rw [List.eq_nil_of_length_eq_zero m1]
                  exact HPW.out.2.2.2)
              · go_wp2
                all_goals (
                  go_returns
                  refine ⟨M1 ++ (A2 ++ B2), ?_, rfl, HM⟩
                  rw [HA.out, HB.out]
                  refine SS.merge HM1.out (SS.refl ?_) HC.out.1 HC.out.2 HSS.out.1 HSS.out.2
                  rw [List.eq_nil_of_length_eq_zero m1, List.append_nil]
                  exact HPW.out.2.1))
          · have HM1 : Box (SS (A1 ++ B1) (A1 ++ B1)) := ⟨SS.refl (by rw [List.eq_nil_of_length_eq_zero (HB1.out.trans k4), List.append_nil]; exact HPW.out.1)⟩
            go_upto_region 43 with fail
            all_goals (
              obtain ⟨M1, hM1⟩ : ∃ M1, M1 = A1 ++ B1 := ⟨_, rfl⟩
              have HM1 : Box (SS (A1 ++ B1) M1) := by rw [hM1]; exact HM1
              rw [← hM1] at HM
              clear hM1
              have HP2 : Box ((P ++ M1).length = P.length + h) := ⟨by have h1 := HM1.out.length; have h2 := HE.out; have h3 := HA1.out; have h4 := HB1.out; simp only [List.length_append] at h1 ⊢; omega⟩
              have HEQ2 : Box (P ++ (M1 ++ (A2 ++ B2)) ++ Q = P ++ M1 ++ (A2 ++ B2) ++ Q) := ⟨by simp⟩
              have HN3 : Box (∀ l, l = P ++ (M1 ++ (A2 ++ B2)) ++ Q → l.length = n) := ⟨fun l hl => by have h1 := HM1.out.length; have h2 := HN2.out _ _ rfl rfl; rw [hl]; simp only [List.length_append] at h1 h2 ⊢; omega⟩
              have HK4 := HK3.out
              clear HK3
              rcases HK4 with ⟨m1, m2, m3, m4⟩ | ⟨m1, m3⟩ | ⟨m1, m3, m4⟩
              · go_wp2_with (go_at_call 161; refine (HIH.out g (P ++ M1) A2 B2 Q sp _ _ _ cap n w0 _ R _ HEQ2.out HM (by rw [HP2.out]; omega) (by have := HA2.out; rw [HP2.out]; omega) (by have := HA2.out; have := HB2.out; rw [HP2.out]; omega) (HN3.out _ rfl) hn2 (HPW.out.2.1) (HPW.out.2.2.2) HPS.out.2 m1 m2 (by have := HA2.out; have := HB2.out; omega)).mono ?_; rintro e w1 ⟨M2, hM2, rfl, HN⟩)
                all_goals (
                  go_returns
                  exact ⟨M1 ++ M2, by rw [HA.out, HB.out]; exact SS.merge HM1.out hM2 HC.out.1 HC.out.2 HSS.out.1 HSS.out.2, rfl, by simpa using HN⟩)
              · go_wp2
                all_goals (
                  go_returns
                  refine ⟨M1 ++ (A2 ++ B2), ?_, rfl, HM⟩
                  rw [HA.out, HB.out]
                  refine SS.merge HM1.out (SS.refl ?_) HC.out.1 HC.out.2 HSS.out.1 HSS.out.2
                  rw [List.eq_nil_of_length_eq_zero m1]
                  exact HPW.out.2.2.2)
              · go_wp2
                all_goals (
                  go_returns
                  refine ⟨M1 ++ (A2 ++ B2), ?_, rfl, HM⟩
                  rw [HA.out, HB.out]
                  refine SS.merge HM1.out (SS.refl ?_) HC.out.1 HC.out.2 HSS.out.1 HSS.out.2
                  rw [List.eq_nil_of_length_eq_zero m1, List.append_nil]
                  exact HPW.out.2.1))
end Go.Proofs.Ytmmigplciogggaa
