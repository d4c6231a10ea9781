/- The stable sort of marks: insertion. -/
import Derived.Test.YtmmigplciogggaaMark
import Derived.Test.YtmmigplciogggaaStab
import Derived.Deep.LoopGhost
namespace Go.Proofs.Ytmmigplciogggaa
open Go Go.RowKit

theorem swp_at (X Y Z : List Mk) (y z : Mk) (i j : Nat) (hi : i = X.length) (hj : j = X.length + 1 + Y.length) : swp (X ++ y :: (Y ++ z :: Z)) i j = X ++ z :: (Y ++ y :: Z) ∧ swp (X ++ y :: (Y ++ z :: Z)) j i = X ++ z :: (Y ++ y :: Z) := by
  subst hi hj
  have g1 : (X ++ y :: (Y ++ z :: Z)).getD X.length (0, 0) = y := by simp [List.getD]
  have g2 : (X ++ y :: (Y ++ z :: Z)).getD (X.length + 1 + Y.length) (0, 0) = z := by
    simp only [List.getD]
    rw [List.getElem?_append_right (by omega), show X.length + 1 + Y.length - X.length = Y.length + 1 by omega, List.getElem?_cons_succ, List.getElem?_append_right (Nat.le_refl _)]
    simp
  have s1 : ∀ u v : Mk, (X ++ u :: (Y ++ z :: Z)).set X.length v = X ++ v :: (Y ++ z :: Z) := fun u v => by simp
  have s2 : ∀ u v w : Mk, (X ++ u :: (Y ++ w :: Z)).set (X.length + 1 + Y.length) v = X ++ u :: (Y ++ v :: Z) := fun u v w => by
    rw [List.set_append_right _ _ (by omega), show X.length + 1 + Y.length - X.length = Y.length + 1 by omega, List.set_cons_succ, List.set_append_right _ _ (Nat.le_refl _)]
    simp
  have s3 : ∀ u v w : Mk, (X ++ u :: (Y ++ w :: Z)).set X.length v = X ++ v :: (Y ++ w :: Z) := fun u v w => by simp
  constructor
  · unfold swp; rw [g1, g2, s1, s2]
  · unfold swp; rw [g1, g2, s2, s3]
theorem nil_or_snoc {α : Type} (A : List α) : A = [] ∨ ∃ B y, A = B ++ [y] := by
  rcases List.eq_nil_or_concat A with h | ⟨B, y, h⟩
  · exact Or.inl h
  · exact Or.inr ⟨B, y, by rw [h, List.concat_eq_append]⟩
def IntB (x : Int) (w : World) (e : Ending) (w' : World) : Prop := e = .returned (.int .i64 x) ∧ Below w.heap.size w w'
set_option maxHeartbeats 400000 in
/-- The comparison: the classes' difference. -/
theorem cmp_calls (x y : Mk) (h1 : 0 ≤ x.2) (h2 : x.2 ≤ 1000) (h3 : 0 ≤ y.2) (h4 : y.2 ≤ 1000) (w : World) :
    Calls Try.prog 131 #[.agg (mk x).toArray, .agg (mk y).toArray] w (IntB (x.2 - y.2) w) := by
  obtain ⟨x1, x2⟩ := x
  obtain ⟨y1, y2⟩ := y
  simp only at h1 h2 h3 h4
  unfold mk
  go_enter Try.func131, Try.ntmps131
  go_wp2
  go_ret
  exact ⟨rfl, by go_grown⟩

/-- All classes are small. -/
def Small (l : List Mk) : Prop := ∀ x ∈ l, 0 ≤ x.2 ∧ x.2 ≤ 1000
set_option maxHeartbeats 4000000 in
set_option maxRecDepth 100000 in
theorem ins_calls (g : Nat) (P L Q : List Mk) (sp : List Value) (a b cap n : Nat) (w0 w : World) (R : Asrt) (H : Sat w0 w (EBlk mk 156 g (P ++ L ++ Q) sp * R)) (ha : P.length = a) (hb : P.length + L.length = b) (hn : (P ++ L ++ Q).length = n)
    (hm : n ≤ 1000000000) (hs : Small L) :
    Calls Try.prog 160 #[.slice (some ⟨g, 0, none⟩) n cap, .int .i64 a, .int .i64 b, .func (.func 131) #[] #[]] w
      (fun e w' => ∃ M, SS L M ∧ Done w0 (EBlk mk 156 g (P ++ M ++ Q) sp * R) e w') := by
  have hln : P.length + L.length + Q.length = n := by rw [← hn]; simp; omega
  have HN := Box.mk hn
  have HS := Box.mk hs
  clear hn hs
  subst ha hb
  go_enter Try.func160, Try.ntmps160
  go_wp2
  go_loopg [8] (L.length) (fun k v8 wr => ∃ (t : Nat) (M : List Mk), k = L.length + 1 - t ∧ t ≤ L.length + 1 ∧ 1 ≤ t ∧ v8 = .int .i64 ((P.length : Int) + t) ∧ SS (L.take t) M ∧ Sat w0 wr (EBlk mk 156 g (P ++ (M ++ L.drop t) ++ Q) sp * R))
  case atStart =>
    refine ⟨1, L.take 1, by omega, by omega, Nat.le_refl _, rfl, SS.refl ?_, by rw [List.take_append_drop]; exact H⟩
    cases L with
    | nil => exact List.Pairwise.nil
    | cons x L => simp
  case round =>
    obtain ⟨t, M, rfl, ht, ht1, rfl, hSS, HY⟩ := hrel
    have hML := hSS.length
    have HSS := Box.mk hSS
    clear hSS
    by_cases hlt : t < L.length
    · rw [List.length_take, Nat.min_eq_left (by omega)] at hML
      go_wp2
      obtain ⟨x, hx⟩ : ∃ x, L[t] = x := ⟨_, rfl⟩
      have hdrop : L.drop t = x :: L.drop (t + 1) := by rw [List.drop_eq_getElem_cons hlt, hx]
      have hxs := HS.out x (by rw [← hx]; exact List.getElem_mem _)
      have HX := Box.mk hxs
      rw [hdrop] at HY
      have htake : L.take (t + 1) = L.take t ++ [x] := by rw [← hx, List.take_succ_eq_append_getElem hlt]
      have HT := Box.mk htake
      have hL2 : (L.drop (t + 1)).length + t + 1 = L.length := by rw [List.length_drop]; omega
      obtain ⟨D, hDd⟩ : ∃ D, L.drop (t + 1) = D := ⟨_, rfl⟩
      rw [hDd] at HY hL2
      have HDd := Box.mk hDd
      have HSm : Box (∀ y ∈ M, 0 ≤ y.2 ∧ y.2 ≤ 1000) := ⟨fun y hy => HS.out y (List.mem_of_mem_take ((SS.mem HSS.out.same).1 hy))⟩
      clear hdrop hx hxs htake hDd
      obtain ⟨wo, rfl⟩ : ∃ wo : World, wo = wr := ⟨_, rfl⟩
      go_loopg [9] (M.length) (fun k v9 wi => ∃ (A B : List Mk), k = A.length ∧ v9 = .int .i64 ((P.length : Int) + (A.length : Int)) ∧ M = A ++ B ∧ (∀ y ∈ B, x.2 < y.2) ∧ Sat w0 wi (EBlk mk 156 g (P ++ (A ++ x :: (B ++ D)) ++ Q) sp * R))
      case atStart => exact ⟨M, [], rfl, by rw [hML], by simp, by simp, by simpa using HY⟩
      case round =>
        obtain ⟨A, B, rfl, rfl, hM, hB, HI⟩ := hrel
        have HM := Box.mk hM
        have HB := Box.mk hB
        have hAM : A.length ≤ t := by rw [← hML, hM]; simp
        have hABl : A.length + B.length = t := by rw [← hML, hM]; simp
        have hlen : (P ++ (A ++ x :: (B ++ D)) ++ Q).length = n := by simp; omega
        have HLn := Box.mk hlen
        clear hM hB hlen HY
        have HD := HI.drew
        rcases nil_or_snoc A with rfl | ⟨A', y, rfl⟩
        · have hg : ¬ (P.length : Int) < (P.length : Int) + (([] : List Mk).length : Int) := by simp
          go_wp2
          refine wp_text (by kernel_rfl) (by kernel_rfl) _ rfl ?_
          go_wp2
          refine ⟨?_, by kernel_rfl⟩
          go_wp2
          go_roundg (L.length + 1 - (t + 1))
          case measure => omega
          case rel =>
            refine ⟨t + 1, x :: B, rfl, by omega, by omega, by go_num, ?_, ?_⟩
            · rw [HT.out]
              refine SS.insert (A := []) ?_ (by simp) HB.out
              have := HSS.out
              rw [HM.out] at this
              exact this
            · rw [HDd.out]
              exact HD
        · have hy := HSm.out y (by rw [HM.out]; simp)
          have HYb := Box.mk hy
          have hg : (P.length : Int) < (P.length : Int) + ((A' ++ [y] : List Mk).length : Int) := by simp; omega
          have eA : P ++ ((A' ++ [y]) ++ x :: (B ++ D)) ++ Q = (P ++ A') ++ y :: ([] ++ x :: ((B ++ D) ++ Q)) := by simp
          have gx : (P ++ ((A' ++ [y]) ++ x :: (B ++ D)) ++ Q)[P.length + (A' ++ [y]).length]? = some x := by
            rw [show P ++ ((A' ++ [y]) ++ x :: (B ++ D)) ++ Q = (P ++ (A' ++ [y])) ++ (x :: (B ++ D) ++ Q) by simp, List.getElem?_append_right (by simp)]
            simp
          have gy : (P ++ ((A' ++ [y]) ++ x :: (B ++ D)) ++ Q)[P.length + A'.length]? = some y := by
            rw [eA, List.getElem?_append_right (by simp)]
            simp
          have HGx := Box.mk gx
          have HGy := Box.mk gy
          have HEa := Box.mk eA
          have hAl : (A' ++ [y]).length = A'.length + 1 := by simp
          rw [hAl] at hg hAM hABl ⊢
          clear hy gx gy eA hAl
          by_cases hxy : x.2 < y.2
          · have hcs : x.2 - y.2 < 0 := by omega
            go_wp2
            refine wp_text (by kernel_rfl) (by kernel_rfl) _ rfl ?_
            go_wp2_with (first
              | refine wpList_loadE (enc := mk) (k := 2) rfl (.tmp 25) 156 rfl aMark sMark mk_len _ (P.length + (A'.length + 1)) rfl (by omega) HD x (by simp) ?_
              | refine wpList_loadE (enc := mk) (k := 2) rfl (.tmp 30) 156 rfl aMark sMark mk_len _ (P.length + A'.length) rfl (by omega) HD y HGy.out ?_
              | (go_at_call 131; refine (cmp_calls x y HX.out.1 HX.out.2 HYb.out.1 HYb.out.2 _).mono ?_; rintro e w1 ⟨rfl, hb⟩; have HD1 := HD.below hb))
            refine ⟨?_, by kernel_rfl⟩
            go_wp2
            have HE := HD1.drew
            refine wp_text (by kernel_rfl) (by kernel_rfl) _ rfl ?_
            go_wp2_with (first
              | refine wpList_loadE (enc := mk) (k := 2) rfl (.tmp 45) 156 rfl aMark sMark mk_len _ (P.length + A'.length) rfl (by omega) HE y HGy.out ?_
              | refine wpList_loadE (enc := mk) (k := 2) rfl (.tmp 49) 156 rfl aMark sMark mk_len _ (P.length + (A'.length + 1)) rfl (by omega) HE x (by simp) ?_
              | (refine wpList_storeE (enc := mk) (k := 2) rfl (.tmp 51) (.tmp 46) 156 rfl iMark mk_len mk_one _ (P.length + (A'.length + 1)) rfl (by omega) y rfl HE (by rw [HLn.out]; omega) ?_; intro w2 H2)
              | (refine wpList_storeE (enc := mk) (k := 2) rfl (.tmp 52) (.tmp 50) 156 rfl iMark mk_len mk_one _ (P.length + A'.length) rfl (by omega) x rfl H2 (by rw [List.length_set, HLn.out]; omega) ?_; intro w3 H3))
            refine ⟨?_, by kernel_rfl⟩
            go_wp2
            go_roundg (A'.length)
            case measure => simp
            case rel =>
              refine ⟨A', y :: B, rfl, by go_num, by rw [HM.out]; simp, ?_, ?_⟩
              · intro z hz
                rcases List.mem_cons.1 hz with rfl | hz
                · exact hxy
                · exact HB.out z hz
              · have hs := (swp_at (P ++ A') [] ((B ++ D) ++ Q) y x (P.length + A'.length) (P.length + (A'.length + 1)) (by simp) (by simp; omega)).2
                unfold swp at hs
                rw [← HEa.out] at hs
                have e1 : (P ++ (A' ++ [y] ++ x :: (B ++ D)) ++ Q).getD (P.length + A'.length) (0, 0) = y := by rw [List.getD_eq_getElem?_getD, HGy.out]; rfl
                have e2 : (P ++ (A' ++ [y] ++ x :: (B ++ D)) ++ Q).getD (P.length + (A'.length + 1)) (0, 0) = x := by rw [List.getD_eq_getElem?_getD, show P.length + (A'.length + 1) = P.length + (A' ++ [y]).length by simp, HGx.out]; rfl
                rw [e1, e2] at hs
                rw [hs] at H3
                have e3 : P ++ A' ++ x :: ([] ++ y :: (B ++ D ++ Q)) = P ++ (A' ++ x :: (y :: B ++ D)) ++ Q := by simp
                rw [e3] at H3
                exact H3
          · have hcs : ¬ x.2 - y.2 < 0 := by omega
            go_wp2
            refine wp_text (by kernel_rfl) (by kernel_rfl) _ rfl ?_
            go_wp2_with (first
              | refine wpList_loadE (enc := mk) (k := 2) rfl (.tmp 25) 156 rfl aMark sMark mk_len _ (P.length + (A'.length + 1)) rfl (by omega) HD x (by simp) ?_
              | refine wpList_loadE (enc := mk) (k := 2) rfl (.tmp 30) 156 rfl aMark sMark mk_len _ (P.length + A'.length) rfl (by omega) HD y HGy.out ?_
              | (go_at_call 131; refine (cmp_calls x y HX.out.1 HX.out.2 HYb.out.1 HYb.out.2 _).mono ?_; rintro e w1 ⟨rfl, hb⟩; have HD1 := HD.below hb))
            refine ⟨?_, by kernel_rfl⟩
            go_wp2
            go_roundg (L.length + 1 - (t + 1))
            case measure => omega
            case rel =>
              refine ⟨t + 1, (A' ++ [y]) ++ x :: B, rfl, by omega, by omega, by go_num, ?_, ?_⟩
              · rw [HT.out]
                have hs := HSS.out
                rw [HM.out] at hs
                refine SS.insert hs ?_ HB.out
                have hp := (List.pairwise_append.1 (List.pairwise_append.1 hs.sorted).1)
                intro z hz
                rcases List.mem_append.1 hz with hz | hz
                · have := hp.2.2 z hz y (by simp); omega
                · have : z = y := by simpa using hz
                  subst this; omega
              · rw [HDd.out]
                have e4 : P ++ (A' ++ [y] ++ x :: (B ++ D)) ++ Q = P ++ (A' ++ [y] ++ x :: B ++ D) ++ Q := by simp
                rw [e4] at HD1
                exact HD1
    · go_wp2
      go_returns
      have e1 : L.drop t = [] := List.drop_of_length_le (by omega)
      have e2 : L.take t = L := List.take_of_length_le (by omega)
      exact ⟨M, e2 ▸ HSS.out, rfl, by rw [e1, List.append_nil] at HY; exact HY⟩
end Go.Proofs.Ytmmigplciogggaa
