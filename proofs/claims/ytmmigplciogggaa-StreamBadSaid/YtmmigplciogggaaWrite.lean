/- stream.Write walked. -/
import Derived.Test.YtmmigplciogggaaWriteS
import Derived.Deep.Cut
namespace Go.Proofs.Ytmmigplciogggaa
open Go Go.RowKit Go.PlainAid

theorem bytesOf_eq (v : Value) (n : Nat) (bs : List Int) (w : World) (h : Reads w 1 v n (bys bs)) : (convert 32 9 v).run Try.prog w = .ok (.string (strOfNums bs)) w :=
  Reads.toStr _ _ _ Try.underlying32 Try.underlying5 Try.underlying9 h
/-- How Write ends. -/
def WriteIs (w0 : World) (p : Nat) (R : Asrt) (o : WR) (e : Ending) (w' : World) : Prop :=
  match o with
  | .ok rest h m out => ∃ v vh r, e = .returned (.tuple #[v, .int .i64 0]) ∧ bl r = rest ∧ Sat w0 w' (Strm p r vh m 0 false * (Row 3 1 vh h.length (ints h) * (Row 5 1 v out.length (bys out) * R)))
  | .bad => e = .returned (.tuple #[.slice none 0 0, .int .i64 1]) ∧ Sat w0 w' (Strm p .empty (.slice none 0 0) 0 1 false * R)
  | .big => e = .returned (.tuple #[.slice none 0 0, .int .i64 2]) ∧ Sat w0 w' (Strm p .empty (.slice none 0 0) 0 2 false * R)
set_option maxHeartbeats 4000000 in
set_option maxRecDepth 100000 in
theorem Write_calls (p : Nat) (r : ByteArray) (vh vb : Value) (h : List Int) (m : Nat) (bs : List Int) (w0 w : World) (R : Asrt)
    (H : Sat w0 w (Strm p r vh m 0 false * (Row 3 1 vh h.length (ints h) * (RowK 5 vb bs.length (bys bs) * R)))) (hbs : ∀ x ∈ bs, 0 ≤ x ∧ x ≤ 255) (hh : ∀ x ∈ h, okC x) (hm : m ≤ 30) (hhl : h.length ≤ m + 1) (hr : r.size + bs.length ≤ 1000) (k : Nat) (hk : r.size + bs.length < k) :
    Calls Try.prog 19 #[sptr p, vb] w (WriteIs w0 p (RowK 5 vb bs.length (bys bs) * R) (writeL k (bl r ++ bs) h m [])) := by
  obtain ⟨ab, cb, rfl, hcb, hcm⟩ := H.at3.rowKSlice
  obtain ⟨W, hW⟩ : ∃ W, writeL k (bl r ++ bs) h m [] = W := ⟨_, rfl⟩
  rw [hW]
  have HWW := Box.mk hW
  clear hW
  have H0 : Sat w0 w (Blk p #[.string r, vh, .int .i64 m, .int .i64 0, .bool false] 91 * _) := H
  have c0 := H0.cell 0
  have c3 := H0.cell 3
  have c4 := H0.cell 4
  have f0 := H0.free 0
  simp only [List.getElem?_toArray, List.getElem?_cons_zero, List.getElem?_cons_succ] at c0 c3 c4
  have hconv : ∀ W, (∀ a, W.cell? a = w.cell? a) → (convert 32 9 (.slice ab bs.length cb)).run Try.prog W = .ok (.string (strOfNums bs)) W := fun W hW => bytesOf_eq _ bs.length bs W (by
    have := H.at3.rowKReads
    refine ⟨this.1, this.2.imp id ?_⟩
    rintro ⟨a, c, h1, h2, h3⟩
    exact ⟨a, c, h1, h2, fun j u hj => by rw [hW]; exact h3 j u hj⟩)
  have hconv2 := hconv w.drew (fun _ => rfl)
  clear hconv
  have H1 := H0.drew.setCell 0 (.string (r ++ strOfNums bs))
  have hsz : (strOfNums bs).size = bs.length := by rw [← bl_length, bl_strOf hbs]
  have HT : Box (bl (r ++ strOfNums bs) = bl r ++ bs) := ⟨by rw [bl_append, bl_strOf hbs]⟩
  have HTS : Box ((r ++ strOfNums bs).size = r.size + bs.length) := ⟨by rw [← bl_length, bl_append, bl_strOf hbs, List.length_append, bl_length]⟩
  have HCM := Box.mk hcm
  have HBS := Box.mk hbs
  have HH := Box.mk hh
  clear hcm hbs hh H H0
  unfold sptr
  go_enter Try.func19, Try.ntmps19
  go_wp2
  refine wp_text (by kernel_rfl) (by kernel_rfl) _ rfl ?_
  go_wp2
  refine ⟨?_, by kernel_rfl⟩
  go_wp2
  clear c0 c3 c4 f0 hconv2 hsz
  obtain ⟨T, hT⟩ : ∃ T, r ++ strOfNums bs = T := ⟨_, rfl⟩
  rw [hT] at H1 HT HTS ⊢
  clear hT
  have HTW : Box (writeL k (bl T) h m [] = W) := ⟨by rw [HT.out]; exact HWW.out⟩
  have hTs : T.size ≤ 1000 ∧ T.size < k := by rw [HTS.out]; omega
  go_loopg [6, 7, 8] (T.size) (fun g v6 v7 v8 wr => ∃ (r2 : ByteArray) (h2 o2 : List Int) (m2 j : Nat) (vh2 : Value), g = r2.size ∧ r2.size ≤ 1000 ∧ r2.size < j ∧ Box (writeL j (bl r2) h2 m2 o2 = W) ∧ Box (∀ x ∈ h2, okC x) ∧ m2 ≤ 30 ∧ h2.length ≤ m2 + 1 ∧ o2.length + r2.size * 1000 ≤ T.size * 1000 ∧
    Sat w0 wr (Strm p r2 vh2 m2 0 false * (Row 3 1 vh2 h2.length (ints h2) * (Row 5 1 v6 o2.length (bys o2) * (RowK 5 (.slice ab bs.length cb) bs.length (bys bs) * R)))))
  case atStart => exact ⟨T, h, [], m, k, vh, rfl, hTs.1, hTs.2, HTW, HH, hm, hhl, by simp, (H1.rowNil 5 1).at3.at3⟩
  case round =>
    obtain ⟨r2, h2, o2, m2, j, vh2, rfl, hr2, hj, HW, HH2, hm2, hl2, ho2, HI⟩ := hrel
    clear H1 hTs
    have HS : Sat w0 wr (Blk p #[.string r2, vh2, .int .i64 m2, .int .i64 0, .bool false] 91 * _) := HI
    have c0 := HS.cell 0
    have f0 := HS.free 0
    simp only [List.getElem?_toArray, List.getElem?_cons_zero, List.getElem?_cons_succ] at c0
    by_cases hz : r2.size = 0
    · have hn := empty_toList hz
      clear f0
      go_wp2
      go_ret2
      have he : bl r2 = [] := (bl_nil_iff r2).2 (empty_toList hz)
      have := HW.out
      rw [he, writeL_nil] at this
      rw [← this]
      exact ⟨u6, vh2, r2, rfl, he, HI⟩
    · have hn := full_toList (s := r2) (by omega)
      have hne : bl r2 ≠ [] := by intro e; have := bl_length r2; rw [e] at this; simp at this; omega
      have HNE := Box.mk hne
      have hbl : (bl r2).length < j := by rw [bl_length]; exact hj
      have HBL := Box.mk hbl
      have HF := Box.mk (First_calls r2 (by omega) wr)
      clear hne hbl
      cases hd : dec (bl r2) with
      | none =>
        have HD := Box.mk hd
        have hfr : firstR (dec (bl r2)) = .tuple #[.int .i64 (-1), .int .i64 0] := by rw [hd]; rfl
        have HFR := Box.mk hfr
        clear hd hfr
        cases hb : beginsB (bl r2) with
        | true =>
          have HB := Box.mk (show Calls Try.prog 52 #[.string r2] wr (BoolB true wr) by rw [← hb]; exact Begins_calls r2 (by omega) wr)
          have HWH := writeL_held (h := h2) (o := o2) (m := m2) HBL.out HNE.out HD.out hb
          rw [HW.out] at HWH
          clear hb
          go_wp2_with (first
            | (go_at_call 51; refine HF.out.mono ?_; rintro e w1 ⟨rfl, rfl⟩; rw [HFR.out])
            | (go_at_call 52; refine HB.out.mono ?_; rintro e w1 ⟨rfl, hb1⟩))
          go_ret2
          rw [HWH]
          exact ⟨u6, vh2, r2, rfl, rfl, HI.below hb1⟩
        | false =>
          have HB := Box.mk (show Calls Try.prog 52 #[.string r2] wr (BoolB false wr) by rw [← hb]; exact Begins_calls r2 (by omega) wr)
          have HWH := writeL_bad (h := h2) (o := o2) (m := m2) HBL.out HNE.out HD.out hb
          rw [HW.out] at HWH
          clear hb
          go_wp2_with (first
            | (go_at_call 51; refine HF.out.mono ?_; rintro e w1 ⟨rfl, rfl⟩; rw [HFR.out])
            | (go_at_call 52; refine HB.out.mono ?_; rintro e w1 ⟨rfl, hb1⟩; have HI1 := HI.below hb1)
            | (go_at_call 53; refine (fail_calls p r2 vh2 m2 0 1 false w0 _ _ HI1).mono ?_; rintro e w6 ⟨rfl, H6⟩))
          go_ret2
          rw [HWH]
          exact ⟨rfl, H6.at2.right.at2.right⟩
      | some cn =>
        obtain ⟨c, n⟩ := cn
        have HD := Box.mk hd
        have hfr : firstR (dec (bl r2)) = .tuple #[.int .i64 c, .int .i64 n] := by rw [hd]; rfl
        have HFR := Box.mk hfr
        obtain ⟨n1, n2, oc, _⟩ := dec_ok hd
        rw [bl_length] at n2
        have HOC := Box.mk oc
        clear hd hfr oc
        obtain ⟨E, hE⟩ : ∃ E, r2.extract n r2.size = E := ⟨_, rfl⟩
        have hex : bl E = (bl r2).drop n := by rw [← hE, bl_extract, List.take_of_length_le (by rw [List.length_drop, bl_length]; exact Nat.le_refl _)]
        have hexs : E.size = r2.size - n := by rw [← bl_length, hex, List.length_drop, bl_length]
        have HEX := Box.mk hex
        have HEXS := Box.mk hexs
        have H1 : Sat w0 (wr.setCell ⟨p, 0, none⟩ (.string E)) (Strm p E vh2 m2 0 false * (Row 3 1 vh2 h2.length (ints h2) * (Row 5 1 u6 o2.length (bys o2) * (RowK 5 (.slice ab bs.length cb) bs.length (bys bs) * R)))) := HS.setCell 0 (.string E)
        have HO2 : Box (o2.length ≤ 10000000) := ⟨by have := HTS.out; omega⟩
        have HTk := Box.mk (take_calls c HOC.out p E vh2 u6 h2 m2 o2 false w0 _ _ H1 HH2.out (by omega) (by omega) HO2.out)
        clear hex hexs
        cases ht : takeL (apart c) h2 m2 o2 with
        | none =>
          have HWH := writeL_big HBL.out HNE.out HD.out ht
          rw [HW.out] at HWH
          rw [ht] at HTk
          clear ht
          go_upto_region 13 with (first
            | (go_at_call 51; refine HF.out.mono ?_; rintro e w1 ⟨rfl, rfl⟩; rw [HFR.out]))
          go_wp2_with (go_at_call 54; refine HTk.out.mono ?_; intro e w6 H6; obtain ⟨rfl, H6⟩ : _ ∧ _ := H6; have c6 : w6.cell? ⟨p, 3, none⟩ = some (.int .i64 2) := by rw [Sat.cell (t := 91) H6]; rfl)
          refine wp_text (by kernel_rfl) (by kernel_rfl) _ rfl ?_
          go_wp2
          refine ⟨?_, by kernel_rfl⟩
          go_wp2
          go_ret2
          rw [HWH]
          exact ⟨rfl, H6.drew⟩
        | some q =>
          obtain ⟨h3, o3⟩ := q
          obtain ⟨m3, o3⟩ := o3
          have hap := apart_ok HOC.out
          have htk := takeL_ok _ _ _ _ _ _ _ ht hap.1 HH2.out hm2 hl2
          obtain ⟨j2, hj1, hj2, hws⟩ := writeL_step HBL.out HNE.out HD.out ht
          rw [HW.out, ← HEX.out] at hws
          rw [← HEX.out, bl_length] at hj2
          have HW2 := Box.mk hws.symm
          have HH3 := Box.mk htk.1
          have t1 := htk.2.1
          have t2 := htk.2.2.1
          have t3 : o3.length ≤ o2.length + 992 := by have := htk.2.2.2; have := hap.2; omega
          rw [ht] at HTk
          clear ht hap htk hws hj1
          go_upto_region 13 with (first
            | (go_at_call 51; refine HF.out.mono ?_; rintro e w1 ⟨rfl, rfl⟩; rw [HFR.out]))
          go_wp2_with (go_at_call 54; refine HTk.out.mono ?_; intro e w6 H6; obtain ⟨v6, vh6, rfl, H6⟩ : ∃ v vh, _ ∧ _ := H6; have c6 : w6.cell? ⟨p, 3, none⟩ = some (.int .i64 0) := by rw [Sat.cell (t := 91) H6]; rfl)
          go_roundg (E.size)
          case measure => have := HEXS.out; omega
          case rel => exact ⟨E, h3, o3, m3, j2, vh6, rfl, by have := HEXS.out; omega, hj2, HW2, HH3, t1, t2, by have := HEXS.out; omega, H6⟩
end Go.Proofs.Ytmmigplciogggaa
