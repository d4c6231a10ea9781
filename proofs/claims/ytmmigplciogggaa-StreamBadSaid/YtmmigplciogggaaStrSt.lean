/- A stream behind the bytes that it was given: Write, Close. -/
import Derived.Test.YtmmigplciogggaaStrP
import Derived.Test.YtmmigplciogggaaWrite
import Derived.Test.YtmmigplciogggaaClose
namespace Go.Proofs.Ytmmigplciogggaa
open Go Go.RowKit Go.PlainAid

/-- The stream q, that was given the bytes p. -/
def StA (q : Nat) (p : List Int) : Asrt := fun x => match stOf p with
  | .ok r h m _ => ∃ rs vh, bl rs = r ∧ (Strm q rs vh m 0 false * Row 3 1 vh h.length (ints h)) x
  | _ => ∃ rs vh k e, e ≠ 0 ∧ Strm q rs vh k e false x
def okS : WR → Bool
  | .ok _ _ _ _ => true
  | _ => false
def givS : WR → List Int
  | .ok _ _ _ o => o
  | _ => []
section
variable {w0 w : World} {R : Asrt} {q : Nat} {p : List Int}
theorem Sat.stOk {r h : List Int} {m : Nat} {o : List Int} (hs : stOf p = .ok r h m o) (H : Sat w0 w (StA q p * R)) : ∃ rs vh, bl rs = r ∧ Sat w0 w (Strm q rs vh m 0 false * (Row 3 1 vh h.length (ints h) * R)) := by
  have H2 : Sat w0 w (Ex (fun rs => Ex fun vh => Fact (bl rs = r) (Strm q rs vh m 0 false * Row 3 1 vh h.length (ints h))) * R) := H.imp (Asrt.sep_mono (fun x hx => by
    unfold StA at hx
    rw [hs] at hx
    obtain ⟨rs, vh, h1, h2⟩ := hx
    exact ⟨rs, vh, h1, h2⟩) fun _ b => b)
  obtain ⟨rs, H3⟩ := H2.exL
  obtain ⟨vh, H4⟩ := H3.exL
  obtain ⟨e, H5⟩ := H4.factL
  exact ⟨rs, vh, e, H5.cast (by ac_rfl)⟩
theorem Sat.mkStOk {r h : List Int} {m : Nat} {o : List Int} {rs : ByteArray} {vh : Value} (hs : stOf p = .ok r h m o) (e : bl rs = r) (H : Sat w0 w (Strm q rs vh m 0 false * (Row 3 1 vh h.length (ints h) * R))) : Sat w0 w (StA q p * R) := by
  have H2 : Sat w0 w ((Strm q rs vh m 0 false * Row 3 1 vh h.length (ints h)) * R) := H.cast (by ac_rfl)
  refine H2.imp (Asrt.sep_mono (fun x hx => ?_) fun _ b => b)
  unfold StA
  rw [hs]
  exact ⟨rs, vh, e, hx⟩
theorem Sat.stNo (hs : okS (stOf p) = false) (H : Sat w0 w (StA q p * R)) : ∃ rs vh k e, e ≠ 0 ∧ Sat w0 w (Strm q rs vh k e false * R) := by
  have H2 : Sat w0 w (Ex (fun rs => Ex fun vh => Ex fun k => Ex fun e => Fact (e ≠ 0) (Strm q rs vh k e false)) * R) := H.imp (Asrt.sep_mono (fun x hx => by
    unfold StA at hx
    cases hc : stOf p with
    | ok r h m o => rw [hc] at hs; cases hs
    | bad => rw [hc] at hx; obtain ⟨rs, vh, k, e, h1, h2⟩ := hx; exact ⟨rs, vh, k, e, h1, h2⟩
    | big => rw [hc] at hx; obtain ⟨rs, vh, k, e, h1, h2⟩ := hx; exact ⟨rs, vh, k, e, h1, h2⟩) fun _ b => b)
  obtain ⟨rs, H3⟩ := H2.exL
  obtain ⟨vh, H4⟩ := H3.exL
  obtain ⟨k, H5⟩ := H4.exL
  obtain ⟨e, H6⟩ := H5.exL
  obtain ⟨he, H7⟩ := H6.factL
  exact ⟨rs, vh, k, e, he, H7⟩
theorem Sat.mkStNo {rs : ByteArray} {vh : Value} {k e : Int} (hs : okS (stOf p) = false) (he : e ≠ 0) (H : Sat w0 w (Strm q rs vh k e false * R)) : Sat w0 w (StA q p * R) := by
  refine H.imp (Asrt.sep_mono (fun x hx => ?_) fun _ b => b)
  unfold StA
  cases hc : stOf p with
  | ok r h m o => rw [hc] at hs; cases hs
  | bad => exact ⟨rs, vh, k, e, he, hx⟩
  | big => exact ⟨rs, vh, k, e, he, hx⟩
end
theorem stOf_inv {p r h : List Int} {m : Nat} {o : List Int} (hs : stOf p = .ok r h m o) : (∀ x ∈ h, okC x) ∧ m ≤ 30 ∧ h.length ≤ m + 1 ∧ r.length ≤ p.length ∧ o.length ≤ p.length * 992 ∧ ∀ x ∈ o, 0 ≤ x ∧ x ≤ 255 := by
  obtain ⟨cs, r0, g⟩ := Rd.total _ p (Nat.le_refl _)
  unfold stOf at hs
  rw [writeL_Rd g _ _ _ _ (by omega)] at hs
  have hok := g.ok
  have hall : ∀ x ∈ cs.flatMap apart, okC x := fun x hx => by
    obtain ⟨c, hc, hx⟩ := List.mem_flatMap.1 hx
    exact (apart_ok (hok.1 c hc).1).1 x hx
  have hfl := flat_len (cs := cs) fun c hc => (hok.1 c hc).1
  cases ht : takeL (cs.flatMap apart) [] 0 [] with
  | none => rw [ht] at hs; cases hs
  | some s =>
    obtain ⟨h', m', o'⟩ := s
    rw [ht] at hs
    dsimp only at hs
    split at hs
    · simp only [WR.ok.injEq] at hs
      obtain ⟨rfl, rfl, rfl, rfl⟩ := hs
      have h1 := takeL_ok _ _ _ _ _ _ _ ht hall (fun x hx => by cases hx) (by omega) (by simp)
      have hk := takeL_kept _ _ _ _ _ _ _ _ Kept5.start ht
      refine ⟨h1.1, h1.2.1, h1.2.2.1, by omega, ?_, ?_⟩
      · have h2 := h1.2.2.2
        simp only [List.length_nil, Nat.zero_add] at h2
        have h3 : (cs.flatMap apart).length * 124 ≤ (p.length * 8) * 124 := Nat.mul_le_mul_right _ (by omega)
        omega
      · obtain ⟨D1, e1, e2, _⟩ := hk
        rw [e2]
        refine encs_bytes _ fun x hx => hall x ?_
        rw [List.nil_append] at e1
        rw [e1]
        exact List.mem_append_left _ (ordS_mem _ x hx)
    · cases hs
/-- How a Write ends. -/
def WrPost (w0 : World) (q : Nat) (p bs : List Int) (R : Asrt) (e : Ending) (w' : World) : Prop :=
  ∃ (v : Value) (out : List Int) (err : Int), e = .returned (.tuple #[v, .int .i64 err]) ∧ Sat w0 w' (StA q (p ++ bs) * (Row 5 1 v out.length (bys out) * R)) ∧
    ((okS (stOf (p ++ bs)) = true ∧ err = 0 ∧ givS (stOf (p ++ bs)) = givS (stOf p) ++ out) ∨ (okS (stOf (p ++ bs)) = false ∧ err ≠ 0 ∧ out = []))
theorem Write_st (q : Nat) (p bs : List Int) (vb : Value) (w0 w : World) (R : Asrt) (H : Sat w0 w (StA q p * (RowK 5 vb bs.length (bys bs) * R))) (hbs : ∀ x ∈ bs, 0 ≤ x ∧ x ≤ 255) (hl : p.length + bs.length ≤ 1000) :
    Calls Try.prog 19 #[sptr q, vb] w (WrPost w0 q p bs (RowK 5 vb bs.length (bys bs) * R)) := by
  cases hs : stOf p with
  | ok r h m o =>
    obtain ⟨rs, vh, rfl, H1⟩ := H.stOk hs
    obtain ⟨i1, i2, i3, i4, i5, i6⟩ := stOf_inv hs
    rw [bl_length] at i4
    have hn := stOf_next hs bs (k := (bl rs ++ bs).length + 1) (by omega)
    refine (Write_calls q rs vh vb h m bs w0 w R H1 hbs i1 i2 i3 (by omega) ((bl rs ++ bs).length + 1) (by rw [List.length_append, bl_length]; omega)).mono ?_
    intro e w' hp
    cases hw : writeL ((bl rs ++ bs).length + 1) (bl rs ++ bs) h m [] with
    | ok r' h' m' o' =>
      rw [hw] at hp hn
      obtain ⟨v, vh', r2, rfl, e2, H2⟩ := hp
      refine ⟨v, o', 0, rfl, H2.mkStOk (o := o ++ o') (by rw [hn]; rfl) e2, .inl ⟨by rw [hn]; rfl, rfl, by rw [hn, hs]; rfl⟩⟩
    | bad =>
      rw [hw] at hp hn
      obtain ⟨rfl, H2⟩ := hp
      have ho : okS (stOf (p ++ bs)) = false := by rw [hn]; rfl
      exact ⟨_, [], 1, rfl, (H2.rowNil 5 1).at2.mkStNo ho (by omega), .inr ⟨ho, by omega, rfl⟩⟩
    | big =>
      rw [hw] at hp hn
      obtain ⟨rfl, H2⟩ := hp
      have ho : okS (stOf (p ++ bs)) = false := by rw [hn]; rfl
      exact ⟨_, [], 2, rfl, (H2.rowNil 5 1).at2.mkStNo ho (by omega), .inr ⟨ho, by omega, rfl⟩⟩
  | bad =>
    obtain ⟨rs, vh, k, er, he, H1⟩ := H.stNo (by rw [hs]; rfl)
    have ho : okS (stOf (p ++ bs)) = false := by rcases stOf_bad hs bs with h | h <;> rw [h] <;> rfl
    refine (Write_err q rs vh vb k er w0 w _ H1 he).mono ?_
    rintro e w' ⟨rfl, H2⟩
    exact ⟨_, [], er, rfl, (H2.rowNil 5 1).at2.mkStNo ho he, .inr ⟨ho, he, rfl⟩⟩
  | big =>
    obtain ⟨rs, vh, k, er, he, H1⟩ := H.stNo (by rw [hs]; rfl)
    have ho : okS (stOf (p ++ bs)) = false := by rw [stOf_big hs bs]; rfl
    refine (Write_err q rs vh vb k er w0 w _ H1 he).mono ?_
    rintro e w' ⟨rfl, H2⟩
    exact ⟨_, [], er, rfl, (H2.rowNil 5 1).at2.mkStNo ho he, .inr ⟨ho, he, rfl⟩⟩
/-- How a Close ends. -/
def ClPost (w0 : World) (p : List Int) (R : Asrt) (e : Ending) (w' : World) : Prop :=
  ∃ (v : Value) (out : List Int) (err : Int), e = .returned (.tuple #[v, .int .i64 err]) ∧ Sat w0 w' (Row 5 1 v out.length (bys out) * R) ∧ out.length ≤ 1000 ∧ (∀ x ∈ out, 0 ≤ x ∧ x ≤ 255) ∧
    ((∃ F, goodT p = some F ∧ okS (stOf p) = true ∧ err = 0 ∧ givS (stOf p) ++ out = encs F) ∨ (goodT p = none ∧ err ≠ 0 ∧ out = []))
theorem Close_st (q : Nat) (p : List Int) (w0 w : World) (R : Asrt) (H : Sat w0 w (StA q p * R)) :
    Calls Try.prog 21 #[sptr q] w (ClPost w0 p R) := by
  rcases stOf_end (l := p) with ⟨F, h, m, o, hg, hs, he⟩ | ⟨hg, hs⟩
  · obtain ⟨rs, vh, hr, H1⟩ := H.stOk hs
    obtain ⟨i1, i2, i3, i4, i5, i6⟩ := stOf_inv hs
    refine (Close_ok q rs vh m h w0 w R H1 (by rw [← bl_length, hr]; rfl) i1 (by omega)).mono ?_
    rintro e w' ⟨v, rfl, H2⟩
    have hx := encs_len (ordS h)
    rw [ordS_length] at hx
    exact ⟨v, encs (ordS h), 0, rfl, H2.right, by omega, encs_bytes _ (fun x hx => i1 x (ordS_mem _ x hx)), .inl ⟨F, hg, by rw [hs]; rfl, rfl, by rw [hs]; exact he⟩⟩
  · have bad : ∀ (er : Int) (rs : ByteArray) (vh : Value) (k : Int) (w' : World), er ≠ 0 → Sat w0 w' (Strm q rs vh k er false * R) → ClPost w0 p R (.returned (.tuple #[.slice none 0 0, .int .i64 er])) w' :=
      fun er rs vh k w' he H2 => ⟨_, [], er, rfl, H2.right.rowNil _ _, by simp, (fun x hx => by cases hx), .inr ⟨hg, he, rfl⟩⟩
    have no : okS (stOf p) = false → Calls Try.prog 21 #[sptr q] w (ClPost w0 p R) := fun h => by
      obtain ⟨rs, vh, k, er, he, H1⟩ := H.stNo h
      refine (Close_err q rs vh k er w0 w _ H1 he).mono ?_
      rintro e w' ⟨rfl, H2⟩
      exact bad er rs vh k w' he H2
    rcases hs with hs | hs | ⟨r, h, m, o, hs, hr⟩
    · exact no (by rw [hs]; rfl)
    · exact no (by rw [hs]; rfl)
    · obtain ⟨rs, vh, e1, H1⟩ := H.stOk hs
      refine (Close_rest q rs vh m w0 w _ H1 (by rw [← bl_length, e1]; exact fun h => hr (List.eq_nil_of_length_eq_zero h))).mono ?_
      rintro e w' ⟨rfl, H2⟩
      exact bad 1 .empty _ 0 w' (by omega) H2.at2.right
theorem New_st (w0 w : World) (R : Asrt) (H : Sat w0 w R) : Calls Try.prog 18 #[] w (fun e w' => ∃ q, e = .returned (sptr q) ∧ Sat w0 w' (StA q [] * R)) := by
  refine (New_calls w0 w R H).mono ?_
  rintro e w' ⟨q, rfl, H1⟩
  refine ⟨q, rfl, ?_⟩
  have hs : stOf [] = .ok [] [] 0 [] := rfl
  exact (H1.rowNil 3 1).at2.mkStOk hs rfl
end Go.Proofs.Ytmmigplciogggaa
