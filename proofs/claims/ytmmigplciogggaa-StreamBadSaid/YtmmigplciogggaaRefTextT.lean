/- The reference's Text. -/
import Derived.Test.YtmmigplciogggaaRefText
namespace Go.Proofs.Ytmmigplciogggaa
open Go Go.RowKit Go.PlainAid

theorem mapOf_valid (c : Int) : ∀ x ∈ mapOf c, validB x = true := by
  have hall : (mapTab.all fun r => r.2.all fun x => validB x) = true := by kernel_rfl
  unfold mapOf
  cases hf : mapTab.find? fun r => decide (r.1 = c) with
  | none => simp
  | some r =>
    have := List.all_eq_true.1 hall r (List.mem_of_find?_eq_some hf)
    simp only [List.all_eq_true] at this
    simpa using this
theorem apart_valid {c : Int} (h : validB c = true) : ∀ x ∈ apart c, validB x = true := by
  intro x hx
  unfold apart at hx
  split at hx
  · unfold splitS at hx
    split at hx
    · cases hx
    · rename_i hs
      by_cases hz : (c - 44032) % 28 = 0
      · simp [hz] at hx
        rcases hx with rfl | rfl <;> (simp [validB]; omega)
      · simp [hz] at hx
        rcases hx with rfl | rfl | rfl <;> (simp [validB]; omega)
  · split at hx
    · exact mapOf_valid c x hx
    · have : x = c := by simpa using hx
      rw [this]; exact h
theorem readL_ok : ∀ (k : Nat) (l cs : List Int), readL k l = some cs → (∀ c ∈ cs, okC c ∧ validB c = true) ∧ cs.length ≤ l.length
  | 0, l, cs, h => by
    simp only [readL, Option.some.injEq] at h
    subst h; simp
  | k + 1, [], cs, h => by
    simp only [readL, Option.some.injEq] at h
    subst h; simp
  | k + 1, b :: t, cs, h => by
    rw [readL] at h
    cases hd : dec (b :: t) with
    | none => rw [hd] at h; simp at h
    | some cn =>
      obtain ⟨c, n⟩ := cn
      rw [hd] at h
      simp only [Option.map_eq_some_iff] at h
      obtain ⟨ds, h1, rfl⟩ := h
      have h2 := readL_ok k _ ds h1
      have h3 := dec_ok hd
      refine ⟨fun x hx => ?_, ?_⟩
      · rcases List.mem_cons.1 hx with rfl | hx
        · exact h3.2.2
        · exact h2.1 x hx
      · have := h2.2
        rw [List.length_drop] at this
        rw [List.length_cons]; omega
    · simp
theorem formL_ok {cs : List Int} (h : ∀ c ∈ cs, okC c ∧ validB c = true) : ∀ x ∈ ordS (cs.flatMap apart), okC x ∧ validB x = true := by
  intro x hx
  obtain ⟨c, hc, hx2⟩ := List.mem_flatMap.1 (ordS_mem _ x hx)
  exact ⟨(apart_ok (h c hc).1).1 x hx2, apart_valid (h c hc).2 x hx2⟩
theorem flat_len {cs : List Int} (h : ∀ c ∈ cs, okC c) : (cs.flatMap apart).length ≤ cs.length * 8 := by
  induction cs with
  | nil => simp
  | cons c cs ih =>
    have := (apart_ok (h c (by simp))).2
    have h2 := ih fun x hx => h x (by simp [hx])
    rw [List.flatMap_cons, List.length_append, List.length_cons]; omega
/-- What Text answers. -/
def TextIs (w0 : World) (R : Asrt) (o : Option (List Int)) (e : Ending) (w' : World) : Prop :=
  match o with
  | none => e = .returned (.tuple #[.string .empty, .bool false]) ∧ Sat w0 w' R
  | some cs => e = .returned (.tuple #[.string (strOfNums (encs (ordS (cs.flatMap apart)))), .bool true]) ∧ Sat w0 w' R
set_option maxHeartbeats 2000000 in
set_option maxRecDepth 100000 in
theorem RText_calls (s : ByteArray) (hs : s.size ≤ 10000) (k : Nat) (hk : s.size < k) (w0 w : World) (R : Asrt) (H : Sat w0 w R) : Calls Try.prog 15 #[.string s] w (TextIs w0 R (readL k (bl s))) := by
  have HR := Box.mk (Read_calls s (by omega) k hk w0 w R H)
  cases hr : readL k (bl s) with
  | none =>
    rw [hr] at HR
    clear hr
    go_enter Try.func15, Try.ntmps15
    go_wp2_with (go_at_call 16; (with_reducible refine HR.out.mono ?_); rintro e w1 ⟨rfl, H1⟩)
    go_ret2
    exact ⟨rfl, H1⟩
  | some cs =>
    rw [hr] at HR
    have hok := readL_ok k _ _ hr
    rw [bl_length] at hok
    have hfl := flat_len (cs := cs) fun c hc => (hok.1 c hc).1
    have HOK := Box.mk hok.1
    have hlen := hok.2
    clear hr hok
    go_enter Try.func15, Try.ntmps15
    go_wp2_with (first
      | (go_at_call 16; (with_reducible refine HR.out.mono ?_); rintro e w1 ⟨v1, rfl, H1⟩)
      | (go_at_call 48; (refine (RChars_calls cs v1 w0 _ R H1 (by omega) (fun x hx => (HOK.out x hx).1)).mono ?_); rintro e w2 ⟨v2, rfl, H2⟩)
      | (go_at_call 47; (refine (WriteR_calls _ v2 w0 _ _ H2 (by rw [ordS_length]; omega) (formL_ok HOK.out)).mono ?_); rintro e w3 ⟨rfl, H3⟩))
    go_ret2
    exact ⟨rfl, H3.right.right⟩
end Go.Proofs.Ytmmigplciogggaa
