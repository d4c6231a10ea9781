/- utf.Put and stream.give walked. -/
import Derived.Test.YtmmigplciogggaaOrder
import Derived.Test.YtmmigplciogggaaRowK
import Derived.Test.YtmmigplciogggaaUtf
namespace Go.Proofs.Ytmmigplciogggaa
open Go Go.RowKit Go.PlainAid

theorem bys_cell (l : List Int) : ∀ u ∈ bys l, u.oneCell' = true := by
  intro u hu
  simp only [bys, List.mem_map] at hu
  obtain ⟨x, _, rfl⟩ := hu
  rfl
theorem bys_append (a b : List Int) : bys (a ++ b) = bys a ++ bys b := List.map_append
theorem eByte : Elem Try.prog 5 1 1 (.int .u8 0) := by unfold Elem; kernel_rfl
/-- A slice of bytes that the call hands over. -/
def BysRow (w0 : World) (R : Asrt) (l : List Int) (e : Ending) (w' : World) : Prop := ∃ v, e = .returned v ∧ Sat w0 w' (Row 5 1 v l.length (bys l) * R)
theorem enc_len (c : Int) : (enc c).length ≤ 4 := by unfold enc; split; · simp
                                                     split; · simp
                                                     split <;> simp

theorem i64_and63 {x : Int} (h₀ : 0 ≤ x) (h₁ : x < 16777216) : bits .and .i64 x 63 = x % 64 := by
  have e : (2 : Int) ^ 40 = 1099511627776 := by decide
  exact bits_mask .i64 40 (by decide) (fun n h0 h1 => by rw [IntKind.wrap_i64]; rw [e] at h1; omega) 6 (by decide) x h₀ (by rw [e]; omega)
theorem u8_or128 {x : Int} (h₀ : 0 ≤ x) (h₁ : x < 64) : bits .or .u8 128 x = 128 + x := by
  obtain ⟨n, rfl⟩ := Int.eq_ofNat_of_zero_le h₀
  have hn : n < 64 := by omega
  clear h₀ h₁
  revert hn; revert n; decide +kernel
set_option maxHeartbeats 1000000 in
set_option maxRecDepth 100000 in
theorem Put_calls (c : Int) (h0 : 0 ≤ c) (h1 : c ≤ 1114111) (l : List Int) (v : Value) (n : Nat) (w0 w : World) (R : Asrt) (H : Sat w0 w (Row 5 1 v n (bys l) * R)) (hn : n ≤ 1000000000) :
    Calls Try.prog 105 #[v, .int .i64 c] w (BysRow w0 R (l ++ enc c)) := by
  have hl : l.length = n := by have := H.rowLen; simpa [bys] using this
  have HL := Box.mk hl
  clear hl
  have hbd : ∀ k, k ≤ 4 → (n + k) * 1 ≤ 140737488355328 := fun k hk => by omega
  have HB := Box.mk hbd
  clear hbd
  obtain ⟨ar, cr, rfl, _, _⟩ := H.rowSlice
  have fin : ∀ (xs : List Int) (k : Nat) (a : Option Addr) (c2 : Nat) (w2 : World), xs.length = k → enc c = xs → Sat w0 w2 (Row 5 1 (.slice a (n + k) c2) (n + k) (bys l ++ bys xs) * R) → BysRow w0 R (l ++ enc c) (.returned (.slice a (n + k) c2)) w2 := by
    intro xs k a c2 w2 hx he H2
    refine ⟨_, rfl, ?_⟩
    rw [he, List.length_append, HL.out, hx, bys_append]; exact H2
  have FIN := Box.mk fin
  clear fin
  have e1 : bits .and .i64 c 63 = c % 64 := i64_and63 h0 (by omega)
  have e2 : bits .and .i64 (c / 64) 63 = c / 64 % 64 := i64_and63 (by omega) (by omega)
  have e3 : bits .and .i64 (c / 4096) 63 = c / 4096 % 64 := i64_and63 (by omega) (by omega)
  by_cases c1 : c < 128
  · go_enter Try.func105, Try.ntmps105
    go_wp2_with (at_builtin; go_loud (refine wpList_append_sep (w0 := w0) rfl (.tmp 8) (.tmp 11) 32 rfl Try.underlying32 eByte rfl (by decide) (by decide) rfl rfl (H.allocX _) (reads_newg _ #[.int .u8 c] 5 1 _ rfl (by simp)) (bys_cell [c]) (HB.out 1 (by decide)) ?_); intro a3 c3 w3 H3)
    go_ret
    exact FIN.out [c] 1 _ _ _ rfl (by unfold enc; rw [if_pos (by omega)]) H3
  by_cases c2 : c < 2048
  · go_enter Try.func105, Try.ntmps105
    go_wp2_with (at_builtin; go_loud (refine wpList_append_sep (w0 := w0) rfl (.tmp 16) (.tmp 25) 32 rfl Try.underlying32 eByte rfl (by decide) (by decide) rfl rfl (H.allocX _) (reads_newg _ #[.int .u8 (192 + c / 64), .int .u8 (128 + c % 64)] 5 2 _ rfl (by simp)) (bys_cell [192 + c / 64, 128 + c % 64]) (HB.out 2 (by decide)) ?_); intro a3 c3 w3 H3)
    go_ret
    exact FIN.out [192 + c / 64, 128 + c % 64] 2 _ _ _ rfl (by unfold enc; rw [if_neg (by omega), if_pos (by omega)]) H3
  by_cases c4 : c < 65536
  · go_enter Try.func105, Try.ntmps105
    go_wp2_with (at_builtin; go_loud (refine wpList_append_sep (w0 := w0) rfl (.tmp 30) (.tmp 44) 32 rfl Try.underlying32 eByte rfl (by decide) (by decide) rfl rfl (H.allocX _) (reads_newg _ #[.int .u8 (224 + c / 4096), .int .u8 (128 + c / 64 % 64), .int .u8 (128 + c % 64)] 5 3 _ rfl (by simp)) (bys_cell [224 + c / 4096, 128 + c / 64 % 64, 128 + c % 64]) (HB.out 3 (by decide)) ?_); intro a3 c3 w3 H3)
    go_ret
    exact FIN.out [224 + c / 4096, 128 + c / 64 % 64, 128 + c % 64] 3 _ _ _ rfl (by unfold enc; rw [if_neg (by omega), if_neg (by omega), if_pos (by omega)]) H3
  · go_enter Try.func105, Try.ntmps105
    go_wp2_with (at_builtin; go_loud (refine wpList_append_sep (w0 := w0) rfl (.tmp 46) (.tmp 65) 32 rfl Try.underlying32 eByte rfl (by decide) (by decide) rfl rfl (H.allocX _) (reads_newg _ #[.int .u8 (240 + c / 262144), .int .u8 (128 + c / 4096 % 64), .int .u8 (128 + c / 64 % 64), .int .u8 (128 + c % 64)] 5 4 _ rfl (by simp)) (bys_cell [240 + c / 262144, 128 + c / 4096 % 64, 128 + c / 64 % 64, 128 + c % 64]) (HB.out 4 (by decide)) ?_); intro a3 c3 w3 H3)
    go_ret
    exact FIN.out [240 + c / 262144, 128 + c / 4096 % 64, 128 + c / 64 % 64, 128 + c % 64] 4 _ _ _ rfl (by unfold enc; rw [if_neg (by omega), if_neg (by omega), if_neg (by omega)]) H3

/-- Characters' bytes. -/
def encs (l : List Int) : List Int := l.flatMap enc
theorem encs_len (l : List Int) : (encs l).length ≤ l.length * 4 := by
  induction l with
  | nil => simp [encs]
  | cons x l ih => unfold encs at ih ⊢; rw [List.flatMap_cons, List.length_append, List.length_cons, Nat.succ_mul]; have := enc_len x; omega
theorem ordS_length (l : List Int) : (ordS l).length = l.length := by
  have := ordSt_length l
  unfold ordS
  simp [(srt_SS (ordSt l).1).length]; omega
theorem ordS_mem_aux (l : List Int) : ∀ x, x ∈ (ordSt l).2 ++ (ordSt l).1.map (·.1) → x ∈ l := by
  refine snoc_ind (P := fun l => ∀ x, x ∈ (ordSt l).2 ++ (ordSt l).1.map (·.1) → x ∈ l) l ?_ ?_
  · intro x hx; cases hx
  · intro l c ih x hx
    rw [ordSt_snoc] at hx
    unfold ordStep at hx
    split at hx
    · simp only [List.map_append, List.mem_append, List.map_cons, List.map_nil, List.mem_singleton] at hx ih ⊢
      rcases hx with hx | hx | hx
      · exact .inl (ih x (.inl hx))
      · exact .inl (ih x (.inr hx))
      · exact .inr hx
    · simp only [List.map_nil, List.append_nil, List.mem_append, List.mem_singleton, List.mem_map] at hx ih ⊢
      rcases hx with (hx | ⟨y, hy, rfl⟩) | hx
      · exact .inl (ih x (.inl hx))
      · exact .inl (ih _ (.inr ⟨y, (SS.mem (srt_SS _).same).1 hy, rfl⟩))
      · exact .inr hx
theorem ordS_mem (l : List Int) : ∀ x, x ∈ ordS l → x ∈ l := by
  intro x hx
  unfold ordS at hx
  refine ordS_mem_aux l x ?_
  simp only [List.mem_append, List.mem_map] at hx ⊢
  rcases hx with hx | ⟨y, hy, rfl⟩
  · exact .inl hx
  · exact .inr ⟨y, (SS.mem (srt_SS _).same).1 hy, rfl⟩

set_option maxHeartbeats 1000000 in
set_option maxRecDepth 100000 in
theorem give_calls (l : List Int) (v : Value) (w0 w : World) (R : Asrt) (H : Sat w0 w (Row 3 1 v l.length (ints l) * R)) (hm : l.length ≤ 1000000) (hl : ∀ x ∈ l, 0 ≤ x ∧ x ≤ 1114111) :
    Calls Try.prog 55 #[v] w (BysRow w0 (Row 3 1 v l.length (ints l) * R) (encs (ordS l))) := by
  have HL := Box.mk hl
  have hol := ordS_length l
  have HOL := Box.mk hol
  clear hl hol
  go_enter Try.func55, Try.ntmps55
  go_wp2_with fail
  refine (Order_calls l v w0 _ R H hm (fun x hx => (HL.out x hx).2)).mono ?_
  rintro e w1 ⟨v2, rfl, H1⟩
  obtain ⟨ar, cr, rfl, hcr, hcm⟩ := H1.rowSlice
  have HCM := Box.mk hcm
  have hm2 : (ordS l).length ≤ 1000000 := by rw [HOL.out]; exact hm
  obtain ⟨L, hLd⟩ : ∃ L, L = ordS l := ⟨_, rfl⟩
  rw [← hLd] at H1 hcr hm2 ⊢
  have HLd := Box.mk hLd
  clear hcm hLd
  go_wp2_with fail
  have H2 := (H1.rowNil 5 1)
  go_loopg [3, 9] (L.length) (fun k v3 v9 wr => ∃ t : Nat, k = L.length - t ∧ t ≤ L.length ∧ v9 = .int .i64 t ∧ Sat w0 wr (Row 5 1 v3 (encs (L.take t)).length (bys (encs (L.take t))) * (Row 3 1 (.slice ar L.length cr) L.length (ints L) * (Row 3 1 v l.length (ints l) * R))))
  case atStart => exact ⟨0, rfl, by omega, rfl, H2⟩
  case round =>
    obtain ⟨t, rfl, ht, rfl, HI⟩ := hrel
    clear H H1 H2
    by_cases hlt : t < L.length
    · obtain ⟨g, rfl⟩ := HI.at2.rowSome (by omega)
      obtain ⟨x, hx⟩ : ∃ x, L[t]? = some x := ⟨L[t], List.getElem?_eq_getElem hlt⟩
      have hT : L.take (t + 1) = L.take t ++ [x] := by
        obtain ⟨hq, rfl⟩ := List.getElem?_eq_some_iff.1 hx
        exact List.take_succ_eq_append_getElem hq
      have hcell : wr.cell? ⟨g, t, none⟩ = some (.int .i64 x) := by
        rcases HI.at2.rowReads.2 with ⟨h, _⟩ | ⟨a', c', h, _, hc⟩
        · cases h
        · cases h
          have := hc t (.int .i64 x) (by simp [ints, hx])
          rwa [addr_add0, Nat.zero_add] at this
      have hxb := HL.out x (ordS_mem l x (by rw [← HLd.out]; exact List.mem_of_getElem? hx))
      have hen := encs_len (L.take t)
      rw [List.length_take, Nat.min_eq_left ht] at hen
      have HP := Put_calls x hxb.1 hxb.2 (encs (L.take t)) _ _ w0 wr _ HI (by omega)
      have HPb := Box.mk HP
      have HTb := Box.mk hT
      clear hx hT hxb hen HP
      go_wp2_with (go_at_call 105; refine HPb.out.mono ?_; rintro e w2 ⟨v5, rfl, H5⟩)
      go_roundg (L.length - (t + 1))
      case measure => omega
      case rel =>
        refine ⟨t + 1, rfl, by omega, by go_num, ?_⟩
        rw [HTb.out, show encs (L.take t ++ [x]) = encs (L.take t) ++ enc x by simp [encs]]
        exact H5
    · obtain rfl : t = L.length := by omega
      go_wp2_with fail
      go_ret
      refine ⟨_, rfl, ?_⟩
      rw [List.take_of_length_le (Nat.le_refl _)] at HI
      rw [← HLd.out]
      exact HI.at2.right
end Go.Proofs.Ytmmigplciogggaa
