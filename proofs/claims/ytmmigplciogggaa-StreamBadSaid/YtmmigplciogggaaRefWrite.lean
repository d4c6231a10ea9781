/- The reference's Write and Split. -/
import Derived.Test.YtmmigplciogggaaRefRead
import Derived.Test.YtmmigplciogggaaApart
namespace Go.Proofs.Ytmmigplciogggaa
open Go Go.RowKit Go.PlainAid

theorem encs_bytes (l : List Int) (h : ∀ x ∈ l, okC x) : ∀ x ∈ encs l, 0 ≤ x ∧ x ≤ 255 := by
  intro x hx
  unfold encs at hx
  obtain ⟨c, hc, hx⟩ := List.mem_flatMap.1 hx
  exact enc_bytes (h c hc).1 (h c hc).2 x hx
set_option maxHeartbeats 4000000 in
set_option maxRecDepth 100000 in
/-- Write of characters, all of them valid. -/
theorem WriteR_calls (l : List Int) (v : Value) (w0 w : World) (R : Asrt) (H : Sat w0 w (Row 3 1 v l.length (ints l) * R)) (hm : l.length ≤ 100000) (hl : ∀ x ∈ l, okC x ∧ validB x = true) :
    Calls Try.prog 47 #[v] w (fun e w' => e = .returned (.tuple #[.string (strOfNums (encs l)), .bool true]) ∧ Sat w0 w' (Row 3 1 v l.length (ints l) * R)) := by
  obtain ⟨ar, cr, rfl, hcr, hcm⟩ := H.rowSlice
  have HL := Box.mk hl
  have HCM := Box.mk hcm
  clear hl hcm
  go_enter Try.func47, Try.ntmps47
  go_wp2
  go_loopg [4, 5] (l.length) (fun g v4 v5 wr => ∃ (t : Nat) (s : ByteArray), g = l.length - t ∧ t ≤ l.length ∧ v5 = .int .i64 t ∧ v4 = .string s ∧ Box (bl s = encs (l.take t)) ∧ s.size ≤ t * 4 ∧ Sat w0 wr (Row 3 1 (.slice ar l.length cr) l.length (ints l) * R))
  case atStart => exact ⟨0, _, rfl, by omega, rfl, rfl, ⟨by rfl⟩, by decide, H⟩
  case round =>
    obtain ⟨t, s, rfl, ht, rfl, rfl, HS, hsz, HI⟩ := hrel
    clear H
    by_cases hlt : t < l.length
    · obtain ⟨g, rfl⟩ := HI.rowSome (by omega)
      obtain ⟨x, hx⟩ : ∃ x, l[t]? = some x := ⟨l[t], List.getElem?_eq_getElem hlt⟩
      have hT : l.take (t + 1) = l.take t ++ [x] := by
        obtain ⟨hq, rfl⟩ := List.getElem?_eq_some_iff.1 hx
        exact List.take_succ_eq_append_getElem hq
      have hcell : wr.cell? ⟨g, t, none⟩ = some (.int .i64 x) := by
        rcases HI.rowReads.2 with ⟨h, _⟩ | ⟨a', c', h, _, hc⟩
        · cases h
        · cases h
          have := hc t (.int .i64 x) (by simp [ints, hx])
          rwa [addr_add0, Nat.zero_add] at this
      have hxb := HL.out x (List.mem_of_getElem? hx)
      have HV : Box (Calls Try.prog 93 #[.int .i64 x] wr fun e w' => e = .returned (.bool true) ∧ wr = w') := ⟨by have := rvalid_calls x wr; rwa [hxb.2] at this⟩
      have HO := Box.mk (one_calls x hxb.1.1 hxb.1.2 wr)
      have hbl : bl (strOfNums (enc x)) = enc x := bl_strOf (enc_bytes hxb.1.1 hxb.1.2)
      have hes : (strOfNums (enc x)).size ≤ 4 := by rw [← bl_length, hbl]; exact enc_len x
      have HS2 : Box (bl (s ++ strOfNums (enc x)) = encs (l.take (t + 1))) := ⟨by rw [bl_append, hbl, HS.out, hT]; simp [encs]⟩
      have hs2 : (s ++ strOfNums (enc x)).size = s.size + (strOfNums (enc x)).size := by rw [← bl_length, bl_append, List.length_append, bl_length, bl_length]
      have HS3 : Box ((s ++ strOfNums (enc x)).size ≤ (t + 1) * 4) := ⟨by rw [hs2]; omega⟩
      clear hx hT hxb hbl hs2
      go_wp2_with (first
        | (go_at_call 93; refine HV.out.mono ?_; rintro e w1 ⟨rfl, rfl⟩)
        | (go_at_call 94; refine HO.out.mono ?_; rintro e w2 ⟨rfl, hb⟩; have HI1 := HI.below hb))
      go_roundg (l.length - (t + 1))
      case measure => omega
      case rel => exact ⟨t + 1, _, rfl, by omega, by go_num, rfl, HS2, HS3.out, HI1⟩
    · obtain rfl : t = l.length := by omega
      go_wp2
      go_ret2
      refine ⟨?_, HI⟩
      have : s = strOfNums (encs l) := bl_inj (by rw [HS.out, List.take_of_length_le (Nat.le_refl _), bl_strOf (encs_bytes l fun x hx => (HL.out x hx).1)])
      rw [this]
      rfl
set_option maxHeartbeats 2000000 in
set_option maxRecDepth 100000 in
theorem RSplit_calls (c : Int) (h1 : c ≤ 1114111) (w0 w : World) (R : Asrt) (H : Sat w0 w R) : Calls Try.prog 122 #[.int .i64 c] w (IntsOut w0 R (splitS c)) := by
  by_cases d1 : c < 44032
  · have E := Box.mk (show splitS c = [] by unfold splitS; rw [if_pos (.inl d1)])
    go_enter Try.func122, Try.ntmps122
    go_wp2
    go_ret
    exact IntsOut.nil E.out H
  by_cases d2 : c > 55203
  · have E := Box.mk (show splitS c = [] by unfold splitS; rw [if_pos (.inr (by omega))])
    go_enter Try.func122, Try.ntmps122
    go_wp2
    go_ret
    exact IntsOut.nil E.out H
  obtain ⟨d, rfl⟩ : ∃ d : Nat, c = 44032 + (d : Int) := ⟨(c - 44032).toNat, by omega⟩
  have hd : d < 11172 := by omega
  have hsp : splitS (44032 + (d : Int)) = [4352 + ((d / 588 : Nat) : Int), 4449 + ((d / 28 % 21 : Nat) : Int)] ++ if d % 28 = 0 then [] else [4519 + ((d % 28 : Nat) : Int)] := by
    unfold splitS
    rw [if_neg (by omega), show 44032 + (d : Int) - 44032 = d by omega]
    by_cases hz : d % 28 = 0
    · rw [if_pos hz, if_pos (by omega)]; simp
    · rw [if_neg hz, if_neg (by omega)]; simp
  have HSP := Box.mk hsp
  clear hsp d1 d2 h1
  go_enter Try.func122, Try.ntmps122
  go_wp2
  go_loopg [3, 4, 5] (20) (fun g v3 v4 v5 wr => ∃ l : Nat, g = 20 - l ∧ v3 = .int .i64 l ∧ l * 588 ≤ d ∧ Sat w0 wr R)
  case atStart => exact ⟨0, rfl, rfl, by omega, H⟩
  case round =>
    obtain ⟨l, rfl, rfl, hl, HI⟩ := hrel
    clear H
    have hl2 : l < 19 := by omega
    obtain ⟨wo, rfl⟩ : ∃ wo : World, wo = wr := ⟨_, rfl⟩
    go_wp2
    go_loopg [4, 5] (22) (fun g v4 v5 wi => ∃ v : Nat, g = 22 - v ∧ v ≤ 21 ∧ v4 = .int .i64 v ∧ l * 588 + v * 28 ≤ d ∧ Sat w0 wi R)
    case atStart => exact ⟨0, rfl, by omega, rfl, by omega, HI⟩
    case round =>
      obtain ⟨v, rfl, hv, rfl, hlv, HJ⟩ := hrel
      clear HI
      by_cases hv2 : v < 21
      · obtain ⟨t, ht⟩ : ∃ t : Nat, d = l * 588 + v * 28 + t := ⟨d - (l * 588 + v * 28), by omega⟩
        have hz : 44032 + (d : Int) - 44032 - ((l : Int) * 21 + v) * 28 = t := by omega
        have HTt := Box.mk ht
        clear ht
        by_cases ht2 : t < 28
        · by_cases ht3 : t = 0
          · subst ht3
            go_wp2
            go_ret
            have e : splitS (44032 + (d : Int)) = [4352 + (l : Int), 4449 + (v : Int)] := by
              have := HTt.out
              rw [HSP.out, if_pos (by omega), show d / 588 = l by omega, show d / 28 % 21 = v by omega]; rfl
            rw [e]
            exact IntsOut.new rfl rfl rfl (by simp) (by simp [maxLen]) HJ
          · have ht4 : ((t : Int) == 0) = false := by simp; omega
            go_wp2
            go_ret
            have e : splitS (44032 + (d : Int)) = [4352 + (l : Int), 4449 + (v : Int), 4519 + (t : Int)] := by
              have := HTt.out
              rw [HSP.out, if_neg (by omega), show d / 588 = l by omega, show d / 28 % 21 = v by omega, show d % 28 = t by omega]; rfl
            rw [e]
            exact IntsOut.new rfl rfl rfl (by simp) (by simp [maxLen]) HJ
        · go_wp2
          go_roundg (22 - (v + 1))
          case measure => omega
          case rel => exact ⟨v + 1, rfl, by omega, by go_num, by have := HTt.out; omega, HJ⟩
      · obtain rfl : v = 21 := by omega
        go_wp2
        go_roundg (20 - (l + 1))
        case measure => omega
        case rel => exact ⟨l + 1, rfl, by go_num, by omega, HJ⟩
end Go.Proofs.Ytmmigplciogggaa
