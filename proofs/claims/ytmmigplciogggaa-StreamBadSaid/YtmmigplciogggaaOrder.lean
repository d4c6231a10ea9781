/- norm.Order walked. -/
import Derived.Test.YtmmigplciogggaaFlush
import Derived.Test.YtmmigplciogggaaApart
import Derived.WalkSpells
namespace Go.Proofs.Ytmmigplciogggaa
open Go Go.RowKit Go.PlainAid

/-! ## What Order gives -/
def ordStep (s : List Mk × List Int) (c : Int) : List Mk × List Int := if 0 < cls c then (s.1 ++ [(c, cls c)], s.2) else ([], s.2 ++ (srt s.1).map (·.1) ++ [c])
def ordSt (l : List Int) : List Mk × List Int := l.foldl ordStep ([], [])
/-- Canonical order. -/
def ordS (l : List Int) : List Int := (ordSt l).2 ++ (srt (ordSt l).1).map (·.1)
theorem ordSt_snoc (l : List Int) (c : Int) : ordSt (l ++ [c]) = ordStep (ordSt l) c := by simp [ordSt, List.foldl_append]
theorem snoc_ind {α : Type} {P : List α → Prop} (l : List α) (h0 : P []) (h1 : ∀ l x, P l → P (l ++ [x])) : P l := by
  have : ∀ n (l : List α), l.length = n → P l := by
    intro n
    induction n with
    | zero => intro l hl; rw [List.eq_nil_of_length_eq_zero hl]; exact h0
    | succ n ih =>
      intro l hl
      have hne : l ≠ [] := by intro h; rw [h] at hl; simp at hl
      rw [← List.dropLast_concat_getLast hne]
      exact h1 _ _ (ih _ (by rw [List.length_dropLast, hl]; rfl))
  exact this _ l rfl
theorem ordSt_length (l : List Int) : (ordSt l).1.length + (ordSt l).2.length = l.length := by
  refine snoc_ind (P := fun l => (ordSt l).1.length + (ordSt l).2.length = l.length) l ?_ ?_
  · rfl
  · intro l c ih
    rw [ordSt_snoc]
    unfold ordStep
    split
    · simp; omega
    · have := (srt_SS (ordSt l).1).length
      simp [this]; omega
theorem cls_bounds (c : Int) : 0 ≤ cls c ∧ cls c ≤ 1000 := by
  have hall : (classTab.all fun r => decide (0 ≤ r.2.2 ∧ r.2.2 ≤ 1000)) = true := by kernel_rfl
  unfold cls
  cases hf : classTab.find? fun r => decide (r.1 ≤ c ∧ c ≤ r.2.1) with
  | none => simp
  | some r =>
    have := List.all_eq_true.1 hall r (List.mem_of_find?_eq_some hf)
    simpa using this
theorem ordSt_small (l : List Int) : Small (ordSt l).1 := by
  refine snoc_ind (P := fun l => Small (ordSt l).1) l ?_ ?_
  · intro x hx; cases hx
  · intro l c ih
    rw [ordSt_snoc]
    unfold ordStep
    split
    · intro x hx
      rcases List.mem_append.1 hx with hx | hx
      · exact ih x hx
      · have : x = (c, cls c) := by simpa using hx
        subst this; exact cls_bounds c
    · intro x hx; cases hx
theorem reads_newE (w : World) (cs : Array Value) (t : TypeId) (n g sz : Nat) (hn : cs.size = n * sz) (hg : g = w.heap.size) : Reads (w.alloc (.cells cs t)) sz (.slice (some ⟨g, 0, none⟩) n n) n cs.toList := by
  subst hg
  refine ⟨by simp [hn], .inr ⟨_, n, rfl, Nat.le_refl _, fun j u hj => ?_⟩⟩
  rw [addr_add0, Nat.zero_add]
  have h : (w.alloc (.cells cs t)).heap[w.heap.size]? = some (.cells cs t) := heap_alloc_new w _
  simp only [World.cell?, h]
  simpa using hj

/-- A slice of ints that the call hands over. -/
def IntsRow (w0 : World) (R : Asrt) (l : List Int) (e : Ending) (w' : World) : Prop := ∃ v, e = .returned v ∧ Sat w0 w' (Row 3 1 v l.length (ints l) * R)
set_option maxHeartbeats 4000000 in
set_option maxRecDepth 100000 in
theorem Order_calls (l : List Int) (v : Value) (w0 w : World) (R : Asrt) (H : Sat w0 w (Row 3 1 v l.length (ints l) * R)) (hm : l.length ≤ 1000000) (hl : ∀ x ∈ l, x ≤ 1114111) :
    Calls Try.prog 104 #[v] w (IntsRow w0 (Row 3 1 v l.length (ints l) * R) (ordS l)) := by
  have hmf : ∀ (fn : Fn) (first cap : Array Value) (w : World), (Instr.makeFunc fn first cap).run Try.prog w = .ok (.func fn first cap) w := fun _ _ _ _ => rfl
  obtain ⟨ar, cr, rfl, hcr, hcm⟩ := H.rowSlice
  have HL := Box.mk hl
  have HCM := Box.mk hcm
  clear hl hcm
  have HA : Sat w0 ((w.alloc (.cells #[.slice none 0 0] 22)).alloc (.cells #[.slice none 0 0] 153)) (Row 3 1 (.slice ar l.length cr) l.length (ints l) * (Blk (w.heap.size + 1) #[.slice none 0 0] 153 * (Blk w.heap.size #[.slice none 0 0] 22 * (Row 156 2 (.slice none 0 0) 0 (marks []) * (Row 3 1 (.slice none 0 0) 0 (ints []) * R))))) := by
    have := ((((H.rowNil 3 1).rowNil 156 2).alloc #[.slice none 0 0] 22).alloc #[.slice none 0 0] 153).at5
    have e : (w.alloc (.cells #[.slice none 0 0] 22)).heap.size = w.heap.size + 1 := by simp
    rw [e] at this
    exact this
  go_enter Try.func104, Try.ntmps104
  go_wp2
  go_loopg [12] (l.length) (fun k v12 wr => ∃ (t : Nat) (S : List Mk × List Int) (vr vo : Value), k = l.length - t ∧ t ≤ l.length ∧ v12 = .int .i64 t ∧ ordSt (l.take t) = S ∧ Sat w0 wr (Row 3 1 (.slice ar l.length cr) l.length (ints l) * (Blk (w.heap.size + 1) #[vr] 153 * (Blk w.heap.size #[vo] 22 * (Row 156 2 vr S.1.length (marks S.1) * (Row 3 1 vo S.2.length (ints S.2) * R))))))
  case atStart => exact ⟨0, ([], []), _, _, rfl, by omega, rfl, rfl, HA⟩
  case round =>
    obtain ⟨t, ⟨run, o⟩, vr, vo, rfl, ht, rfl, hS, HI⟩ := hrel
    clear HA H
    have hlen := ordSt_length (l.take t)
    have hsm := ordSt_small (l.take t)
    rw [hS] at hlen hsm
    rw [List.length_take, Nat.min_eq_left ht] at hlen
    simp only at hlen hsm HI
    have HSm := Box.mk hsm
    clear hsm
    have hc1 : wr.cell? ⟨w.heap.size + 1, 0, none⟩ = some vr := by rw [HI.at2.cell]; rfl
    have hc2 : wr.cell? ⟨w.heap.size, 0, none⟩ = some vo := by rw [HI.at3.cell]; rfl
    by_cases hlt : t < l.length
    · obtain ⟨g, rfl⟩ := HI.rowSome (by omega)
      obtain ⟨x, hx⟩ : ∃ x, l[t]? = some x := ⟨l[t], List.getElem?_eq_getElem hlt⟩
      have hT : l.take (t + 1) = l.take t ++ [x] := by
        obtain ⟨hq, rfl⟩ := List.getElem?_eq_some_iff.1 hx
        exact List.take_succ_eq_append_getElem hq
      have HST : Box (ordSt (l.take (t + 1)) = ordStep (run, o) x) := ⟨by rw [hT, ordSt_snoc, hS]⟩
      have hx2 := HL.out x (List.mem_of_getElem? hx)
      have hcell : wr.cell? ⟨g, t, none⟩ = some (.int .i64 x) := by
        rcases HI.rowReads.2 with ⟨h, _⟩ | ⟨a', c', h, _, hc⟩
        · cases h
        · cases h
          have := hc t (.int .i64 x) (by simp [ints, hx])
          rwa [addr_add0, Nat.zero_add] at this
      have HX := Box.mk hx
      have HC := Class_calls x hx2
      have HCb := Box.mk HC
      have hbnd : (run.length + 1) * 16 ≤ 140737488355328 := by omega
      have hbnd2 : (o.length + run.length + 1) * 8 ≤ 140737488355328 := by omega
      have HB1 := Box.mk hbnd
      have HB2 := Box.mk hbnd2
      clear hS hT hx hx2 HC hbnd hbnd2
      by_cases hk : 0 < cls x
      · clear hc2
        go_wp2_with (first
          | (go_at_call 103; refine (HCb.out _).mono ?_; rintro e w1 ⟨rfl, rfl⟩)
          | (at_builtin; go_loud (refine wpList_append_sep (w0 := w0) rfl (.tmp 20) (.tmp 24) 153 rfl Try.underlying153 eMark rfl (by decide) (by decide) rfl rfl (HI.at4.allocX _) (reads_newE _ #[.int .i64 x, .int .i64 (cls x)] 156 1 _ 2 rfl (by simp)) (mk_one (x, cls x)) HB1.out ?_); intro a3 c3 w3 H3
             have hc3 : w3.cell? ⟨w.heap.size + 1, 0, none⟩ = some vr := by rw [H3.at3.cell]; rfl
             have hz3 : w3.frozen? ⟨w.heap.size + 1, 0, none⟩ = false := H3.at3.free 0
             have H4 := H3.at3.setCell 0 (.slice a3 (run.length + 1) c3)))
        go_roundg (l.length - (t + 1))
        case measure => omega
        case rel =>
          refine ⟨t + 1, (run ++ [(x, cls x)], o), .slice a3 (run.length + 1) c3, vo, rfl, by omega, by go_num, by rw [HST.out]; unfold ordStep; rw [if_pos hk], ?_⟩
          rw [show marks (run ++ [(x, cls x)]) = marks run ++ [.int .i64 x, .int .i64 (cls x)] by simp [marks, mk], List.length_append]
          exact H4.at2.at4.at3.at4
      · have HF := HI.at5.at4.at4.at5
        have hsr := (srt_SS run).length
        have HSR := Box.mk hsr
        clear hc1 hc2 hsr
        go_wp2_with (first
          | (go_at_call 103; refine (HCb.out _).mono ?_; rintro e w1 ⟨rfl, rfl⟩)
          | (go_at_call 129; refine (flush_calls (w.heap.size + 1) w.heap.size run o vr vo w0 _ _ HF (by omega) (by omega) HSm.out).mono ?_; rintro e w1 ⟨vo', rfl, H1⟩
             have hc3 : w1.cell? ⟨w.heap.size, 0, none⟩ = some vo' := by rw [H1.at2.cell]; rfl)
          | (at_builtin; go_loud (refine wpList_append_sep (w0 := w0) rfl (.tmp 28) (.tmp 30) 22 rfl Try.underlying22 eInt rfl (by decide) (by decide) rfl rfl (H1.at3.allocX _) (reads_newg _ #[.int .i64 x] 3 1 _ rfl (by simp)) (ints_cell [x]) HB2.out ?_); intro a3 c3 w3 H3
             have hc4 : w3.cell? ⟨w.heap.size, 0, none⟩ = some vo' := by rw [H3.at3.cell]; rfl
             have hz4 : w3.frozen? ⟨w.heap.size, 0, none⟩ = false := H3.at3.free 0
             have H4 := H3.at3.setCell 0 (.slice a3 (o.length + run.length + 1) c3)))
        go_roundg (l.length - (t + 1))
        case measure => omega
        case rel =>
          refine ⟨t + 1, ([], o ++ (srt run).map (·.1) ++ [x]), .slice none 0 0, .slice a3 (o.length + run.length + 1) c3, rfl, by omega, by go_num, by rw [HST.out]; unfold ordStep; rw [if_neg (by omega)], ?_⟩
          have e1 : (o ++ (srt run).map (·.1) ++ [x]).length = o.length + run.length + 1 := by simp [HSR.out, Nat.add_assoc]
          have e2 : ints (o ++ (srt run).map (·.1) ++ [x]) = ints (o ++ (srt run).map (·.1)) ++ [.int .i64 x] := by simp [ints]
          simp only [e1, e2]
          exact (H4.at2.rowNil 156 2).at3.at4.at5
    · obtain rfl : t = l.length := by omega
      rw [List.take_of_length_le (Nat.le_refl _)] at hS
      have HST := Box.mk hS
      have HF := HI.at5.at4.at4.at5
      clear hc1 hc2 hS
      go_wp2_with (first
        | (go_at_call 129; refine (flush_calls (w.heap.size + 1) w.heap.size run o vr vo w0 _ _ HF (by omega) (by omega) HSm.out).mono ?_; rintro e w1 ⟨vo', rfl, H1⟩
           have hc3 : w1.cell? ⟨w.heap.size, 0, none⟩ = some vo' := by rw [H1.at2.cell]; rfl))
      go_ret
      have e1 : ordS l = o ++ (srt run).map (·.1) := by unfold ordS; rw [HST.out]
      refine ⟨vo', rfl, ?_⟩
      rw [e1, show (o ++ (srt run).map (·.1)).length = o.length + run.length by simp [(srt_SS run).length]]
      exact H1.right.right
end Go.Proofs.Ytmmigplciogggaa
