/- The reference's Apart, Chars, Text. -/
import Derived.Test.YtmmigplciogggaaRefMap
import Derived.Test.YtmmigplciogggaaRefOrd
import Derived.Test.YtmmigplciogggaaRefWrite
namespace Go.Proofs.Ytmmigplciogggaa
open Go Go.RowKit Go.PlainAid

set_option maxHeartbeats 1000000 in
set_option maxRecDepth 100000 in
theorem RApart_calls (c : Int) (h1 : c ≤ 1114111) (w0 w : World) (R : Asrt) (H : Sat w0 w R) : Calls Try.prog 95 #[.int .i64 c] w (IntsOut w0 R (apart c)) := by
  have hneq := fun (W : World) (a : Option Addr) (n c : Nat) => Lib.run_eql_slice_nil (P := Try.prog) W 22 3 a n c 0 0 Try.underlying22
  by_cases hs : splitS c = []
  · have S1 := Box.mk hs; clear hs
    by_cases hm : mapOf c = []
    · have S2 := Box.mk hm; clear hm
      have E := Box.mk (show apart c = [c] by unfold apart; rw [if_neg (by rw [S1.out]; simp), if_neg (by rw [S2.out]; simp)])
      go_enter Try.func95, Try.ntmps95
      go_wp2_with fail
      refine (RSplit_calls c h1 w0 _ R H).mono ?_
      rintro e w1 ⟨a, k, rfl, hnil, H1⟩
      obtain ⟨rfl, rfl⟩ := hnil S1.out
      clear hnil
      go_wp2_with fail
      refine (RMap_calls c h1 w0 _ R H1.right).mono ?_
      rintro e w2 ⟨a, k, rfl, hnil, H2⟩
      obtain ⟨rfl, rfl⟩ := hnil S2.out
      clear hnil
      go_wp2_with fail
      go_ret
      rw [E.out]
      exact IntsOut.new rfl rfl rfl (by simp) (by simp [maxLen]) H2.right
    · have S2 := Box.mk hm
      have hl : 0 < (mapOf c).length := List.length_pos_iff.2 hm
      have L := Box.mk hl
      clear hm hl
      have E := Box.mk (show apart c = mapOf c by unfold apart; rw [if_neg (by rw [S1.out]; simp), if_pos S2.out])
      go_enter Try.func95, Try.ntmps95
      go_wp2_with fail
      refine (RSplit_calls c h1 w0 _ R H).mono ?_
      rintro e w1 ⟨a, k, rfl, hnil, H1⟩
      obtain ⟨rfl, rfl⟩ := hnil S1.out
      clear hnil
      go_wp2_with fail
      refine (RMap_calls c h1 w0 _ R H1.right).mono ?_
      rintro e w2 ⟨a, k, rfl, hnil, H2⟩
      clear hnil
      obtain ⟨ad, rfl⟩ := H2.rowSome L.out
      go_wp2_with fail
      go_ret
      exact IntsOut.mk E.out L.out H2
  · have S1 := Box.mk hs
    have L := Box.mk (List.length_pos_iff.2 hs)
    clear hs
    have E := Box.mk (show apart c = splitS c by unfold apart; rw [if_pos S1.out])
    go_enter Try.func95, Try.ntmps95
    go_wp2_with fail
    refine (RSplit_calls c h1 w0 _ R H).mono ?_
    rintro e w1 ⟨a, k, rfl, hnil, H1⟩
    clear hnil
    obtain ⟨ad, rfl⟩ := H1.rowSome L.out
    go_wp2_with fail
    go_ret
    exact IntsOut.mk E.out L.out H1
end Go.Proofs.Ytmmigplciogggaa
