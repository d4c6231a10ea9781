/- The stream law's begun. -/
import Derived.Test.YtmmigplciogggaaEarly
namespace Go.Proofs.Ytmmigplciogggaa
open Go Go.RowKit Go.PlainAid

set_option maxHeartbeats 8000000 in
set_option maxRecDepth 100000 in
theorem begun5_calls (w0 w : World) (R : Asrt) (H : Sat w0 w R) : Calls Try.prog 13 #[] w (fun e w' => e = .returned (.bool true) ∧ Sat w0 w' R) := by
  have kc := fun (w : World) (C : Array Value) (n c : Nat) => Lib.run_convert_bytes_const (P := Try.prog) w 32 5 C n c Try.underlying32 Try.underlying5
  have hq : ∀ q, sptr q = .pointer (some ⟨q, 0, none⟩) := fun _ => rfl
  have W1 : Box (writeL 3 [120, 97] [] 0 [] = .ok [] [97] 0 [120]) := ⟨by kernel_rfl⟩
  have W2 : Box (writeL 3 [204, 129] [97] 0 [] = .ok [] [97, 769] 1 []) := ⟨by kernel_rfl⟩
  have W3 : Box (encs (ordS [97, 769]) = [97, 204, 129]) := ⟨by kernel_rfl⟩
  go_enter Try.func13, Try.ntmps13
  go_wp2_with fail
  refine (New_calls w0 _ R H).mono ?_
  rintro e w1 ⟨q, rfl, H1⟩
  go_wp2_with fail
  have H1a := H1.bytesConst [120, 97] #[.int .u8 120, .int .u8 97] 5 2 (2, 3) rfl rfl (by simp [maxLen])
  refine (Write_calls q .empty (.slice none 0 0) _ [] 0 [120, 97] w0 _ R (((H1a.rowNil 3 1).at3)) (by simp) (by simp) (by omega) (by simp) (by simp) 3 (by simp)).mono ?_
  have e0 : bl ByteArray.empty ++ [120, 97] = [120, 97] := rfl
  rw [e0, W1.out]
  rintro e w2 ⟨v2, vh2, r2, rfl, hr2, H2⟩
  have R2 : r2 = .empty := bl_inj hr2
  subst R2
  clear e0 H1 H1a
  go_wp2_with fail
  refine (Held_calls q .empty vh2 0 0 false 1 _ w0 _ _ H2.at2).mono ?_
  rintro e w3 ⟨rfl, rfl⟩
  go_wp2_with fail
  have H3 := H2.bytesConst [204, 129] #[.int .u8 204, .int .u8 129] 5 2 (2, 3) rfl rfl (by simp [maxLen])
  refine (Write_calls q .empty vh2 _ [97] 0 [204, 129] w0 _ _ (H3.at3.at3) (by simp) (by simp [okC]) (by omega) (by simp) (by simp) 3 (by simp)).mono ?_
  have e0 : bl ByteArray.empty ++ [204, 129] = [204, 129] := rfl
  rw [e0, W2.out]
  rintro e w4 ⟨v4, vh4, r4, rfl, hr4, H4⟩
  have R4 : r4 = .empty := bl_inj hr4
  subst R4
  clear e0 H2 H3
  go_wp2_with fail
  refine (Close_ok q .empty vh4 1 [97, 769] w0 _ _ H4 rfl (by simp [okC]) (by simp)).mono ?_
  rintro e w5 ⟨v5, rfl, H5⟩
  rw [W3.out] at H5
  clear H4
  go_wp2_with fail
  refine (Write_closed q .empty (.slice none 0 0) _ 1 0 w0 _ _ H5).mono ?_
  rintro e w6 ⟨rfl, H6⟩
  clear H5
  obtain ⟨a4, c4, rfl, _, _⟩ := H6.at3.rowSlice
  have k2 := bytesOf_eq _ _ _ _ H6.at5.rowReads
  have k5 := bytesOf_eq _ _ _ _ H6.at2.rowReads
  have t1 : (strOfNums [120]).toList = [120] := by rw [Lib.toList_data]; rfl
  have t2 : (strOfNums [97, 204, 129]).toList = [97, 204, 129] := by rw [Lib.toList_data]; rfl
  go_wp2_with fail
  go_ret
  exact ⟨rfl, H6.right.right.right.right.right.right⟩
end Go.Proofs.Ytmmigplciogggaa
