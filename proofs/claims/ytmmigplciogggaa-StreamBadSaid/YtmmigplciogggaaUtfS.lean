/- UTF-8 on lists of bytes, as numbers: one reading for the program and for the reference. No program here. -/
import Derived.Laws.BitsLemmas
import Derived.PlainAid
import Derived.Lib.Strings
import Derived.Laws.BytesArg
namespace Go.Proofs.Ytmmigplciogggaa
open Go Go.RowKit Go.PlainAid

theorem i64_or6 {x y : Int} (hx₀ : 0 ≤ x) (hx₁ : x < 16777216) (h₀ : 0 ≤ y) (h₁ : y < 64) : bits .or .i64 (x * 64) y = x * 64 + y := by
  have e : (2 : Int) ^ 40 = 1099511627776 := by decide
  exact bits_join .i64 40 (by decide) (fun n h0 h1 => by rw [IntKind.wrap_i64]; rw [e] at h1; omega) 6 (x * 64) y (by omega) (by omega) (by rw [e]; omega) h₀ (by omega) (by rw [e]; omega)
theorem u8_and192 {x : Int} (h₀ : 0 ≤ x) (h₁ : x < 256) : bits .and .u8 x 192 = x / 64 * 64 := by
  obtain ⟨n, rfl⟩ := Int.eq_ofNat_of_zero_le h₀
  have hn : n < 256 := by omega
  clear h₀ h₁
  revert hn; revert n; decide +kernel

/-- How many bytes a character takes by its first byte (0: it begins none), and what that byte bears. -/
def formN (c : Int) : Nat := if c < 128 then 1 else if 194 ≤ c ∧ c < 224 then 2 else if 224 ≤ c ∧ c < 240 then 3 else if 240 ≤ c ∧ c < 245 then 4 else 0
def formC (c : Int) : Int := if c < 128 then c else if 194 ≤ c ∧ c < 224 then c % 32 else if 224 ≤ c ∧ c < 240 then c % 16 else if 240 ≤ c ∧ c < 245 then c % 8 else 0
def leastN (n : Nat) : Int := if n = 2 then 128 else if n = 3 then 2048 else if n = 4 then 65536 else 0
def validB (c : Int) : Bool := decide (0 ≤ c ∧ c ≤ 1114111 ∧ (c < 55296 ∨ 57343 < c))
def contB (b : Int) : Bool := decide (128 ≤ b ∧ b < 192)
/-- Continuation bytes, all of a list. -/
def contsL (c : Int) : List Int → Option Int
  | [] => some c
  | b :: t => if contB b then contsL (c * 64 + b % 64) t else none
/-- The first character of a list of bytes, and how many bytes it takes. -/
def dec : List Int → Option (Int × Nat)
  | [] => none
  | b :: t =>
    if formN b = 0 ∨ t.length + 1 < formN b then none else
    match contsL (formC b) (t.take (formN b - 1)) with
    | none => none
    | some c => if c < leastN (formN b) ∨ validB c = false then none else some (c, formN b)
/-- A character's bytes. -/
def enc (c : Int) : List Int :=
  if c < 128 then [c] else if c < 2048 then [192 + c / 64, 128 + c % 64] else if c < 65536 then [224 + c / 4096, 128 + c / 64 % 64, 128 + c % 64]
  else [240 + c / 262144, 128 + c / 4096 % 64, 128 + c / 64 % 64, 128 + c % 64]

/-- A string's bytes as numbers. -/
def bl (s : ByteArray) : List Int := s.data.toList.map fun b => (b.toNat : Int)
theorem bl_length (s : ByteArray) : (bl s).length = s.size := by simp [bl]
theorem bl_get (s : ByteArray) (k : Nat) (h : k < s.size) : (bl s)[k]? = some (bt s k) := by
  unfold bt; rw [dif_pos h]
  have h' : k < s.data.size := h
  simp only [bl, List.getElem?_map, Array.getElem?_toList, Array.getElem?_eq_getElem h', Option.map_some]
  rfl
theorem bl_bytes (s : ByteArray) : ∀ b ∈ bl s, 0 ≤ b ∧ b ≤ 255 := by
  intro b hb
  simp only [bl, List.mem_map] at hb
  obtain ⟨u, _, rfl⟩ := hb
  have := u.toNat_lt; omega
theorem bl_drop (s : ByteArray) (k : Nat) (h : k < s.size) : (bl s).drop k = bt s k :: (bl s).drop (k + 1) := by
  have h1 := bl_get s k h
  have h2 : k < (bl s).length := by rw [bl_length]; exact h
  rw [List.drop_eq_getElem_cons h2]
  rw [List.getElem?_eq_getElem h2] at h1
  rw [Option.some.inj h1]
/-- What First answers. -/
def firstR (o : Option (Int × Nat)) : Value := match o with | none => .tuple #[.int .i64 (-1), .int .i64 0] | some (c, n) => .tuple #[.int .i64 c, .int .i64 n]
theorem dec_nil : dec [] = none := rfl
theorem dec_short {b : Int} {t : List Int} (h : formN b = 0 ∨ t.length + 1 < formN b) : dec (b :: t) = none := by rw [dec, if_pos h]
theorem dec_one {b : Int} {t : List Int} (h0 : 0 ≤ b) (h : b < 128) : dec (b :: t) = some (b, 1) := by
  have h1 : formN b = 1 := by unfold formN; rw [if_pos h]
  have h2 : formC b = b := by unfold formC; rw [if_pos h]
  rw [dec, h1, if_neg (by omega), h2]
  simp [contsL, leastN, validB]; omega
theorem dec_two {b b1 : Int} {t : List Int} (h : 194 ≤ b) (h' : b < 224) : dec (b :: b1 :: t) = if contB b1 then some (b % 32 * 64 + b1 % 64, 2) else none := by
  have h1 : formN b = 2 := by unfold formN; rw [if_neg (by omega), if_pos ⟨h, h'⟩]
  have h2 : formC b = b % 32 := by unfold formC; rw [if_neg (by omega), if_pos ⟨h, h'⟩]
  rw [dec, h1, if_neg (by simp), h2]
  simp only [Nat.add_one_sub_one, List.take_succ_cons, List.take_zero, contsL]
  by_cases hc : contB b1 <;> simp [hc, leastN, validB]
  simp [contB] at hc; omega
theorem dec_three {b b1 b2 : Int} {t : List Int} (h : 224 ≤ b) (h' : b < 240) : dec (b :: b1 :: b2 :: t) =
    if contB b1 ∧ contB b2 then (if (b % 16 * 64 + b1 % 64) * 64 + b2 % 64 < 2048 ∨ validB ((b % 16 * 64 + b1 % 64) * 64 + b2 % 64) = false then none else some ((b % 16 * 64 + b1 % 64) * 64 + b2 % 64, 3)) else none := by
  have h1 : formN b = 3 := by unfold formN; rw [if_neg (by omega), if_neg (by omega), if_pos ⟨h, h'⟩]
  have h2 : formC b = b % 16 := by unfold formC; rw [if_neg (by omega), if_neg (by omega), if_pos ⟨h, h'⟩]
  rw [dec, h1, if_neg (by simp), h2]
  simp only [Nat.add_one_sub_one, List.take_succ_cons, List.take_zero, contsL]
  by_cases hc : contB b1 <;> by_cases hd : contB b2 <;> simp [hc, hd, leastN]
theorem dec_four {b b1 b2 b3 : Int} {t : List Int} (h : 240 ≤ b) (h' : b < 245) : dec (b :: b1 :: b2 :: b3 :: t) =
    if contB b1 ∧ contB b2 ∧ contB b3 then (if ((b % 8 * 64 + b1 % 64) * 64 + b2 % 64) * 64 + b3 % 64 < 65536 ∨ validB (((b % 8 * 64 + b1 % 64) * 64 + b2 % 64) * 64 + b3 % 64) = false then none
      else some (((b % 8 * 64 + b1 % 64) * 64 + b2 % 64) * 64 + b3 % 64, 4)) else none := by
  have h1 : formN b = 4 := by unfold formN; rw [if_neg (by omega), if_neg (by omega), if_neg (by omega), if_pos ⟨h, h'⟩]
  have h2 : formC b = b % 8 := by unfold formC; rw [if_neg (by omega), if_neg (by omega), if_neg (by omega), if_pos ⟨h, h'⟩]
  rw [dec, h1, if_neg (by simp), h2]
  simp only [Nat.add_one_sub_one, List.take_succ_cons, List.take_zero, contsL]
  by_cases hc : contB b1 <;> by_cases hd : contB b2 <;> by_cases he : contB b3 <;> simp [hc, hd, he, leastN]
theorem bl_cons1 (s : ByteArray) (h : 1 ≤ s.size) : bl s = bt s 0 :: (bl s).drop 1 := by have := bl_drop s 0 (by omega); simpa using this
theorem bl_cons2 (s : ByteArray) (h : 2 ≤ s.size) : bl s = bt s 0 :: bt s 1 :: (bl s).drop 2 := by rw [← bl_drop s 1 (by omega)]; exact bl_cons1 s (by omega)
theorem bl_cons3 (s : ByteArray) (h : 3 ≤ s.size) : bl s = bt s 0 :: bt s 1 :: bt s 2 :: (bl s).drop 3 := by rw [← bl_drop s 2 (by omega)]; exact bl_cons2 s (by omega)
theorem bl_cons4 (s : ByteArray) (h : 4 ≤ s.size) : bl s = bt s 0 :: bt s 1 :: bt s 2 :: bt s 3 :: (bl s).drop 4 := by rw [← bl_drop s 3 (by omega)]; exact bl_cons3 s (by omega)
theorem bl_extract (s : ByteArray) (a b : Nat) : bl (s.extract a b) = ((bl s).drop a).take (b - a) := by
  unfold bl; rw [Lib.extract_data]; simp [List.map_take, List.map_drop]
theorem bl_toList (s : ByteArray) : bl s = s.toList.map fun b => (b.toNat : Int) := by unfold bl; rw [Lib.toList_data]
theorem bl_inj {s t : ByteArray} (h : bl s = bl t) : s = t := by
  unfold bl at h
  have : s.data.toList = t.data.toList := by
    refine List.map_inj_right (f := fun b : UInt8 => (b.toNat : Int)) ?_ |>.1 h
    intro x y hxy
    exact UInt8.toNat_inj.1 (by have h : (x.toNat : Int) = y.toNat := hxy; omega)
  cases s; cases t; congr 1; exact Array.toList_inj.1 this
theorem bl_append (s t : ByteArray) : bl (s ++ t) = bl s ++ bl t := by simp [bl]
theorem bl_nil_iff (s : ByteArray) : bl s = [] ↔ s.toList = [] := by rw [bl_toList]; simp

theorem bl_strOf {l : List Int} (h : ∀ x ∈ l, 0 ≤ x ∧ x ≤ 255) : bl (strOfNums l) = l := by
  unfold bl strOfNums
  simp only [List.map_map]
  refine (List.map_congr_left fun x hx => ?_).trans (List.map_id l)
  have := h x hx
  simp only [Function.comp, id]
  rw [UInt8.toNat_ofNat']
  omega
theorem strOf_bl (s : ByteArray) : strOfNums (bl s) = s := bl_inj (bl_strOf fun x hx => bl_bytes s x hx)
theorem enc_bytes {c : Int} (h0 : 0 ≤ c) (h1 : c ≤ 1114111) : ∀ x ∈ enc c, 0 ≤ x ∧ x ≤ 255 := by
  intro x hx
  unfold enc at hx
  repeat' split at hx
  all_goals (simp at hx; omega)
theorem same_iff (s t : ByteArray) : (s.toList == t.toList) = true ↔ bl s = bl t := by
  rw [beq_iff_eq]
  constructor
  · intro h; rw [bl_toList, bl_toList, h]
  · intro h; rw [bl_inj h]
theorem enc_two {b0 b1 c : Int} (h : 192 ≤ b0) (h' : b0 < 224) (hc : contB b1 = true) (e : c = (b0 - 192) * 64 + b1 % 64) : enc c = [b0, b1] ↔ 128 ≤ c := by
  simp [contB] at hc
  unfold enc
  repeat' split
  all_goals (simp only [List.cons.injEq, and_true]; first | omega | (simp; omega))
theorem enc_three {b0 b1 b2 c : Int} (h : 224 ≤ b0) (h' : b0 < 240) (hc : contB b1 = true) (hd : contB b2 = true) (e : c = ((b0 - 224) * 64 + b1 % 64) * 64 + b2 % 64) : enc c = [b0, b1, b2] ↔ 2048 ≤ c := by
  simp [contB] at hc hd
  unfold enc
  repeat' split
  all_goals (simp only [List.cons.injEq, and_true]; first | omega | (simp; omega))
theorem enc_four {b0 b1 b2 b3 c : Int} (h : 240 ≤ b0) (hc : contB b1 = true) (hd : contB b2 = true) (hf : contB b3 = true) (e : c = (((b0 - 240) * 64 + b1 % 64) * 64 + b2 % 64) * 64 + b3 % 64) : enc c = [b0, b1, b2, b3] ↔ 65536 ≤ c := by
  simp [contB] at hc hd hf
  unfold enc
  repeat' split
  all_goals (simp only [List.cons.injEq, and_true]; first | omega | (simp; omega))
end Go.Proofs.Ytmmigplciogggaa
