/- The two tables of characters: what the constants of package api say, as numbers. No program here. -/
import Derived.Test.YtmmigplciogggaaUtfS
import Derived.KernelRfl
namespace Go.Proofs.Ytmmigplciogggaa
open Go Go.RowKit Go.PlainAid

def classTab : List (Int × Int × Int) := [(768, 788, 230), (789, 789, 232), (790, 793, 220), (794, 794, 232), (795, 795, 216), (796, 800, 220), (801, 802, 202), (803, 806, 220), (807, 808, 202), (809, 819, 220), (820, 824, 1), (825, 828, 220), (829, 836, 230), (837, 837, 240), (838, 838, 230), (839, 841, 220), (1456, 1456, 10), (1460, 1460, 14), (1468, 1468, 21), (1473, 1473, 24), (1474, 1474, 25), (1611, 1611, 27), (1617, 1617, 33), (1619, 1620, 230), (1621, 1621, 220), (1648, 1648, 35), (2364, 2364, 7), (2381, 2381, 9), (12441, 12442, 8), (119141, 119141, 216), (119150, 119150, 216)]
def mapTab : List (Int × List Int) := [(192, [65, 768]), (193, [65, 769]), (194, [65, 770]), (195, [65, 771]), (196, [65, 776]), (197, [65, 778]),
  (199, [67, 807]), (200, [69, 768]), (201, [69, 769]), (202, [69, 770]), (203, [69, 776]), (204, [73, 768]),
  (205, [73, 769]), (206, [73, 770]), (207, [73, 776]), (209, [78, 771]), (210, [79, 768]), (211, [79, 769]),
  (212, [79, 770]), (213, [79, 771]), (214, [79, 776]), (217, [85, 768]), (218, [85, 769]), (219, [85, 770]),
  (220, [85, 776]), (221, [89, 769]), (224, [97, 768]), (225, [97, 769]), (226, [97, 770]), (227, [97, 771]),
  (228, [97, 776]), (229, [97, 778]), (231, [99, 807]), (232, [101, 768]), (233, [101, 769]), (234, [101, 770]),
  (235, [101, 776]), (236, [105, 768]), (237, [105, 769]), (238, [105, 770]), (239, [105, 776]), (241, [110, 771]),
  (242, [111, 768]), (243, [111, 769]), (244, [111, 770]), (245, [111, 771]), (246, [111, 776]), (249, [117, 768]),
  (250, [117, 769]), (251, [117, 770]), (252, [117, 776]), (253, [121, 769]), (255, [121, 776]), (256, [65, 772]),
  (257, [97, 772]), (258, [65, 774]), (259, [97, 774]), (260, [65, 808]), (261, [97, 808]), (274, [69, 772]),
  (275, [101, 772]), (276, [69, 774]), (277, [101, 774]), (480, [65, 775, 772]), (481, [97, 775, 772]), (836, [776, 769]),
  (884, [697]), (901, [168, 769]), (902, [913, 769]), (912, [953, 776, 769]), (940, [945, 769]), (1081, [1080, 774]),
  (1105, [1077, 776]), (1570, [1575, 1619]), (1571, [1575, 1620]), (1572, [1608, 1620]), (2345, [2344, 2364]), (2353, [2352, 2364]),
  (2392, [2325, 2364]), (7688, [67, 807, 769]), (7689, [99, 807, 769]), (7785, [115, 803, 775]), (7835, [383, 775]), (7844, [65, 770, 769]),
  (7845, [97, 770, 769]), (7896, [79, 803, 770]), (7897, [111, 803, 770]), (7936, [945, 787]), (7937, [945, 788]), (7938, [945, 787, 768]),
  (8049, [945, 769]), (8066, [945, 787, 768, 837]), (8175, [96]), (8192, [8194]), (8193, [8195]), (8486, [937]),
  (8490, [75]), (8491, [65, 778]), (8800, [61, 824]), (10972, [10973, 824]), (12364, [12363, 12441]), (12400, [12399, 12441]),
  (12401, [12399, 12442]), (63744, [35912]), (64285, [1497, 1460]), (64298, [1513, 1473]), (64299, [1513, 1474]), (64300, [1513, 1468, 1473]),
  (119134, [119127, 119141]), (119135, [119128, 119141]), (119136, [119128, 119141, 119150]), (194560, [20029])]
/-- A character's class. -/
def cls (c : Int) : Int := ((classTab.find? fun r => decide (r.1 ≤ c ∧ c ≤ r.2.1)).map fun r => r.2.2).getD 0
/-- What a character comes to, if it is not itself (nor a syllable). -/
def mapOf (c : Int) : List Int := ((mapTab.find? fun r => decide (r.1 = c)).map fun r => r.2).getD []

def dig (n : Int) : Int := if n < 10 then 48 + n else 55 + n
def hexD : Nat → Int → List Int
  | 0, _ => []
  | k + 1, n => if n < 16 then [dig n] else hexD k (n / 16) ++ [dig (n % 16)]
def decD : Nat → Int → List Int
  | 0, _ => []
  | k + 1, n => if n < 10 then [dig n] else decD k (n / 10) ++ [dig (n % 10)]
/-- The tables as texts. -/
def clsText : List Int := classTab.flatMap fun r => hexD 9 r.1 ++ [32] ++ hexD 9 r.2.1 ++ [32] ++ decD 9 r.2.2 ++ [10]
def mapText : List Int := mapTab.flatMap fun r => hexD 9 r.1 ++ (r.2.flatMap fun x => 32 :: hexD 9 x) ++ [10]
def CLS : ByteArray := strOfNums clsText
def MAPS : ByteArray := strOfNums mapText

/-- Reading a number in hexadecimal: the number, and how many bytes. -/
def isHex (b : Int) : Bool := decide (48 ≤ b ∧ b ≤ 57) || decide (65 ≤ b ∧ b ≤ 70)
def hexV (b : Int) : Int := if b ≤ 57 then b - 48 else b - 55
def hexL : Int → List Int → Int × Nat
  | n, [] => (n, 0)
  | n, b :: t => if isHex b then let r := hexL (n * 16 + hexV b) t; (r.1, r.2 + 1) else (n, 0)
def decL : Int → List Int → Int
  | n, [] => n
  | n, b :: t => if 48 ≤ b ∧ b ≤ 57 then decL (10 * n + (b - 48)) t else n
/-- How many bytes stand ahead of the line's end. -/
def lineL : List Int → Nat
  | [] => 0
  | b :: t => if b = 10 then 0 else lineL t + 1

theorem hexV_nonneg {b : Int} (h : isHex b = true) : 0 ≤ hexV b ∧ hexV b < 16 := by
  unfold isHex at h; unfold hexV
  simp at h
  split <;> omega
theorem hexL_ge : ∀ (l : List Int) (n : Int), 0 ≤ n → n ≤ (hexL n l).1 ∧ (hexL n l).2 ≤ l.length
  | [], n, _ => ⟨Int.le_refl _, Nat.le_refl _⟩
  | b :: t, n, h => by
    unfold hexL
    split
    · rename_i hb
      have := hexV_nonneg hb
      have := hexL_ge t (n * 16 + hexV b) (by omega)
      exact ⟨by simp only; omega, by simp only [List.length_cons]; omega⟩
    · exact ⟨Int.le_refl _, Nat.zero_le _⟩
theorem decL_ge : ∀ (l : List Int) (n : Int), 0 ≤ n → n ≤ decL n l
  | [], n, _ => Int.le_refl _
  | b :: t, n, h => by
    unfold decL
    split
    · have := decL_ge t (10 * n + (b - 48)) (by omega); omega
    · exact Int.le_refl _
theorem lineL_le : ∀ (l : List Int), lineL l ≤ l.length
  | [] => Nat.le_refl _
  | b :: t => by
    unfold lineL
    split
    · exact Nat.zero_le _
    · have := lineL_le t; simp only [List.length_cons]; omega

/-! ## The texts, row by row -/
def clsChk : List Int → List (Int × Int × Int) → Bool
  | l, [] => l.isEmpty
  | l, (a, b, c) :: rest =>
    let r := hexL 0 l
    let q := hexL 0 (l.drop (r.2 + 1))
    !l.isEmpty && decide (r.1 = a) && decide (q.1 = b) && decide (decL 0 (l.drop (r.2 + 1 + q.2 + 1)) = c) && decide (r.2 + 1 + q.2 + 1 ≤ l.length) && clsChk (l.drop (lineL l + 1)) rest
/-- The numbers of a row behind its first: each behind a blank. -/
def mapTail : Nat → List Int → List Int
  | 0, _ => []
  | k + 1, l => match l with
    | 32 :: t => let r := hexL 0 t; r.1 :: mapTail k (t.drop r.2)
    | _ => []
def mapChk : List Int → List (Int × List Int) → Bool
  | l, [] => l.isEmpty
  | l, (a, xs) :: rest =>
    let r := hexL 0 l
    !l.isEmpty && decide (r.1 = a) && decide (mapTail 9 (l.drop r.2) = xs) && decide (r.2 ≤ l.length) && mapChk (l.drop (lineL l + 1)) rest
theorem clsChk_ok : clsChk clsText classTab = true := by kernel_rfl
theorem mapChk_ok : mapChk mapText mapTab = true := by kernel_rfl
theorem clsText_len : clsText.length = 366 := by kernel_rfl
theorem clsText_bytes : (clsText.all fun x => decide (0 ≤ x ∧ x ≤ 255)) = true := by kernel_rfl
theorem mapText_bytes : (mapText.all fun x => decide (0 ≤ x ∧ x ≤ 255)) = true := by kernel_rfl
end Go.Proofs.Ytmmigplciogggaa
