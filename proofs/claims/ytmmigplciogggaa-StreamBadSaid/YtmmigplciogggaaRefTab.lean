/- The two texts of the tables, as the reference reads them. No program here. -/
import Derived.Test.YtmmigplciogggaaRefNum
namespace Go.Proofs.Ytmmigplciogggaa
open Go Go.RowKit Go.PlainAid

/-- A line's words. -/
def wordsGo : List Int → List Int → List (List Int)
  | [], cur => [cur]
  | b :: t, cur => if b = 32 then cur :: wordsGo t [] else wordsGo t (cur ++ [b])
def wordOk (l : List Int) : Bool := decide (l.length ≤ 6) && l.all hexB
def clsRow (l : List Int) : Int × Int × Int := match wordsGo l [] with | [a, b, c] => (numL 16 a, numL 16 b, numL 10 c) | _ => (0, 0, 0)
def mapRow (l : List Int) : Int × List Int := match wordsGo l [] with | a :: t => (numL 16 a, t.map (numL 16)) | [] => (0, [])
theorem cls_lines : (linesGo clsText []).map clsRow = classTab := by kernel_rfl
theorem cls_words : ((linesGo clsText []).all fun l => decide (l.length ≤ 40) && decide ((wordsGo l []).length = 3) && (wordsGo l []).all wordOk) = true := by kernel_rfl
theorem map_lines : (linesGo mapText []).map mapRow = mapTab := by kernel_rfl
theorem map_words : ((linesGo mapText []).all fun l => decide (l.length ≤ 60) && decide (2 ≤ (wordsGo l []).length ∧ (wordsGo l []).length ≤ 9) && (wordsGo l []).all wordOk) = true := by kernel_rfl
end Go.Proofs.Ytmmigplciogggaa
