/- What the functions of this part answer at any input, told by the rules over the evaluator. Conditions: those that each theorem states. -/
import Derived.Test.YthdlebegkhnbiaaGreatBit
import Derived.Test.YthdlebegkhnbiaaGreatGao
open Go Ev
namespace Go.Proofs.YthdlebegkhnbiaaGreat
set_option maxRecDepth 10000
set_option linter.unusedVariables false
set_option linter.unusedSimpArgs false
set_option maxHeartbeats 4000000
set_option linter.unusedVariables false
theorem Sn.csl (s : Sn) : s.cs.length = 15 := rfl
/-! ### what Each yields, in plain Lean -/
/-- what is seen of a visit; m: the words of the pages that were met -/
noncomputable def seenW (z : Int) (img : List UInt8) (m : List Nat) (v : Vis) : Sn :=
  if v.page < 2 ∨ pages z img ≤ v.page then ⟨v, 1, Pg.zero⟩
  else if (m.getD (v.page / 64) 0).testBit (v.page % 64) = true then ⟨v, 2, Pg.zero⟩
  else if v.depth > 16 then ⟨v, 3, Pg.zero⟩
  else ⟨v, if (pageR2 z img v).2 = true then 0 else 4, (pageR2 z img v).1⟩
def metW (m : List Nat) (s : Sn) : List Nat := if s.why = 1 then m else m.set (s.visit.page / 64) (m.getD (s.visit.page / 64) 0 ||| 1 * 2 ^ (s.visit.page % 64))
/-- a run: m what was met, left what is left (its last is next), l what is seen -/
inductive RunW (z : Int) (img : List UInt8) : List Nat → List Vis → List Sn → Prop
  | done {m : List Nat} : RunW z img m [] []
  | step {m : List Nat} {left : List Vis} {v : Vis} {l : List Sn} (r : RunW z img (metW m (seenW z img m v)) (left ++ (visitsV (seenW z img m v)).reverse) l) : RunW z img m (left ++ [v]) (seenW z img m v :: l)
end Go.Proofs.YthdlebegkhnbiaaGreat
