/- What the kernel finds of calls of the law, each with those before it told: the evaluator's word (EvMemo). -/
import Derived.Test.YtiijbjafiknbkaaGreatDoorMemoD
import Derived.KernelRfl
namespace Go.Proofs.YtiijbjafiknbkaaGreatDoor
open Go Ev
set_option maxRecDepth 1000000 in
theorem c15 : Ev.memoChk T14 3 a15 v15 = true := by kernel_rfl
end Go.Proofs.YtiijbjafiknbkaaGreatDoor
