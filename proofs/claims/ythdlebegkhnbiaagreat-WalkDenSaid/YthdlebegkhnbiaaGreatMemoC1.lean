/- What the kernel finds of calls of the law, each with those before it told: the evaluator's word (EvMemo). -/
import Derived.Test.YthdlebegkhnbiaaGreatMemoD
import Derived.KernelRfl
namespace Go.Proofs.YthdlebegkhnbiaaGreat
open Go Ev
set_option maxRecDepth 1000000 in
theorem c1:Ev.memoChk TM0 5 a1 v1=true:=by kernel_rfl
end Go.Proofs.YthdlebegkhnbiaaGreat
