/- What the kernel finds of calls of the law, each with those before it told: the evaluator's word (EvMemo). -/
import Derived.Test.YtnaihoegbmpjiaaGreatMemoD
import Derived.KernelRfl
namespace Go.Proofs.YtnaihoegbmpjiaaGreat
open Go Ev
set_option maxRecDepth 1000000 in
theorem c48 : Ev.memoChk T47 3 a48 v48 = true := by kernel_rfl
end Go.Proofs.YtnaihoegbmpjiaaGreat
