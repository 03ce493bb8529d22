/- What the kernel finds of calls of the law, each with those before it told: the evaluator's word (EvMemo). -/
import Derived.Test.YtcngecdjmmjlhaaGreatMemoD
import Derived.KernelRfl
namespace Go.Proofs.YtcngecdjmmjlhaaGreat
open Go Ev
set_option maxRecDepth 1000000 in
theorem c18 : Ev.memoChk T17 4 a18 v18 = true := by kernel_rfl
end Go.Proofs.YtcngecdjmmjlhaaGreat
