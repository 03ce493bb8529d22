/- What the kernel finds of calls of the law, each with those before it told: the evaluator's word (EvMemo). -/
import Derived.Test.YtafhdgklajipkaaGreatMemoD
import Derived.KernelRfl
namespace Go.Proofs.YtafhdgklajipkaaGreat
open Go Ev
set_option maxRecDepth 1000000 in
theorem c21 : Ev.memoChk T20 3 a21 v21 = true := by kernel_rfl
end Go.Proofs.YtafhdgklajipkaaGreat
