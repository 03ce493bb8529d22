/- What the kernel finds of calls of the law, each with those before it told: the evaluator's word (EvMemo). -/
import Derived.Test.YtafhdgklajipkaaGreatMemoD
import Derived.KernelRfl
namespace Go.Proofs.YtafhdgklajipkaaGreat
open Go Ev
set_option maxRecDepth 1000000 in
theorem c17 : Ev.memoChk T16 59 a17 v17 = true := by kernel_rfl
set_option maxRecDepth 1000000 in
theorem c18 : Ev.memoChk T17 116 a18 v18 = true := by kernel_rfl
set_option maxRecDepth 1000000 in
theorem c19 : Ev.memoChk T18 122 a19 v19 = true := by kernel_rfl
set_option maxRecDepth 1000000 in
theorem c20 : Ev.memoChk T19 116 a20 v20 = true := by kernel_rfl
end Go.Proofs.YtafhdgklajipkaaGreat
