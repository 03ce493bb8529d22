/- What the kernel finds of calls of the law, each with those before it told: the evaluator's word (EvMemo). -/
import Derived.Test.YteldpilpfabmkaaGreatMemoD
import Derived.KernelRfl
namespace Go.Proofs.YteldpilpfabmkaaGreat
open Go Ev
set_option maxRecDepth 1000000 in
theorem c23 : Ev.memoChk T22 67 a23 v23 = true := by kernel_rfl
set_option maxRecDepth 1000000 in
theorem c24 : Ev.memoChk T23 8 a24 v24 = true := by kernel_rfl
set_option maxRecDepth 1000000 in
theorem c25 : Ev.memoChk T24 13 a25 v25 = true := by kernel_rfl
set_option maxRecDepth 1000000 in
theorem c26 : Ev.memoChk T25 188 a26 v26 = true := by kernel_rfl
set_option maxRecDepth 1000000 in
theorem c27 : Ev.memoChk T26 14 a27 v27 = true := by kernel_rfl
set_option maxRecDepth 1000000 in
theorem c28 : Ev.memoChk T27 3 a28 v28 = true := by kernel_rfl
end Go.Proofs.YteldpilpfabmkaaGreat
