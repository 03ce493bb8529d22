/- What the kernel finds of calls of the law, each with those before it told: the evaluator's word (EvMemo). -/
import Derived.Test.YtnaihoegbmpjiaaGreatMemoD
import Derived.KernelRfl
namespace Go.Proofs.YtnaihoegbmpjiaaGreat
open Go Ev
set_option maxRecDepth 1000000 in
theorem c18 : Ev.memoChk T17 4 a18 v18 = true := by kernel_rfl
set_option maxRecDepth 1000000 in
theorem c19 : Ev.memoChk T18 73 a19 v19 = true := by kernel_rfl
set_option maxRecDepth 1000000 in
theorem c20 : Ev.memoChk T19 393 a20 v20 = true := by kernel_rfl
set_option maxRecDepth 1000000 in
theorem c21 : Ev.memoChk T20 407 a21 v21 = true := by kernel_rfl
set_option maxRecDepth 1000000 in
theorem c22 : Ev.memoChk T21 291 a22 v22 = true := by kernel_rfl
end Go.Proofs.YtnaihoegbmpjiaaGreat
