/- What the kernel finds of calls of the law, each with those before it told: the evaluator's word (EvMemo). -/
import Derived.Test.YtnaihoegbmpjiaaGreatMemoD
import Derived.KernelRfl
namespace Go.Proofs.YtnaihoegbmpjiaaGreat
open Go Ev
set_option maxRecDepth 1000000 in
theorem c36 : Ev.memoChk T35 114 a36 v36 = true := by kernel_rfl
set_option maxRecDepth 1000000 in
theorem c37 : Ev.memoChk T36 116 a37 v37 = true := by kernel_rfl
set_option maxRecDepth 1000000 in
theorem c38 : Ev.memoChk T37 114 a38 v38 = true := by kernel_rfl
set_option maxRecDepth 1000000 in
theorem c39 : Ev.memoChk T38 116 a39 v39 = true := by kernel_rfl
set_option maxRecDepth 1000000 in
theorem c40 : Ev.memoChk T39 393 a40 v40 = true := by kernel_rfl
set_option maxRecDepth 1000000 in
theorem c41 : Ev.memoChk T40 116 a41 v41 = true := by kernel_rfl
set_option maxRecDepth 1000000 in
theorem c42 : Ev.memoChk T41 393 a42 v42 = true := by kernel_rfl
set_option maxRecDepth 1000000 in
theorem c43 : Ev.memoChk T42 407 a43 v43 = true := by kernel_rfl
set_option maxRecDepth 1000000 in
theorem c44 : Ev.memoChk T43 291 a44 v44 = true := by kernel_rfl
set_option maxRecDepth 1000000 in
theorem c45 : Ev.memoChk T44 116 a45 v45 = true := by kernel_rfl
set_option maxRecDepth 1000000 in
theorem c46 : Ev.memoChk T45 393 a46 v46 = true := by kernel_rfl
set_option maxRecDepth 1000000 in
theorem c47 : Ev.memoChk T46 106 a47 v47 = true := by kernel_rfl
end Go.Proofs.YtnaihoegbmpjiaaGreat
