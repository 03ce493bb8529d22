/- What the kernel finds of calls of the law, each with those before it told: the evaluator's word (EvMemo). -/
import Derived.Test.YtnaihoegbmpjiaaGreatMemoD
import Derived.KernelRfl
namespace Go.Proofs.YtnaihoegbmpjiaaGreat
open Go Ev
set_option maxRecDepth 1000000 in
theorem c23 : Ev.memoChk T22 106 a23 v23 = true := by kernel_rfl
set_option maxRecDepth 1000000 in
theorem c24 : Ev.memoChk T23 116 a24 v24 = true := by kernel_rfl
set_option maxRecDepth 1000000 in
theorem c25 : Ev.memoChk T24 270 a25 v25 = true := by kernel_rfl
set_option maxRecDepth 1000000 in
theorem c26 : Ev.memoChk T25 271 a26 v26 = true := by kernel_rfl
set_option maxRecDepth 1000000 in
theorem c27 : Ev.memoChk T26 333 a27 v27 = true := by kernel_rfl
set_option maxRecDepth 1000000 in
theorem c28 : Ev.memoChk T27 112 a28 v28 = true := by kernel_rfl
set_option maxRecDepth 1000000 in
theorem c29 : Ev.memoChk T28 112 a29 v29 = true := by kernel_rfl
set_option maxRecDepth 1000000 in
theorem c30 : Ev.memoChk T29 112 a30 v30 = true := by kernel_rfl
set_option maxRecDepth 1000000 in
theorem c31 : Ev.memoChk T30 60 a31 v31 = true := by kernel_rfl
set_option maxRecDepth 1000000 in
theorem c32 : Ev.memoChk T31 112 a32 v32 = true := by kernel_rfl
set_option maxRecDepth 1000000 in
theorem c33 : Ev.memoChk T32 60 a33 v33 = true := by kernel_rfl
set_option maxRecDepth 1000000 in
theorem c34 : Ev.memoChk T33 112 a34 v34 = true := by kernel_rfl
set_option maxRecDepth 1000000 in
theorem c35 : Ev.memoChk T34 116 a35 v35 = true := by kernel_rfl
end Go.Proofs.YtnaihoegbmpjiaaGreat
