/- What the kernel finds of calls of the law, each with those before it told: the evaluator's word (EvMemo). -/
import Derived.Test.YtnaihoegbmpjiaaGreatMemoD
import Derived.KernelRfl
namespace Go.Proofs.YtnaihoegbmpjiaaGreat
open Go Ev
set_option maxRecDepth 1000000 in
theorem c1 : Ev.memoChk T0 60 a1 v1 = true := by kernel_rfl
set_option maxRecDepth 1000000 in
theorem c2 : Ev.memoChk T1 112 a2 v2 = true := by kernel_rfl
set_option maxRecDepth 1000000 in
theorem c3 : Ev.memoChk T2 60 a3 v3 = true := by kernel_rfl
set_option maxRecDepth 1000000 in
theorem c4 : Ev.memoChk T3 112 a4 v4 = true := by kernel_rfl
set_option maxRecDepth 1000000 in
theorem c5 : Ev.memoChk T4 116 a5 v5 = true := by kernel_rfl
set_option maxRecDepth 1000000 in
theorem c6 : Ev.memoChk T5 114 a6 v6 = true := by kernel_rfl
set_option maxRecDepth 1000000 in
theorem c7 : Ev.memoChk T6 116 a7 v7 = true := by kernel_rfl
set_option maxRecDepth 1000000 in
theorem c8 : Ev.memoChk T7 114 a8 v8 = true := by kernel_rfl
set_option maxRecDepth 1000000 in
theorem c9 : Ev.memoChk T8 112 a9 v9 = true := by kernel_rfl
set_option maxRecDepth 1000000 in
theorem c10 : Ev.memoChk T9 112 a10 v10 = true := by kernel_rfl
set_option maxRecDepth 1000000 in
theorem c11 : Ev.memoChk T10 60 a11 v11 = true := by kernel_rfl
set_option maxRecDepth 1000000 in
theorem c12 : Ev.memoChk T11 112 a12 v12 = true := by kernel_rfl
set_option maxRecDepth 1000000 in
theorem c13 : Ev.memoChk T12 116 a13 v13 = true := by kernel_rfl
set_option maxRecDepth 1000000 in
theorem c14 : Ev.memoChk T13 116 a14 v14 = true := by kernel_rfl
set_option maxRecDepth 1000000 in
theorem c15 : Ev.memoChk T14 116 a15 v15 = true := by kernel_rfl
set_option maxRecDepth 1000000 in
theorem c16 : Ev.memoChk T15 114 a16 v16 = true := by kernel_rfl
set_option maxRecDepth 1000000 in
theorem c17 : Ev.memoChk T16 393 a17 v17 = true := by kernel_rfl
end Go.Proofs.YtnaihoegbmpjiaaGreat
