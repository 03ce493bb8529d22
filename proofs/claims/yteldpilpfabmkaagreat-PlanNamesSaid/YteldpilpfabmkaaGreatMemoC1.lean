/- What the kernel finds of calls of the law, each with those before it told: the evaluator's word (EvMemo). -/
import Derived.Test.YteldpilpfabmkaaGreatMemoD
import Derived.KernelRfl
namespace Go.Proofs.YteldpilpfabmkaaGreat
open Go Ev
set_option maxRecDepth 1000000 in
theorem c1 : Ev.memoChk T0 13 a1 v1 = true := by kernel_rfl
set_option maxRecDepth 1000000 in
theorem c2 : Ev.memoChk T1 66 a2 v2 = true := by kernel_rfl
set_option maxRecDepth 1000000 in
theorem c3 : Ev.memoChk T2 67 a3 v3 = true := by kernel_rfl
set_option maxRecDepth 1000000 in
theorem c4 : Ev.memoChk T3 66 a4 v4 = true := by kernel_rfl
set_option maxRecDepth 1000000 in
theorem c5 : Ev.memoChk T4 67 a5 v5 = true := by kernel_rfl
set_option maxRecDepth 1000000 in
theorem c6 : Ev.memoChk T5 306 a6 v6 = true := by kernel_rfl
set_option maxRecDepth 1000000 in
theorem c7 : Ev.memoChk T6 243 a7 v7 = true := by kernel_rfl
set_option maxRecDepth 1000000 in
theorem c8 : Ev.memoChk T7 306 a8 v8 = true := by kernel_rfl
set_option maxRecDepth 1000000 in
theorem c9 : Ev.memoChk T8 243 a9 v9 = true := by kernel_rfl
set_option maxRecDepth 1000000 in
theorem c10 : Ev.memoChk T9 81 a10 v10 = true := by kernel_rfl
set_option maxRecDepth 1000000 in
theorem c11 : Ev.memoChk T10 38 a11 v11 = true := by kernel_rfl
set_option maxRecDepth 1000000 in
theorem c12 : Ev.memoChk T11 4 a12 v12 = true := by kernel_rfl
set_option maxRecDepth 1000000 in
theorem c13 : Ev.memoChk T12 188 a13 v13 = true := by kernel_rfl
set_option maxRecDepth 1000000 in
theorem c14 : Ev.memoChk T13 105 a14 v14 = true := by kernel_rfl
set_option maxRecDepth 1000000 in
theorem c15 : Ev.memoChk T14 188 a15 v15 = true := by kernel_rfl
set_option maxRecDepth 1000000 in
theorem c16 : Ev.memoChk T15 105 a16 v16 = true := by kernel_rfl
set_option maxRecDepth 1000000 in
theorem c17 : Ev.memoChk T16 39 a17 v17 = true := by kernel_rfl
set_option maxRecDepth 1000000 in
theorem c18 : Ev.memoChk T17 5 a18 v18 = true := by kernel_rfl
set_option maxRecDepth 1000000 in
theorem c19 : Ev.memoChk T18 13 a19 v19 = true := by kernel_rfl
set_option maxRecDepth 1000000 in
theorem c20 : Ev.memoChk T19 66 a20 v20 = true := by kernel_rfl
set_option maxRecDepth 1000000 in
theorem c21 : Ev.memoChk T20 67 a21 v21 = true := by kernel_rfl
set_option maxRecDepth 1000000 in
theorem c22 : Ev.memoChk T21 66 a22 v22 = true := by kernel_rfl
end Go.Proofs.YteldpilpfabmkaaGreat
