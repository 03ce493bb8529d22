/- What the kernel finds of calls of the law, each with those before it told: the evaluator's word (EvMemo). -/
import Derived.Test.YtiijbjafiknbkaaGreatDoorMemoD
import Derived.KernelRfl
namespace Go.Proofs.YtiijbjafiknbkaaGreatDoor
open Go Ev
set_option maxRecDepth 1000000 in
theorem c1 : Ev.memoChk T0 22 a1 v1 = true := by kernel_rfl
set_option maxRecDepth 1000000 in
theorem c2 : Ev.memoChk T1 77 a2 v2 = true := by kernel_rfl
set_option maxRecDepth 1000000 in
theorem c3 : Ev.memoChk T2 78 a3 v3 = true := by kernel_rfl
set_option maxRecDepth 1000000 in
theorem c4 : Ev.memoChk T3 77 a4 v4 = true := by kernel_rfl
set_option maxRecDepth 1000000 in
theorem c5 : Ev.memoChk T4 78 a5 v5 = true := by kernel_rfl
set_option maxRecDepth 1000000 in
theorem c6 : Ev.memoChk T5 172 a6 v6 = true := by kernel_rfl
set_option maxRecDepth 1000000 in
theorem c7 : Ev.memoChk T6 97 a7 v7 = true := by kernel_rfl
set_option maxRecDepth 1000000 in
theorem c8 : Ev.memoChk T7 172 a8 v8 = true := by kernel_rfl
set_option maxRecDepth 1000000 in
theorem c9 : Ev.memoChk T8 97 a9 v9 = true := by kernel_rfl
set_option maxRecDepth 1000000 in
theorem c10 : Ev.memoChk T9 44 a10 v10 = true := by kernel_rfl
set_option maxRecDepth 1000000 in
theorem c11 : Ev.memoChk T10 4 a11 v11 = true := by kernel_rfl
set_option maxRecDepth 1000000 in
theorem c12 : Ev.memoChk T11 22 a12 v12 = true := by kernel_rfl
set_option maxRecDepth 1000000 in
theorem c13 : Ev.memoChk T12 172 a13 v13 = true := by kernel_rfl
set_option maxRecDepth 1000000 in
theorem c14 : Ev.memoChk T13 22 a14 v14 = true := by kernel_rfl
end Go.Proofs.YtiijbjafiknbkaaGreatDoor
