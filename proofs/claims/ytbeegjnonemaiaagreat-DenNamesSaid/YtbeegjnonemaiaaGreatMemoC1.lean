/- What the kernel finds of calls of the law, each with those before it told: the evaluator's word (EvMemo). -/
import Derived.Test.YtbeegjnonemaiaaGreatMemoD
import Derived.KernelRfl
namespace Go.Proofs.YtbeegjnonemaiaaGreat
open Go Ev
set_option maxRecDepth 1000000 in
theorem c1 : Ev.memoChk T0 34 a1 v1 = true := by kernel_rfl
set_option maxRecDepth 1000000 in
theorem c2 : Ev.memoChk T1 34 a2 v2 = true := by kernel_rfl
set_option maxRecDepth 1000000 in
theorem c3 : Ev.memoChk T2 45 a3 v3 = true := by kernel_rfl
set_option maxRecDepth 1000000 in
theorem c4 : Ev.memoChk T3 45 a4 v4 = true := by kernel_rfl
set_option maxRecDepth 1000000 in
theorem c5 : Ev.memoChk T4 4 a5 v5 = true := by kernel_rfl
set_option maxRecDepth 1000000 in
theorem c6 : Ev.memoChk T5 46 a6 v6 = true := by kernel_rfl
set_option maxRecDepth 1000000 in
theorem c7 : Ev.memoChk T6 26 a7 v7 = true := by kernel_rfl
set_option maxRecDepth 1000000 in
theorem c8 : Ev.memoChk T7 45 a8 v8 = true := by kernel_rfl
set_option maxRecDepth 1000000 in
theorem c9 : Ev.memoChk T8 3 a9 v9 = true := by kernel_rfl
end Go.Proofs.YtbeegjnonemaiaaGreat
