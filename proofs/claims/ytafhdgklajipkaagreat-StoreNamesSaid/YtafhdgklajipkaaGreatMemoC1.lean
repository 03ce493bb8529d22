/- What the kernel finds of calls of the law, each with those before it told: the evaluator's word (EvMemo). -/
import Derived.Test.YtafhdgklajipkaaGreatMemoD
import Derived.KernelRfl
namespace Go.Proofs.YtafhdgklajipkaaGreat
open Go Ev
set_option maxRecDepth 1000000 in
theorem c1 : Ev.memoChk T0 59 a1 v1 = true := by kernel_rfl
set_option maxRecDepth 1000000 in
theorem c2 : Ev.memoChk T1 116 a2 v2 = true := by kernel_rfl
set_option maxRecDepth 1000000 in
theorem c3 : Ev.memoChk T2 59 a3 v3 = true := by kernel_rfl
set_option maxRecDepth 1000000 in
theorem c4 : Ev.memoChk T3 116 a4 v4 = true := by kernel_rfl
set_option maxRecDepth 1000000 in
theorem c5 : Ev.memoChk T4 122 a5 v5 = true := by kernel_rfl
set_option maxRecDepth 1000000 in
theorem c6 : Ev.memoChk T5 120 a6 v6 = true := by kernel_rfl
set_option maxRecDepth 1000000 in
theorem c7 : Ev.memoChk T6 122 a7 v7 = true := by kernel_rfl
set_option maxRecDepth 1000000 in
theorem c8 : Ev.memoChk T7 120 a8 v8 = true := by kernel_rfl
set_option maxRecDepth 1000000 in
theorem c9 : Ev.memoChk T8 116 a9 v9 = true := by kernel_rfl
set_option maxRecDepth 1000000 in
theorem c10 : Ev.memoChk T9 116 a10 v10 = true := by kernel_rfl
set_option maxRecDepth 1000000 in
theorem c11 : Ev.memoChk T10 59 a11 v11 = true := by kernel_rfl
set_option maxRecDepth 1000000 in
theorem c12 : Ev.memoChk T11 116 a12 v12 = true := by kernel_rfl
set_option maxRecDepth 1000000 in
theorem c13 : Ev.memoChk T12 122 a13 v13 = true := by kernel_rfl
set_option maxRecDepth 1000000 in
theorem c14 : Ev.memoChk T13 122 a14 v14 = true := by kernel_rfl
set_option maxRecDepth 1000000 in
theorem c15 : Ev.memoChk T14 4 a15 v15 = true := by kernel_rfl
set_option maxRecDepth 1000000 in
theorem c16 : Ev.memoChk T15 116 a16 v16 = true := by kernel_rfl
end Go.Proofs.YtafhdgklajipkaaGreat
