/- What the kernel finds of calls of the law, each with those before it told: the evaluator's word (EvMemo). -/
import Derived.Test.YtcngecdjmmjlhaaGreatMemoD
import Derived.KernelRfl
namespace Go.Proofs.YtcngecdjmmjlhaaGreat
open Go Ev
set_option maxRecDepth 1000000 in
theorem c1 : Ev.memoChk T0 52 a1 v1 = true := by kernel_rfl
set_option maxRecDepth 1000000 in
theorem c2 : Ev.memoChk T1 104 a2 v2 = true := by kernel_rfl
set_option maxRecDepth 1000000 in
theorem c3 : Ev.memoChk T2 52 a3 v3 = true := by kernel_rfl
set_option maxRecDepth 1000000 in
theorem c4 : Ev.memoChk T3 104 a4 v4 = true := by kernel_rfl
set_option maxRecDepth 1000000 in
theorem c5 : Ev.memoChk T4 108 a5 v5 = true := by kernel_rfl
set_option maxRecDepth 1000000 in
theorem c6 : Ev.memoChk T5 106 a6 v6 = true := by kernel_rfl
set_option maxRecDepth 1000000 in
theorem c7 : Ev.memoChk T6 108 a7 v7 = true := by kernel_rfl
set_option maxRecDepth 1000000 in
theorem c8 : Ev.memoChk T7 106 a8 v8 = true := by kernel_rfl
set_option maxRecDepth 1000000 in
theorem c9 : Ev.memoChk T8 104 a9 v9 = true := by kernel_rfl
set_option maxRecDepth 1000000 in
theorem c10 : Ev.memoChk T9 104 a10 v10 = true := by kernel_rfl
set_option maxRecDepth 1000000 in
theorem c11 : Ev.memoChk T10 52 a11 v11 = true := by kernel_rfl
set_option maxRecDepth 1000000 in
theorem c12 : Ev.memoChk T11 104 a12 v12 = true := by kernel_rfl
set_option maxRecDepth 1000000 in
theorem c13 : Ev.memoChk T12 108 a13 v13 = true := by kernel_rfl
set_option maxRecDepth 1000000 in
theorem c14 : Ev.memoChk T13 108 a14 v14 = true := by kernel_rfl
set_option maxRecDepth 1000000 in
theorem c15 : Ev.memoChk T14 108 a15 v15 = true := by kernel_rfl
set_option maxRecDepth 1000000 in
theorem c16 : Ev.memoChk T15 106 a16 v16 = true := by kernel_rfl
set_option maxRecDepth 1000000 in
theorem c17 : Ev.memoChk T16 393 a17 v17 = true := by kernel_rfl
end Go.Proofs.YtcngecdjmmjlhaaGreat
