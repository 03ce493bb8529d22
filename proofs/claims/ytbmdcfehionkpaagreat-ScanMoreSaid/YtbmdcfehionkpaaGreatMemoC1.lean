/- What the kernel finds of calls of the law, each with those before it told: the evaluator's word (EvMemo). -/
import Derived.Test.YtbmdcfehionkpaaGreatMemoD
import Derived.KernelRfl
namespace Go.Proofs.YtbmdcfehionkpaaGreat
open Go Ev
set_option maxRecDepth 1000000 in
theorem c1 : Ev.memoChk TM0 12 a1 v1 = true := by kernel_rfl
set_option maxRecDepth 1000000 in
theorem c2 : Ev.memoChk TM1 38 a2 v2 = true := by kernel_rfl
set_option maxRecDepth 1000000 in
theorem c3 : Ev.memoChk TM2 20 a3 v3 = true := by kernel_rfl
set_option maxRecDepth 1000000 in
theorem c4 : Ev.memoChk TM3 12 a4 v4 = true := by kernel_rfl
set_option maxRecDepth 1000000 in
theorem c5 : Ev.memoChk TM4 105 a5 v5 = true := by kernel_rfl
set_option maxRecDepth 1000000 in
theorem c6 : Ev.memoChk TM5 76 a6 v6 = true := by kernel_rfl
set_option maxRecDepth 1000000 in
theorem c7 : Ev.memoChk TM6 173 a7 v7 = true := by kernel_rfl
set_option maxRecDepth 1000000 in
theorem c8 : Ev.memoChk TM7 150 a8 v8 = true := by kernel_rfl
set_option maxRecDepth 1000000 in
theorem c9 : Ev.memoChk TM8 136 a9 v9 = true := by kernel_rfl
set_option maxRecDepth 1000000 in
theorem c10 : Ev.memoChk TM9 92 a10 v10 = true := by kernel_rfl
set_option maxRecDepth 1000000 in
theorem c11 : Ev.memoChk TM10 105 a11 v11 = true := by kernel_rfl
set_option maxRecDepth 1000000 in
theorem c12 : Ev.memoChk TM11 76 a12 v12 = true := by kernel_rfl
set_option maxRecDepth 1000000 in
theorem c13 : Ev.memoChk TM12 105 a13 v13 = true := by kernel_rfl
set_option maxRecDepth 1000000 in
theorem c14 : Ev.memoChk TM13 76 a14 v14 = true := by kernel_rfl
set_option maxRecDepth 1000000 in
theorem c15 : Ev.memoChk TM14 46 a15 v15 = true := by kernel_rfl
set_option maxRecDepth 1000000 in
theorem c16 : Ev.memoChk TM15 76 a16 v16 = true := by kernel_rfl
set_option maxRecDepth 1000000 in
theorem c17 : Ev.memoChk TM16 76 a17 v17 = true := by kernel_rfl
set_option maxRecDepth 1000000 in
theorem c18 : Ev.memoChk TM17 46 a18 v18 = true := by kernel_rfl
set_option maxRecDepth 1000000 in
theorem c19 : Ev.memoChk TM18 16 a19 v19 = true := by kernel_rfl
set_option maxRecDepth 1000000 in
theorem c20 : Ev.memoChk TM19 8 a20 v20 = true := by kernel_rfl
end Go.Proofs.YtbmdcfehionkpaaGreat
