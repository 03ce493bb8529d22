/- What the kernel finds of calls of the law, each with those before it told: the evaluator's word (EvMemo). -/
import Derived.Test.YtmnhbehmjaibgaaGreatMemoD
import Derived.KernelRfl
namespace Go.Proofs.YtmnhbehmjaibgaaGreat
open Go Ev
set_option maxRecDepth 1000000 in
theorem c1:Ev.a7f TM0 88 a1 v1=true:=by kernel_rfl
set_option maxRecDepth 1000000 in
theorem c2:Ev.a7f TM1 88 a2 v2=true:=by kernel_rfl
set_option maxRecDepth 1000000 in
theorem c3:Ev.a7f TM2 68 a3 v3=true:=by kernel_rfl
set_option maxRecDepth 1000000 in
theorem c4:Ev.a7f TM3 68 a4 v4=true:=by kernel_rfl
set_option maxRecDepth 1000000 in
theorem c5:Ev.a7f TM4 7 a5 v5=true:=by kernel_rfl
end Go.Proofs.YtmnhbehmjaibgaaGreat
