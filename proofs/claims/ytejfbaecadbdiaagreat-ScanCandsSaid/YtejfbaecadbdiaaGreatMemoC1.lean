/- What the kernel finds of calls of the law, each with those before it told: the evaluator's word (EvMemo). -/
import Derived.Test.YtejfbaecadbdiaaGreatMemoD
import Derived.KernelRfl
namespace Go.Proofs.YtejfbaecadbdiaaGreat
open Go Ev
set_option maxRecDepth 1000000 in
theorem c1:Ev.a7o TM0 26 a1 v1=true:=by kernel_rfl
set_option maxRecDepth 1000000 in
theorem c2:Ev.a7o TM1 97 a2 v2=true:=by kernel_rfl
set_option maxRecDepth 1000000 in
theorem c3:Ev.a7o TM2 97 a3 v3=true:=by kernel_rfl
set_option maxRecDepth 1000000 in
theorem c4:Ev.a7o TM3 97 a4 v4=true:=by kernel_rfl
set_option maxRecDepth 1000000 in
theorem c5:Ev.a7o TM4 6 a5 v5=true:=by kernel_rfl
end Go.Proofs.YtejfbaecadbdiaaGreat
