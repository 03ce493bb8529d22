/- A part of an evaluator of the program's form in Lean, of the proof that what it says of a call is what the machine does, and of the rules by which proofs walk over it. Conditions: those that each theorem states. -/
import Derived.Test.YtmnhbehmjaibgaaGreatGap
set_option linter.unusedVariables false
set_option linter.unusedSimpArgs false
section
namespace Ev
open Go
variable {T:a0n}{cx:Cx}{k:List K}{Q:Res→Prop}{all rest:List Oper}{df:List ADef}{pan:Option (AV×Bool)}{h:a0a}{L:List (Nat×AV)}
theorem e0e {a b:Code}:∀ (r:Res),after T cx (.code a::.code b::k) Q r→after T cx (.code (.seq a b)::k) Q r
 |.fin .normal s,g=>a1e (s:=s) g
 |.fin .ret _,g=>g
 |.fin (.exit _) _,g=>g
 |.fin (.goto _) _,g=>g
 |.pan _ _,g=>g
 |.ret _ _,g=>g
 |.thrown _ _,g=>g
 |.dret _ _,g=>g
 |.no _ _,g=>g
 |.alt _ _,g=>g
theorem f1x {a b:Code}(c:OJ T cx all rest (.code a::.code b::k) L df pan h Q):OJ T cx all rest (.code (.seq a b)::k) L df pan h Q:=⟨fun tm hs=>⟨Wp.mono (c.out tm hs).out e0e⟩⟩
theorem OJ.gen (Lf:List (Nat×AV)) (C:a0a→Prop) (hs:Sub Lf L) (hc:C h) (g:∀ h,C h→OJ T cx all rest k Lf df pan h Q):OJ T cx all rest k L df pan h Q:=(g h hc).sub hs
end Ev
end
