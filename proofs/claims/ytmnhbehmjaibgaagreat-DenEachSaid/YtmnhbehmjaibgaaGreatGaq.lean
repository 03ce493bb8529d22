/- A part of an evaluator of the program's form in Lean, of the proof that what it says of a call is what the machine does, and of the rules by which proofs walk over it. Conditions: those that each theorem states. -/
import Derived.Test.YtmnhbehmjaibgaaGreatGap
set_option linter.unusedVariables false
set_option linter.unusedSimpArgs false
section
namespace Ev
open Go
variable {T:Tabs}{cx:Cx}{k:List K}{Q:Res→Prop}{all rest:List Oper}{df:List ADef}{pan:Option (AV×Bool)}{h:Heap}{L:List (Nat×AV)}
theorem OJ.gen (Lf:List (Nat×AV)) (C:Heap→Prop) (hs:Sub Lf L) (hc:C h) (g:∀ h,C h→OJ T cx all rest k Lf df pan h Q):OJ T cx all rest k L df pan h Q:=(g h hc).sub hs
end Ev
end
