/- What the functions of this part answer at any input, told by the rules over the evaluator. Conditions: those that each theorem states. -/
import Derived.Test.YtmnhbehmjaibgaaGreatGal
import Derived.Test.YtmnhbehmjaibgaaGreatGan
import Derived.Test.YtmnhbehmjaibgaaGreatGao
import Derived.Test.YtmnhbehmjaibgaaGreatTab
set_option linter.unusedVariables false
set_option linter.unusedSimpArgs false
open Go Ev
namespace Go.Proofs.YtmnhbehmjaibgaaGreat
def wfAs:List Nat:=[210,184,188,142,206]
def wfA (f:FuncId):Bool:=memN f wfAs
noncomputable def TA (n:Nat):Ev.Tabs:=lev TB wfA n
def sortFs:List Nat:=[64]
noncomputable def sortSm (f:FuncId) (args:List AV) (h:Heap):Option (AV×Heap):=normS (TA 60) f args h
theorem sortSm_ok (base:Nat) (w0:World){f:FuncId}{args:List AV}{h h':Heap}{v:AV}(e:sortSm f args h=some (v,h')):TaskOK Tryz.prog base w0 (.call f args h) (.ret v h') :=
 normS_ok (T:=TA 60) (TB_ok.withSm _) (fun base w0=>lev_ok (wf:=wfA) TB_ok (fun _ _ _ _ _ h=>by cases h) 60) e
end Go.Proofs.YtmnhbehmjaibgaaGreat
