/- What the functions of this part answer at any input, told by the rules over the evaluator. Conditions: those that each theorem states. -/
import Derived.Test.YtmnhbehmjaibgaaGreatGao
import Derived.Test.YtmnhbehmjaibgaaGreatTab
import Derived.Test.YtmnhbehmjaibgaaGreatCrc
import Derived.Test.YtmnhbehmjaibgaaGreatSta
set_option linter.unusedVariables false
set_option linter.unusedSimpArgs false
open Go Ev
namespace Go.Proofs.YtmnhbehmjaibgaaGreat
def livesFs:List Nat:=[7]
def crcFs:List Nat:=[105,144,117,160]
noncomputable def wordSm (f:FuncId) (args:List AV) (h:Heap):Option (AV×Heap):=match memN f livesFs with
 |true=>match args with
  |[]=>some (.bool true,h)
  |_=>none
 |false=>match memN f sortFs with
  |true=>sortSm f args h
  |false=>match memN f crcFs with
   |true=>crcSm f args h
   |false=>none
noncomputable def T0:Ev.Tabs:={ TB.det with sm:=wordSm }
def wfs:List Nat:=[66,138,143,100,67,104,68,40,94,172,136,92,135,91,62,191,148,149,147,108,193,192,152,151,150,112,154,113,71,156,155,157,158,114,41,18,8,13,38,124,115,116,88,74,73,42,121,119,161,162,118,78,79,163,164,123,122,80,169,166,126,165,125,81,200,82,46,128,167,127,83,19,10,16,24,15,17,14,12,27,23,28,184,210,142,187,188,206]
def wf (f:FuncId):Bool:=memN f wfs
noncomputable def TV (n:Nat):Ev.Tabs:=lev T0 wf n
theorem w_in {d n:Nat}(hn:d<n){f:FuncId}{args:List AV}{h:Heap}{v:AV}(C:Heap→Prop) (hw:wf f=true) (hp:v.plain=true) (hc:C h) (h0:AV.plains args=true→C ⟨.nil,0⟩) (g:∀ m,d≤m→∀ h,C h→BGives (TV m) f args h (fun v' h'=>v'=v∧Ext h h')):(TV n).sm f args h=some (v,h):=by
 obtain⟨m,rfl⟩:∃ m,n=m+1:=⟨n-1,by omega⟩
 exact word hw hp (.other (g m (by omega) h hc) fun hp=>g m (by omega) _ (h0 hp))
theorem no_w {n:Nat}{f:FuncId}{args:List AV}{h:Heap}(hw:wf f=false) (h0:wordSm f args h=none):(TV n).sm f args h=none:=by
 show smB T0 wf n f args h=none
 cases n with
 |zero=>exact h0
 |succ n=>unfold smB; rw[hw]; exact h0
theorem b_w {n:Nat}{f:FuncId}{args:List AV}{h:Heap}{r:Option (AV×Heap)}(hw:wf f=false) (h0:wordSm f args h=r):(TV n).sm f args h=r:=by
 show smB T0 wf n f args h=r
 cases n with
 |zero=>exact h0
 |succ n=>unfold smB; rw[hw]; exact h0
end Go.Proofs.YtmnhbehmjaibgaaGreat
