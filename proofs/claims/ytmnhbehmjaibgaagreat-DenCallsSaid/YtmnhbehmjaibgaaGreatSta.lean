/- What the functions of this part answer at any input, told by the rules over the evaluator. Conditions: those that each theorem states. -/
import Derived.Test.YtmnhbehmjaibgaaGreatGal
import Derived.Test.YtmnhbehmjaibgaaGreatGan
import Derived.Test.YtmnhbehmjaibgaaGreatGao
import Derived.Test.YtmnhbehmjaibgaaGreatTab
set_option linter.unusedVariables false
set_option linter.unusedSimpArgs false
open Go Ev
namespace Go.Proofs.YtmnhbehmjaibgaaGreat
def f5q:List Nat:=[210,184,188,142,206]
def wfA (f:FuncId):Bool:=a9p f f5q
noncomputable def TA (n:Nat):Ev.a0n:=lev TB wfA n
theorem c9v {d n:Nat}(hn:d<n){f:FuncId}{args:List AV}{h:a0a}{v:AV}(hw:wfA f=true) (ha:AV.a0z args=true) (hp:v.plain=true) (g:∀ m,d≤m→a5n (TA m) f args ⟨.nil,0⟩ (fun v' _=>v'=v)):(TA n).sm f args h=some (v,h):=by
 obtain⟨m,rfl⟩:∃ m,n=m+1:=⟨n-1,by omega⟩
 exact word hw hp (.plain ha (g m (by omega)))
theorem a6m {n:Nat}{f:FuncId}{args:List AV}{h:a0a}(hw:wfA f=false) (h0:(none:Option (AV×a0a))=none):(TA n).sm f args h=none:=by
 show smB TB wfA n f args h=none
 cases n with
 |zero=>rfl
 |succ n=>unfold smB; rw[hw]; rfl
def f0x:List Nat:=[64]
noncomputable def e1c (f:FuncId) (args:List AV) (h:a0a):Option (AV×a0a):=c5r (TA 60) f args h
theorem d8t (base:Nat) (w0:World){f:FuncId}{args:List AV}{h h':a0a}{v:AV}(e:e1c f args h=some (v,h')):a1i Tryz.prog base w0 (.call f args h) (.ret v h') :=
 e3t (T:=TA 60) (b0q.a2o _) (fun base w0=>c7m (wf:=wfA) b0q (fun _ _ _ _ _ h=>by cases h) 60) e
end Go.Proofs.YtmnhbehmjaibgaaGreat
