/- What the functions of this part answer at any input, told by the rules over the evaluator. Conditions: those that each theorem states. -/
import Derived.Test.YtejfbaecadbdiaaGreatGal
import Derived.Test.YtejfbaecadbdiaaGreatGan
import Derived.Test.YtejfbaecadbdiaaGreatGao
import Derived.Test.YtejfbaecadbdiaaGreatTab
set_option linter.unusedVariables false
set_option linter.unusedSimpArgs false
open Go Ev
namespace Go.Proofs.YtejfbaecadbdiaaGreat
def f6b:List Nat:=[88,204,208,174,220]
def wfA (f:FuncId):Bool:=b0h f f6b
noncomputable def TA (n:Nat):Ev.a0k:=lev TB wfA n
theorem d1b {d n:Nat}(hn:d<n){f:FuncId}{args:List AV}{h:a0a}{v:AV}(hw:wfA f=true) (ha:AV.a1q args=true) (hp:v.plain=true) (g:∀ m,d≤m→a5s (TA m) f args ⟨.nil,0⟩ (fun v' _=>v'=v)):(TA n).sm f args h=some (v,h):=by
 obtain⟨m,rfl⟩:∃ m,n=m+1:=⟨n-1,by omega⟩
 exact word hw hp (.plain ha (g m (by omega)))
theorem a6m {n:Nat}{f:FuncId}{args:List AV}{h:a0a}(hw:wfA f=false) (h0:(none:Option (AV×a0a))=none):(TA n).sm f args h=none:=by
 show smB TB wfA n f args h=none
 cases n with
 |zero=>rfl
 |succ n=>unfold smB; rw[hw]; rfl
def f2o:List Nat:=[113]
noncomputable def e3i (f:FuncId) (args:List AV) (h:a0a):Option (AV×a0a):=c5d (TA 60) f args h
theorem d7a (base:Nat) (w0:World){f:FuncId}{args:List AV}{h h':a0a}{v:AV}(e:e3i f args h=some (v,h')):a1j Tryz.prog base w0 (.call f args h) (.ret v h') :=
 e3v (T:=TA 60) (b0s.a2s _) (fun base w0=>c7d (wf:=wfA) b0s (fun _ _ _ _ _ h=>by cases h) 60) e
end Go.Proofs.YtejfbaecadbdiaaGreat
