/- What the functions of this part answer at any input, told by the rules over the evaluator. Conditions: those that each theorem states. -/
import Derived.Test.YtejfbaecadbdiaaGreatGaq
import Derived.Test.YtejfbaecadbdiaaGreatLv
set_option linter.unusedVariables false
set_option linter.unusedSimpArgs false
open Go Ev
namespace Go.Proofs.YtejfbaecadbdiaaGreat
set_option maxRecDepth 10000
set_option maxHeartbeats 4000000
structure Pr where
 key:List UInt8
 val:List UInt8
 deriving DecidableEq
def Pr.cs (p:Pr):List AV:=[.str p.key,.str p.val]
theorem Pr.csl (p:Pr):p.cs.length=2:=rfl
theorem a1u.form {e:TypeId}{sz n:Nat}{S:Nat→Prop}{h:a0a}{v:AV}{cs:List AV}(w:a1u e sz S h v n cs):v=.nilslice∨(∃ B n c,v=.slice B 0 n c)∨∃ B n c,v=.oslice B 0 n c:=by
 cases w with
 |nil=>exact .inl rfl
 |sl=>exact .inr (.inl ⟨_,_,_,rfl⟩)
 |os=>exact .inr (.inr ⟨_,_,_,rfl⟩)
def Nm.cs (x:List UInt8×AV):List AV:=[.str x.1,x.2]
theorem Nm.len (x:List UInt8×AV):(Nm.cs x).length=2:=rfl
def e9c (h:a0a) (v:AV) (bs:List (List UInt8×List Pr)):Prop:=∃ l,Ls Nm.cs 2 h v l∧l.length=bs.length∧∀ (j:Nat) (x:List UInt8×AV) (b:List UInt8×List Pr),l[j]?=some x→bs[j]?=some b→x.1=b.1∧Ls Pr.cs 2 h x.2 b.2
theorem e9c.ext {h h':a0a}{v:AV}{bs:List (List UInt8×List Pr)}(d:e9c h v bs) (x:Ext h h'):e9c h' v bs:=by
 obtain⟨l,a,b,c⟩:=d
 exact⟨l,a.ext x,b,fun j y b h1 h2=>⟨(c j y b h1 h2).1,(c j y b h1 h2).2.ext x⟩⟩
end Go.Proofs.YtejfbaecadbdiaaGreat
