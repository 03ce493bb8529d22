/- A part of an evaluator of the program's form in Lean, of the proof that what it says of a call is what the machine does, and of the rules by which proofs walk over it. Conditions: those that each theorem states. -/
import Derived.Test.YtejfbaecadbdiaaGreatGap
set_option linter.unusedVariables false
set_option linter.unusedSimpArgs false
section
namespace Ev
open Go
variable {T:a0k}{cx:Cx}{k:List K}{Q:Res→Prop}{all rest:List Oper}{df:List ADef}{pan:Option (AV×Bool)}{h:a0a}{L:List (Nat×AV)}
theorem d8s {a b:Code}:∀ (r:Res),after T cx (.code a::.code b::k) Q r→after T cx (.code (.seq a b)::k) Q r
 |.fin .normal s,g=>a1f (s:=s) g
 |.fin .ret _,g=>g
 |.fin (.exit _) _,g=>g
 |.fin (.goto _) _,g=>g
 |.pan _ _,g=>g
 |.ret _ _,g=>g
 |.thrown _ _,g=>g
 |.dret _ _,g=>g
 |.no _ _,g=>g
 |.alt _ _,g=>g
theorem f0m {a b:Code}(c:OJ T cx all rest (.code a::.code b::k) L df pan h Q):OJ T cx all rest (.code (.seq a b)::k) L df pan h Q:=⟨fun tm hs=>⟨Wp.mono (c.out tm hs).out d8s⟩⟩
theorem OJ.gen (Lf:List (Nat×AV)) (C:a0a→Prop) (hs:Sub Lf L) (hc:C h) (g:∀ h,C h→OJ T cx all rest k Lf df pan h Q):OJ T cx all rest k L df pan h Q:=(g h hc).sub hs
theorem e7z {ρ:Operand→Option AV}{o:Oper}{src t el ty:TypeId}{x:Operand}{b off n c:Nat}{cs:List AV}(ho:o.op=.convert src t x) (e:Nat.beq src t=true) (ht:T.und t=some (.slice el)) (hu:T.und el=some (.int .u8)) (hx:ρ x=some (.slice b off n c)) (hg:h.get b=some (.cells ty cs true)) (hty:T.und ty=some (.int .u8)):opA T ρ o h=.val (.slice b off n c) h:=by
 have:src=t:=Nat.eq_of_beq_eq_true e
 subst this
 cases o; cases ho
 simp only[opA,hx,b4q,ht,hu,hg,hty]
 simp
end Ev
end
section
namespace Ev
open Go
variable {α:Type}
structure d2j (φ:List α→List AV) (e:TypeId) (box l d:Nat) (O:a1t) (S:Nat→Prop) (acc:List α) (h:a0a):Prop where
 low:∀ c,S c→c<h.next
 sb:S box
 sl:S l
 sd:S d
 n1:box≠l
 n2:l≠d
 n3:box≠d
 gl:h.get l=some O
 gd:h.get d=some (.dfr (some []))
 gb:h.get box=some (.cells e (φ acc) true)
theorem d2j.a2l {φ:List α→List AV}{e:TypeId}{box l d:Nat}{O:a1t}{S:Nat→Prop}{acc:List α}{h h':a0a}(i:d2j φ e box l d O S acc h) (hn:h.next≤h'.next) (k:∀ c,S c→c<h.next→h'.get c=h.get c):d2j φ e box l d O S acc h' :=
 ⟨fun c q=>Nat.lt_of_lt_of_le (i.low c q) hn,i.sb,i.sl,i.sd,i.n1,i.n2,i.n3,(k _ i.sl (i.low _ i.sl)).trans i.gl,(k _ i.sd (i.low _ i.sd)).trans i.gd,(k _ i.sb (i.low _ i.sb)).trans i.gb⟩
theorem e8m {T:a0k}{enc:α→List AV}{φ:List α→List AV}{e:TypeId}{box l d:Nat}{fn:FuncId}{tm:Tr AV}{nt p dd:Nat}{as bd:Code}(hp:Nat.blt p nt=true)
  (rnd:∀ (S:Nat→Prop) (acc:List α) (s:α) (h:a0a),acc.length≤500000→d2j φ e box l d (.loop .ready none fn tm nt [p] as bd dd) S acc h→a7w T l fn (tm.set p (.agg (enc s))) nt as bd h (fun v h'=>v=.bool true∧Touch S h h'∧∃ S':Nat→Prop,(∀ c,S' c→S c∨h.next≤c)∧d2j φ e box l d (.loop .ready none fn tm nt [p] as bd dd) S' (acc++[s]) h')) :
  Yld T l enc (d2j φ e box l d (.loop .ready none fn tm nt [p] as bd dd)) where
 call:=fun S acc s h hl i=>⟨fn,_,nt,as,bd,by simp only[a3d,i.gl]; simp[hp,a5m],rnd S acc s h hl i⟩
 low:=fun S acc h i=>i.low
 a2l:=fun S acc h h' i hn k _=>i.a2l hn k
end Ev
end
