/- A part of an evaluator of the program's form in Lean, of the proof that what it says of a call is what the machine does, and of the rules by which proofs walk over it. Conditions: those that each theorem states. -/
import Derived.Test.YtejfbaecadbdiaaGreatGae
import Derived.AtR
import Derived.Defers
import Derived.RangeFuncLeaves
set_option linter.unusedVariables false
set_option linter.unusedSimpArgs false
section
namespace Ev
open Go Go.RowKit
variable {P:Program}{T:a0k}{base:Nat}{w0:World}
structure Cxt where
 b:Frame
 cs:FrameMode→List Frame
inductive b9b (E:En):Option (AV×Bool)→FrameMode→Prop
 |ret:b9b E none .returning
 |pan (v:AV) (v':Value) (r:Bool) (h:VR E v v'):b9b E (some (v,r)) (.panicking [{ v:=v',recovered:=r }])
theorem b9b.mono {E E':En}(le:E.Le E'){p:Option (AV×Bool)}{m:FrameMode}(h:b9b E p m):b9b E' p m:=by
 cases h with
 |ret=>exact .ret
 |pan v v' r h=>exact .pan v v' r (h.mono le)
def e7u (E:En) (k:CallKind) (p:Option (AV×Bool)) (m:FrameMode):Prop:=(k=.normal∧p=none)∨(k=.deferred∧b9b E p m)
theorem e7u.mono {E E':En}(le:E.Le E'){k:CallKind}{p:Option (AV×Bool)}{m:FrameMode}(h:e7u E k p m):e7u E' k p m :=
 h.imp id fun h=>⟨h.1,h.2.mono le⟩
structure CxR (E:En) (X:Cxt) (cx:Cx):Prop where
 fn:X.b.fn=cx.fn
 ro:X.b.roundOf=cx.round.map E.blk
 rd:∀ l,cx.round=some l→E.dom l
 st:(X.b.kind=.normal∧∃ l,X.cs=fun _=>l)∨(X.b.kind=.deferred∧∃ (c:Frame) (rest:List Frame),X.cs=fun u=>{ c with mode:=u }::rest)
theorem CxR.mono {E E':En}(le:E.Le E'){X:Cxt}{cx:Cx}(h:CxR E X cx):CxR E' X cx where
 fn:=h.fn
 ro:=by
  rw[h.ro]
  cases hr:cx.round with
  |none=>rfl
  |some l=>simp[le.blk l (h.rd l hr)]
 rd l hl:=le.dom l (h.rd l hl)
 st:=h.st
structure a9y (P:Program) (base:Nat) (w0:World) (E:En) (X:Cxt) (cx:Cx) (s:St) (a:Act) (u:FrameMode) (w:World):Prop where
 sz:a.tmps.size=cx.nt
 tm:TR E s.tm a.tmps
 df:DRs E s.df a.defers
 pan:e7u E X.b.kind s.pan u
 hr:HR P base w0 E s.h w
def Arr (P:Program) (m:Machine) (X:Cxt) (k:List Item) (a:Act) (u:FrameMode) (w:World):Ex→Prop
 |.normal=>Steps P m (lone (X.b.atR a k) (X.cs u) w)
 |.exit id=>∃ k1,Steps P m (lone (X.b.atR a (.code (.exit id)::k1)) (X.cs u) w)∧exitTo id k1=exitTo id k
 |.ret=>∃ k1,Steps P m (lone (X.b.atR a (.code .ret::k1)) (X.cs u) w)
 |.goto _=>False
def a5z (P:Program) (base:Nat) (w0:World) (m:Machine) (X:Cxt) (cx:Cx) (k:List Item) (E:En) (h:a0a) (w:World):Res→Prop
 |.fin e s'=>∃ E' a' u' w',a9y P base w0 E' X cx s' a' u' w'∧Ste E h w E' s'.h w'∧Arr P m X k a' u' w' e
 |.pan v s'=>∃ E' a' u' w' v' todo,a9y P base w0 E' X cx s' a' u' w'∧Ste E h w E' s'.h w'∧VR E' v v' ∧
   Steps P m (lone { X.b.atR a' todo with mode:=.panicking [{ v:=v',recovered:=false }] } (X.cs u') w')
 |.no _ _=>True
 |_=>False
def a4x (P:Program) (base:Nat) (w0:World) (m:Machine) (fn:FuncId) (cs:List Frame) (E:En) (h:a0a) (w:World):Res→Prop
 |.ret v h'=>∃ E' w' v' fr,HR P base w0 E' h' w'∧Ste E h w E' h' w'∧VR E' v v'∧Steps P m (lone fr cs w')∧fr.fn=fn∧fr.leaving P w' (.returned v')
 |.thrown v h'=>∃ E' w' v' fr,HR P base w0 E' h' w'∧Ste E h w E' h' w'∧VR E' v v'∧Steps P m (lone fr cs w')∧fr.fn=fn ∧
   fr.leaving P w' (.panicked [{ v:=v',recovered:=false }])
 |.no _ _=>True
 |_=>False
def c8i (P:Program) (base:Nat) (w0:World) (m:Machine) (c:Frame) (cs:List Frame) (E:En) (h:a0a) (w:World):Res→Prop
 |.ret v h'=>∃ E' w' v',HR P base w0 E' h' w'∧Ste E h w E' h' w'∧VR E' v v'∧Steps P m (lone (c.finish v') cs w')
 |.thrown v h'=>∃ E' w' v',HR P base w0 E' h' w'∧Ste E h w E' h' w'∧VR E' v v'∧Steps P m (lone (c.raise [{ v:=v',recovered:=false }]) cs w')
 |.no _ _=>True
 |_=>False
def d6o (P:Program) (base:Nat) (w0:World) (m:Machine) (c:Frame) (cs:List Frame) (E:En) (h:a0a) (w:World):Res→Prop
 |.dret p h'=>∃ E' w' u' v' fr,HR P base w0 E' h' w'∧Ste E h w E' h' w'∧b9b E' p u'∧Steps P m (lone fr ({ c with mode:=u' }::cs) w')∧fr.kind=.deferred∧fr.going P w' (.returned v')
 |.thrown _ _=>True
 |.no _ _=>True
 |_=>False
def f5h (c:Code) (it:Item):Prop:=it=.code c∨∃ b,c=.loop b∧it=.inLoop b
def Lf:Res→Res→Prop
 |.alt a b,q=>Lf a q∨Lf b q
 |r,q=>r=q
theorem Lf.self:∀ {x r:Res},Lf x r→Lf r r
 |.alt a b,r,h=>h.elim Lf.self Lf.self
 |.fin ..,_,h=>by cases h; rfl
 |.pan ..,_,h=>by cases h; rfl
 |.ret ..,_,h=>by cases h; rfl
 |.thrown ..,_,h=>by cases h; rfl
 |.dret ..,_,h=>by cases h; rfl
 |.no ..,_,h=>by cases h; rfl
theorem Lf.bind:∀ {x r:Res}{F:Res→Res}{C:Res→Prop},Lf x r→(∃ q,Lf (F r) q∧C q)→∃ q,Lf (a5c x F) q∧C q
 |.alt a b,r,F,C,h,k=>by
  rcases h with h|h
  ·obtain⟨q,m,c⟩:=Lf.bind h k; exact⟨q,.inl m,c⟩
  ·obtain⟨q,m,c⟩:=Lf.bind h k; exact⟨q,.inr m,c⟩
 |.fin ..,_,_,_,h,k=>by cases h; exact k
 |.pan ..,_,_,_,h,k=>by cases h; exact k
 |.ret ..,_,_,_,h,k=>by cases h; exact k
 |.thrown ..,_,_,_,h,k=>by cases h; exact k
 |.dret ..,_,_,_,h,k=>by cases h; exact k
 |.no ..,_,_,_,h,k=>by cases h; exact k
def a1j (P:Program) (base:Nat) (w0:World):Task→Res→Prop
 |.code cx c s,r=>∀ E X a u w k it,f5h c it→CxR E X cx→a9y P base w0 E X cx s a u w→∃ q,Lf r q∧a5z P base w0 (lone (X.b.atR a (it::k)) (X.cs u) w) X cx k E s.h w q
 |.ops cx all rest s,r=>∀ E X a u w k (ops:Array Oper) i,all=ops.toList→rest=all.drop i→CxR E X cx→a9y P base w0 E X cx s a u w →
   ∃ q,Lf r q∧a5z P base w0 (lone (X.b.atR a (.inRegion ops ((List.range ops.size).drop i)::k)) (X.cs u) w) X cx k E s.h w q
 |.call f args h,r=>∀ E args' w cs,VRs E args args'→HR P base w0 E h w→∃ q,Lf r q∧a4x P base w0 (lone (Frame.enter P f args'.toArray .normal) cs w) f cs E h w q
 |.round l fn tm nt as bd h,r=>∀ E tmps w c cs,E.dom l→tmps.size=nt→TR E tm tmps→HR P base w0 E h w →
   ∃ q,Lf r q∧c8i P base w0 (lone (Frame.round (E.blk l) fn tmps as bd .normal) (c::cs) w) c cs E h w q
 |.leave f tm ds pan h,r=>∀ E fr w cs,fr.fn=f→fr.kind=.normal→TR E tm fr.tmps→DRs E ds fr.defers→b9b E pan fr.mode→HR P base w0 E h w→∃ q,Lf r q∧a4x P base w0 (lone fr cs w) f cs E h w q
 |.dcall f args pan h,r=>∀ E args' w c cs,VRs E args args'→b9b E pan c.mode→HR P base w0 E h w→∃ q,Lf r q∧d6o P base w0 (lone (Frame.enter P f args'.toArray .deferred) (c::cs) w) c cs E h w q
theorem Arr.of_steps {m m':Machine}{X:Cxt}{k:List Item}{a:Act}{u:FrameMode}{w:World}{e:Ex}(h:Steps P m m') (h':Arr P m' X k a u w e):Arr P m X k a u w e:=by
 cases e with
 |normal=>exact h.trans h'
 |exit id=>obtain⟨k1,h1,h2⟩:=h'; exact⟨k1,h.trans h1,h2⟩
 |ret=>obtain⟨k1,h1⟩:=h'; exact⟨k1,h.trans h1⟩
 |goto l=>exact h'
theorem a5z.of_steps {m m':Machine}{X:Cxt}{cx:Cx}{k:List Item}{E E1:En}{h h1:a0a}{w w1:World}{r:Res}(hs:Steps P m m') (st:Ste E h w E1 h1 w1)
  (H:a5z P base w0 m' X cx k E1 h1 w1 r):a5z P base w0 m X cx k E h w r:=by
 cases r with
 |fin e s=>obtain⟨E',a',u',w',p1,p2,p3⟩:=H; exact⟨E',a',u',w',p1,st.trans p2,p3.of_steps hs⟩
 |pan v s=>obtain⟨E',a',u',w',v',todo,p1,p2,p3,p4⟩:=H; exact⟨E',a',u',w',v',todo,p1,st.trans p2,p3,hs.trans p4⟩
 |no=>trivial
 |_=>exact H
theorem a4x.of_steps {m m':Machine}{f:FuncId}{cs:List Frame}{E E1:En}{h h1:a0a}{w w1:World}{r:Res}(hs:Steps P m m') (st:Ste E h w E1 h1 w1)
  (H:a4x P base w0 m' f cs E1 h1 w1 r):a4x P base w0 m f cs E h w r:=by
 cases r with
 |ret v h'=>obtain⟨E',w',v',fr,p1,p2,p3,p4,p5⟩:=H; exact⟨E',w',v',fr,p1,st.trans p2,p3,hs.trans p4,p5⟩
 |thrown v h'=>obtain⟨E',w',v',fr,p1,p2,p3,p4,p5⟩:=H; exact⟨E',w',v',fr,p1,st.trans p2,p3,hs.trans p4,p5⟩
 |no=>trivial
 |_=>exact H
theorem a5z.pass {m:Machine}{X:Cxt}{cx:Cx}{x:Item}{k:List Item}{E:En}{h:a0a}{w:World}{r:Res}(hx:∀ id,exitTo id (x::k)=exitTo id k)
  (hn:∀ s,r≠.fin .normal s) (H:a5z P base w0 m X cx (x::k) E h w r):a5z P base w0 m X cx k E h w r:=by
 cases r with
 |fin e s =>
  obtain⟨E',a',u',w',p1,p2,p3⟩:=H
  refine⟨E',a',u',w',p1,p2,?_⟩
  cases e with
  |normal=>exact absurd rfl (hn s)
  |exit id=>obtain⟨k1,h1,h2⟩:=p3; exact⟨k1,h1,h2.trans (hx id)⟩
  |ret=>exact p3
  |goto l=>exact p3
 |pan v s=>exact H
 |no=>trivial
 |_=>exact H
section
variable {b:Frame}{a:Act}{ops:Array Oper}{i:Nat}{js:List Nat}{k:List Item}{cs:List Frame}{w w':World}{o:Oper}
variable (ho:ops[i]?=some o) (hw:Region.wanted o (yielded ops a.tmps)=true)
include ho hw
theorem b0b {v:Value}(hr:(o.semAt b.roundOf a.eval).run P w=.ok (.value v) w') :
  Steps P (lone (b.atR a (.inRegion ops (i::js)::k)) cs w) (lone (b.atR (a.put o.dst v) (.inRegion ops js::k)) cs w'):=by
 have hg:=stepGR_op (P:=P) (b:=b) (k:=k) (cs:=cs) (w:=w) (rest:=js) ho hw
 have hfin:(b.atR a (.inRegion ops (i::js)::k)).finish v=b.atR (a.put o.dst v) (.inRegion ops js::k):=by
  rw[Frame.finish_atR,ho]; rfl
 exact .one (step_lone_go (by rw[hg,← hfin]; simp[stepG.apply,hr]))
theorem c6h (hr:(o.semAt b.roundOf a.eval).run P w=.ok .skip w') :
  Steps P (lone (b.atR a (.inRegion ops (i::js)::k)) cs w) (lone (b.atR (a.put o.dst undef) (.inRegion ops js::k)) cs w'):=by
 have hg:=stepGR_op (P:=P) (b:=b) (k:=k) (cs:=cs) (w:=w) (rest:=js) ho hw
 have hfin:(b.atR a (.inRegion ops (i::js)::k)).finish undef=b.atR (a.put o.dst undef) (.inRegion ops js::k):=by
  rw[Frame.finish_atR,ho]; rfl
 exact .one (step_lone_go (by rw[hg,← hfin]; simp[stepG.apply,hr]))
theorem b6z {f:FuncId}{args:Array Value}(hr:(o.semAt b.roundOf a.eval).run P w=.ok (.enter f args) w') :
  Steps P (lone (b.atR a (.inRegion ops (i::js)::k)) cs w) (lone (Frame.enter P f args .normal) (b.atR a (.inRegion ops (i::js)::k)::cs) w'):=by
 have hg:=stepGR_op (P:=P) (b:=b) (k:=k) (cs:=cs) (w:=w) (rest:=js) ho hw
 exact .one (step_lone_go (by rw[hg]; simp[stepG.apply,hr,Frame.atR]))
theorem b6y {l:Nat}{f:FuncId}{tmps:Array Value}{as bd:Code}(hr:(o.semAt b.roundOf a.eval).run P w=.ok (.round l f tmps as bd) w') :
  Steps P (lone (b.atR a (.inRegion ops (i::js)::k)) cs w) (lone (Frame.round l f tmps as bd .normal) (b.atR a (.inRegion ops (i::js)::k)::cs) w'):=by
 have hg:=stepGR_op (P:=P) (b:=b) (k:=k) (cs:=cs) (w:=w) (rest:=js) ho hw
 exact .one (step_lone_go (by rw[hg]; simp[stepG.apply,hr,Frame.atR]))
theorem d3v {d:Deferred}(hr:(o.semAt b.roundOf a.eval).run P w=.ok (.defer d) w') :
  Steps P (lone (b.atR a (.inRegion ops (i::js)::k)) cs w) (lone (b.atR ({ a with defers:=d::a.defers }.put o.dst undef) (.inRegion ops js::k)) cs w'):=by
 have hg:=stepGR_op (P:=P) (b:=b) (k:=k) (cs:=cs) (w:=w) (rest:=js) ho hw
 have:({ b.atR a (.inRegion ops (i::js)::k) with defers:=d::a.defers }:Frame).finish undef =
   b.atR ({ a with defers:=d::a.defers }.put o.dst undef) (.inRegion ops js::k):=by
  have:=Frame.finish_atR b { a with defers:=d::a.defers } ops i js k undef
  rw[ho] at this; exact this
 refine .one (step_lone_go ?_)
 rw[hg]; simp only[stepG.apply,Sem.runT_eq,hr,GStep.bare_after]
 exact congrArg (fun fr=>GStep.go { frame:=fr,callers:=cs,status:=.running,dying:=none } w') this
theorem d4m {v:Value}(hr:(o.semAt b.roundOf a.eval).run P w=.halt (.panic v) w') :
  Steps P (lone (b.atR a (.inRegion ops (i::js)::k)) cs w) (lone { b.atR a (.inRegion ops (i::js)::k) with mode:=.panicking [{ v,recovered:=false }] } cs w'):=by
 have hg:=stepGR_op (P:=P) (b:=b) (k:=k) (cs:=cs) (w:=w) (rest:=js) ho hw
 exact .one (step_lone_go (by rw[hg,← Frame.raise_atR]; simp[stepG.apply,hr]))
theorem b7b (hb:b.roundOf=none) (ht:tryRecover (b.atR a (.inRegion ops (i::js)::k)) cs=none) (hr:(o.semAt b.roundOf a.eval).run P w=.ok .recover w') :
  Steps P (lone (b.atR a (.inRegion ops (i::js)::k)) cs w) (lone (b.atR (a.put o.dst .nilIface) (.inRegion ops js::k)) cs w'):=by
 have hg:=stepGR_op (P:=P) (b:=b) (k:=k) (cs:=cs) (w:=w) (rest:=js) ho hw
 have hfin:(b.atR a (.inRegion ops (i::js)::k)).finish .nilIface=b.atR (a.put o.dst .nilIface) (.inRegion ops js::k):=by
  rw[Frame.finish_atR,ho]; rfl
 have hro:(b.atR a (.inRegion ops (i::js)::k)).roundOf=none:=hb
 exact .one (step_lone_go (by rw[hg,← hfin]; simp[stepG.apply,hr,hro,ht]))
theorem b8f {v:Value}{cs':List Frame}(hb:b.roundOf=none) (ht:tryRecover (b.atR a (.inRegion ops (i::js)::k)) cs=some (v,cs')) (hr:(o.semAt b.roundOf a.eval).run P w=.ok .recover w') :
  Steps P (lone (b.atR a (.inRegion ops (i::js)::k)) cs w) (lone (b.atR (a.put o.dst v) (.inRegion ops js::k)) cs' w'):=by
 have hg:=stepGR_op (P:=P) (b:=b) (k:=k) (cs:=cs) (w:=w) (rest:=js) ho hw
 have hfin:(b.atR a (.inRegion ops (i::js)::k)).finish v=b.atR (a.put o.dst v) (.inRegion ops js::k):=by
  rw[Frame.finish_atR,ho]; rfl
 have hro:(b.atR a (.inRegion ops (i::js)::k)).roundOf=none:=hb
 exact .one (step_lone_go (by rw[hg,← hfin]; simp[stepG.apply,hr,hro,ht]))
end
theorem b4b {E:En}{tm:Tr AV}{a:Act}(h:TR E tm a.tmps):d1s E (env tm) a.eval:=by
 intro x v hx
 cases x with
 |tmp t =>
  obtain⟨v',h1,h2⟩:=h t v hx
  have:a.eval (.tmp t)=v':=by simp[Act.eval,h1]
  rw[this]; exact h2
 |const c=>exact c3w hx
 |global g=>simp[env] at hx
 |func f =>
  simp[env] at hx; subst hx
  exact .func _ _ (.same _ (by simp)) [] [] [] [] .nil .nil
theorem a6d {E:En}{X:Cxt}{cx:Cx}{s s':St}{a:Act}{u:FrameMode}{w:World}(S:a9y P base w0 E X cx s a u w){dst:Option Tmp}{v:AV}(hp:a7q cx s dst v=some s'){v':Value}(hv:VR E v v') :
  a9y P base w0 E X cx s' (a.put dst v') u w∧s'.h=s.h:=by
 unfold a7q at hp
 split at hp
 ·simp at hp; subst hp; exact⟨S,rfl⟩
 ·rename_i d
  split at hp<;>simp at hp
  rename_i hd
  subst hp
  refine⟨⟨?_,?_,S.df,S.pan,S.hr⟩,rfl⟩
  ·simpa [Act.put] using S.sz
  ·exact S.tm.set (by rw[S.sz]; exact hd) hv
theorem b4a (E:En):VR E a2w undef:=.tuple [] [] .nil
theorem a9f {E:En}{tm:Tr AV}{tmps:Array Value}(h:TR E tm tmps){ops:Array Oper}{o:Oper}{r:Bool}(hw:a8e ops.toList tm o=some r):Region.wanted o (yielded ops tmps)=r:=by
 unfold a8e at hw
 unfold Region.wanted
 split at hw
 ·rename_i hg
  simp at hw; subst hw
  simp[hg]
 ·rename_i j want hg
  rw[hg]
  simp only
  split at hw
  ·rename_i d hd
   have hdd:(ops[j]?).bind (·.dst)=some d:=by
    unfold a8n at hd
    split at hd
    ·rename_i o' ho'
     rw[a4w] at ho'
     have:ops[j]?=some o':=by simpa using ho'
     rw[this]; exact hd
    ·simp at hd
   split at hw
   ·rename_i bv hb
    simp at hw; subst hw
    obtain⟨v',h1,h2⟩:=h d _ hb
    cases h2
    simp[yielded,hdd,h1]
   ·rename_i v hnb hv
    simp at hw; subst hw
    obtain⟨v',h1,h2⟩:=h d _ hv
    have hy:yielded ops tmps j=none:=by
     unfold yielded
     rw[hdd]
     simp only[Option.bind_some,h1]
     cases h2<;>first|rfl|exact absurd rfl (hnb _)
    rw[hy]; rfl
   ·simp at hw
  ·simp at hw
theorem a9y.mem {E E':En}{X:Cxt}{cx:Cx}{s:St}{a:Act}{u:FrameMode}{w w':World}{h':a0a}(S:a9y P base w0 E X cx s a u w) (le:E.Le E') (H:HR P base w0 E' h' w') :
  a9y P base w0 E' X cx { s with h:=h' } a u w':=⟨S.sz,S.tm.mono le,S.df.mono le,S.pan.mono le,H⟩
theorem d8f {ρ:Operand→Option AV}{o:Oper}{h:a0a}{c:Call}(ho:o.op=.defer c):(∃ d,opA T ρ o h=.defer d)∨∃ w,opA T ρ o h=.no w:=by
 unfold opA
 rw[ho]
 simp only
 split
 ·exact .inl ⟨_,rfl⟩
 ·exact .inr ⟨_,rfl⟩
end Ev
end
section
namespace Ev
open Go Go.RowKit
variable {P:Program}{T:a0k}{base:Nat}{w0:World}
theorem d4b (c:Code) (k:List Item) (id:Nat):exitTo id (.code c::k)=exitTo id k:=by simp[exitTo]
theorem d0m (c:Code) (k:List Item) (id:Nat):exitTo id (.inLoop c::k)=exitTo id k:=by simp[exitTo]
theorem c7m (c:Code) (k:List Item) (id:Nat):exitTo id (.inScope c::k)=exitTo id k:=by simp[exitTo]
theorem b0v {b:Frame}{a:Act}{k:List Item}{cs:List Frame}{w:World}{c:Code} :
  Go.step P (lone (b.atR a (.code (.scope c)::k)) cs w)=.next (lone (b.atR a (.code c::.inScope c::k)) cs w) :=
 step_lone_go (by simp[stepG,stepG.exec,Frame.atR])
theorem c4n {b:Frame}{a:Act}{k:List Item}{cs:List Frame}{w:World}{c:Code} :
  Go.step P (lone (b.atR a (.inScope c::k)) cs w)=.next (lone (b.atR a k) cs w) :=
 step_lone_go (by simp[stepG,stepG.exec,Frame.atR])
def f2s (P:Program) (base:Nat) (w0:World) (E:En) (h:a0a) (w:World) (X:Cxt) (cx:Cx) (a:Act) (ps:Array Tmp) (as bd:Code) (tm:Tr AV):Option (Nat×a0a×List ADef)→Prop
 |none=>True
 |some (d,h1,mark)=>∃ E1 w1 mark',(Instr.enterLoop X.b.fn a.tmps ps as bd X.b.roundOf).run P w=.ok (E1.blk h1.next,mark') w1∧DRs E1 mark mark'∧E1.dom h1.next ∧
   HR P base w0 E1 (h1.alloc (.loop .ready none cx.fn tm cx.nt ps.toList as bd d)) w1∧Ste E h w E1 (h1.alloc (.loop .ready none cx.fn tm cx.nt ps.toList as bd d)) w1
theorem d3b {E:En}{X:Cxt}{cx:Cx}{s:St}{a:Act}{u:FrameMode}{w:World}(hX:CxR E X cx) (S:a9y P base w0 E X cx s a u w) (ps:Array Tmp) (as bd:Code) :
  f2s P base w0 E s.h w X cx a ps as bd s.tm (b1l cx s.h):=by
 have mk:∀ (E0:En) (h0:a0a) (w1:World) (d:Nat),HR P base w0 E0 h0 w1→Ste E s.h w E0 h0 w1→E0.dom d →
   ∃ E1,E1.blk h0.next=w1.heap.size∧E1.dom h0.next∧E0.Le E1 ∧
    HR P base w0 E1 (h0.alloc (.loop .ready none cx.fn s.tm cx.nt ps.toList as bd d)) (w1.alloc (.loop { state:=.ready,pending:=none,fn:=X.b.fn,tmps:=a.tmps,params:=ps,assign:=as,body:=bd,defers:=E0.blk d })) ∧
    Ste E s.h w E1 (h0.alloc (.loop .ready none cx.fn s.tm cx.nt ps.toList as bd d)) (w1.alloc (.loop { state:=.ready,pending:=none,fn:=X.b.fn,tmps:=a.tmps,params:=ps,assign:=as,body:=bd,defers:=E0.blk d })):=by
  intro E0 h0 w1 d H0 S0 hd
  have hnd:¬ E0.dom h0.next:=fun hd=>by have:=H0.dlt _ hd; omega
  have le:=E0.b0w h0.next w1.heap.size 0 0 hnd
  have K:=b2z H0 (.loop .ready none cx.fn s.tm cx.nt ps.toList as bd d) (.loop { state:=.ready,pending:=none,fn:=X.b.fn,tmps:=a.tmps,params:=ps,assign:=as,body:=bd,defers:=E0.blk d }) 0 (by
   refine⟨by simpa [En.push] using H0.bsz,.inr hd,a.tmps,?_,S.sz,(S.tm.mono S0.le).mono le⟩
   have hb:(E0.push h0.next w1.heap.size 0 0).blk d=E0.blk d:=le.blk d hd
   rw[hb,← hX.fn]
   simp only[En.push,if_true]
   exact heap_alloc_new)
  exact⟨E0.push h0.next w1.heap.size 0 0,by simp[En.push],.inl rfl,le,K.1,S0.trans K.2⟩
 unfold b1l
 cases hr:cx.round with
 |some l =>
  simp only
  split
  ·rename_i st pend fn tm nt ps' as' bd' d hg
   have hl:=hX.rd l hr
   obtain⟨hb,hd,tmps,t1,t2,t3⟩:=S.hr.obj l _ hl hg
   obtain⟨E1,e1,e2,e3,e4,e5⟩:=mk E s.h w d S.hr (.refl E s.h w) hd
   refine⟨E1,_,[],?_,.nil,e2,e4,e5⟩
   have hro:X.b.roundOf=some (E.blk l):=by rw[hX.ro,hr]; rfl
   rw[hro,e1]
   unfold Instr.enterLoop
   simp[run_getLoop t1]
  ·trivial
 |none =>
  simp only
  have hnd:¬ E.dom s.h.next:=fun hd=>by have:=S.hr.dlt _ hd; omega
  have K:=b2z S.hr (.dfr (some [])) (.deferred (some [])) 0 (by
   refine⟨by simpa [En.push] using S.hr.bsz,some [],?_,[],rfl,.nil⟩
   simp only[En.push,if_true]
   exact heap_alloc_new)
  have hblk:(E.push s.h.next w.heap.size 0 0).blk s.h.next=w.heap.size:=by simp[En.push]
  obtain⟨E1,e1,e2,e3,e4,e5⟩:=mk _ _ _ s.h.next K.1 K.2 (.inl rfl)
  rw[hblk] at e4 e5
  refine⟨E1,_,[{ target:=.collected w.heap.size,args := #[] }],?_,?_,e2,e4,e5⟩
  ·have hro:X.b.roundOf=none:=by rw[hX.ro,hr]; rfl
   rw[hro,e1]
   have:=run_enterLoop_outer (P:=P) (w:=w) X.b.fn a.tmps ps as bd
   simpa using this
  ·have hb:E1.blk s.h.next=w.heap.size:=by rw[e3.blk _ (.inl rfl),hblk]
   have:=DR.collected (E:=E1) s.h.next (e3.dom _ (.inl rfl))
   rw[hb] at this
   exact .cons _ _ _ _ this .nil
theorem a4x.c1h {m:Machine}{f:FuncId}{c:Frame}{cs:List Frame}{E:En}{h:a0a}{w:World}{v:AV}{h':a0a}(H:a4x P base w0 m f (c::cs) E h w (.ret v h')) :
  ∃ E' w' v',HR P base w0 E' h' w'∧Ste E h w E' h' w'∧VR E' v v'∧Steps P m (lone (c.finish v') cs w'):=by
 obtain⟨E',w',v',fr,p1,p2,p3,p4,p5,p6⟩:=H
 exact⟨E',w',v',p1,p2,p3,p4.trans (.one (step_leave_returned p6))⟩
theorem a4x.b4d {m:Machine}{f:FuncId}{c:Frame}{cs:List Frame}{E:En}{h:a0a}{w:World}{v:AV}{h':a0a}(H:a4x P base w0 m f (c::cs) E h w (.thrown v h')) :
  ∃ E' w' v',HR P base w0 E' h' w'∧Ste E h w E' h' w'∧VR E' v v'∧Steps P m (lone (c.raise [{ v:=v',recovered:=false }]) cs w'):=by
 obtain⟨E',w',v',fr,p1,p2,p3,p4,p5,p6⟩:=H
 exact⟨E',w',v',p1,p2,p3,p4.trans (.one (step_leave_panicked p6))⟩
def c8p (P:Program) (T:a0k) (base:Nat) (w0:World) (rec:Task→Res):Prop :=
 ∀ (cx:Cx) (ops:Array Oper) (s:St) (t:Nat) (E:En) (X:Cxt) (a:Act) (u:FrameMode) (w:World) (k:List Item),CxR E X cx→a9y P base w0 E X cx s a u w →
  a5z P base w0 (lone (X.b.atR a (.inRegion ops (Region.schedule (P.follows .mixedOrders) ops t)::k)) (X.cs u) w) X cx k E s.h w (drawn T rec cx ops.toList s)
theorem d2r (rec:Task→Res) (cx:Cx) (all:List Oper) (s:St):Lf (drawn T rec cx all s) (drawn T rec cx all s):=by
 unfold drawn
 simp only
 split
 ·rfl
 ·split
  ·rfl
  ·split<;>rfl
  ·split<;>rfl
theorem a8l {m m':Machine}{X:Cxt}{cx:Cx}{k:List Item}{E E1:En}{h h1:a0a}{w w1:World}{r:Res}(hs:Steps P m m') (st:Ste E h w E1 h1 w1)
  (H:∃ q,Lf r q∧a5z P base w0 m' X cx k E1 h1 w1 q):∃ q,Lf r q∧a5z P base w0 m X cx k E h w q:=by
 obtain⟨q,hl,H⟩:=H
 exact⟨q,hl,a5z.of_steps hs st H⟩
theorem a6o {r:Res}{C:Res→Prop}(hl:Lf r r) (h:C r):∃ q,Lf r q∧C q:=⟨r,hl,h⟩
theorem d3y (ok:a0v P T) (rec:Task→Res) (ih:∀ t,a1j P base w0 t (rec t)) (hdr:c8p P T base w0 rec) (cx:Cx) (c:Code) (s:St) :
  a1j P base w0 (.code cx c s) (step T rec (.code cx c s)):=by
 intro E X a u w k it hit hX S
 have hit':(∀ b,c≠.loop b)→it=.code c:=fun h=>hit.elim id fun⟨b,e,_⟩=>absurd e (h b)
 simp only[Ev.step]
 cases c with
 |skip=>cases hit' (by simp); exact⟨_,rfl,E,a,u,w,S,.refl _ _ _,.one stepR_skip⟩
 |label l=>cases hit' (by simp); exact⟨_,rfl,E,a,u,w,S,.refl _ _ _,.one stepR_label⟩
 |region id ops draw =>
  cases hit' (by simp)
  cases draw with
  |false =>
   have:=ih (.ops cx ops.toList ops.toList s) E X a u w k ops 0 rfl (by simp) hX S
   exact a8l (.one stepR_region) (.refl _ _ _) (by simpa using this)
  |true =>
   have S':a9y P base w0 E X cx s a u { w with drawn:=w.drawn+1 }:=⟨S.sz,S.tm,S.df,S.pan,S.hr.heap rfl rfl rfl rfl (by simp)⟩
   have:=hdr cx ops s (w.tape w.drawn (.order X.b.fn id)) E X a u _ k hX S'
   exact a8l (.one stepR_region_draw) (c2o E s.h w) (a6o (d2r ..) this)
 |seq x y =>
  cases hit' (by simp)
  obtain⟨r1,m1,h1⟩:=ih (.code cx x s) E X a u w (.code y::k) _ (.inl rfl) hX S
  refine Lf.bind m1 ?_
  split
  ·rename_i s'
   obtain⟨E',a',u',w',p1,p2,p3⟩:=h1
   have h2:=ih (.code cx y s') E' X a' u' w' k _ (.inl rfl) (hX.mono p2.le) p1
   exact a8l (.head stepR_seq p3) p2 h2
  ·rename_i hne
   exact a6o m1.self (a5z.of_steps (.one stepR_seq) (.refl _ _ _) (a5z.pass (d4b y k) hne h1))
 |cond x p q =>
  cases hit' (by simp)
  simp only
  split
  ·rename_i hc
   have h1:=b4b S.tm x _ hc
   generalize hx:a.eval x=xv at h1
   cases h1
   have h2:=ih (.code cx p s) E X a u w k _ (.inl rfl) hX S
   have hs:=stepR_cond (P:=P) (b:=X.b) (a:=a) (k:=k) (cs:=X.cs u) (w:=w) (c:=x) (x:=p) (y:=q) (t:=true) hx
   exact a8l (.one hs) (.refl _ _ _) h2
  ·rename_i hc
   have h1:=b4b S.tm x _ hc
   generalize hx:a.eval x=xv at h1
   cases h1
   have h2:=ih (.code cx q s) E X a u w k _ (.inl rfl) hX S
   have hs:=stepR_cond (P:=P) (b:=X.b) (a:=a) (k:=k) (cs:=X.cs u) (w:=w) (c:=x) (x:=p) (y:=q) (t:=false) hx
   exact a8l (.one hs) (.refl _ _ _) h2
  ·exact⟨_,rfl,trivial⟩
 |block id b =>
  cases hit' (by simp)
  obtain⟨r1,m1,h1⟩:=ih (.code cx b s) E X a u w (.inBlock id::k) _ (.inl rfl) hX S
  have pass:∀ id',id'≠id→exitTo id' (.inBlock id::k)=exitTo id' k:=fun id' hne=>by
   have:(id==id')=false:=by simp; exact fun h=>hne h.symm
   simp[exitTo,this]
  refine Lf.bind m1 ?_
  split
  ·rename_i id' s'
   obtain⟨E',a',u',w',p1,p2,k1,p3,p4⟩:=h1
   by_cases hid:id'=id
   ·subst hid
    simp only[if_true]
    refine⟨_,rfl,E',a',u',w',p1,p2,.head stepR_block (p3.trans (.one (stepR_exit ?_)))⟩
    rw[p4]; simp[exitTo]
   ·simp only[hid,if_false]
    exact⟨_,rfl,E',a',u',w',p1,p2,k1,.head stepR_block p3,p4.trans (pass id' hid)⟩
  ·rename_i hne
   refine a6o m1.self ?_
   cases r1 with
   |fin e s' =>
    obtain⟨E',a',u',w',p1,p2,p3⟩:=h1
    refine⟨E',a',u',w',p1,p2,?_⟩
    cases e with
    |normal=>exact(Steps.head stepR_block p3).trans (.one stepR_inBlock)
    |exit id'=>exact absurd rfl (hne id' s')
    |ret=>obtain⟨k1,p3⟩:=p3; exact⟨k1,.head stepR_block p3⟩
    |goto l=>exact p3
   |pan v s' =>
    obtain⟨E',a',u',w',v',todo,p1,p2,p3,p4⟩:=h1
    exact⟨E',a',u',w',v',todo,p1,p2,p3,.head stepR_block p4⟩
   |no=>trivial
   |_=>exact h1
 |loop b =>
  obtain⟨r1,m1,h1⟩:=ih (.code cx b s) E X a u w (.inLoop b::k) _ (.inl rfl) hX S
  have hst:Steps P (lone (X.b.atR a (it::k)) (X.cs u) w) (lone (X.b.atR a (.code b::.inLoop b::k)) (X.cs u) w):=by
   rcases hit with rfl|⟨b',e,rfl⟩
   ·exact .one stepR_loop
   ·cases e; exact .one stepR_inLoop
  refine Lf.bind m1 ?_
  split
  ·rename_i s'
   obtain⟨E',a',u',w',p1,p2,p3⟩:=h1
   have h2:=ih (.code cx (.loop b) s') E' X a' u' w' k _ (.inr ⟨b,rfl,rfl⟩) (hX.mono p2.le) p1
   exact a8l (hst.trans p3) p2 h2
  ·rename_i hne
   exact a6o m1.self (a5z.of_steps hst (.refl _ _ _) (a5z.pass (d0m b k) hne h1))
 |exit id=>cases hit' (by simp); exact⟨_,rfl,E,a,u,w,S,.refl _ _ _,k,.refl _ _,rfl⟩
 |goto l=>exact⟨_,rfl,trivial⟩
 |ret=>cases hit' (by simp); exact⟨_,rfl,E,a,u,w,S,.refl _ _ _,k,.refl _ _⟩
 |scope b =>
  cases hit' (by simp)
  obtain⟨r1,m1,h1⟩:=ih (.code cx b s) E X a u w (.inScope b::k) _ (.inl rfl) hX S
  refine Lf.bind m1 ?_
  split
  ·rename_i l s'
   obtain⟨E',a',u',w',p1,p2,p3⟩:=h1
   exact p3.elim
  ·rename_i hne
   refine a6o m1.self ?_
   cases r1 with
   |fin e s' =>
    obtain⟨E',a',u',w',p1,p2,p3⟩:=h1
    refine⟨E',a',u',w',p1,p2,?_⟩
    cases e with
    |normal=>exact(Steps.head b0v p3).trans (.one c4n)
    |exit id'=>obtain⟨k1,p3,p4⟩:=p3; exact⟨k1,.head b0v p3,p4.trans (c7m b k id')⟩
    |ret=>obtain⟨k1,p3⟩:=p3; exact⟨k1,.head b0v p3⟩
    |goto l=>exact p3
   |pan v s' =>
    obtain⟨E',a',u',w',v',todo,p1,p2,p3,p4⟩:=h1
    exact⟨E',a',u',w',v',todo,p1,p2,p3,.head b0v p4⟩
   |no=>trivial
   |_=>exact h1
 |rangeFunc f ps as bd =>
  cases hit' (by simp)
  simp only
  split
  ·rename_i fn first cap hf
   have hl:=d3b (P:=P) hX S ps as bd
   split
   ·exact⟨_,rfl,trivial⟩
   ·rename_i dfs h1 mark hsl
    rw[hsl] at hl
    obtain⟨E1,w1,mark',e1,e2,e3,e4,e5⟩:=hl
    have hv:=(b4b S.tm f _ hf).mono e5.le
    generalize hff:a.eval f=fv at hv
    cases hv with|func _ f' hfr _ _ l' m' hl' hm' =>
    have hy:VRs E1 [AV.func (.yield h1.next) [] []] [Value.func (.yield (E1.blk h1.next)) #[] #[]] :=
     .cons _ _ _ _ (.func _ _ (.yield _ e3) [] [] [] [] .nil .nil) .nil
    have hinv:=a9h ok e4 hfr hm' (hl'.append hy)
    have hres:(resolve a.eval (rangeCall f (E1.blk h1.next)) 0).run P w1=.ok { target:=.fn f' m'.toArray,args:=(l'++[Value.func (.yield (E1.blk h1.next)) #[] #[]]).toArray } w1:=by
     simp only[resolve,rangeCall,hff,Deferred.ofValue]
     simp[Act.eval]
    split
    ·rename_i g args h3 heq
     rw[heq] at hinv
     obtain⟨rfl,args',i1,i2⟩:=hinv
     obtain⟨r1,m1,hcall⟩:=ih (.call g args (h1.alloc (.loop .ready none cx.fn s.tm cx.nt ps.toList as bd dfs))) E1 args' w1 (X.b.atR { a with defers:=mark'++a.defers } (.inRangeFunc (E1.blk h1.next)::k)::X.cs u) i2 e4
     have hstep:=stepR_rangeFunc (P:=P) (b:=X.b) (a:=a) (k:=k) (cs:=X.cs u) (w:=w) e1 hres i1
     have S2:∀ (E2:En) (h4:a0a) (w2:World),E1.Le E2→HR P base w0 E2 h4 w2→a9y P base w0 E2 X cx { s with df:=mark++s.df,h:=h4 } { a with defers:=mark'++a.defers } u w2:=fun E2 h4 w2 le H2 =>
      ⟨S.sz,(S.tm.mono e5.le).mono le,(e2.mono le).append ((S.df.mono e5.le).mono le),(S.pan.mono e5.le).mono le,H2⟩
     refine Lf.bind m1 ?_
     split
     ·rename_i vv h4
      obtain⟨E2,w2,v',p1,p2,p3,p4⟩:=a4x.c1h hcall
      rw[finish_atR_inRangeFunc] at p4
      have e3':=p2.le.dom _ e3
      have hblk:=p2.le.blk _ e3
      split
      ·rename_i st pend fn' tm' nt' ps' as' bd' d' hg
       obtain⟨q0,q1,tmps,q2,q3,q4⟩:=p1.obj _ _ e3' hg
       have hend:∀ (hst:st≠.busy),∃ w3,(Instr.endLoop (E1.blk h1.next)).run P w2=.ok pend w3∧HR P base w0 E2 (h4.set h1.next (.loop .exhausted pend fn' tm' nt' ps' as' bd' d')) w3∧Ste E2 h4 w2 E2 (h4.set h1.next (.loop .exhausted pend fn' tm' nt' ps' as' bd' d')) w3:=by
        intro hst
        rw[hblk] at q2
        have:=run_endLoop (P:=P) q2 hst
        have K:=HR.put p1 e3' hg trivial (.loop { state:=.exhausted,pending:=pend,fn:=fn',tmps:=tmps,params:=ps'.toArray,assign:=as',body:=bd',defers:=E2.blk d' }) (.loop .exhausted pend fn' tm' nt' ps' as' bd' d')
         ⟨q0,q1,tmps,World.putObj_heap_same (p1.live e3' hg trivial),q3,q4⟩
        rw[hblk] at K
        exact⟨_,this,K.1,K.2⟩
       split
       ·exact⟨_,rfl,trivial⟩
       ·rename_i hst
        obtain⟨w3,r1,r2,r3⟩:=hend (fun e=>hst e)
        have hs2:=stepR_endRangeFunc (P:=P) (b:=X.b) (a:={ a with defers:=mark'++a.defers }) (k:=k) (cs:=X.cs u) r1
        have S3:=S2 E2 _ w3 p2.le r2
        have st3:Ste E s.h w E2 (h4.set h1.next (.loop .exhausted pend fn' tm' nt' ps' as' bd' d')) w3:=(e5.trans p2).trans r3
        have hs3:Steps P (lone (X.b.atR a (.code (.rangeFunc f ps as bd)::k)) (X.cs u) w) (lone (X.b.atR { a with defers:=mark'++a.defers } ((pend.map Item.code).toList++k)) (X.cs u) w3) :=
         .head hstep (p4.trans (.one hs2))
        cases pend with
        |none=>exact⟨_,rfl,E2,_,u,w3,S3,st3,by simpa [Arr] using hs3⟩
        |some c =>
         have hc:=ih (.code cx c _) E2 X _ u w3 k _ (.inl rfl) ((hX.mono e5.le).mono p2.le) S3
         exact a8l (by simpa using hs3) st3 hc
      ·exact⟨_,rfl,trivial⟩
     ·rename_i v h4
      obtain⟨E2,w2,v',p1,p2,p3,p4⟩:=a4x.b4d hcall
      rw[Frame.raise_atR] at p4
      exact⟨_,rfl,E2,_,u,w2,v',_,S2 E2 h4 w2 p2.le p1,e5.trans p2,p3,.head hstep p4⟩
     ·rename_i hn1 hn2
      cases r1 with
      |ret v h4=>exact absurd rfl (hn1 v h4)
      |thrown v h4=>exact absurd rfl (hn2 v h4)
      |no=>exact⟨_,rfl,trivial⟩
      |_=>exact hcall.elim
    ·exact⟨_,rfl,trivial⟩
    ·exact⟨_,rfl,trivial⟩
  ·exact⟨_,rfl,trivial⟩
 |refuse w=>exact⟨_,rfl,trivial⟩
end Ev
end
section
namespace Ev
open Go Go.RowKit
variable {P:Program}{T:a0k}{base:Nat}{w0:World}
theorem Out.b4k {E:En}{h:a0a}{w:World}{ρ:Operand→Option AV}{o:Oper}(h1:∀ d,opA T ρ o h≠.defer d) (h2:∀ s,opA T ρ o h≠.no s) (c:Call):o.op≠.defer c:=by
 intro e
 rcases d8f (T:=T) (ρ:=ρ) (h:=h) e with ⟨d,hd⟩|⟨s,hs⟩
 ·exact h1 d hd
 ·exact h2 s hs
theorem c1z {C:Res→Prop}(rec:Task→Res) (cx:Cx) (all rest:List Oper) (s:St) (dst:Option Tmp):∀ (l:List (AV×a0a)) (p:AV×a0a),p∈l →
  (∃ q,Lf (match a7q cx { s with h:=p.2 } dst p.1 with
   |some s'=>rec (.ops cx all rest s')
   | none => .no "put" []) q ∧ C q) → ∃ q, Lf (d1x (b2k rec cx all rest s dst l)) q ∧ C q
 |[],p,hp,_=>by cases hp
 |x::l,p,hp,H=>by
  cases l with
  |nil =>
   rcases List.mem_cons.1 hp with rfl|hp
   ·exact H
   ·cases hp
  |cons y l =>
   rcases List.mem_cons.1 hp with rfl|hp
   ·obtain⟨q,h1,h2⟩:=H; exact⟨q,.inl h1,h2⟩
   ·obtain⟨q,h1,h2⟩:=c1z rec cx all rest s dst (y::l) p hp H; exact⟨q,.inr h1,h2⟩
theorem d6z (ok:a0v P T) (rec:Task→Res) (ih:∀ t,a1j P base w0 t (rec t)) (cx:Cx) (all rest:List Oper) (s:St) :
  a1j P base w0 (.ops cx all rest s) (Ev.step T rec (.ops cx all rest s)):=by
 intro E X a u w k ops i hall hrest hX S
 subst hall
 simp only[Ev.step]
 split
 ·-- the end
  have hi:(List.range ops.size).drop i=[]:=by
   apply List.drop_eq_nil_of_le
   have:=congrArg List.length hrest
   simp at this
   simp; omega
  rw[hi]
  exact⟨_,rfl,E,a,u,w,S,.refl _ _ _,.one stepR_region_end⟩
 ·rename_i o rest'
  have hlt:i<ops.toList.length:=by
   have:=congrArg List.length hrest
   simp at this ⊢; omega
  have hd:=List.drop_eq_getElem_cons hlt
  rw[hd] at hrest
  injection hrest with ho hr
  have ho':ops[i]?=some o:=by
   rw[← Array.getElem?_toList,List.getElem?_eq_getElem hlt,ho]
  have hrange:(List.range ops.size).drop i=i::(List.range ops.size).drop (i+1):=by
   rw[List.drop_eq_getElem_cons (by simpa using hlt)]
   simp
  rw[hrange]
  -- on with the rest
  have cont:∀ (E1:En) (a1:Act) (u1:FrameMode) (w1:World) (s1:St),a9y P base w0 E1 X cx s1 a1 u1 w1→Ste E s.h w E1 s1.h w1 →
    Steps P (lone (X.b.atR a (.inRegion ops (i::(List.range ops.size).drop (i+1))::k)) (X.cs u) w) (lone (X.b.atR a1 (.inRegion ops ((List.range ops.size).drop (i+1))::k)) (X.cs u1) w1) →
    ∃ q,Lf (rec (.ops cx ops.toList rest' s1)) q∧a5z P base w0 (lone (X.b.atR a (.inRegion ops (i::(List.range ops.size).drop (i+1))::k)) (X.cs u) w) X cx k E s.h w q:=by
   intro E1 a1 u1 w1 s1 S1 st hs
   have:=ih (.ops cx ops.toList rest' s1) E1 X a1 u1 w1 k ops (i+1) rfl hr (hX.mono st.le) S1
   exact a8l hs st this
  split
  ·exact⟨_,rfl,trivial⟩
  ·-- not wanted
   rename_i hw
   have hw':=a9f S.tm hw
   split
   ·rename_i s' hp
    obtain⟨S1,e⟩:=a6d S hp (b4a E)
    have hs:=stepR_op_skip (P:=P) (b:=X.b) (a:=a) (k:=k) (cs:=X.cs u) (w:=w) (ops:=ops) (i:=i) (rest:=(List.range ops.size).drop (i+1)) (by rw[ho']; simpa using hw')
    rw[ho'] at hs
    exact cont E _ u w s' S1 (by rw[e]; exact .refl _ _ _) (.one hs)
   ·exact⟨_,rfl,trivial⟩
  ·rename_i hw
   have hw':=a9f S.tm hw
   have hop:=c3s (base:=base) (w0:=w0) ok S.hr (b4b S.tm) o
   have sem:(∀ d,opA T (env s.tm) o s.h≠.defer d)→(∀ t,opA T (env s.tm) o s.h≠.no t)→o.semAt X.b.roundOf a.eval=execOp a.eval o:=fun h1 h2 =>
    Oper.semAt_eq _ _ _ (fun c=>Out.b4k (E:=E) (w:=w) h1 h2 c)
   split
   ·-- a value
    rename_i v h' heq
    have hsem:=sem (by rw[heq]; simp) (by rw[heq]; simp)
    rw[heq] at hop
    obtain⟨E1,w1,v',r1,r2,r3,r4⟩:=hop
    split
    ·rename_i s' hp
     obtain⟨S1,e⟩:=a6d (S.mem r4.le r3) hp r2
     exact cont E1 _ u w1 s' S1 (by rw[e]; exact r4) (b0b ho' hw' (by rw[hsem]; exact r1))
    ·exact⟨_,rfl,trivial⟩
   ·rename_i h' heq
    have hsem:=sem (by rw[heq]; simp) (by rw[heq]; simp)
    rw[heq] at hop
    obtain⟨E1,w1,r1,r3,r4⟩:=hop
    split
    ·rename_i s' hp
     obtain⟨S1,e⟩:=a6d (S.mem r4.le r3) hp (b4a E1)
     exact cont E1 _ u w1 s' S1 (by rw[e]; exact r4) (c6h ho' hw' (by rw[hsem]; exact r1))
    ·exact⟨_,rfl,trivial⟩
   ·-- a call
    rename_i f args h' heq
    have hsem:=sem (by rw[heq]; simp) (by rw[heq]; simp)
    rw[heq] at hop
    obtain⟨rfl,args',r1,r2⟩:=hop
    obtain⟨rr,m1,hcall⟩:=ih (.call f args s.h) E args' w (X.b.atR a (.inRegion ops (i::(List.range ops.size).drop (i+1))::k)::X.cs u) r2 S.hr
    have hent:=b6z (P:=P) (b:=X.b) (js:=(List.range ops.size).drop (i+1)) (k:=k) (cs:=X.cs u) ho' hw' (by rw[hsem]; exact r1)
    have hfin:∀ v,(X.b.atR a (.inRegion ops (i::(List.range ops.size).drop (i+1))::k)).finish v=X.b.atR (a.put o.dst v) (.inRegion ops ((List.range ops.size).drop (i+1))::k):=by
     intro v; rw[Frame.finish_atR,ho']; rfl
    refine Lf.bind m1 ?_
    split
    ·rename_i v h2
     obtain⟨E2,w2,v',p1,p2,p3,p4⟩:=a4x.c1h hcall
     rw[hfin] at p4
     split
     ·rename_i s' hp
      obtain⟨S1,e⟩:=a6d (S.mem p2.le p1) hp p3
      exact cont E2 _ u w2 s' S1 (by rw[e]; exact p2) (hent.trans p4)
     ·exact⟨_,rfl,trivial⟩
    ·rename_i v h2
     obtain⟨E2,w2,v',p1,p2,p3,p4⟩:=a4x.b4d hcall
     rw[Frame.raise_atR] at p4
     exact⟨_,rfl,E2,a,u,w2,v',_,S.mem p2.le p1,p2,p3,hent.trans p4⟩
    ·rename_i hn1 hn2
     cases rr with
     |ret v h4=>exact absurd rfl (hn1 v h4)
     |thrown v h4=>exact absurd rfl (hn2 v h4)
     |no=>exact⟨_,rfl,trivial⟩
     |_=>exact hcall.elim
   ·-- a round
    rename_i l fn tm nt as bd h' heq
    have hsem:=sem (by rw[heq]; simp) (by rw[heq]; simp)
    rw[heq] at hop
    obtain⟨rfl,hdl,tmps,r1,r2,r3⟩:=hop
    obtain⟨rr,m1,hcall⟩:=ih (.round l fn tm nt as bd s.h) E tmps w (X.b.atR a (.inRegion ops (i::(List.range ops.size).drop (i+1))::k)) (X.cs u) hdl r2 r3 S.hr
    have hent:=b6y (P:=P) (b:=X.b) (js:=(List.range ops.size).drop (i+1)) (k:=k) (cs:=X.cs u) ho' hw' (by rw[hsem]; exact r1)
    have hfin:∀ v,(X.b.atR a (.inRegion ops (i::(List.range ops.size).drop (i+1))::k)).finish v=X.b.atR (a.put o.dst v) (.inRegion ops ((List.range ops.size).drop (i+1))::k):=by
     intro v; rw[Frame.finish_atR,ho']; rfl
    refine Lf.bind m1 ?_
    split
    ·rename_i v h2
     obtain⟨E2,w2,v',p1,p2,p3,p4⟩:=hcall
     rw[hfin] at p4
     split
     ·rename_i s' hp
      obtain⟨S1,e⟩:=a6d (S.mem p2.le p1) hp p3
      exact cont E2 _ u w2 s' S1 (by rw[e]; exact p2) (hent.trans p4)
     ·exact⟨_,rfl,trivial⟩
    ·rename_i v h2
     obtain⟨E2,w2,v',p1,p2,p3,p4⟩:=hcall
     rw[Frame.raise_atR] at p4
     exact⟨_,rfl,E2,a,u,w2,v',_,S.mem p2.le p1,p2,p3,hent.trans p4⟩
    ·rename_i hn1 hn2
     cases rr with
     |ret v h4=>exact absurd rfl (hn1 v h4)
     |thrown v h4=>exact absurd rfl (hn2 v h4)
     |no=>exact⟨_,rfl,trivial⟩
     |_=>exact hcall.elim
   ·-- a deferred call
    rename_i d heq
    rw[heq] at hop
    obtain⟨d',r1,r2⟩:=hop
    split
    ·exact⟨_,rfl,trivial⟩
    ·rename_i hro
     have hsem:o.semAt X.b.roundOf a.eval=execOp a.eval o:=by
      have:X.b.roundOf=none:=by rw[hX.ro,hro]; rfl
      rw[this]; rfl
     split
     ·rename_i s' hp
      have S1:a9y P base w0 E X cx { s with df:=d::s.df } { a with defers:=d'::a.defers } u w:=⟨S.sz,S.tm,.cons _ _ _ _ r2 S.df,S.pan,S.hr⟩
      obtain⟨S2,e⟩:=a6d S1 hp (b4a E)
      exact cont E _ u w s' S2 (by rw[e]; exact .refl _ _ _) (d3v ho' hw' (by rw[hsem]; exact r1))
     ·exact⟨_,rfl,trivial⟩
   ·-- recover
    rename_i heq
    have hsem:=sem (by rw[heq]; simp) (by rw[heq]; simp)
    rw[heq] at hop
    simp only[Out] at hop
    split
    ·exact⟨_,rfl,trivial⟩
    ·rename_i hro
     have hro':X.b.roundOf=none:=by rw[hX.ro,hro]; rfl
     have hk:(X.b.atR a (.inRegion ops (i::(List.range ops.size).drop (i+1))::k)).kind=X.b.kind:=rfl
     split
     ·rename_i v hpan
      split
      ·rename_i s' hp
       rcases S.pan with ⟨_,hp0⟩|⟨hkd,hpm⟩
       ·rw[hpan] at hp0; simp at hp0
       ·rcases hX.st with ⟨hk0,_⟩|⟨_,c,rest,hcs⟩
        ·rw[hk0] at hkd; simp at hkd
        ·rw[hpan] at hpm
         cases hpm with|pan _ v' _ hv =>
         have S1:a9y P base w0 E X cx { s with pan:=some (v,true) } a (.panicking [{ v:=v',recovered:=true }]) w :=
          ⟨S.sz,S.tm,S.df,.inr ⟨hkd,.pan _ _ _ hv⟩,S.hr⟩
         obtain⟨S2,e⟩:=a6d S1 hp hv
         refine cont E _ _ w s' S2 (by rw[e]; exact .refl _ _ _) ?_
         refine b8f ho' hw' hro' ?_ (by rw[hsem]; exact hop)
         simp[tryRecover,hk,hkd,hcs]
      ·exact⟨_,rfl,trivial⟩
     ·rename_i hnp
      split
      ·rename_i s' hp
       obtain⟨S2,e⟩:=a6d S hp (.niliface:VR E .niliface .nilIface)
       refine cont E _ u w s' S2 (by rw[e]; exact .refl _ _ _) ?_
       refine b7b ho' hw' hro' ?_ (by rw[hsem]; exact hop)
       rcases hX.st with ⟨hk0,_⟩|⟨hk0,c,rest,hcs⟩
       ·simp[tryRecover,hk,hk0]
       ·rcases S.pan with ⟨hkn,_⟩|⟨hkd,hpm⟩
        ·rw[hk0] at hkn; simp at hkn
        ·generalize hsp:s.pan=sp at hpm hnp
         cases hpm with
         |ret=>simp[tryRecover,hk,hk0,hcs]
         |pan v v' r hv =>
          cases r with
          |true=>simp[tryRecover,hk,hk0,hcs]
          |false=>exact absurd rfl (hnp v)
      ·exact⟨_,rfl,trivial⟩
   ·-- a panic
    rename_i v h' heq
    have hsem:=sem (by rw[heq]; simp) (by rw[heq]; simp)
    rw[heq] at hop
    obtain⟨rfl,v',r1,r2⟩:=hop
    exact⟨_,rfl,E,a,u,w,v',_,S,.refl _ _ _,r2,d4m ho' hw' (by rw[hsem]; exact r1)⟩
   ·-- one of several
    rename_i l heq
    have hsem:=sem (by rw[heq]; simp) (by rw[heq]; simp)
    rw[heq] at hop
    obtain⟨p,hp,E1,w1,v',r1,r2,r3,r4⟩:=hop
    refine c1z rec cx ops.toList rest' s o.dst l p hp ?_
    split
    ·rename_i s' hp
     obtain⟨S1,e⟩:=a6d (S.mem r4.le r3) hp r2
     exact cont E1 _ u w1 s' S1 (by rw[e]; exact r4) (b0b ho' hw' (by rw[hsem]; exact r1))
    ·exact⟨_,rfl,trivial⟩
   ·exact⟨_,rfl,trivial⟩
end Ev
end
section
namespace Ev
open Go Go.RowKit
variable {P:Program}{T:a0k}{base:Nat}{w0:World}
theorem c1y:∀ (l:List AV) (n:Nat) (t:Tr AV) (m:Nat),(a5u l n t).get m=if n≤m∧m<n+l.length then l[m-n]? else t.get m
 |[],n,t,m=>by simp[a5u]; omega
 |a::l,n,t,m=>by
  simp only[a5u]
  rw[c1y l (n+1) (t.set n a) m,Tr.a1d]
  simp only[List.length_cons]
  by_cases h1:m=n
  ·subst h1; rw[if_neg (by omega),if_pos rfl,if_pos (by omega)]; simp
  ·by_cases h2:n+1≤m∧m<n+1+l.length
   ·rw[if_pos h2,if_pos (by omega)]
    obtain⟨q,rfl⟩:∃ q,m=n+1+q:=⟨m-(n+1),by omega⟩
    have e:n+1+q-n=q+1:=by omega
    rw[e]; simp
   ·rw[if_neg h2,if_neg h1,if_neg (by omega)]
theorem d6t {E:En}{args:List AV}{args':List Value}(ha:VRs E args args') (n:Nat):TR E (a5u args 0 .nil) (args'.toArray++Array.replicate n undef):=by
 intro t v hv
 rw[c1y] at hv
 split at hv
 ·rename_i h
  obtain⟨v',h1,h2⟩:=ha.get hv
  refine⟨v',?_,h2⟩
  have hl:=ha.length
  rw[Array.getElem?_append_left (by simp; omega)]
  simpa using h1
 ·rw[Tr.get_nil] at hv; simp at hv
theorem c8v {f:FuncId}{F:Func}{c:Code}(hf:P.funcs[f]?=some F) (hb:F.body=some c) (args:Array Value) (kind:CallKind) :
  Frame.enter P f args kind=({ (default:Frame) with fn:=f,kind:=kind }:Frame).atR { tmps:=args++Array.replicate (F.ntmps-args.size) undef,defers:=[] } [.code c]:=by
 have hd:(default:Frame).roundOf=none:=rfl
 simp[Frame.enter,Frame.atR,hf,hb,hd]
def e2t (tmps:Array Value):ResultVar→Sem Value
 |.tmp t=>pure (tmps.getD t undef)
 |.cell a t=>do loadVar t (← asAddr (tmps.getD a undef))
theorem results_eq (F:Func) (tmps:Array Value):results F tmps=(do
  let vs ← F.results.mapM (e2t tmps)
  pure (if h:vs.size=1 then vs[0] else .tuple vs)):=by
 unfold results
 congr 1
theorem c8x (a b:Nat):a+(b-a)=Nat.max b a:=by
 show _=max b a
 omega
theorem b0y (ok:a0v P T){E:En}{h:a0a}{w:World}(H:HR P base w0 E h w){tm:Tr AV}{tmps:Array Value}(ht:TR E tm tmps) :
  ∀ (rs:List ResultVar) (vs:List AV),a5i T tm h rs=some vs→∃ vs':List Value,
   (rs.mapM (e2t tmps)).run P w=.ok vs' w∧VRs E vs vs'
 |[],vs,hv=>by
  simp[a5i] at hv; subst hv
  exact⟨[],by simp,.nil⟩
 |.tmp t::l,vs,hv=>by
  unfold a5i at hv
  split at hv<;>simp at hv
  rename_i v r h1 h2
  subst hv
  obtain⟨v',a1,a2⟩:=ht t v h1
  obtain⟨r',b1,b2⟩:=b0y ok H ht l r h2
  refine⟨v'::r',?_,.cons _ _ _ _ a2 b2⟩
  have:tmps.getD t undef=v':=by simp[a1]
  rw[List.mapM_cons]
  simp only[Sem.run_bind,e2t,Sem.run_pure,Result.andThen_ok,this]
  rw[b1]
  simp
 |.cell a t::l,vs,hv=>by
  unfold a5i at hv
  split at hv
  ·rename_i b off h0
   split at hv<;>simp at hv
   rename_i v r h1 h2
   subst hv
   obtain⟨p',a1,a2⟩:=ht a _ h0
   cases a2 with|ptr _ _ hd =>
   obtain⟨v',c1,c2⟩:=b7u (P:=P) ok hd H h1
   obtain⟨r',b1,b2⟩:=b0y ok H ht l r h2
   refine⟨v'::r',?_,.cons _ _ _ _ c2 b2⟩
   have:tmps.getD a undef=.pointer (some (E.at b off)):=by simp[a1]
   have had:(asAddr (tmps.getD a undef)).run P w=.ok (E.at b off) w:=by rw[this]; rfl
   rw[List.mapM_cons]
   simp only[Sem.run_bind,e2t,Sem.run_pure,Result.andThen_ok,had,c1]
   rw[b1]
   simp
  ·simp at hv
theorem d1e (ok:a0v P T){E:En}{h:a0a}{w:World}(H:HR P base w0 E h w){tm:Tr AV}{tmps:Array Value}(ht:TR E tm tmps){F:Func}{vs:List AV}(hv:a5i T tm h F.results.toList=some vs) :
  ∃ v',(results F tmps).run P w=.ok v' w∧VR E (oneOf vs) v':=by
 obtain⟨vs',h1,h2⟩:=b0y (P:=P) ok H ht _ _ hv
 have hrun:(F.results.mapM (e2t tmps)).run P w=.ok vs'.toArray w:=by
  rw[Array.mapM_eq_mapM_toList]
  simp only[Sem.run_map,h1,Result.andThen_ok]
 refine⟨if h:vs'.toArray.size=1 then vs'.toArray[0] else .tuple vs'.toArray,?_,?_⟩
 ·rw[results_eq]
  simp only[Sem.run_bind]
  rw[hrun]
  rfl
 ·match vs,vs',h2 with
  |[],_,.nil=>exact .tuple [] [] .nil
  |[v],_,.cons _ v' _ _ hv .nil=>exact hv
  |v::u::l,_,.cons _ v' _ _ hv (.cons _ u' _ l' hu hl) =>
   rw[dif_neg (by simp)]
   exact .tuple _ _ (.cons _ _ _ _ hv (.cons _ _ _ _ hu hl))
theorem b9j {m m':Machine}{f:FuncId}{cs:List Frame}{E E1:En}{h h1:a0a}{w w1:World}{r:Res}(hs:Steps P m m') (st:Ste E h w E1 h1 w1)
  (H:∃ q,Lf r q∧a4x P base w0 m' f cs E1 h1 w1 q):∃ q,Lf r q∧a4x P base w0 m f cs E h w q:=by
 obtain⟨q,hl,H⟩:=H
 exact⟨q,hl,a4x.of_steps hs st H⟩
theorem b6h (ok:a0v P T) (hsm:∀ f args h v h',T.sm f args h=some (v,h')→a1j P base w0 (.call f args h) (.ret v h')) (rec:Task→Res) (ih:∀ t,a1j P base w0 t (rec t)) (f:FuncId) (args:List AV) (h:a0a) :
  a1j P base w0 (.call f args h) (Ev.step T rec (.call f args h)):=by
 simp only[Ev.step]
 split
 ·rename_i v h' hs
  exact hsm _ _ _ _ _ hs
 ·rename_i hs
  intro E args' w cs ha H
  split
  ·rename_i F hF
   obtain⟨hf,_⟩:=ok.fn f F hF
   split
   ·rename_i c hb
    have hlen:=ha.length
    rw[c8v hf hb]
    have hX:CxR E { b:={ (default:Frame) with fn:=f,kind:=.normal },cs:=fun _=>cs } { fn:=f,nt:=Nat.max F.ntmps args.length,round:=none } :=
     ⟨rfl,rfl,by simp,.inl ⟨rfl,cs,rfl⟩⟩
    have S:a9y P base w0 E { b:={ (default:Frame) with fn:=f,kind:=.normal },cs:=fun _=>cs } { fn:=f,nt:=Nat.max F.ntmps args.length,round:=none }
      { tm:=a5u args 0 .nil,df:=[],pan:=none,h:=h } { tmps:=args'.toArray++Array.replicate (F.ntmps-args'.toArray.size) undef,defers:=[] } .run w :=
     ⟨by simp only[Array.size_append,Array.size_replicate,List.size_toArray]
         rw[← hlen]
         exact c8x _ _,d6t ha _,.nil,.inl ⟨rfl,rfl⟩,H⟩
    obtain⟨r1,m1,hc⟩:=ih (.code { fn:=f,nt:=Nat.max F.ntmps args.length,round:=none } c { tm:=a5u args 0 .nil,df:=[],pan:=none,h:=h }) E _ _ .run w [] _ (.inl rfl) hX S
    -- the end of the frame
    have out:∀ (E1:En) (a1:Act) (u1:FrameMode) (w1:World) (s1:St) (pn:Option (AV×Bool)) (todo:List Item) (md:FrameMode),
      a9y P base w0 E1 { b:={ (default:Frame) with fn:=f,kind:=.normal },cs:=fun _=>cs } { fn:=f,nt:=Nat.max F.ntmps args.length,round:=none } s1 a1 u1 w1→Ste E h w E1 s1.h w1→b9b E1 pn md →
      Steps P (lone (({ (default:Frame) with fn:=f,kind:=.normal }:Frame).atR { tmps:=args'.toArray++Array.replicate (F.ntmps-args'.toArray.size) undef,defers:=[] } [.code c]) cs w)
       (lone { ({ (default:Frame) with fn:=f,kind:=.normal }:Frame).atR a1 todo with mode:=md } cs w1) →
      ∃ q,Lf (rec (.leave f s1.tm s1.df pn s1.h)) q∧a4x P base w0 (lone (({ (default:Frame) with fn:=f,kind:=.normal }:Frame).atR { tmps:=args'.toArray++Array.replicate (F.ntmps-args'.toArray.size) undef,defers:=[] } [.code c]) cs w) f cs E h w q:=by
     intro E1 a1 u1 w1 s1 pn todo md S1 st hp hs
     have:=ih (.leave f s1.tm s1.df pn s1.h) E1 { ({ (default:Frame) with fn:=f,kind:=.normal }:Frame).atR a1 todo with mode:=md } w1 cs rfl rfl S1.tm S1.df hp S1.hr
     exact b9j hs st this
    refine Lf.bind m1 ?_
    split
    ·rename_i s1
     obtain⟨E1,a1,u1,w1,p1,p2,p3⟩:=hc
     exact out E1 a1 u1 w1 s1 none [] .returning p1 p2 .ret (p3.trans (.one (stepR_end rfl)))
    ·rename_i s1
     obtain⟨E1,a1,u1,w1,p1,p2,k1,p3⟩:=hc
     exact out E1 a1 u1 w1 s1 none _ .returning p1 p2 .ret (p3.trans (.one (stepR_ret rfl)))
    ·rename_i v s1
     obtain⟨E1,a1,u1,w1,v',todo,p1,p2,p3,p4⟩:=hc
     exact out E1 a1 u1 w1 s1 (some (v,false)) todo _ p1 p2 (.pan _ _ _ p3) p4
    ·exact⟨_,rfl,trivial⟩
    ·rename_i hn1 hn2 hn3 hn4
     cases r1 with
     |fin e s=>exact absurd rfl (hn4 e s)
     |pan v s=>exact absurd rfl (hn3 v s)
     |no=>exact⟨_,rfl,trivial⟩
     |_=>exact hc.elim
   ·exact⟨_,rfl,trivial⟩
  ·exact⟨_,rfl,trivial⟩
def c1e:Option (AV×Bool)→Option (AV×Bool)
 |some (_,true)=>none
 |p=>p
theorem d7u {E:En}{p:Option (AV×Bool)}{u:FrameMode}(h:b9b E p u):b9b E (c1e p) (settle u):=by
 cases h with
 |ret=>exact .ret
 |pan v v' r hv =>
  cases r with
  |true=>simp only[settle,c1e,List.dropWhile_nil]; exact .ret
  |false=>simp only[settle,c1e]; exact .pan _ _ _ hv
theorem d0d (ok:a0v P T) (rec:Task→Res) (ih:∀ t,a1j P base w0 t (rec t)) (f:FuncId) (tm:Tr AV) (ds:List ADef) (pan:Option (AV×Bool)) (h:a0a) :
  a1j P base w0 (.leave f tm ds pan h) (Ev.step T rec (.leave f tm ds pan h)):=by
 intro E fr w cs hfn hk ht hd hp H
 simp only[Ev.step]
 have hrun:fr.mode≠.run:=by
  intro e
  rw[e] at hp
  cases hp
 split
 ·-- no deferred call left
  generalize hfd:fr.defers=fd at hd
  cases hd
  generalize hmd:fr.mode=md at hp
  cases hp with
  |ret =>
   simp only
   split
   ·rename_i F hF
    obtain⟨hf,_⟩:=ok.fn f F hF
    split
    ·rename_i vs hv
     obtain⟨v',r1,r2⟩:=d1e (P:=P) ok H ht hv
     exact⟨_,rfl,E,w,v',fr,H,.refl _ _ _,r2,.refl _ _,hfn,hmd,hfd,hk,F,by rw[hfn]; exact hf,r1⟩
    ·exact⟨_,rfl,trivial⟩
   ·exact⟨_,rfl,trivial⟩
  |pan v v' r hv =>
   cases r with
   |true=>exact⟨_,rfl,trivial⟩
   |false =>
    simp only
    split
    ·rename_i F hF
     obtain⟨hf,_⟩:=ok.fn f F hF
     exact⟨_,rfl,E,w,v',fr,H,.refl _ _ _,hv,.refl _ _,hfn,hmd,hfd,F,by rw[hfn]; exact hf⟩
    ·exact⟨_,rfl,trivial⟩
 ·-- the mark of a loop over a function
  rename_i b ds'
  generalize hfd:fr.defers=fd at hd
  cases hd with|cons _ d' _ l' hd0 hdl =>
  cases hd0 with|collected _ hdb =>
  split
  ·rename_i l hg
   obtain⟨hb,ds2,h1,l2,rfl,h2⟩:=H.obj b _ hdb hg
   have htake:=run_takeDeferred (P:=P) h1
   have K:=HR.put H hdb hg trivial (.deferred none) (.dfr none) ⟨hb,none,World.putObj_heap_same (H.live hdb hg trivial),rfl⟩
   have hs:=step_collected (cs:=cs) hrun hfd rfl htake
   have:=ih (.leave f tm (l++ds') pan (h.set b (.dfr none))) E { fr with defers:=l2++l' } _ cs hfn hk ht (h2.append hdl) hp K.1
   exact b9j (.one hs) K.2 this
  ·exact⟨_,rfl,trivial⟩
 ·-- a function's call
  rename_i fn cap args ds'
  generalize hfd:fr.defers=fd at hd
  cases hd with|cons _ d' _ l' hd0 hdl =>
  cases hd0 with|fn _ f' hf _ _ cap' args' hc ha =>
  have hinv:=a9h (base:=base) (w0:=w0) ok H hf hc ha
  split
  ·rename_i g as h' heq
   rw[heq] at hinv
   obtain⟨rfl,as',i1,i2⟩:=hinv
   have hs:=step_defer (cs:=cs) hrun hfd rfl i1
   obtain⟨r1,m1,hdc⟩:=ih (.dcall g as pan h') E as' w { fr with defers:=l' } cs i2 hp H
   refine Lf.bind m1 ?_
   split
   ·rename_i p2 h2
    obtain⟨E1,w1,u1,v1,frX,q1,q2,q3,q4,q5,q6⟩:=hdc
    have h3:=step_going_returned (c:={ { fr with defers:=l' } with mode:=u1 }) (cs:=cs) q5 q6
    have:=ih (.leave f tm ds' (c1e p2) h2) E1 { { { fr with defers:=l' } with mode:=u1 } with mode:=settle u1 } w1 cs hfn hk (ht.mono q2.le) (hdl.mono q2.le) (d7u q3) q1
    have fin:=b9j (.head hs (q4.trans (.one h3))) q2 this
    cases p2 with
    |none=>exact fin
    |some x =>
     obtain⟨v,r⟩:=x
     cases r<;>exact fin
   ·exact⟨_,rfl,trivial⟩
   ·rename_i hn1 hn2
    cases r1 with
    |dret p h4=>exact absurd rfl (hn1 p h4)
    |thrown v h4=>exact absurd rfl (hn2 v h4)
    |no=>exact⟨_,rfl,trivial⟩
    |_=>exact hdc.elim
  ·exact⟨_,rfl,trivial⟩
  ·exact⟨_,rfl,trivial⟩
theorem c9e (ok:a0v P T) (rec:Task→Res) (ih:∀ t,a1j P base w0 t (rec t)) (f:FuncId) (args:List AV) (pan:Option (AV×Bool)) (h:a0a) :
  a1j P base w0 (.dcall f args pan h) (Ev.step T rec (.dcall f args pan h)):=by
 intro E args' w c0 cs ha hp H
 simp only[Ev.step]
 split
 ·rename_i F hF
  obtain⟨hf,_⟩:=ok.fn f F hF
  split
  ·exact⟨_,rfl,trivial⟩
  ·rename_i hres
   split
   ·rename_i c hb
    have hlen:=ha.length
    rw[c8v hf hb]
    have hc0:({ c0 with mode:=c0.mode }:Frame)=c0:=rfl
    have hX:CxR E { b:={ (default:Frame) with fn:=f,kind:=.deferred },cs:=fun u=>{ c0 with mode:=u }::cs } { fn:=f,nt:=Nat.max F.ntmps args.length,round:=none } :=
     ⟨rfl,rfl,by simp,.inr ⟨rfl,c0,cs,rfl⟩⟩
    have S:a9y P base w0 E { b:={ (default:Frame) with fn:=f,kind:=.deferred },cs:=fun u=>{ c0 with mode:=u }::cs } { fn:=f,nt:=Nat.max F.ntmps args.length,round:=none }
      { tm:=a5u args 0 .nil,df:=[],pan:=pan,h:=h } { tmps:=args'.toArray++Array.replicate (F.ntmps-args'.toArray.size) undef,defers:=[] } c0.mode w :=
     ⟨by simp only[Array.size_append,Array.size_replicate,List.size_toArray]
         rw[← hlen]
         exact c8x _ _,d6t ha _,.nil,.inr ⟨rfl,hp⟩,H⟩
    obtain⟨r1,m1,hc⟩:=ih (.code { fn:=f,nt:=Nat.max F.ntmps args.length,round:=none } c { tm:=a5u args 0 .nil,df:=[],pan:=pan,h:=h }) E _ _ c0.mode w [] _ (.inl rfl) hX S
    have out:∀ (E1:En) (a1:Act) (u1:FrameMode) (w1:World) (s1:St) (todo:List Item),s1.df=[] →
      a9y P base w0 E1 { b:={ (default:Frame) with fn:=f,kind:=.deferred },cs:=fun u=>{ c0 with mode:=u }::cs } { fn:=f,nt:=Nat.max F.ntmps args.length,round:=none } s1 a1 u1 w1→Ste E h w E1 s1.h w1 →
      Steps P (lone (({ (default:Frame) with fn:=f,kind:=.deferred }:Frame).atR { tmps:=args'.toArray++Array.replicate (F.ntmps-args'.toArray.size) undef,defers:=[] } [.code c]) (c0::cs) w)
       (lone { ({ (default:Frame) with fn:=f,kind:=.deferred }:Frame).atR a1 todo with mode:=.returning } ({ c0 with mode:=u1 }::cs) w1) →
      d6o P base w0 (lone (({ (default:Frame) with fn:=f,kind:=.deferred }:Frame).atR { tmps:=args'.toArray++Array.replicate (F.ntmps-args'.toArray.size) undef,defers:=[] } [.code c]) (c0::cs) w) c0 cs E h w (.dret s1.pan s1.h):=by
     intro E1 a1 u1 w1 s1 todo hdf S1 st hs
     have hdd:=S1.df
     rw[hdf] at hdd
     have hpm:b9b E1 s1.pan u1:=by
      rcases S1.pan with ⟨hkn,_⟩|⟨_,h2⟩
      ·simp at hkn
      ·exact h2
     refine⟨E1,w1,u1,.tuple #[],_,S1.hr,st,hpm,hs,rfl,rfl,?_,F,hf,?_⟩
     ·show a1.defers=[]
      generalize a1.defers=ad at hdd
      cases hdd; rfl
     ·show(results F a1.tmps).run P w1=_
      have:F.results = #[]:=by
       apply Array.toList_inj.1; simpa using hres
      simp[results,this]
    refine Lf.bind m1 ?_
    split
    ·rename_i e s1
     split
     ·rename_i hdf
      obtain⟨E1,a1,u1,w1,p1,p2,p3⟩:=hc
      exact a6o rfl <| out E1 a1 u1 w1 s1 [] hdf p1 p2 (p3.trans (.one (stepR_end rfl)))
     ·rename_i hdf
      obtain⟨E1,a1,u1,w1,p1,p2,k1,p3⟩:=hc
      exact a6o rfl <| out E1 a1 u1 w1 s1 _ hdf p1 p2 (p3.trans (.one (stepR_ret rfl)))
     ·exact⟨_,rfl,trivial⟩
    ·exact⟨_,rfl,trivial⟩
    ·rename_i hn1 hn2
     cases r1 with
     |fin e s=>exact absurd rfl (hn1 e s)
     |pan v s=>exact absurd rfl (hn2 v s)
     |no=>exact⟨_,rfl,trivial⟩
     |_=>exact hc.elim
   ·exact⟨_,rfl,trivial⟩
 ·exact⟨_,rfl,trivial⟩
end Ev
end
section
namespace Ev
open Go Go.RowKit
variable {P:Program}{T:a0k}{base:Nat}{w0:World}
theorem d1i {fn:FuncId}{df:List ADef}{v:AV}{h:a0a}:Lf (match df,T.fn fn with
     |[],some _=>.thrown v h
     | _, _ => .no "round: defers" []) (match df, T.fn fn with
     |[],some _=>.thrown v h
     | _, _ => .no "round: defers" []) := by split <;> rfl
theorem d0g (ok:a0v P T) (rec:Task→Res) (ih:∀ t,a1j P base w0 t (rec t)) (l:Nat) (fn:FuncId) (tm:Tr AV) (nt:Nat) (as bd:Code) (h:a0a) :
  a1j P base w0 (.round l fn tm nt as bd h) (Ev.step T rec (.round l fn tm nt as bd h)):=by
 intro E tmps w c cs hdl hsz ht H
 simp only[Ev.step]
 let b:Frame:={ (default:Frame) with fn:=fn,kind:=.normal,roundOf:=some (E.blk l) }
 have hb0:Frame.round (E.blk l) fn tmps as bd .normal=b.atR { tmps:=tmps,defers:=[] } [.code as,.beginRound,.code bd]:=by
  simp[Frame.round,Frame.atR,b]
 rw[hb0]
 have hX:CxR E { b:=b,cs:=fun _=>c::cs } { fn:=fn,nt:=nt,round:=some l } :=
  ⟨rfl,rfl,by intro l' hl'; cases hl'; exact hdl,.inl ⟨rfl,_,rfl⟩⟩
 have S:a9y P base w0 E { b:=b,cs:=fun _=>c::cs } { fn:=fn,nt:=nt,round:=some l } { tm:=tm,df:=[],pan:=none,h:=h } { tmps:=tmps,defers:=[] } .run w :=
  ⟨hsz,ht,.nil,.inl ⟨rfl,rfl⟩,H⟩
 obtain⟨r1,m1,h1⟩:=ih (.code { fn:=fn,nt:=nt,round:=some l } as { tm:=tm,df:=[],pan:=none,h:=h }) E _ _ .run w [.beginRound,.code bd] _ (.inl rfl) hX S
 -- a panic in the round
 have thrown:∀ (E1:En) (a1:Act) (u1:FrameMode) (w1:World) (s1:St) (v:AV) (v':Value) (todo:List Item),
   a9y P base w0 E1 { b:=b,cs:=fun _=>c::cs } { fn:=fn,nt:=nt,round:=some l } s1 a1 u1 w1→Ste E h w E1 s1.h w1→VR E1 v v' →
   Steps P (lone (b.atR { tmps:=tmps,defers:=[] } [.code as,.beginRound,.code bd]) (c::cs) w) (lone { b.atR a1 todo with mode:=.panicking [{ v:=v',recovered:=false }] } (c::cs) w1) →
   c8i P base w0 (lone (b.atR { tmps:=tmps,defers:=[] } [.code as,.beginRound,.code bd]) (c::cs) w) c cs E h w
    (match s1.df,T.fn fn with
     |[],some _=>.thrown v s1.h
     | _, _ => .no "round: defers" []) := by
  intro E1 a1 u1 w1 s1 v v' todo S1 st hv hs
  split
  ·rename_i F hdf hF
   obtain⟨hf,_⟩:=ok.fn fn F hF
   have hd:=S1.df
   rw[hdf] at hd
   generalize had:a1.defers=ad at hd
   cases hd
   refine⟨E1,w1,v',S1.hr,st,hv,hs.trans (.one (step_leave_panicked (chain:=[{ v:=v',recovered:=false }]) ⟨rfl,had,F,hf⟩))⟩
  ·trivial
 refine Lf.bind m1 ?_
 split
 ·rename_i s1
  obtain⟨E1,a1,u1,w1,p1,p2,p3⟩:=h1
  have hdl1:=p2.le.dom _ hdl
  have hblk:=p2.le.blk _ hdl
  split
  ·rename_i pend fn' tm' nt' ps' as' bd' d' hg
   obtain⟨q0,q1,tmps1,q2,q3,q4⟩:=p1.hr.obj _ _ hdl1 hg
   rw[hblk] at q2
   have hbeg:=run_beginRound (P:=P) q2 rfl
   have K:=HR.put p1.hr hdl1 hg trivial (.loop { state:=.busy,pending:=pend,fn:=fn',tmps:=tmps1,params:=ps'.toArray,assign:=as',body:=bd',defers:=E1.blk d' }) (.loop .busy pend fn' tm' nt' ps' as' bd' d')
    ⟨q0,q1,tmps1,World.putObj_heap_same (p1.hr.live hdl1 hg trivial),q3,q4⟩
   rw[hblk] at K
   have hs1:=stepR_beginRound (P:=P) (b:=b) (a:=a1) (k:=[.code bd]) (cs:=c::cs) (w:=w1) rfl hbeg
   have S1:=p1.mem (.refl E1) K.1
   obtain⟨r2,m2,h2⟩:=ih (.code { fn:=fn,nt:=nt,round:=some l } bd { s1 with h:=s1.h.set l (.loop .busy pend fn' tm' nt' ps' as' bd' d') }) E1 _ a1 u1 _ [] _ (.inl rfl) (hX.mono p2.le) S1
   refine Lf.bind m2 ?_
   split
   ·rename_i e s2
    obtain⟨E2,a2,u2,w2,r1,r2,r3⟩:=h2
    have st2:Ste E h w E2 s2.h w2:=(p2.trans K.2).trans r2
    have hdl2:=r2.le.dom _ hdl1
    have hblk2:=(r2.le.blk _ hdl1).trans hblk
    split
    ·rename_i st3 pend3 fn3 tm3 nt3 ps3 as3 bd3 d3 hdf hg2
     obtain⟨t0,t1,tmps2,t2,t3,t4⟩:=r1.hr.obj _ _ hdl2 hg2
     rw[hblk2] at t2
     have fin:∀ (j:Option Code),(∃ a3 todo,Steps P (lone (b.atR a1 [.code bd]) (c::cs) (w1.putObj (E.blk l) (.loop { state:=.busy,pending:=pend,fn:=fn',tmps:=tmps1,params:=ps'.toArray,assign:=as',body:=bd',defers:=E1.blk d' }))) (lone (b.atR a3 todo) (c::cs) w2) ∧
       ∀ (v:Value) (w3:World),(Instr.endRound (E.blk l) j).run P w2=.ok v w3→Go.step P (lone (b.atR a3 todo) (c::cs) w2)=.next (lone (c.finish v) cs w3)) →
       c8i P base w0 (lone (b.atR { tmps:=tmps,defers:=[] } [.code as,.beginRound,.code bd]) (c::cs) w) c cs E h w
        (.ret (.bool j.isNone) (s2.h.set l (.loop (if j.isNone then .ready else .done) j fn3 tm3 nt3 ps3 as3 bd3 d3))):=by
      rintro j ⟨a3,todo,s3,s4⟩
      have hend:=run_endRound (P:=P) j t2
      have K2:=HR.put r1.hr hdl2 hg2 trivial (.loop { state:=if j.isNone then .ready else .done,pending:=j,fn:=fn3,tmps:=tmps2,params:=ps3.toArray,assign:=as3,body:=bd3,defers:=E2.blk d3 }) (.loop (if j.isNone then .ready else .done) j fn3 tm3 nt3 ps3 as3 bd3 d3)
       ⟨t0,t1,tmps2,World.putObj_heap_same (r1.hr.live hdl2 hg2 trivial),t3,t4⟩
      rw[hblk2] at K2
      exact⟨E2,_,_,K2.1,st2.trans K2.2,.bool _,p3.trans (.head hs1 (s3.trans (.one (s4 _ _ hend))))⟩
     cases e with
     |normal=>exact a6o rfl <| fin none ⟨a2,[],r3,fun v w3 hr=>stepR_round_end rfl rfl hr⟩
     |ret =>
      obtain⟨k1,r3⟩:=r3
      exact a6o rfl <| fin (some .ret) ⟨a2,_,r3,fun v w3 hr=>stepR_round_ret rfl rfl hr⟩
     |exit id =>
      obtain⟨k1,r3,r4⟩:=r3
      exact a6o rfl <| fin (some (.exit id)) ⟨a2,_,r3,fun v w3 hr=>stepR_round_exit rfl rfl (r4.trans rfl) hr⟩
     |goto t=>exact r3.elim
    ·exact⟨_,rfl,trivial⟩
   ·rename_i v s2
    obtain⟨E2,a2,u2,w2,v',todo,r1,r2,r3,r4⟩:=h2
    exact a6o d1i <| thrown E2 a2 u2 w2 s2 v v' todo r1 ((p2.trans K.2).trans r2) r3 (p3.trans (.head hs1 r4))
   ·rename_i hn1 hn2
    cases r2 with
    |fin e s=>exact absurd rfl (hn1 e s)
    |pan v s=>exact absurd rfl (hn2 v s)
    |no=>exact⟨_,rfl,trivial⟩
    |_=>exact h2.elim
  ·exact⟨_,rfl,trivial⟩
 ·exact⟨_,rfl,trivial⟩
 ·rename_i v s1
  obtain⟨E1,a1,u1,w1,v',todo,p1,p2,p3,p4⟩:=h1
  exact a6o d1i <| thrown E1 a1 u1 w1 s1 v v' todo p1 p2 p3 p4
 ·rename_i hn1 hn2 hn3
  cases r1 with
  |fin e s=>exact absurd rfl (hn2 e s)
  |pan v s=>exact absurd rfl (hn3 v s)
  |no=>exact⟨_,rfl,trivial⟩
  |_=>exact h1.elim
theorem d3o (ok:a0v P T) (hsm:∀ f args h v h',T.sm f args h=some (v,h')→a1j P base w0 (.call f args h) (.ret v h')) (rec:Task→Res) (ih:∀ t,a1j P base w0 t (rec t)) (hdr:c8p P T base w0 rec) :
  ∀ t,a1j P base w0 t (Ev.step T rec t)
 |.code cx c s=>d3y ok rec ih hdr cx c s
 |.ops cx all rest s=>d6z ok rec ih cx all rest s
 |.call f args h=>b6h ok hsm rec ih f args h
 |.round l fn tm nt as bd h=>d0g ok rec ih l fn tm nt as bd h
 |.leave f tm ds pan h=>d0d ok rec ih f tm ds pan h
 |.dcall f args pan h=>c9e ok rec ih f args pan h
theorem f4c (why:String) (l:List FuncId):∀ t,a1j P base w0 t (.no why l)
 |.code .. => fun _ _ _ _ _ _ _ _ _ _=>⟨_,rfl,trivial⟩
 |.ops .. => fun _ _ _ _ _ _ _ _ _ _ _ _=>⟨_,rfl,trivial⟩
 |.call .. => fun _ _ _ _ _ _=>⟨_,rfl,trivial⟩
 |.round .. => fun _ _ _ _ _ _ _ _ _=>⟨_,rfl,trivial⟩
 |.leave .. => fun _ _ _ _ _ _ _ _ _ _=>⟨_,rfl,trivial⟩
 |.dcall .. => fun _ _ _ _ _ _ _ _=>⟨_,rfl,trivial⟩
end Ev
end
