/- What the functions of this part answer at any input, told by the rules over the evaluator. Conditions: those that each theorem states. -/
import Derived.Test.YtejfbaecadbdiaaGreatGaq
import Derived.Test.YtejfbaecadbdiaaGreatMet
import Derived.Test.YtejfbaecadbdiaaGreatScn
import Derived.Test.YtejfbaecadbdiaaGreatGar
import Derived.Test.YtejfbaecadbdiaaGreatGof
set_option linter.unusedVariables false
set_option linter.unusedSimpArgs false
open Go Ev
namespace Go.Proofs.YtejfbaecadbdiaaGreat
set_option maxRecDepth 10000
set_option maxHeartbeats 4000000
def c4s (l:List Rt):Nat:=l.foldl (fun m r=>max m r.tx) 0
theorem e2q (l:List Rt) (r:Rt):c4s (l++[r])=max (c4s l) r.tx:=by simp[c4s]
theorem e2a (x y:Nat):(if(y:Int)>(x:Int) then(y:Int) else(x:Int))=((max x y:Nat):Int):=by split<;>omega
def upM (m:Nat) (x:Mt×Bool):Nat:=if x.2=true then max m x.1.tx else m
def f5q (m:Nat) (a b:Mt×Bool) (i:Nat):Nat:=if i=0 then m else if i=1 then upM m a else upM (upM m a) b
noncomputable def c4a (z:Int) (img:List UInt8):Nat:=upM (upM (c4s (a3c z img)) (a1r z img 0)) (a1r z img 1)
theorem d5s {n:Nat}(hn:8<n){z:Int}{img:List UInt8}{h:a0a}(hk:h.ok) (hi:img.length≤20000):a0l (TV n) 11 [.int .i64 z,.str img] h (fun v h'=>v=.int .u64 (c4a z img)∧Ext h h'):=by
 refine a4k (a1x rfl rfl) rfl rfl ?_
 refine walk ?_
 refine a0b (c7o z img _) rfl rfl rfl rfl ?_
 rintro _ _ ⟨rfl,rfl⟩
 refine walk ?_
 refine GJ.gen [(0,.int .i64 z),(1,.str img),(5,.ptr h.next 0),(13,.func (.func 56) [] [.ptr (h.next+1) 0,.ptr (h.next+1+1) 0])] (fun g=>Ext h g∧g.ok∧g.next=h.next+1+1+1∧g.get h.next=some (.cells 28 [.int .u64 0] true)∧g.get (h.next+1)=some (.cells 3 [.int .i64 z] true)∧g.get (h.next+1+1)=some (.cells 9 [.str img] true)) (by exact hsub) ⟨by exact a0j,by exact hok,rfl,by exact a0g,by exact a0g,by exact a0g⟩ ?_
 rintro g ⟨xg,kg,ng,gb,g1,g2⟩
 refine b7v (P:=fun h4=>Ext h h4∧h4.ok∧g.next+2≤h4.next∧h4.get h.next=some (.cells 28 [.int .u64 (c4s (a3c z img))] true)∧h4.get g.next=some (.dfr (some []))∧(∃ fn tm nt ps as' bd dd,h4.get (g.next+1)=some (.loop .ready none fn tm nt ps as' bd dd))) rfl rfl rfl rfl ?_ ?_
 ·intro tm hs
  have hs2:a0m tm [(5,.ptr h.next 0)]:=hs.sub hsub
  refine a0l.mono (c8r (n:=n) hn (z:=z) (img:=img) (b1:=h.next+1) (b2:=h.next+1+1) (I:=d2j (fun l=>[.int .u64 (c4s l)]) 28 h.next (g.next+1) g.next _) (S0:=fun c=>c=h.next∨g.next≤c∧c<g.next+2) (.of (e8m (p:=14) rfl ?_)) (by exact hok) hi ⟨?_,.inl rfl,by right; omega,by right; omega,by omega,by omega,by omega,a0t _ _,by exact a0g,by exact a0g⟩ (by exact a0g) (by exact a0g) (by omega) (by omega) (by show h.next+1<g.next+1+1; omega) (by show h.next+1+1<g.next+1+1; omega)) ?_
  ·intro S acc s h2 la i
   have lb:=i.low _ i.sb
   have ll:=i.low _ i.sl
   have ld:=i.low _ i.sd
   have gl:=i.gl
   have gd:=i.gd
   have gbx:=i.gb
   have n1:=i.n1
   have n2:=i.n2
   have n3:=i.n3
   refine b7o (hs2.set 14 _) ?_
   refine walk ?_
   refine a2e fun tm1 hs1=>⟨tm1,_,_,none,_,_,_,_,_,_,_,rfl,hs1,by exact a0g,?_⟩
   refine walk ?_
   refine a2e fun tm3 hs3=>⟨_,_,_,none,_,_,_,_,_,_,_,rfl,by exact a0g,rfl,⟨by show h2.next≤h2.next+1; omega,fun c hc hh=>?_,fun k=>by exact hok⟩,S,fun c q=>.inl q,fun c q=>by have:=i.low c q; show c<h2.next+1; omega,i.sb,i.sl,i.sd,i.n1,i.n2,i.n3,by exact a0a.gs _ _ _,by exact a0g,?_⟩
   ·have c1:c≠h.next:=fun e=>hh (by rw[e]; exact i.sb)
    have c2:c≠g.next+1:=fun e=>hh (by rw[e]; exact i.sl)
    have c3:c≠h2.next:=by omega
    exact(a0a.gn _ _ _ _ c2).trans ((a0a.gn _ _ _ _ c1).trans ((a0a.gn _ _ _ _ c2).trans ((a0a.gn _ _ _ _ c3).trans (a0a.ga _ _ _ c3))))
   ·rw[e2q,← e2a]
    exact a0g
  ·rintro c (q|q)
   ·show c<g.next+1+1; omega
   ·show c<g.next+1+1; omega
  ·rintro _ h' ⟨rfl,S,acc,t,k,i,s,la,rfl⟩
   have tn:g.next+1+1≤h'.next:=t.nx
   exact⟨⟨by omega,fun c hc=>by rw[t.old c (by show c<g.next+1+1; omega) (fun q=>by omega)]; exact(a0a.ga _ _ _ (by show c≠g.next+1; omega)).trans ((a0a.ga _ _ _ (by omega)).trans (xg.old c hc)),fun _=>k⟩,k,tn,i.gb,i.gd,⟨_,_,_,_,_,_,_,i.gl⟩⟩
 ·rintro h4 ⟨x4,k4,n4,gb4,gd4,⟨fn,tm,nt,ps,as',bd,dd,gl⟩⟩
  refine⟨_,fn,tm,nt,ps,as',bd,dd,gl,(by intro c; cases c),?_⟩
  have w1:=c4w (n:=n) (by omega) z img (by omega)
  have ge:c4a z img=upM (upM (c4s (a3c z img)) (a1r z img 0)) (a1r z img 1):=rfl
  unfold c3x at w1
  rw[ge]
  generalize a1r z img 0=m0 at w1 ⊢
  generalize a1r z img 1=m1 at w1 ⊢
  generalize c4s (a3c z img)=mx at gb4 ⊢
  obtain⟨m0,r0⟩:=m0
  obtain⟨m1,r1⟩:=m1
  dsimp only at w1 ⊢
  refine GJ.gen [(0,.int .i64 z),(1,.str img),(5,.ptr h.next 0)] (fun h5=>Ext h h5∧h5.ok∧g.next+2≤h5.next∧h5.get h.next=some (.cells 28 [.int .u64 mx] true)∧h5.get g.next=some (.dfr (some []))) (by exact hsub) ⟨?_,by exact hok,n4,by exact a0g,by exact a0g⟩ ?_
  ·exact Ext.st x4 _ _ (by omega) (by omega)
  clear x4 k4 n4 gb4 gd4 gl
  rintro h5 ⟨x5,k5,n5,gb5,gd5⟩
  refine walk ?_
  refine a0n (ι:=Nat) (fun i=>2-i) (fun i=>[(5,.ptr h.next 0),(7,.ptr h5.next 0),(25,.agg [.bool r0,.bool r1]),(26,.int .i64 (i:Nat))]) (fun i h6=>i≤2∧Ext h h6∧h6.ok∧h5.next+2≤h6.next∧h6.get h.next=some (.cells 28 [.int .u64 (f5q mx (m0,r0) (m1,r1) i)] true)∧h6.get h5.next=some (.cells 32 (m0.cs++m1.cs) true)∧h6.get g.next=some (.dfr (some []))) 0 (by exact hsub) ⟨by omega,by exact a0j,by exact hok,by show h5.next+2≤h5.next+1+1; omega,by exact a0g,by exact a0g,by exact a0g⟩ ?_
  rintro i h6 ⟨hi6,x6,k6,n6,gb6,gm6,gd6⟩ next
  by_cases c:i<2
  case neg =>
   obtain rfl:i=2:=by omega
   refine walk ?_
   refine a2x fun tm2 hs=>?_
   refine a3k (by exact a0g) (a1z hs rfl rfl ⟨_,_,rfl,rfl,?_⟩)
   exact Ext.st x6 _ _ (by omega) (by omega)
  rcases(by omega:i=0∨i=1) with rfl|rfl
  ·cases r0 with
   |false =>
    refine walk ?_
    refine next (1) (by omega) (by exact hsub) ⟨by omega,by exact a0j,by exact hok,by show h5.next+2≤h6.next; omega,by exact a0g,by exact a0g,by exact a0g⟩
   |true =>
    refine walk ?_
    refine a0c (q:=7) (ms:=[0,0,2,6,14,31,63]) (hl:=[[32,33,34,35],[31],[31],[31],[31],[],[]]) hok rfl (by kernel_rfl) (by kernel_rfl) rfl ?_
    refine walk ?_
    refine next (1) (by omega) (by exact hsub) ⟨by omega,Ext.st (by exact a0j) _ _ (Nat.le_refl _) (by show h.next<h6.next+7; omega),a0w (by exact hok) _ _ (by show h.next<h6.next+7; omega),by show h5.next+2≤h6.next+7; omega,?_,by exact a0g,by exact a0g⟩
    refine(a0a.gs _ _ _).trans ?_
    show some (a1t.cells 28 [.int .u64 (if(m0.tx:Int)>(mx:Int) then(m0.tx:Int) else(mx:Int))] true)=some (.cells 28 [.int .u64 ((max mx m0.tx:Nat):Int)] true)
    rw[e2a]
  ·cases r1 with
   |false =>
    refine walk ?_
    refine next (2) (by omega) (by exact hsub) ⟨by omega,by exact a0j,by exact hok,by show h5.next+2≤h6.next; omega,by exact a0g,by exact a0g,by exact a0g⟩
   |true =>
    refine walk ?_
    refine a0c (q:=7) (ms:=[0,0,2,6,14,31,63]) (hl:=[[32,33,34,35],[31],[31],[31],[31],[],[]]) hok rfl (by kernel_rfl) (by kernel_rfl) rfl ?_
    refine walk ?_
    refine next (2) (by omega) (by exact hsub) ⟨by omega,Ext.st (by exact a0j) _ _ (Nat.le_refl _) (by show h.next<h6.next+7; omega),a0w (by exact hok) _ _ (by show h.next<h6.next+7; omega),by show h5.next+2≤h6.next+7; omega,?_,by exact a0g,by exact a0g⟩
    refine(a0a.gs _ _ _).trans ?_
    show some (a1t.cells 28 [.int .u64 (if(m1.tx:Int)>((upM mx (m0,r0):Nat):Int) then(m1.tx:Int) else((upM mx (m0,r0):Nat):Int))] true)=some (.cells 28 [.int .u64 ((max (upM mx (m0,r0)) m1.tx:Nat):Int)] true)
    rw[e2a]
set_option maxRecDepth 10000
set_option maxHeartbeats 4000000
structure Cd where
 page:Nat
 tx:Nat
 told:Bool
 deriving DecidableEq
def Cd.cs (c:Cd):List AV:=[.int .u32 c.page,.int .u64 c.tx,.bool c.told]
theorem Cd.csl (c:Cd):c.cs.length=3:=rfl
def f0q:Cd:=⟨0,0,false⟩
noncomputable def a7f (z:Int) (img:List UInt8) (p:Nat):Bool:=(a1r z img 0).2&&decide ((a1r z img 0).1.root=p)||(a1r z img 1).2&&decide ((a1r z img 1).1.root=p)
noncomputable def a4c (z:Int) (img:List UInt8) (r:Rt):Option Cd:=if r.kind≠2 then none else match b0l z img r.page with
 |none=>none
 |some _=>some ⟨r.page,r.tx,a7f z img r.page⟩
noncomputable def a9u (z:Int) (img:List UInt8):List Cd:=(a3c z img).filterMap (a4c z img)
theorem d8e {n:Nat}{g:FuncId}{cap:List AV}{F:Func}{c:Code}{h0:a0a}{Ψ:List Cd→Prop}(hF:(TV n).fn g=some F) (hb:F.body=some c) (hk:h0.ok) (sp:c5o (TV n) g cap Cd.cs h0 Ψ) :
  a0l (TV n) 59 [.nilslice,.func (.func g) [] cap] h0 (fun v h'=>∃ acc,Ext h0 h'∧a1a Cd.cs 47 3 (h0.next ≤ ·) h' v acc∧acc.length≤300000∧Ψ acc):=by
 refine a4k (a1x rfl rfl) rfl rfl ?_
 refine walk ?_
 refine b7v (P:=fun h4=>∃ acc u,Ext h0 h4∧h4.ok∧h0.next+3≤h4.next∧h4.get h0.next=some (.cells 26 [u] true)∧h4.get (h0.next+1)=some (.dfr (some []))∧(∃ fn tm nt ps as' bd dd,h4.get (h0.next+1+1)=some (.loop .ready none fn tm nt ps as' bd dd))∧a1a Cd.cs 47 3 (fun c=>h0.next≤c∧c≠h0.next∧c≠h0.next+1+1∧c≠h0.next+1) h4 u acc∧acc.length≤300000∧Ψ acc) rfl rfl hF hb ?_ ?_
 ·intro tm hs
  have hs2:a0m tm [(2,.ptr h0.next 0)]:=hs.sub hsub
  refine a0l.mono (sp _ (c4q Cd.cs 26 47 3 h0.next (h0.next+1+1) (h0.next+1) _) (fun c=>h0.next≤c∧c<h0.next+3) _ (d6x (p:=7) rfl ?_) (by exact hok) (by exact a0j) ⟨fun c q=>q.2,by constructor<;>omega,by constructor<;>omega,by constructor<;>omega,by omega,by omega,by omega,a0t _ _,by exact a0g,.nilslice,by exact a0g,.nil⟩ (fun c q=>q.1)) ?_
  ·intro S acc s h la i
   obtain⟨u,gb,ow⟩:=i.own
   have lb:=i.low _ i.sb
   have ll:=i.low _ i.sl
   have ld:=i.low _ i.sd
   have gl:=i.gl
   have gd:=i.gd
   obtain⟨v6,h6,e6,⟨vc6,vo6⟩,g6,gl6,t6,S6,s6,i6⟩:=d5i (T:=TV n) (rest:=[26]) s (.cells 47 f0q.cs true) (.cells 47 s.cs true) i gb ow (by omega) rfl rfl rfl rfl rfl (by exact Nat.le_of_ble_eq_true rfl) rfl (by decide) rfl
   refine b7o (hs2.set 7 _) ?_
   refine walk ?_
   refine a2e fun tm1 hs1=>⟨tm1,_,_,none,_,_,_,_,_,_,_,rfl,hs1,by exact a0g,?_⟩
   refine walk ?_
   exact a2e fun tm3 hs3=>⟨_,_,_,none,_,_,_,_,_,_,_,rfl,gl6,rfl,t6,S6,s6,i6⟩
  ·rintro _ h' ⟨rfl,S,acc,t,k,i,s,la,ψ⟩
   obtain⟨u,gb,ow⟩:=i.own
   exact⟨acc,u,⟨by have:=t.nx; have:h0.next+1+1+1≤h'.next:=this; omega,fun c hc=>by rw[t.old c (by show c<h0.next+1+1+1; omega) (fun q=>by omega)]; exact(a0a.ga _ _ _ (by show c≠h0.next+1+1; omega)).trans ((a0a.ga _ _ _ (by show c≠h0.next+1; omega)).trans (a0a.ga _ _ _ (by omega))),fun _=>k⟩,k,t.nx,gb,i.gd,⟨_,_,_,_,_,_,_,i.gl⟩,ow.mono fun c q _=>⟨by rcases s c q.1 with r|r; exact r.1; (have r:h0.next+1+1+1≤c:=r; omega),q.2⟩,la,ψ⟩
 ·rintro h4 ⟨acc,u,x4,k4,n4,gb,gd,⟨fn,tm,nt,ps,as',bd,dd,gl⟩,ow,la,ψ⟩
  refine⟨_,fn,tm,nt,ps,as',bd,dd,gl,(by intro c; cases c),?_⟩
  refine walk ?_
  refine a2x fun tm2 hs=>?_
  refine a3k (by exact a0g) (a1z (vs:=[u]) hs rfl rfl ⟨_,_,rfl,acc,?_,?_,la,ψ⟩)
  ·exact Ext.st (Ext.st x4 _ _ (by show h0.next≤h0.next+1+1; omega) (by show h0.next+1+1<h4.next; omega)) _ _ (by show h0.next≤h0.next+1; omega) (by show h0.next+1<h4.next; omega)
  ·refine a1u.mono (a1u.keep ow (fun c q _=>?_) (Nat.le_refl _)) fun c q _=>q.1
   rw[a0a.gn _ _ _ _ (by show c≠h0.next+1; omega),a0a.gn _ _ _ _ (by show c≠h0.next+1+1; omega)]
theorem d4r {n:Nat}{g:FuncId}{cap:List AV}{F:Func}{c:Code}{h0:a0a}{Ψ:List Cd→Prop}(hF:(TV n).fn g=some F) (hb:F.body=some c) (hk:h0.ok) (sp:c5o (TV n) g cap Cd.cs h0 Ψ) :
  a0l (TV n) 30 [.func (.func g) [] cap] h0 (fun v h'=>∃ acc,Ext h0 h'∧a1a Cd.cs 47 3 (h0.next ≤ ·) h' v acc∧acc.length≤300000∧Ψ acc):=by
 refine a0r (a1x rfl rfl) rfl rfl ?_
 refine walk ?_
 refine a0b (d8e hF hb hk sp) rfl rfl rfl rfl ?_
 intro v h1 p
 refine walk ?_
 exact a0e (by exact hres) p
structure CnI (z:Int) (img:List UInt8) (l b1 b2:Nat) (I:(Nat→Prop)→List Cd→a0a→Prop) (S0:Nat→Prop) (D:Nat) (m0 m1:Mt) (r0 r1:Bool) (O:a1t) (S:Nat→Prop) (acc:List Rt) (h:a0a):Prop where
 k:h.ok
 low:∀ c,S c→c<h.next
 sb1:S b1
 sb2:S b2
 sD:S D∧S (D+1)∧S (D+2)∧S (D+5)∧S (D+6)
 out:∃ So,I So (acc.filterMap (a4c z img)) h∧(∀ c,So c→S c)∧∀ c,So c→S0 c∨D+7≤c
 g1:h.get b1=some (.cells 3 [.int .i64 z] true)
 g2:h.get b2=some (.cells 9 [.str img] true)
 gy:h.get D=some (.cells 122 [.func (.yield l) [] []] true)
 gm:h.get (D+1)=some (.cells 32 (m0.cs++m1.cs) true)
 gr:h.get (D+2)=some (.cells 33 [.bool r0,.bool r1] true)
 gd:h.get (D+5)=some (.dfr (some []))
 gl:h.get (D+6)=some O
theorem CnI.a2l {z:Int}{img:List UInt8}{l b1 b2:Nat}{I:(Nat→Prop)→List Cd→a0a→Prop}{S0:Nat→Prop}{D:Nat}{m0 m1:Mt}{r0 r1:Bool}{O:a1t}{T:Ev.a0k}{S:Nat→Prop}{acc:List Rt}{h h':a0a}(yl:Yld T l Cd.cs I) (i:CnI z img l b1 b2 I S0 D m0 m1 r0 r1 O S acc h) (hn:h.next≤h'.next) (k:∀ c,S c→c<h.next→h'.get c=h.get c) (hk:h.ok→h'.ok):CnI z img l b1 b2 I S0 D m0 m1 r0 r1 O S acc h':=by
 have q:∀ c,S c→h'.get c=h.get c:=fun c s=>k c s (i.low c s)
 obtain⟨s0,s1,s2,s5,s6⟩:=i.sD
 obtain⟨So,o1,o2,o3⟩:=i.out
 exact⟨hk i.k,fun c s=>Nat.lt_of_lt_of_le (i.low c s) hn,i.sb1,i.sb2,i.sD,⟨So,yl.a2l So _ h h' o1 hn (fun c s hc=>k c (o2 c s) hc) hk,o2,o3⟩,(q _ i.sb1).trans i.g1,(q _ i.sb2).trans i.g2,(q _ s0).trans i.gy,(q _ s1).trans i.gm,(q _ s2).trans i.gr,(q _ s5).trans i.gd,(q _ s6).trans i.gl⟩
theorem e4b {n:Nat}(z:Int) (img:List UInt8) (h:a0a):a0l (TV n) 31 [.int .i64 z,.str img] h (fun v h'=>v=.func (.func 60) [] [.ptr h.next 0,.ptr (h.next+1) 0]∧h'=(h.alloc (.cells 3 [.int .i64 z] true)).alloc (.cells 9 [.str img] true)):=by
 refine a0r (a1x rfl rfl) rfl rfl ?_
 refine walk ?_
 exact a0e (by exact hres) ⟨rfl,rfl⟩
def c6m (r0 r1 e0 e1:Bool) (i:Nat):Bool:=if i=0 then false else if i=1 then r0&&e0 else r0&&e0||r1&&e1
theorem f0n {n:Nat}{z:Int}{img:List UInt8}{l b1 b2:Nat}{I:(Nat→Prop)→List Cd→a0a→Prop}{S0:Nat→Prop}{D lp:Nat}{m0 m1:Mt}{r0 r1:Bool}{fn:FuncId}{tm:Tr AV}{nt p dd:Nat}{asg bd:Code}(yl:Yld (TV n) l Cd.cs I) (hp:Nat.blt p nt=true) (hl:lp=D+6)
  (rnd:∀ (S:Nat→Prop) (acc:List Rt) (s:Rt) (h:a0a),acc.length≤500000→s.page<4294967296→CnI z img l b1 b2 I S0 D m0 m1 r0 r1 (.loop .ready none fn tm nt [p] asg bd dd) S acc h→a7w (TV n) (D+6) fn (tm.set p (.agg s.cs)) nt asg bd h (fun v h'=>v=.bool true∧Ev.Touch S h h'∧∃ S':Nat→Prop,(∀ c,S' c→S c∨h.next≤c)∧CnI z img l b1 b2 I S0 D m0 m1 r0 r1 (.loop .ready none fn tm nt [p] asg bd dd) S' (acc++[s]) h')) :
  d3h (TV n) lp (CnI z img l b1 b2 I S0 D m0 m1 r0 r1 (.loop .ready none fn tm nt [p] asg bd dd)):=by
 subst hl
 exact⟨fun S acc s h hl hp i=>⟨fn,_,nt,asg,bd,by simp only[a3d,i.gl]; simp[*,a5m],rnd S acc s h hl hp i⟩,fun S acc h i=>i.low,fun S acc h h' i hn k hk=>i.a2l yl hn k hk⟩
theorem CnI.skip {z:Int}{img:List UInt8}{l b1 b2:Nat}{I:(Nat→Prop)→List Cd→a0a→Prop}{S0:Nat→Prop}{D:Nat}{m0 m1:Mt}{r0 r1:Bool}{O:a1t}{T:Ev.a0k}{S:Nat→Prop}{acc:List Rt}{s:Rt}{h h':a0a}(yl:Yld T l Cd.cs I) (i:CnI z img l b1 b2 I S0 D m0 m1 r0 r1 O S acc h) (e:a4c z img s=none) (nx:h.next≤h'.next) (o:∀ c,c<h.next→c≠D+6→h'.get c=h.get c) (gl:h'.get (D+6)=some O) (k:h'.ok) :
  Ev.Touch S h h'∧∃ S':Nat→Prop,(∀ c,S' c→S c∨h.next≤c)∧CnI z img l b1 b2 I S0 D m0 m1 r0 r1 O S' (acc++[s]) h':=by
 have q:∀ c,c<h.next→h'.get c=h.get c:=fun c hc=>by
  by_cases d:c=D+6
  ·rw[d,gl,i.gl]
  ·exact o c hc d
 refine⟨⟨nx,fun c hc _=>q c hc,fun _=>k⟩,S,fun c q=>.inl q,?_⟩
 have j:=i.a2l yl nx (fun c _ hc=>q c hc) (fun _=>k)
 obtain⟨So,o1,o2,o3⟩:=j.out
 refine { j with out:=⟨So,?_,o2,o3⟩ }
 rw[List.filterMap_append]
 simp only[List.filterMap_cons,e,List.filterMap_nil,List.append_nil]
 exact o1
theorem CnI.next {z:Int}{img:List UInt8}{l b1 b2:Nat}{I:(Nat→Prop)→List Cd→a0a→Prop}{S0:Nat→Prop}{D:Nat}{m0 m1:Mt}{r0 r1:Bool}{O:a1t}{T:Ev.a0k}{S So S6:Nat→Prop}{acc:List Rt}{s:Rt}{cd:Cd}{h h5 h6:a0a}(yl:Yld T l Cd.cs I) (i:CnI z img l b1 b2 I S0 D m0 m1 r0 r1 O S acc h) (e:a4c z img s=some cd)
  (low0:∀ c,S0 c→c<D) (l1:b1<D) (l2:b2<D) (n1:¬ S0 b1) (n2:¬ S0 b2) (o2:∀ c,So c→S c) (o3:∀ c,So c→S0 c∨D+7≤c)
  (nx:h.next≤h5.next) (o:∀ c,c<h.next→c≠D+6→h5.get c=h.get c) (t:Ev.Touch So h5 h6) (s6:∀ c,S6 c→So c∨h5.next≤c) (i6:I S6 (acc.filterMap (a4c z img)++[cd]) h6) (k:(h6.set (D+6) O).ok) :
  Ev.Touch S h (h6.set (D+6) O)∧∃ S':Nat→Prop,(∀ c,S' c→S c∨h.next≤c)∧CnI z img l b1 b2 I S0 D m0 m1 r0 r1 O S' (acc++[s]) (h6.set (D+6) O):=by
 have tn:=t.nx
 have dl:=i.low _ i.sD.2.2.2.2
 have q:∀ c,c<h.next→¬ So c→(h6.set (D+6) O).get c=h.get c:=fun c hc hs=>by
  by_cases d:c=D+6
  ·rw[d,a0a.gs,i.gl]
  ·rw[a0a.gn _ _ _ _ d,t.old c (by omega) hs,o c hc d]
 have ns:∀ c,c<D+7→¬ S0 c→¬ So c:=fun c hc h0 hs=>by
  rcases o3 c hs with r|r
  ·exact h0 r
  ·omega
 have nD:∀ c,D≤c→c<D+7→¬ So c:=fun c h1 h2=>ns c h2 fun r=>by have:=low0 c r; omega
 have n6:¬ S6 (D+6):=fun r=>by
  rcases s6 _ r with r|r
  ·exact nD _ (by omega) (by omega) r
  ·omega
 have lo6:=yl.low _ _ _ i6
 obtain⟨s0,s1,s2,s5,s6'⟩:=i.sD
 refine⟨⟨by show h.next≤h6.next; omega,fun c hc hs=>q c hc fun r=>hs (o2 c r),fun _=>k⟩,fun c=>S c∨S6 c,fun c r=>?_,?_⟩
 ·rcases r with r|r
  ·exact .inl r
  ·rcases s6 c r with r|r
   ·exact .inl (o2 c r)
   ·exact .inr (by omega)
 ·refine⟨k,fun c r=>?_,.inl i.sb1,.inl i.sb2,⟨.inl s0,.inl s1,.inl s2,.inl s5,.inl s6'⟩,⟨S6,?_,fun c r=>.inr r,fun c r=>?_⟩,(q _ (i.low _ i.sb1) (ns _ (by omega) n1)).trans i.g1,(q _ (i.low _ i.sb2) (ns _ (by omega) n2)).trans i.g2,(q _ (i.low _ s0) (nD _ (by omega) (by omega))).trans i.gy,(q _ (i.low _ s1) (nD _ (by omega) (by omega))).trans i.gm,(q _ (i.low _ s2) (nD _ (by omega) (by omega))).trans i.gr,(q _ (i.low _ s5) (nD _ (by omega) (by omega))).trans i.gd,a0a.gs _ _ _⟩
  ·show c<h6.next
   rcases r with r|r
   ·have:=i.low c r; omega
   ·exact lo6 c r
  ·rw[List.filterMap_append]
   simp only[List.filterMap_cons,e,List.filterMap_nil]
   exact yl.a2l _ _ _ _ i6 (Nat.le_refl _) (fun c r _=>a0a.gn _ _ _ _ fun d=>n6 (d ▸ r)) (fun _=>k)
  ·rcases s6 c r with r|r
   ·exact o3 c r
   ·exact .inr (by omega)
theorem e1r {n:Nat}(hn:8<n){z:Int}{img:List UInt8}{l b1 b2:Nat}{I:(Nat→Prop)→List Cd→a0a→Prop}{S0:Nat→Prop}{h0:a0a}(yl:Yld (TV n) l Cd.cs I) (hk:h0.ok) (hi:img.length≤5000) (i0:I S0 [] h0)
  (g1:h0.get b1=some (.cells 3 [.int .i64 z] true)) (g2:h0.get b2=some (.cells 9 [.str img] true)) (n1:¬ S0 b1) (n2:¬ S0 b2) (l1:b1<h0.next) (l2:b2<h0.next) :
  a0l (TV n) 60 [.func (.yield l) [] [],.ptr b1 0,.ptr b2 0] h0 (fun v h'=>v=.tuple []∧∃ S acc,Ev.Touch S0 h0 h'∧h'.ok∧I S acc h'∧(∀ c,S c→S0 c∨h0.next≤c)∧acc.length≤300000∧acc=a9u z img):=by
 refine a4k (a1x rfl rfl) rfl rfl ?_
 have w1:=c4w (n:=n) (by omega) z img (by omega)
 have low0:=yl.low S0 [] h0 i0
 unfold c3x at w1
 have et:∀ p,a7f z img p=((a1r z img 0).2&&decide ((a1r z img 0).1.root=p)||(a1r z img 1).2&&decide ((a1r z img 1).1.root=p)):=fun p=>rfl
 generalize a1r z img 0=m0 at w1 et
 generalize a1r z img 1=m1 at w1 et
 obtain⟨m0,r0⟩:=m0
 obtain⟨m1,r1⟩:=m1
 dsimp only at w1 et
 refine walk ?_
 refine a0b (c7o z img _) rfl rfl rfl rfl ?_
 rintro _ _ ⟨rfl,rfl⟩
 refine walk ?_
 refine GJ.gen [(1,.ptr b1 0),(2,.ptr b2 0),(3,.ptr h0.next 0),(4,.ptr (h0.next+1) 0),(5,.ptr (h0.next+1+1) 0),(20,.func (.func 56) [] [.ptr (h0.next+1+1+1) 0,.ptr (h0.next+1+1+1+1) 0])] (fun g=>Ext h0 g∧g.ok∧g.next=h0.next+5∧g.get h0.next=some (.cells 122 [.func (.yield l) [] []] true)∧g.get (h0.next+1)=some (.cells 32 (m0.cs++m1.cs) true)∧g.get (h0.next+1+1)=some (.cells 33 [.bool r0,.bool r1] true)∧g.get (h0.next+1+1+1)=some (.cells 3 [.int .i64 z] true)∧g.get (h0.next+1+1+1+1)=some (.cells 9 [.str img] true)) (by exact hsub) ⟨by exact a0j,by exact hok,rfl,by exact a0g,by exact a0g,by exact a0g,by exact a0g,by exact a0g⟩ ?_
 rintro g ⟨xg,kg,ng,gy,gm,gr,gz,gi⟩
 have gb1:=(xg.old b1 l1).trans g1
 have gb2:=(xg.old b2 l2).trans g2
 have e5:h0.next+5=g.next:=ng.symm
 have e6:h0.next+6=g.next+1:=by omega
 have ig:=yl.a2l S0 [] h0 g i0 (by omega) (fun c _ hc=>xg.old c hc) (fun _=>kg)
 refine b7v (P:=fun h4=>∃ So acc,Ev.Touch S0 h0 h4∧h4.ok∧I So acc h4∧(∀ c,So c→S0 c∨h0.next+7≤c)∧h0.next+7≤h4.next∧acc.length≤300000∧acc=a9u z img∧h4.get g.next=some (.dfr (some []))∧(∃ fn tm nt ps as' bd dd,h4.get (g.next+1)=some (.loop .ready none fn tm nt ps as' bd dd))) rfl rfl rfl rfl ?_ ?_
 ·intro tm hs
  have hs2:a0m tm [(1,.ptr b1 0),(2,.ptr b2 0),(3,.ptr h0.next 0),(4,.ptr (h0.next+1) 0),(5,.ptr (h0.next+1+1) 0)]:=hs.sub hsub
  refine a0l.mono (c8r (n:=n) hn (z:=z) (img:=img) (b1:=h0.next+1+1+1) (b2:=h0.next+1+1+1+1) (I:=CnI z img l b1 b2 I S0 h0.next m0 m1 r0 r1 _) (S0:=fun c=>S0 c∨c=b1∨c=b2∨c=h0.next∨c=h0.next+1∨c=h0.next+2∨c=h0.next+5∨c=h0.next+6) (f0n (p:=21) yl (by rfl) (by omega) ?_) (by exact hok) (by omega) ⟨by exact hok,fun c q=>?_,by simp,by simp,by simp,⟨S0,?_,fun c q=>.inl q,fun c q=>.inl q⟩,by exact a0g,by exact a0g,by exact a0g,by exact a0g,by exact a0g,?_,Eq.trans (congrArg _ e6) (a0t _ _)⟩ (by exact a0g) (by exact a0g) (fun q=>?_) (fun q=>?_) (by show h0.next+1+1+1<g.next+1+1; omega) (by show h0.next+1+1+1+1<g.next+1+1; omega)) ?_
  ·intro S acc s h la hp i
   have tp:=et s.page
   have cd:a4c z img s=if s.kind≠2 then none else match b0l z img s.page with
    |none=>none
    |some _=>some ⟨s.page,s.tx,a7f z img s.page⟩:=rfl
   have gb1:=i.g1
   have gb2:=i.g2
   have gyy:=i.gy
   have gmm:=i.gm
   have grr:=i.gr
   have gll:=i.gl
   have q1:=i.low _ i.sb1
   have q2:=i.low _ i.sb2
   have q3:=i.low _ i.sD.2.2.2.2
   have ik:=i.k
   rw[e6]
   refine b7o (hs2.set 21 _) ?_
   refine walk ?_
   refine a2e fun tm1 hs1=>⟨tm1,_,_,none,_,_,_,_,_,_,_,rfl,hs1,by rw[← e6]; exact a0g,?_⟩
   refine GJ.gen [(1,.ptr b1 0),(2,.ptr b2 0),(3,.ptr h0.next 0),(4,.ptr (h0.next+1) 0),(5,.ptr (h0.next+1+1) 0),(6,.ptr h.next 0)] (fun Y=>Y.next=h.next+1∧Y.ok∧(∀ c,c<h.next→c≠g.next+1→Y.get c=h.get c)∧Y.get h.next=some (.cells 37 s.cs true)∧Y.get (g.next+1)=some (.loop .busy none _ _ _ _ _ _ _)) (by exact hsub) ⟨rfl,by exact hok,fun c hc r=>(a0a.gn _ _ _ _ r).trans ((a0a.gn _ _ _ _ (by omega)).trans (a0a.ga _ _ _ (by omega))),by exact a0g,a0a.gs _ _ _⟩ ?_
   rintro Y ⟨yn,yk,yo,yr,yb⟩
   have y1:=(yo b1 q1 (by omega)).trans gb1
   have y2:=(yo b2 q2 (by omega)).trans gb2
   have y3:=(yo _ (by omega) (by omega)).trans gyy
   have y4:=(yo _ (by omega) (by omega)).trans gmm
   have y5:=(yo (h0.next+1+1) (by omega) (by omega)).trans grr
   by_cases ck:s.kind=2
   case neg =>
    refine walk ?_
    refine a2e fun tm3 hs3=>⟨_,_,_,none,_,_,_,_,_,_,_,rfl,yb,rfl,CnI.skip yl i (by rw[cd,if_pos ck]) (by show h.next≤Y.next; omega) (fun c hc hd=>?_) (by rw[e6]; exact a0a.gs _ _ _) (by exact hok)⟩
    exact(a0a.gn _ _ _ _ (by omega)).trans (yo c hc (by omega))
   rw[if_neg (by simpa using ck)] at cd
   refine walk ?_
   refine a0b (f5m (n:=n) hn (z:=z) (img:=img) (m:=s.page) (by exact hok) (by omega) hp) rfl rfl rfl rfl ?_
   rintro v h4 ⟨x4,ov⟩
   have nx4:=x4.nx
   have o4:∀ c,c<h.next→c≠g.next+1→h4.get c=h.get c:=fun c hc hd=>(x4.old c (by omega)).trans (yo c hc hd)
   have k4:=x4.ok yk
   have b4:=(x4.old (g.next+1) (by omega)).trans yb
   have r4:=(x4.old h.next (by omega)).trans yr
   have h3':=(x4.old _ (by omega)).trans y3
   have h4':=(x4.old _ (by omega)).trans y4
   have h5':=(x4.old (h0.next+1+1) (by omega)).trans y5
   cases ed:b0l z img s.page with
   |none =>
    rw[ed] at ov cd
    dsimp only at ov cd
    subst ov
    refine walk ?_
    refine a2e fun tm3 hs3=>⟨_,_,_,none,_,_,_,_,_,_,_,rfl,(a0a.gn _ _ _ _ (by omega)).trans ((a0a.ga _ _ _ (by omega)).trans b4),rfl,CnI.skip yl i cd (by show h.next≤h4.next+1; omega) (fun c hc hd=>?_) (by rw[e6]; exact a0a.gs _ _ _) (by exact hok)⟩
    exact(a0a.gn _ _ _ _ (by omega)).trans ((a0a.gn _ _ _ _ (by omega)).trans ((a0a.ga _ _ _ (by omega)).trans (o4 c hc (by omega))))
   |some dn =>
    obtain⟨pg,bs⟩:=dn
    rw[ed] at ov cd
    dsimp only at ov cd
    obtain⟨So,o1,o2,o3⟩:=i.out
    obtain⟨dv,pv,out,rfl,od,op,_⟩:=ov
    obtain⟨nl,ol,_,_⟩:=od
    have nSo:∀ c,So c→c≠g.next+1:=fun c q d=>by
     rcases o3 c q with r|r
     ·have:=low0 c r; omega
     ·omega
    have wdo:=Sl.one ol.ls
    have wdc:=Sl.cells ol.ls
    have np:=Sl.one op.ls
    clear ol op
    refine walk ?_
    refine b0q rfl rfl (b1v (n:=1) (cs:=[.nilslice]) (vs:=[dv]) rfl rfl rfl rfl rfl (by simp[wdo]) (a0t _ _) (by decide)) ?_
    refine walk ?_
    refine a0n (ι:=Nat×Bool) (fun a=>2-a.1) (fun a=>[(3,.ptr h0.next 0),(4,.ptr (h0.next+1) 0),(5,.ptr (h0.next+1+1) 0),(6,.ptr h.next 0),(10,.bool a.2),(36,.int .i64 (a.1:Nat))]) (fun a h6=>a.1≤2∧a.2=c6m r0 r1 (decide (m0.root=s.page)) (decide (m1.root=s.page)) a.1∧h4.next≤h6.next∧h6.ok∧∀ c,c<h4.next→h6.get c=h4.get c) (0,false) (by exact hsub) ⟨by omega,rfl,by show h4.next≤h4.next+1; omega,by exact hok,fun c hc=>(a0a.gn _ _ _ _ (by omega)).trans (a0a.ga _ _ _ (by omega))⟩ ?_
    rintro⟨a,b⟩ h6 ⟨ha,eb,n6,k6,o6⟩ next
    dsimp only at ha eb next ⊢
    have b6:=(o6 (g.next+1) (by omega)).trans b4
    have r6:=(o6 h.next (by omega)).trans r4
    have hg3:=(o6 _ (by omega)).trans h3'
    have hg4:=(o6 _ (by omega)).trans h4'
    have hg5:=(o6 (h0.next+1+1) (by omega)).trans h5'
    by_cases ca:a<2
    case neg =>
     obtain rfl:a=2:=by omega
     have et:b=a7f z img s.page:=eb.trans (tp.symm)
     subst et
     have lf:=List.length_filterMap_le (a4c z img) acc
     have i6:=yl.a2l _ _ _ h6 o1 (by omega) (fun c q hc=>(o6 c (by omega)).trans (o4 c hc (nSo c q))) (fun _=>k6)
     obtain⟨fn,tm',nt,asg,bd,einv,rg⟩:=yl.call So (acc.filterMap (a4c z img)) ⟨s.page,s.tx,a7f z img s.page⟩ h6 (by omega) i6
     refine walk ?_
     refine b4l rg rfl rfl rfl (b7l einv rfl rfl rfl) ?_
     rintro _ h7 ⟨rfl,t7,S7,s7,i7⟩
     have b7:=(t7.old (g.next+1) (by omega) (fun q=>nSo _ q rfl)).trans b6
     refine walk ?_
     refine a2e fun tm3 hs3=>⟨_,_,_,none,_,_,_,_,_,_,_,rfl,b7,rfl,?_⟩
     have nn:=CnI.next yl i cd low0 l1 l2 n1 n2 o2 o3 (by omega) (fun c hc hd=>(o6 c (by omega)).trans (o4 c hc (by omega))) t7 s7 i7 (a0w (t7.ok k6) _ _ (by have:=t7.nx; omega))
     rw[e6] at nn
     exact nn
    rcases(by omega:a=0∨a=1) with rfl|rfl
    ·obtain rfl:b=false:=eb
     cases r0 with
     |false =>
      refine walk ?_
      refine a0c (q:=16) (ms:=[0,1,3,7,15,31,63,127,255,511,63,1087,4095,8191,16383,32767]) (hl:=[[],[],[],[],[],[],[49,50],[49,50],[49,50],[49,50],[45,46,47,48],[45,46,47,48],[],[],[],[]]) hok rfl (by kernel_rfl) (by kernel_rfl) rfl ?_
      refine walk ?_
      exact next (1,false) (by simp only; omega) (by exact hsub) ⟨by simp only; omega,rfl,by show h4.next≤h6.next+16; omega,by exact hok,o6⟩
     |true =>
      refine walk ?_
      refine a0c (q:=16) (ms:=[0,1,3,7,15,31,63,127,255,511,63,1087,4095,8191,16383,32767]) (hl:=[[],[],[],[],[],[],[49,50],[49,50],[49,50],[49,50],[45,46,47,48],[45,46,47,48],[],[],[],[]]) hok rfl (by kernel_rfl) (by kernel_rfl) rfl ?_
      refine walk ?_
      exact next (1,decide ((m0.root:Int)=(s.page:Int))) (by simp only; omega) (by exact hsub) ⟨by simp only; omega,decide_eq_decide.2 (by omega),by show h4.next≤h6.next+16; omega,by exact hok,o6⟩
    ·cases b with
     |true =>
      refine walk ?_
      refine a0c (q:=16) (ms:=[0,1,3,7,15,31,63,127,255,511,63,1087,4095,8191,16383,32767]) (hl:=[[],[],[],[],[],[],[49,50],[49,50],[49,50],[49,50],[45,46,47,48],[45,46,47,48],[],[],[],[]]) hok rfl (by kernel_rfl) (by kernel_rfl) rfl ?_
      refine walk ?_
      exact next (2,true) (by simp only; omega) (by exact hsub) ⟨by simp only; omega,(by have q:(r0&&decide (m0.root=s.page))=true:=eb.symm; simp[c6m,q]),by show h4.next≤h6.next+16; omega,by exact hok,o6⟩
     |false =>
      have q:(r0&&decide (m0.root=s.page))=false:=eb.symm
      cases r1 with
      |false =>
       refine walk ?_
       refine a0c (q:=16) (ms:=[0,1,3,7,15,31,63,127,255,511,63,1087,4095,8191,16383,32767]) (hl:=[[],[],[],[],[],[],[49,50],[49,50],[49,50],[49,50],[45,46,47,48],[45,46,47,48],[],[],[],[]]) hok rfl (by kernel_rfl) (by kernel_rfl) rfl ?_
       refine walk ?_
       exact next (2,false) (by simp only; omega) (by exact hsub) ⟨by simp only; omega,(by simp[c6m,q]),by show h4.next≤h6.next+16; omega,by exact hok,o6⟩
      |true =>
       refine walk ?_
       refine a0c (q:=16) (ms:=[0,1,3,7,15,31,63,127,255,511,63,1087,4095,8191,16383,32767]) (hl:=[[],[],[],[],[],[],[49,50],[49,50],[49,50],[49,50],[45,46,47,48],[45,46,47,48],[],[],[],[]]) hok rfl (by kernel_rfl) (by kernel_rfl) rfl ?_
       refine walk ?_
       exact next (2,decide ((m1.root:Int)=(s.page:Int))) (by simp only; omega) (by exact hsub) ⟨by simp only; omega,(by show decide ((m1.root:Int)=(s.page:Int))=_; rw[show decide ((m1.root:Int)=(s.page:Int))=decide (m1.root=s.page) from decide_eq_decide.2 (by omega)]; simp[c6m,q]),by show h4.next≤h6.next+16; omega,by exact hok,o6⟩
  ·rcases q with q|q
   ·have:=low0 _ q; show c<g.next+1+1; omega
   ·show c<g.next+1+1; omega
  ·exact yl.a2l _ _ _ _ ig (by show g.next≤g.next+1+1; omega) (fun c _ hc=>(a0a.ga _ _ _ (by show c≠g.next+1; omega)).trans (a0a.ga _ _ _ (by omega))) (fun _=>by exact hok)
  ·rw[e5]
   exact a0g
  ·rcases q with q|q
   ·have:=low0 _ q; omega
   ·omega
  ·rcases q with q|q
   ·have:=low0 _ q; omega
   ·omega
  ·rintro _ h' ⟨rfl,S,acc,t,k,i,s,la,rfl⟩
   obtain⟨So,o1,o2,o3⟩:=i.out
   have tn:g.next+1+1≤h'.next:=t.nx
   refine⟨So,(a3c z img).filterMap (a4c z img),⟨by omega,fun c hc hs=>?_,fun _=>k⟩,k,o1,o3,by omega,Nat.le_trans (List.length_filterMap_le ..) la,rfl,by rw[← e5]; exact i.gd,⟨_,_,_,_,_,_,_,by rw[← e6]; exact i.gl⟩⟩
   by_cases d1:c=b1
   ·rw[d1,i.g1,g1]
   by_cases d2:c=b2
   ·rw[d2,i.g2,g2]
   rw[t.old c (by show c<g.next+1+1; omega) (fun q=>by rcases q with q|q; exact hs q; omega)]
   exact(a0a.ga _ _ _ (by show c≠g.next+1; omega)).trans ((a0a.ga _ _ _ (by omega)).trans (xg.old c hc))
 ·rintro h4 ⟨So,acc,t4,k4,i4,s4,n4,la,ea,gd,⟨fn,tm,nt,ps,as',bd,dd,gl⟩⟩
  refine⟨_,fn,tm,nt,ps,as',bd,dd,gl,(by intro c; cases c),?_⟩
  refine walk ?_
  refine a2e fun tm2 hs=>?_
  refine a3k (by exact a0g) (a1z hs rfl rfl ⟨_,_,rfl,rfl,So,acc,?_,by exact hok,?_,fun c q=>by rcases s4 c q with r|r; exact .inl r; exact .inr (by omega),la,ea⟩)
  ·refine⟨by show h0.next≤h4.next; omega,fun c hc hs=>?_,fun _=>by exact hok⟩
   exact(a0a.gn _ _ _ _ (by omega)).trans ((a0a.gn _ _ _ _ (by omega)).trans (t4.old c hc hs))
  ·exact yl.a2l _ _ _ _ i4 (Nat.le_refl _) (fun c q hc=>(a0a.gn _ _ _ _ (fun d=>by have:=s4 c q; rcases this with r|r; (have:=low0 c r; omega); omega)).trans (a0a.gn _ _ _ _ (fun d=>by have:=s4 c q; rcases this with r|r; (have:=low0 c r; omega); omega))) (fun _=>by exact hok)
theorem d8m {n:Nat}(hn:8<n){z:Int}{img:List UInt8}{b1 b2:Nat}{h0:a0a}(hi:img.length≤5000)
  (g1:h0.get b1=some (.cells 3 [.int .i64 z] true)) (g2:h0.get b2=some (.cells 9 [.str img] true)) (l1:b1<h0.next) (l2:b2<h0.next) :
  c5o (TV n) 60 [.ptr b1 0,.ptr b2 0] Cd.cs h0 (fun acc=>acc=a9u z img):=by
 intro l I S0 h yl hk x i0 s0
 have nx:=x.nx
 exact e1r hn yl hk hi i0 ((x.old _ l1).trans g1) ((x.old _ l2).trans g2) (fun q=>by have:=s0 _ q; omega) (fun q=>by have:=s0 _ q; omega) (by omega) (by omega)
theorem d2y {n:Nat}(hn:8<n){z:Int}{img:List UInt8}{h:a0a}(hk:h.ok) (hi:img.length≤5000):a0l (TV n) 9 [.int .i64 z,.str img] h (fun v h'=>Ext h h'∧a1a Cd.cs 47 3 (h.next ≤ ·) h' v (a9u z img)):=by
 refine a0r (a1x rfl rfl) rfl rfl ?_
 refine walk ?_
 refine a0b (e4b z img _) rfl rfl rfl rfl ?_
 rintro _ _ ⟨rfl,rfl⟩
 refine walk ?_
 refine a0b (d4r rfl rfl (by exact hok) (d8m (n:=n) hn (z:=z) (img:=img) hi (by exact a0g) (by exact a0g) (by show h.next<h.next+1+1; omega) (by show h.next+1<h.next+1+1; omega))) rfl rfl rfl rfl ?_
 rintro v h1 ⟨acc,x,o,la,rfl⟩
 refine walk ?_
 exact a0e (by exact hres) ⟨Ext.trans (by exact a0j) x,o.mono fun c q _=>by have q:h.next+1+1≤c:=q; omega⟩
end Go.Proofs.YtejfbaecadbdiaaGreat
