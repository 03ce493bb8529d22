/- What the functions of this part answer at any input, told by the rules over the evaluator. Conditions: those that each theorem states. -/
import Derived.Test.YtejfbaecadbdiaaGreatGap
import Derived.Test.YtejfbaecadbdiaaGreatRf1
import Derived.Test.YtejfbaecadbdiaaGreatDen
set_option linter.unusedVariables false
set_option linter.unusedSimpArgs false
open Go Ev
namespace Go.Proofs.YtejfbaecadbdiaaGreat
set_option maxRecDepth 10000
set_option maxHeartbeats 4000000
theorem e4m {n:Nat}(k:Int) (h:a0a):a0l (TV n) 91 [.int .i64 k] h (fun v h'=>v=.func (.func 116) [] [.ptr h.next 0]∧h'=h.alloc (.cells 3 [.int .i64 k] true)):=by
 refine a0r (a1x rfl rfl) rfl rfl ?_
 refine walk ?_
 exact a0e (by exact hres) ⟨rfl,rfl⟩
theorem f5a {n:Nat}(hn:8<n){z:Int}{img:List UInt8}{p b:Nat}{k:Int}{h:a0a}(hi:img.length<1000000) (hp:p<4294967296) (hk:h.ok) (gb:h.get b=some (.cells 3 [.int .i64 k] true)) (hb:b<h.next) :
  a0l (TV n) 116 [.agg [.int .i64 z,.str img],.int .u32 p,.ptr b 0] h (fun v h'=>v=.tuple [(a1v z img p k).1.av,.bool (a1v z img p k).2]∧Ext h h'):=by
 refine a0r (a1x rfl rfl) rfl rfl ?_
 have w1:=d5n (n:=n) (by omega) z img p k hi hp
 have hb2:b≠h.next:=by omega
 have hb3:b≠h.next+1:=by omega
 refine walk ?_
 exact a0d (by exact hres) ⟨rfl,by exact a0j⟩
def clo (b:Nat):List AV:=[.func (.func 116) [] [.ptr b 0]]
def c8o (h:a0a) (bs:List Nat):Prop:=∀ i b,bs[i]?=some b→b<h.next∧h.get b=some (.cells 3 [.int .i64 (2+i:Nat)] true)
theorem e6q {n:Nat}{h:a0a}(hk:h.ok):a0l (TV n) 57 [] h (fun v h'=>∃ bs,bs.length=5∧Ext h h'∧c8o h' bs∧(∀ b∈bs,h.next≤b)∧a1a clo 120 1 (h.next ≤ ·) h' v bs):=by
 refine a0r (a1x rfl rfl) rfl rfl ?_
 refine walk ?_
 refine a0n (ι:=List Nat×(Nat→Prop)×AV) (fun a=>5-a.1.length) (fun a=>[(1,a.2.2),(2,.int .i64 (2+a.1.length:Nat))]) (fun a h2=>a.1.length≤5∧Ext h h2∧c8o h2 a.1∧(∀ b∈a.1,h.next≤b∧¬ a.2.1 b)∧(∀ c,a.2.1 c→h.next≤c∧c<h2.next)∧a1a clo 120 1 a.2.1 h2 a.2.2 a.1) ([],(fun _=>False),.nilslice) hsub ⟨by decide,.refl _,fun i b q=>by simp at q,fun b q=>by simp at q,fun c q=>q.elim,.nil⟩ ?_
 rintro⟨bs,S,u⟩ h2 ⟨hl,x2,ka,kb,kc,ow⟩ next
 dsimp only at hl ka kb kc ow next ⊢
 have k2:=x2.ok hk
 have nx:=x2.nx
 by_cases c:bs.length<5
 case neg =>
  refine walk ?_
  exact a0e (by exact hres) ⟨bs,by omega,x2,ka,fun b q=>(kb b q).1,ow.mono fun c q _=>(kc c q).1⟩
 refine walk ?_
 refine a0b (e4m _ _) rfl rfl rfl rfl ?_
 rintro _ _ ⟨rfl,rfl⟩
 refine walk ?_
 obtain⟨v7,h7,e7,o7,t7⟩:=a4e (T:=TV n) (st:=118) (rest:=[118]) (h:=(h2.alloc (.cells 3 [.int .i64 (2+bs.length:Nat)] true)).alloc (.cells 120 (clo h2.next) true)) (x:=h2.next) ((ow.keep (h':=(h2.alloc (.cells 3 [.int .i64 (2+bs.length:Nat)] true)).alloc (.cells 120 (clo h2.next) true)) (fun c q hl=>by rw[a0a.ga _ _ _ (by show c≠h2.next+1; omega),a0a.ga _ _ _ (by omega)]) (by show h2.next≤h2.next+1+1; omega))) (a0t _ _) (by show h2.next+1<h2.next+1+1; omega) (by omega) rfl rfl rfl rfl rfl (by exact Nat.le_of_ble_eq_true rfl) rfl (by decide) rfl
 have e:((2+bs.length:Nat):Int)+1=((2+(bs++[h2.next]).length:Nat):Int):=by simp; omega
 have n7:h2.next+1+1≤h7.next:=t7.nx
 have y7:∀ c,c<h2.next→¬ S c→h7.get c=h2.get c:=fun c hc hs=>(t7.old c (by show c<h2.next+1+1; omega) hs).trans ((a0a.ga _ _ _ (by show c≠h2.next+1; omega)).trans (a0a.ga _ _ _ (by omega)))
 have ns:¬ S h2.next:=fun q=>Nat.lt_irrefl _ (kc _ q).2
 have g7:h7.get h2.next=some (.cells 3 [.int .i64 (2+bs.length:Nat)] true):=(t7.old h2.next (by show h2.next<h2.next+1+1; omega) ns).trans ((a0a.ga _ _ _ (by show h2.next≠h2.next+1; omega)).trans (a0t _ _))
 refine walk ?_
 rw[e]
 refine next (bs++[h2.next],(fun c=>(S c∨h2.next+1+1≤c)∧c<h7.next),v7) (by simp only[List.length_append,List.length_cons,List.length_nil]; omega) (by exact hsub) ⟨by simp; omega,⟨by omega,fun c hc=>(y7 c (by omega) (fun q=>by have:=(kc c q).1; omega)).trans (x2.old c hc),fun _=>t7.ok (a4n (a4n k2 _) _)⟩,?_,?_,?_,o7.mono fun c q r=>⟨q,r⟩⟩
 ·intro i b q
  rcases Nat.lt_or_ge i bs.length with r|r
  ·rw[List.getElem?_append_left r] at q
   obtain⟨q1,q2⟩:=ka i b q
   exact⟨by omega,(y7 b q1 (kb b (List.mem_of_getElem? q)).2).trans q2⟩
  ·have hi:i=bs.length:=by
    have:=(List.getElem?_eq_some_iff.1 q).1
    simp at this
    omega
   subst hi
   simp at q
   subst q
   exact⟨by omega,g7⟩
 ·intro b q
  rcases List.mem_append.1 q with q|q
  ·obtain⟨i,hi⟩:=List.getElem?_of_mem q
   have:=(ka i b hi).1
   exact⟨(kb b q).1,fun r=>by rcases r.1 with r|r; exact(kb b q).2 r; omega⟩
  ·obtain rfl:=List.mem_singleton.1 q
   exact⟨nx,fun r=>by rcases r.1 with r|r; exact ns r; omega⟩
 ·rintro c ⟨q,r⟩
  refine⟨?_,r⟩
  rcases q with q|q
  ·exact(kc c q).1
  ·omega
structure Rt where
 page:Nat
 kind:Int
 tx:Nat
 deriving DecidableEq
def Rt.cs (r:Rt):List AV:=[.int .u32 r.page,.int .i64 r.kind,.int .u64 r.tx]
noncomputable def c9g (z:Int) (img:List UInt8) (p:Nat) (k:Int):List Rt:=if(a1v z img p k).2=true then[⟨(a1v z img p k).1.page,(a1v z img p k).1.kind,(a1v z img p k).1.tx⟩] else[]
noncomputable def b3m (z:Int) (img:List UInt8) (p j:Nat):List Rt:=(List.range j).flatMap fun i=>c9g z img p (2+i:Nat)
noncomputable def a8u (z:Int) (img:List UInt8) (i:Nat):List Rt:=(List.range i).flatMap fun q=>b3m z img (2+q) 5
noncomputable def a3c (z:Int) (img:List UInt8):List Rt:=a8u z img (pages z img-2)
theorem d1t (z:Int) (img:List UInt8) (p:Nat) (k:Int):(c9g z img p k).length≤1:=by unfold c9g; split<;>simp
theorem c2m (z:Int) (img:List UInt8) (p j:Nat):b3m z img p (j+1)=b3m z img p j++c9g z img p (2+j:Nat):=by unfold b3m; rw[List.range_succ,List.flatMap_append]; simp
theorem c0a (z:Int) (img:List UInt8) (i:Nat):a8u z img (i+1)=a8u z img i++b3m z img (2+i) 5:=by unfold a8u; rw[List.range_succ,List.flatMap_append]; simp
theorem b9k (z:Int) (img:List UInt8) (p:Nat):∀ j,(b3m z img p j).length≤j
 |0=>by simp[b3m]
 |j+1=>by
  rw[c2m,List.length_append]
  have:=b9k z img p j
  have:=d1t z img p (2+j:Nat)
  omega
theorem b2p (z:Int) (img:List UInt8):∀ i,(a8u z img i).length≤5*i
 |0=>by simp[a8u]
 |i+1=>by
  rw[c0a,List.length_append]
  have:=b2p z img i
  have:=b9k z img (2+i) 5
  omega
structure c1i (z:Int) (img:List UInt8) (bs:List Nat) (I:(Nat→Prop)→List Rt→a0a→Prop) (S0:Nat→Prop) (h0:a0a) (bf:Nat) (w:AV) (acc:List Rt) (S:Nat→Prop) (h:a0a):Prop where
 t:Ev.Touch S0 h0 h
 k:h.ok
 i:I S acc h
 low:∀ c,S c→c<h.next
 s:∀ c,S c→S0 c∨h0.next≤c
 ka:c8o h bs
 kb:∀ b∈bs,¬ S b
 fl:bf<h.next
 fn:¬ S bf
 fg:h.get bf=some (.cells 117 [.int .i64 z,.str img] true)
 ow:a1a clo 120 1 (fun c=>¬ S c∧c<h.next) h w bs
structure d3h (T:Ev.a0k) (l:Nat) (I:(Nat→Prop)→List Rt→a0a→Prop):Prop where
 call:∀ (S:Nat→Prop) (acc:List Rt) (s:Rt) (h:a0a),acc.length≤500000→s.page<4294967296→I S acc h→∃ fn tm nt asg bd,a3d T (.yield l) [] [.agg s.cs] h=.round l fn tm nt asg bd h∧a7w T l fn tm nt asg bd h (fun v h'=>v=.bool true∧Ev.Touch S h h'∧∃ S':Nat→Prop,(∀ c,S' c→S c∨h.next≤c)∧I S' (acc++[s]) h')
 low:∀ (S:Nat→Prop) (acc:List Rt) (h:a0a),I S acc h→∀ c,S c→c<h.next
 a2l:∀ (S:Nat→Prop) (acc:List Rt) (h h':a0a),I S acc h→h.next≤h'.next→(∀ c,S c→c<h.next→h'.get c=h.get c)→(h.ok→h'.ok)→I S acc h'
theorem d3h.of {T:Ev.a0k}{l:Nat}{I:(Nat→Prop)→List Rt→a0a→Prop}(y:Yld T l Rt.cs I):d3h T l I:=⟨fun S acc s h a _ i=>y.call S acc s h a i,y.low,y.a2l⟩
theorem c1i.ext {T:Ev.a0k}{l:Nat}{z:Int}{img:List UInt8}{bs:List Nat}{I:(Nat→Prop)→List Rt→a0a→Prop}{S0 S:Nat→Prop}{h0 h h':a0a}{bf:Nat}{w:AV}{acc:List Rt}(yl:d3h T l I) (e:c1i z img bs I S0 h0 bf w acc S h) (x:Ext h h'):c1i z img bs I S0 h0 bf w acc S h':=by
 have nx:=x.nx
 have nt:=e.t.nx
 exact { t:=⟨by omega,fun c hc hh=>(x.old c (by omega)).trans (e.t.old c hc hh),fun _=>x.ok e.k⟩,k:=x.ok e.k,i:=yl.a2l S acc h h' e.i nx (fun c _ hl=>x.old c hl) x.ok,low:=(fun c q=>Nat.lt_of_lt_of_le (e.low c q) nx),s:=e.s,ka:=(fun i b q=>⟨Nat.lt_of_lt_of_le (e.ka i b q).1 nx,(x.old _ (e.ka i b q).1).trans (e.ka i b q).2⟩),kb:=e.kb,fl:=Nat.lt_of_lt_of_le e.fl nx,fn:=e.fn,fg:=(x.old _ e.fl).trans e.fg,ow:=(e.ow.keep (h':=h') (fun c _ hl=>x.old c hl) nx).mono fun c q _=>⟨q.1,Nat.lt_of_lt_of_le q.2 nx⟩ }
theorem c1i.yield {T:Ev.a0k}{l:Nat}{z:Int}{img:List UInt8}{bs:List Nat}{I:(Nat→Prop)→List Rt→a0a→Prop}{S0 S S':Nat→Prop}{h0 h h':a0a}{bf:Nat}{w:AV}{acc acc':List Rt}(yl:d3h T l I) (e:c1i z img bs I S0 h0 bf w acc S h) (x:Ev.Touch S h h') (s':∀ c,S' c→S c∨h.next≤c) (i':I S' acc' h'):c1i z img bs I S0 h0 bf w acc' S' h':=by
 have nx:=x.nx
 have nt:=e.t.nx
 have nS:∀ c,c<h.next→¬ S c→¬ S' c:=fun c hc hh q=>by
  rcases s' c q with r|r
  ·exact hh r
  ·omega
 have kl:∀ i b,bs[i]?=some b→b∈bs:=fun i b q=>List.mem_of_getElem? q
 exact { t:=⟨by omega,fun c hc hh=>(x.old c (by omega) (fun q=>by rcases e.s c q with r|r; exact hh r; omega)).trans (e.t.old c hc hh),fun _=>x.ok e.k⟩,k:=x.ok e.k,i:=i',low:=yl.low S' acc' h' i',s:=(fun c q=>by rcases s' c q with r|r; exact e.s c r; exact .inr (by omega)),ka:=(fun i b q=>⟨Nat.lt_of_lt_of_le (e.ka i b q).1 nx,(x.old _ (e.ka i b q).1 (e.kb b (kl i b q))).trans (e.ka i b q).2⟩),kb:=(fun b q=>by obtain⟨i,hi⟩:=List.getElem?_of_mem q; exact nS b (e.ka i b hi).1 (e.kb b q)),fl:=Nat.lt_of_lt_of_le e.fl nx,fn:=nS _ e.fl e.fn,fg:=(x.old _ e.fl e.fn).trans e.fg,ow:=(e.ow.keep (h':=h') (fun c q hl=>x.old c hl q.1) nx).mono fun c q _=>⟨nS c q.2 q.1,Nat.lt_of_lt_of_le q.2 nx⟩ }
set_option maxRecDepth 10000
set_option maxHeartbeats 4000000
def f2t:Rt:=⟨0,0,0⟩
theorem e2u {n:Nat}{g:FuncId}{cap:List AV}{F:Func}{c:Code}{h0:a0a}{Ψ:List Rt→Prop}(hF:(TV n).fn g=some F) (hb:F.body=some c) (hk:h0.ok) (sp:c5o (TV n) g cap Rt.cs h0 Ψ) :
  a0l (TV n) 55 [.nilslice,.func (.func g) [] cap] h0 (fun v h'=>∃ acc,Ext h0 h'∧a1a Rt.cs 37 3 (h0.next ≤ ·) h' v acc∧acc.length≤300000∧Ψ acc):=by
 refine a4k (a1x rfl rfl) rfl rfl ?_
 refine walk ?_
 refine b7v (P:=fun h4=>∃ acc u,Ext h0 h4∧h4.ok∧h0.next+3≤h4.next∧h4.get h0.next=some (.cells 24 [u] true)∧h4.get (h0.next+1)=some (.dfr (some []))∧(∃ fn tm nt ps as' bd dd,h4.get (h0.next+1+1)=some (.loop .ready none fn tm nt ps as' bd dd))∧a1a Rt.cs 37 3 (fun c=>h0.next≤c∧c≠h0.next∧c≠h0.next+1+1∧c≠h0.next+1) h4 u acc∧acc.length≤300000∧Ψ acc) rfl rfl hF hb ?_ ?_
 ·intro tm hs
  have hs2:a0m tm [(2,.ptr h0.next 0)]:=hs.sub hsub
  refine a0l.mono (sp _ (c4q Rt.cs 24 37 3 h0.next (h0.next+1+1) (h0.next+1) _) (fun c=>h0.next≤c∧c<h0.next+3) _ (d6x (p:=7) rfl ?_) (by exact hok) (by exact a0j) ⟨fun c q=>q.2,by constructor<;>omega,by constructor<;>omega,by constructor<;>omega,by omega,by omega,by omega,a0t _ _,by exact a0g,.nilslice,by exact a0g,.nil⟩ (fun c q=>q.1)) ?_
  ·intro S acc s h la i
   obtain⟨u,gb,ow⟩:=i.own
   have lb:=i.low _ i.sb
   have ll:=i.low _ i.sl
   have ld:=i.low _ i.sd
   have gl:=i.gl
   have gd:=i.gd
   obtain⟨v6,h6,e6,⟨vc6,vo6⟩,g6,gl6,t6,S6,s6,i6⟩:=d5i (T:=TV n) (rest:=[24]) s (.cells 37 f2t.cs true) (.cells 37 s.cs true) i gb ow (by omega) rfl rfl rfl rfl rfl (by exact Nat.le_of_ble_eq_true rfl) rfl (by decide) rfl
   refine b7o (hs2.set 7 _) ?_
   refine walk ?_
   refine a2e fun tm1 hs1=>⟨tm1,_,_,none,_,_,_,_,_,_,_,rfl,hs1,by exact a0g,?_⟩
   refine walk ?_
   exact a2e fun tm3 hs3=>⟨_,_,_,none,_,_,_,_,_,_,_,rfl,gl6,rfl,t6,S6,s6,i6⟩
  ·rintro _ h' ⟨rfl,S,acc,t,k,i,s,la,ψ⟩
   obtain⟨u,gb,ow⟩:=i.own
   exact⟨acc,u,⟨by have:=t.nx; have:h0.next+1+1+1≤h'.next:=this; omega,fun c hc=>by rw[t.old c (by show c<h0.next+1+1+1; omega) (fun q=>by omega)]; exact(a0a.ga _ _ _ (by show c≠h0.next+1+1; omega)).trans ((a0a.ga _ _ _ (by show c≠h0.next+1; omega)).trans (a0a.ga _ _ _ (by omega))),fun _=>k⟩,k,t.nx,gb,i.gd,⟨_,_,_,_,_,_,_,i.gl⟩,ow.mono fun c q _=>⟨by rcases s c q.1 with r|r; exact r.1; (have r:h0.next+1+1+1≤c:=r; omega),q.2⟩,la,ψ⟩
 ·rintro h4 ⟨acc,u,x4,k4,n4,gb,gd,⟨fn,tm,nt,ps,as',bd,dd,gl⟩,ow,la,ψ⟩
  refine⟨_,fn,tm,nt,ps,as',bd,dd,gl,(by intro c; cases c),?_⟩
  refine walk ?_
  refine a2x fun tm2 hs=>?_
  refine a3k (by exact a0g) (a1z (vs:=[u]) hs rfl rfl ⟨_,_,rfl,acc,?_,?_,la,ψ⟩)
  ·exact Ext.st (Ext.st x4 _ _ (by show h0.next≤h0.next+1+1; omega) (by show h0.next+1+1<h4.next; omega)) _ _ (by show h0.next≤h0.next+1; omega) (by show h0.next+1<h4.next; omega)
  ·refine a1u.mono (a1u.keep ow (fun c q _=>?_) (Nat.le_refl _)) fun c q _=>q.1
   rw[a0a.gn _ _ _ _ (by show c≠h0.next+1; omega),a0a.gn _ _ _ _ (by show c≠h0.next+1+1; omega)]
theorem d8r {n:Nat}{g:FuncId}{cap:List AV}{F:Func}{c:Code}{h0:a0a}{Ψ:List Rt→Prop}(hF:(TV n).fn g=some F) (hb:F.body=some c) (hk:h0.ok) (sp:c5o (TV n) g cap Rt.cs h0 Ψ) :
  a0l (TV n) 28 [.func (.func g) [] cap] h0 (fun v h'=>∃ acc,Ext h0 h'∧a1a Rt.cs 37 3 (h0.next ≤ ·) h' v acc∧acc.length≤300000∧Ψ acc):=by
 refine a0r (a1x rfl rfl) rfl rfl ?_
 refine walk ?_
 refine a0b (e2u hF hb hk sp) rfl rfl rfl rfl ?_
 intro v h1 p
 refine walk ?_
 exact a0e (by exact hres) p
theorem c1i.init {T:Ev.a0k}{l:Nat}{z:Int}{img:List UInt8}{bs:List Nat}{I:(Nat→Prop)→List Rt→a0a→Prop}{S0:Nat→Prop}{h0 h1:a0a}{bf:Nat}{w:AV}{X Y:a1t}(yl:d3h T l I) (i0:I S0 [] h0) (x1:Ext { t:=h0.t,next:=h0.next+7 } h1) (ka1:c8o h1 bs) (kb2:∀ b∈bs,h0.next+7≤b) (o1:a1a clo 120 1 (h0.next+7 ≤ ·) h1 w bs) (k:((h1.set bf X).set bf Y).ok) (hY:Y=.cells 117 [.int .i64 z,.str img] true) (hbf:bf=h0.next+4) :
  c1i z img bs I S0 h0 bf w [] S0 ((h1.set bf X).set bf Y):=by
 have low0:=yl.low S0 [] h0 i0
 have nx1:h0.next+7≤h1.next:=x1.nx
 have nn:((h1.set bf X).set bf Y).next=h1.next:=rfl
 have y:∀ c,c≠bf→((h1.set bf X).set bf Y).get c=h1.get c:=fun c hc=>(a0a.gn _ _ _ _ hc).trans (a0a.gn _ _ _ _ hc)
 have g:((h1.set bf X).set bf Y).get bf=some Y:=a0a.gs _ _ _
 generalize (h1.set bf X).set bf Y=hh at k nn y g
 subst hY hbf
 have y0:∀ c,c<h0.next→hh.get c=h0.get c:=fun c hc=>(y c (by omega)).trans (x1.old c (by show c<h0.next+7; omega))
 have o2:a1a clo 120 1 (h0.next+7 ≤ ·) hh w bs:=o1.keep (fun c q hl=>y c (by have q:h0.next+7≤c:=q; omega)) (by omega)
 exact { t:=⟨by omega,fun c hc _=>y0 c hc,fun _=>k⟩,k:=k,i:=yl.a2l S0 [] h0 hh i0 (by omega) (fun c _ hc=>y0 c hc) (fun _=>k),low:=(fun c q=>by have:=low0 c q; omega),s:=fun c q=>.inl q,ka:=(fun i b q=>by
   have:=kb2 b (List.mem_of_getElem? q)
   have:=(ka1 i b q).1
   exact⟨by omega,(y b (by omega)).trans (ka1 i b q).2⟩),kb:=(fun b q hs=>by have:=low0 b hs; have:=kb2 b q; omega),fl:=by omega,fn:=(fun q=>by have:=low0 _ q; omega),fg:=g,ow:=o2.mono fun c q hl=>⟨fun s=>by have:=low0 c s; have q:h0.next+7≤c:=q; omega,hl⟩ }
theorem e2r {z:Int}{img:List UInt8}{p:Nat}{k:Int}(e:(a1v z img p k).2=true):(a1v z img p k).1.page=p:=by
 unfold a1v at e ⊢
 split at e
 case isFalse=>cases e
 rename_i q
 rw[if_pos q]
 replace q:=q.1
 unfold a0u b1a at q ⊢
 by_cases c1:Good z
 case neg=>rw[if_neg c1] at q; cases q
 by_cases c2:p<pages z img
 case neg=>rw[if_pos c1,if_neg c2] at q; cases q
 rw[if_pos c1,if_pos c2,if_pos c1] at q ⊢
 by_cases c3:((atL z img p).length:Int)=z∧c7u z p (atL z img p)
 case neg=>rw[if_neg c3] at q; cases q
 rw[if_pos c3]
 exact c3.2.2.2.1
theorem c8r {n:Nat}(hn:8<n){z:Int}{img:List UInt8}{l b1 b2:Nat}{I:(Nat→Prop)→List Rt→a0a→Prop}{S0:Nat→Prop}{h0:a0a}(yl:d3h (TV n) l I) (hk:h0.ok) (hi:img.length≤20000) (i0:I S0 [] h0)
  (g1:h0.get b1=some (.cells 3 [.int .i64 z] true)) (g2:h0.get b2=some (.cells 9 [.str img] true)) (n1:¬ S0 b1) (n2:¬ S0 b2) (l1:b1<h0.next) (l2:b2<h0.next) :
  a0l (TV n) 56 [.func (.yield l) [] [],.ptr b1 0,.ptr b2 0] h0 (fun v h'=>v=.tuple []∧∃ S acc,Ev.Touch S0 h0 h'∧h'.ok∧I S acc h'∧(∀ c,S c→S0 c∨h0.next≤c)∧acc.length≤300000∧acc=a3c z img):=by
 refine a0r (a1x rfl rfl) rfl rfl ?_
 have w1:=d6f (n:=n) (by omega) z img (by omega)
 have pl:=b3s z img
 have low0:=yl.low S0 [] h0 i0
 refine walk ?_
 refine a0c (q:=7) (ms:=[0,0,3,0,0,31,63]) (hl:=[[12,14,4],[11,14,4],[14,4],[11,12,13,4],[11,12,13,14],[],[]]) hok rfl (by kernel_rfl) (by kernel_rfl) rfl ?_
 refine walk ?_
 refine a2i (e6q (by exact hok)) rfl rfl rfl rfl rfl rfl ?_
 rintro w h1 ⟨bs,lb,x1,ka1,kb1,o1⟩
 have nx1:h0.next+7≤h1.next:=x1.nx
 have kb2:∀ b∈bs,h0.next+7≤b:=kb1
 refine walk ?_
 refine a0n (ι:=Nat×List Rt×(Nat→Prop)) (fun a=>pages z img-2-a.1) (fun a=>[(0,.func (.yield l) [] []),(1,.ptr b1 0),(2,.ptr b2 0),(4,.ptr (h0.next+4) 0),(5,w),(6,.int .i64 (2+a.1:Nat))]) (fun a h=>a.1≤pages z img-2∧a.2.1=a8u z img a.1∧c1i z img bs I S0 h0 (h0.next+4) w a.2.1 a.2.2 h) (0,[],S0) hsub ⟨Nat.zero_le _,rfl,?_⟩ ?_
 ·exact c1i.init yl i0 x1 ka1 kb2 o1 (by exact hok) rfl rfl
 rintro⟨i,acc,S⟩ h2 ⟨hi2,ea,e2⟩ next
 dsimp only at hi2 ea e2 next ⊢
 have gb1:=(e2.t.old b1 l1 n1).trans g1
 have gb2:=(e2.t.old b2 l2 n2).trans g2
 have nx2:=e2.t.nx
 have lw:=e2.ow.ls.len
 have nw:=e2.ow.ls.ns
 have k2:=e2.k
 rw[lb] at lw
 by_cases c:2+i<pages z img
 case neg =>
  refine walk ?_
  refine a2e fun tm hs=>a2b hs rfl ⟨rfl,S,acc,e2.t,e2.k,e2.i,e2.s,?_,?_⟩
  ·rw[ea]
   have:=b2p z img i
   omega
  ·rw[ea]
   show _=a8u z img (pages z img-2)
   congr 1
   omega
 refine walk ?_
 refine a0n (ι:=Nat×List Rt×(Nat→Prop)) (fun a=>5-a.1) (fun a=>[(0,.func (.yield l) [] []),(1,.ptr b1 0),(2,.ptr b2 0),(4,.ptr (h0.next+4) 0),(5,w),(6,.int .i64 (2+i:Nat)),(22,w),(23,.int .i64 (5:Nat)),(24,.int .i64 a.1)]) (fun a h=>a.1≤5∧a.2.1=a8u z img i++b3m z img (2+i) a.1∧c1i z img bs I S0 h0 (h0.next+4) w a.2.1 a.2.2 h) (0,acc,S) hsub ⟨Nat.zero_le _,by rw[ea]; simp[b3m],e2⟩ ?_
 rintro⟨j,acc',S'⟩ h3 ⟨hj,ea',e3⟩ next'
 dsimp only at hj ea' e3 next' ⊢
 have nx3:=e3.t.nx
 have k3:=e3.k
 have gf:=e3.fg
 have fl:=e3.fl
 by_cases cj:j<5
 case neg =>
  have ej:j=5:=by omega
  rw[ej,← c0a] at ea'
  have e:((2+i:Nat):Int)+1=((2+(i+1):Nat):Int):=by omega
  refine walk ?_
  rw[e]
  exact next (i+1,acc',S') (by simp only; omega) (by exact hsub) ⟨by simp only; omega,ea',e3⟩
 obtain⟨b,hb⟩:∃ b,bs[j]?=some b:=⟨_,List.getElem?_eq_getElem (by omega)⟩
 have kbj:=e3.ka j b hb
 obtain⟨B,p',e',all,rw',hbB,hg,hpl,he,a1⟩:=e3.ow.ls.at (fun _=>rfl) hb
 clear gb1 gb2 lw nw e2 next
 refine walk ?_
 refine a0b (f5a (n:=n) hn (z:=z) (img:=img) (p:=2+i) (b:=b) (k:=(2+j:Nat)) (by omega) (by omega) k3 kbj.2 kbj.1) rfl rfl rfl rfl ?_
 rintro _ h4 ⟨rfl,x4⟩
 have nx4:=x4.nx
 have e5:=e3.ext yl (h':=((h4.alloc (.cells 64 Pg.zero.cs true)).set h4.next (.cells 64 (a1v z img (2+i) (2+j:Nat)).1.cs true))) (by exact a0j)
 have k5:=e5.k
 have n5:h4.next+1=(((h4.alloc (.cells 64 Pg.zero.cs true)).set h4.next (.cells 64 (a1v z img (2+i) (2+j:Nat)).1.cs true))).next:=rfl
 have ss:=c2m z img (2+i) j
 have sl:=b2p z img i
 have sl2:=b9k z img (2+i) j
 have la:acc'.length≤500000:=by rw[ea',List.length_append]; omega
 unfold c9g at ss
 have rp:=e2r (z:=z) (img:=img) (p:=2+i) (k:=(2+j:Nat))
 generalize a1v z img (2+i) (2+j:Nat)=r at e5 k5 n5 ss rp
 obtain⟨r1,r2⟩:=r
 dsimp only at e5 k5 n5 ss rp ⊢
 cases r2 with
 |false =>
  rw[if_neg (by decide),List.append_nil] at ss
  refine walk ?_
  exact next' (j+1,acc',S') (by simp only; omega) (by exact hsub) ⟨by simp only; omega,by simp only; rw[ss]; exact ea',e5⟩
 |true =>
  rw[if_pos rfl] at ss
  obtain⟨fn,tm,nt,asg,bd,einv,rg⟩:=yl.call S' acc' ⟨r1.page,r1.kind,r1.tx⟩ _ la (by show r1.page<4294967296; rw[rp rfl]; omega) e5.i
  refine walk ?_
  refine b4l rg rfl rfl rfl (b7l einv rfl rfl rfl) ?_
  rintro _ h6 ⟨rfl,t6,S6,s6,i6⟩
  have e6:=e5.yield yl t6 s6 i6
  refine walk ?_
  exact next' (j+1,acc'++[⟨r1.page,r1.kind,r1.tx⟩],S6) (by simp only; omega) (by exact hsub) ⟨by simp only; omega,by simp only; rw[ss,ea',List.append_assoc],e6⟩
theorem c7o {n:Nat}(z:Int) (img:List UInt8) (h:a0a):a0l (TV n) 29 [.int .i64 z,.str img] h (fun v h'=>v=.func (.func 56) [] [.ptr h.next 0,.ptr (h.next+1) 0]∧h'=(h.alloc (.cells 3 [.int .i64 z] true)).alloc (.cells 9 [.str img] true)):=by
 refine a0r (a1x rfl rfl) rfl rfl ?_
 refine walk ?_
 exact a0e (by exact hres) ⟨rfl,rfl⟩
theorem d9i {n:Nat}(hn:8<n){z:Int}{img:List UInt8}{b1 b2:Nat}{h0:a0a}(hi:img.length≤20000)
  (g1:h0.get b1=some (.cells 3 [.int .i64 z] true)) (g2:h0.get b2=some (.cells 9 [.str img] true)) (l1:b1<h0.next) (l2:b2<h0.next) :
  c5o (TV n) 56 [.ptr b1 0,.ptr b2 0] Rt.cs h0 (fun acc=>acc=a3c z img):=by
 intro l I S0 h yl hk x i0 s0
 have nx:=x.nx
 exact c8r hn (.of yl) hk hi i0 ((x.old _ l1).trans g1) ((x.old _ l2).trans g2) (fun q=>by have:=s0 _ q; omega) (fun q=>by have:=s0 _ q; omega) (by omega) (by omega)
theorem f1t {n:Nat}(hn:8<n){z:Int}{img:List UInt8}{h:a0a}(hk:h.ok) (hi:img.length≤20000):a0l (TV n) 8 [.int .i64 z,.str img] h (fun v h'=>Ext h h'∧a1a Rt.cs 37 3 (h.next ≤ ·) h' v (a3c z img)):=by
 refine a0r (a1x rfl rfl) rfl rfl ?_
 refine walk ?_
 refine a0b (c7o z img _) rfl rfl rfl rfl ?_
 rintro _ _ ⟨rfl,rfl⟩
 refine walk ?_
 refine a0b (d8r rfl rfl (by exact hok) (d9i (n:=n) hn (z:=z) (img:=img) hi (by exact a0g) (by exact a0g) (by show h.next<h.next+1+1; omega) (by show h.next+1<h.next+1+1; omega))) rfl rfl rfl rfl ?_
 rintro v h1 ⟨acc,x,o,la,rfl⟩
 refine walk ?_
 exact a0e (by exact hres) ⟨Ext.trans (by exact a0j) x,o.mono fun c q _=>by have q:h.next+1+1≤c:=q; omega⟩
end Go.Proofs.YtejfbaecadbdiaaGreat
