/- What the functions of this part answer at any input, told by the rules over the evaluator. Conditions: those that each theorem states. -/
import Derived.Test.YtejfbaecadbdiaaGreatChf
set_option linter.unusedVariables false
set_option linter.unusedSimpArgs false
open Go Ev
namespace Go.Proofs.YtejfbaecadbdiaaGreat
set_option maxRecDepth 10000
set_option maxHeartbeats 4000000
def d7b (s:List UInt8):List AV:=[.str s]
theorem e0z (s:List UInt8):(d7b s).length=1:=rfl
noncomputable def b6a (z:Int) (img:List UInt8) (hd:Nat):Option (List Pg):=if Good z then(a2h z img 5 (pages z img+2) [] hd).bind (fun l=>if ∀ p∈l,a6z p then some l else none) else none
theorem e6k {n:Nat}(hn:5<n){p:Pg}{h:a0a}(hl:p.body.length≤100000):a0l (TV n) 197 [p.av] h (fun v h'=>Ext h h'∧v=if a6z p then .tuple [.str (a2v p),.int .i64 0] else .tuple [.str [],.int .i64 4]):=by
 refine a0r (a1x rfl rfl) rfl rfl ?_
 have w1:=d6k (n:=n) hn (p:=p) (by omega)
 unfold ofO at w1
 by_cases c:a6z p
 ·rw[if_pos c] at w1 ⊢
  refine walk ?_
  exact a0d (by exact hres) ⟨by exact a0j,rfl⟩
 ·rw[if_neg c] at w1 ⊢
  refine walk ?_
  exact a0d (by exact hres) ⟨by exact a0j,rfl⟩
structure b4s (D:Nat) (O:a1t) (S:Nat→Prop) (acc:List (Pg×Int)) (b:Bool) (h:a0a):Prop where
 k:h.ok
 low:∀ c,S c→c<h.next
 s0:S D∧S (D+1)∧S (D+2)∧S (D+3)∧S (D+8)∧S (D+9)
 g0:h.get D=some (.cells 248 [.func (.func 197) [] []] true)
 gd:h.get (D+8)=some (.dfr (some []))
 st:match b with
  |true=>h.get (D+9)=some O∧(∃ Su Sw u w,h.get (D+1)=some (.cells 245 [u] true)∧h.get (D+2)=some (.cells 42 [w] true)∧h.get (D+3)=some (.cells 43 [.int .i64 0] true)∧a1a d7b 9 1 Su h u (acc.map fun x=>a2v x.1)∧a1a a3a 29 1 Sw h w (acc.map fun x=>x.1.page)∧(∀ c,Su c→S c∧D+9<c∧¬ Sw c)∧(∀ c,Sw c→S c∧D+9<c))∧∀ x∈acc,x.2=0∧a6z x.1
  |false=>(∃ fn tm nt ps as' bd dd,h.get (D+9)=some (.loop .done (some .ret) fn tm nt ps as' bd dd))∧h.get (D+1)=some (.cells 245 [.nilslice] true)∧h.get (D+2)=some (.cells 42 [.nilslice] true)∧(∃ e:Int,e≠0∧h.get (D+3)=some (.cells 43 [.int .i64 e] true))∧∃ x∈acc,x.2≠0∨¬ a6z x.1
theorem b4s.a2l {D:Nat}{O:a1t}{S:Nat→Prop}{acc:List (Pg×Int)}{b:Bool}{h h':a0a}(i:b4s D O S acc b h) (hn:h.next≤h'.next) (k:∀ c,S c→c<h.next→h'.get c=h.get c) (hk:h.ok→h'.ok):b4s D O S acc b h':=by
 obtain⟨a0,a1,a2,a3,a4,a5⟩:=i.s0
 have q:∀ c,S c→h'.get c=h.get c:=fun c s=>k c s (i.low c s)
 refine⟨hk i.k,fun c s=>Nat.lt_of_lt_of_le (i.low c s) hn,i.s0,(q _ a0).trans i.g0,(q _ a4).trans i.gd,?_⟩
 have st:=i.st
 cases b with
 |true =>
  obtain⟨gl,⟨Su,Sw,u,w,g1,g2,g3,ou,ow,su,sw⟩,al⟩:=st
  exact⟨(q _ a5).trans gl,⟨Su,Sw,u,w,(q _ a1).trans g1,(q _ a2).trans g2,(q _ a3).trans g3,ou.keep (fun c s hl=>q c (su c s).1) hn,ow.keep (fun c s hl=>q c (sw c s).1) hn,su,sw⟩,al⟩
 |false =>
  obtain⟨⟨fn,tm,nt,ps,as',bd,dd,gl⟩,g1,g2,⟨e,he,g3⟩,al⟩:=st
  exact⟨⟨fn,tm,nt,ps,as',bd,dd,(q _ a5).trans gl⟩,(q _ a1).trans g1,(q _ a2).trans g2,⟨e,he,(q _ a3).trans g3⟩,al⟩
theorem b4s.bad {D:Nat}{O:a1t}{S:Nat→Prop}{acc:List (Pg×Int)}{h H:a0a}{x:Pg×Int}{fn:FuncId}{tm:Tr AV}{nt:Nat}{ps:List Tmp}{as' bd:Code}{dd:Nat}{e:Int}(i:b4s D O S acc true h) (hn:h.next≤H.next) (ho:∀ c,c<h.next→c≠D+1→c≠D+2→c≠D+3→c≠D+9→H.get c=h.get c) (hk:h.ok→H.ok) (g9:H.get (D+9)=some (.loop .done (some .ret) fn tm nt ps as' bd dd)) (g1:H.get (D+1)=some (.cells 245 [.nilslice] true)) (g2:H.get (D+2)=some (.cells 42 [.nilslice] true)) (g3:H.get (D+3)=some (.cells 43 [.int .i64 e] true)) (he:e≠0) (bad:x.2≠0∨¬ a6z x.1) :
  Ev.Touch S h H∧∃ S':Nat→Prop,(∀ c,S' c→S c∨h.next≤c)∧b4s D O S' (acc++[x]) false H:=by
 obtain⟨a0,a1,a2,a3,a4,a5⟩:=i.s0
 have low:=i.low
 refine⟨⟨hn,fun c hc hs=>ho c hc (fun q=>hs (q ▸ a1)) (fun q=>hs (q ▸ a2)) (fun q=>hs (q ▸ a3)) (fun q=>hs (q ▸ a5)),hk⟩,S,fun c q=>.inl q,⟨hk i.k,fun c q=>Nat.lt_of_lt_of_le (low c q) hn,i.s0,(ho D (low _ a0) (by omega) (by omega) (by omega) (by omega)).trans i.g0,(ho _ (low _ a4) (by omega) (by omega) (by omega) (by omega)).trans i.gd,⟨fn,tm,nt,ps,as',bd,dd,g9⟩,g1,g2,⟨e,he,g3⟩,x,by simp,bad⟩⟩
theorem b4s.good {D:Nat}{O:a1t}{S Su Sw:Nat→Prop}{acc:List (Pg×Int)}{h Z:a0a}{p:Pg}{v3 v8:AV}(i:b4s D O S acc true h) (hn:h.next≤Z.next) (ho:∀ c,c<h.next→c≠D+1→c≠D+2→c≠D+9→(¬ S c∨c≤D+9)→Z.get c=h.get c) (hk:Z.ok) (gl:Z.get (D+9)=some O) (g1:Z.get (D+1)=some (.cells 245 [v3] true)) (g2:Z.get (D+2)=some (.cells 42 [v8] true)) (ok:a6z p)
  (ou:a1a d7b 9 1 Su Z v3 ((acc.map fun x=>a2v x.1)++[a2v p])) (ow:a1a a3a 29 1 Sw Z v8 ((acc.map fun x=>x.1.page)++[p.page])) (su:∀ c,Su c→(S c∧D+9<c∨h.next≤c∧c<Z.next)∧¬ Sw c) (sw:∀ c,Sw c→(S c∧D+9<c∨h.next≤c∧c<Z.next)) :
  Ev.Touch S h Z∧∃ S':Nat→Prop,(∀ c,S' c→S c∨h.next≤c)∧b4s D O S' (acc++[(p,0)]) true Z:=by
 obtain⟨a0,a1,a2,a3,a4,a5⟩:=i.s0
 have low:=i.low
 have b9:=low _ a5
 have st:=i.st
 obtain⟨-,⟨-,-,-,-,-,-,g3,-,-,-,-⟩,al⟩:=st
 refine⟨⟨hn,fun c hc hs=>ho c hc (fun q=>hs (q ▸ a1)) (fun q=>hs (q ▸ a2)) (fun q=>hs (q ▸ a5)) (.inl hs),fun _=>hk⟩,fun c=>S c∨(h.next≤c∧c<Z.next),fun c q=>by rcases q with q|q; exact .inl q; exact .inr q.1,⟨hk,fun c q=>by
  rcases q with q|q
  ·exact Nat.lt_of_lt_of_le (low c q) hn
  ·exact q.2,⟨.inl a0,.inl a1,.inl a2,.inl a3,.inl a4,.inl a5⟩,(ho D (low _ a0) (by omega) (by omega) (by omega) (.inr (by omega))).trans i.g0,(ho _ (low _ a4) (by omega) (by omega) (by omega) (.inr (by omega))).trans i.gd,gl,⟨Su,Sw,v3,v8,g1,g2,(ho _ (low _ a3) (by omega) (by omega) (by omega) (.inr (by omega))).trans g3,by rw[List.map_append]; exact ou,by rw[List.map_append]; exact ow,fun c q=>?_,fun c q=>?_⟩,fun x hx=>?_⟩⟩
 ·obtain⟨q1,q2⟩:=su c q
  rcases q1 with r|r
  ·exact⟨.inl r.1,r.2,q2⟩
  ·exact⟨.inr r,by omega,q2⟩
 ·rcases sw c q with r|r
  ·exact⟨.inl r.1,r.2⟩
  ·exact⟨.inr r,by omega⟩
 ·rcases List.mem_append.1 hx with q|q
  ·exact al x q
  ·obtain rfl:=List.mem_singleton.1 q
   exact⟨rfl,ok⟩
theorem d9j {n:Nat}{z kd:Int}{img:List UInt8}{hd:Nat}{h:a0a}:a0l (TV n) 218 [.int .i64 z,.str img,.int .u32 hd,.int .i64 kd] h (fun v h'=>v=.func (.func 224) [] [.ptr (h.next+2) 0,.ptr h.next 0,.ptr (h.next+1) 0,.ptr (h.next+3) 0]∧h'=(((h.alloc (.cells 3 [.int .i64 z] true)).alloc (.cells 9 [.str img] true)).alloc (.cells 29 [.int .u32 hd] true)).alloc (.cells 3 [.int .i64 kd] true)):=by
 refine a0r (a1x rfl rfl) rfl rfl ?_
 refine walk ?_
 exact a0e (by exact hres) ⟨rfl,rfl⟩
theorem d4z {n:Nat}(hn:5<n){z:Int}{img:List UInt8}{hd D:Nat}{h1:a0a}{fn:FuncId}{tm:Tr AV}{nt:Nat}{as' bd:Code}(hi:img.length≤20000) (hh:hd<4294967296) (k1:h1.ok) (n1:h1.next=D+8) (q0:h1.get D=some (.cells 248 [.func (.func 197) [] []] true)) (q1:h1.get (D+1)=some (.cells 245 [.nilslice] true)) (q2:h1.get (D+2)=some (.cells 42 [.nilslice] true)) (q3:h1.get (D+3)=some (.cells 43 [.int .i64 0] true)) (q4:h1.get (D+4)=some (.cells 3 [.int .i64 z] true)) (q5:h1.get (D+5)=some (.cells 9 [.str img] true)) (q6:h1.get (D+6)=some (.cells 29 [.int .u32 hd] true)) (q7:h1.get (D+7)=some (.cells 3 [.int .i64 5] true)) (hnt:(([25,26]:List Tmp).all fun p=>Nat.blt p nt)=true)
  (rnd:∀ (S:Nat→Prop) (acc:List (Pg×Int)) (s:Pg×Int) (h:a0a),acc.length≤500000→s.1.body.length≤100000→b4s D (.loop .ready none fn tm nt [25,26] as' bd (D+8)) S acc true h→a7w (TV n) (D+9) fn (a5m tm [25,26] (flA s)) nt as' bd h (fun v h'=>∃ b,v=.bool b∧Ev.Touch S h h'∧∃ S':Nat→Prop,(∀ c,S' c→S c∨h.next≤c)∧b4s D (.loop .ready none fn tm nt [25,26] as' bd (D+8)) S' (acc++[s]) b h')) :
  a0l (TV n) 224 [.func (.yield (h1.next+1)) [] [],.ptr (D+6) 0,.ptr (D+4) 0,.ptr (D+5) 0,.ptr (D+7) 0] ((h1.alloc (.dfr (some []))).alloc (.loop .ready none fn tm nt [25,26] as' bd h1.next)) fun _ h4=>∃ S acc b,(∀ c,c<D→h4.get c=h1.get c)∧h4.ok∧D+10≤h4.next∧b4s D (.loop .ready none fn tm nt [25,26] as' bd (D+8)) S acc b h4∧(∀ c,S c→D≤c)∧(b=true→a8c (a2h z img 5 (pages z img+2) [] hd) acc)∧∃ l,a8c (a2h z img 5 (pages z img+2) [] hd) l∧acc <+: l:=by
 have nl:h1.next+1=D+9:=by omega
 refine a0l.mono (d7i (n:=n) (z:=z) (img:=img) (hd:=hd) (kd:=5) (l:=h1.next+1) (b1:=D+6) (b2:=D+4) (b3:=D+5) (b4:=D+7) (I:=b4s D (.loop .ready none fn tm nt [25,26] as' bd (D+8))) (S0:=fun c=>c=D∨c=D+1∨c=D+2∨c=D+3∨c=D+8∨c=D+9) (by omega) (d5u (ps:=[25,26]) (fun _=>rfl) hnt (fun S acc h i=>by rw[nl]; exact i.st.1) (fun S acc b h i=>i.low) (fun S acc b h h' i hn k o=>i.a2l hn k o) (by rw[nl]; exact rnd)) (by exact hok) hi hh ?_ (by exact a0g) (by exact a0g) (by exact a0g) (by exact a0g) (by omega) (by omega) (by omega) (by omega) (by omega) (by omega) (by omega) (by exact hlt) (by exact hlt) (by exact hlt) (by exact hlt)) ?_
 ·refine⟨by exact hok,fun c q=>by show c<h1.next+1+1; omega,⟨by omega,by omega,by omega,by omega,by omega,by omega⟩,by exact a0g,by rw[← n1]; exact a0g,?_⟩
  refine⟨by rw[← nl,← n1]; exact a0t _ _,⟨fun _=>False,fun _=>False,.nilslice,.nilslice,by exact a0g,by exact a0g,by exact a0g,.nil,.nil,fun c q=>q.elim,fun c q=>q.elim⟩,fun x hx=>by cases hx⟩
 ·rintro _ h4 ⟨-,S,acc,b,t,k4,i,s,f1,f2⟩
  have nx:h1.next+1+1≤h4.next:=t.nx
  refine⟨S,acc,b,fun c hc=>?_,k4,by omega,i,fun c q=>?_,f1,f2⟩
  ·refine(t.old c (by show c<h1.next+1+1; omega) (by omega)).trans ?_
   exact(a0a.ga _ _ _ (by show c≠h1.next+1; omega)).trans (a0a.ga _ _ _ (by omega))
  ·rcases s c q with r|r
   ·omega
   ·have r:h1.next+1+1≤c:=r
    omega
theorem e6s {n:Nat}(hn:5<n){z:Int}{img:List UInt8}{hd:Nat}{h:a0a}(hk:h.ok) (hi:img.length≤20000) (hh:hd<4294967296):a0l (TV n) 196 [.int .i64 z,.str img,.int .u32 hd,.int .i64 5,.func (.func 197) [] []] h (fun v h'=>Ext h h'∧match b6a z img hd with
  |none=>∃ e:Int,e≠0∧v=.tuple [.nilslice,.nilslice,.int .i64 e]
  |some ps=>∃ u w,v=.tuple [u,w,.int .i64 0]∧a1a d7b 9 1 (h.next ≤ ·) h' u (ps.map a2v)∧a1a a3a 29 1 (h.next ≤ ·) h' w (ps.map (·.page))):=by
 refine a4k (a1x rfl rfl) rfl rfl ?_
 have w1:=b2h (n:=n) (by omega) z
 by_cases g:Good z
 case neg =>
  rw[decide_eq_false g] at w1
  have e:b6a z img hd=none:=by unfold b6a; rw[if_neg g]
  rw[e]
  refine walk ?_
  refine a2x fun tm hs=>?_
  exact a1z (vs:=[.nilslice,.nilslice,.int .i64 2]) hs rfl (a0x rfl (a2p rfl rfl a0g) (a0x rfl (a2p rfl rfl a0g) (a0x rfl (a2p rfl rfl a0g) rfl))) ⟨_,_,rfl,by exact a0j,2,by decide,rfl⟩
 rw[decide_eq_true g] at w1
 have es:b6a z img hd=(a2h z img 5 (pages z img+2) [] hd).bind (fun l=>if ∀ p∈l,a6z p then some l else none):=by unfold b6a; rw[if_pos g]
 rw[es]
 refine walk ?_
 refine a0b d9j rfl rfl rfl rfl ?_
 rintro _ _ ⟨rfl,rfl⟩
 refine walk ?_
 refine GJ.gen [(0,.int .i64 z),(9,.ptr h.next 0),(10,.ptr (h.next+1) 0),(11,.ptr (h.next+2) 0),(12,.ptr (h.next+3) 0),(24,.func (.func 224) [] [.ptr (h.next+6) 0,.ptr (h.next+4) 0,.ptr (h.next+5) 0,.ptr (h.next+7) 0])] (fun g=>Ext h g∧g.ok∧g.next=h.next+8∧g.get h.next=some (.cells 248 [.func (.func 197) [] []] true)∧g.get (h.next+1)=some (.cells 245 [.nilslice] true)∧g.get (h.next+2)=some (.cells 42 [.nilslice] true)∧g.get (h.next+3)=some (.cells 43 [.int .i64 0] true)∧g.get (h.next+4)=some (.cells 3 [.int .i64 z] true)∧g.get (h.next+5)=some (.cells 9 [.str img] true)∧g.get (h.next+6)=some (.cells 29 [.int .u32 hd] true)∧g.get (h.next+7)=some (.cells 3 [.int .i64 5] true)) (by exact hsub) ⟨by exact a0j,by exact hok,rfl,by exact a0g,by exact a0g,by exact a0g,by exact a0g,by exact a0g,by exact a0g,by exact a0g,by exact a0g⟩ ?_
 rintro h1 ⟨x1,k1,n1,q0,q1,q2,q3,q4,q5,q6,q7⟩
 refine c5g (P:=fun h4=>∃ S acc b fn tm nt ps as' bd dd,Ext h h4∧h4.ok∧h.next+10≤h4.next∧b4s h.next (.loop .ready none fn tm nt ps as' bd dd) S acc b h4∧(∀ c,S c→h.next≤c)∧(b=true→a8c (a2h z img 5 (pages z img+2) [] hd) acc)∧∃ l,a8c (a2h z img 5 (pages z img+2) [] hd) l∧acc <+: l) rfl rfl rfl rfl ?_ ?_
 ·intro tm hs
  have hs2:a0m tm [(9,.ptr h.next 0),(10,.ptr (h.next+1) 0),(11,.ptr (h.next+2) 0),(12,.ptr (h.next+3) 0)]:=hs.sub hsub
  refine a0l.mono (d4z hn hi hh k1 n1 q0 q1 q2 q3 q4 q5 q6 q7 rfl ?_) ?_
  rotate_left
  ·rintro _ h4 ⟨S,acc,b,o4,k4,n4,i,sb,f1,f2⟩
   exact⟨S,acc,b,_,_,_,_,_,_,_,⟨by omega,fun c hc=>(o4 c hc).trans (x1.old c hc),fun _=>k4⟩,k4,n4,i,sb,f1,f2⟩
  ·intro S acc x H la lx i
   obtain⟨a0,a1,a2,a3,a4,a5⟩:=i.s0
   obtain⟨gl,⟨Su,Sw,u,w,g1,g2,g3,ou,ow,su,sw⟩,al⟩:=i.st
   have g0:=i.g0
   have gd:=i.gd
   have low:=i.low
   have b0:=low _ a0
   have b1:=low _ a1
   have b2:=low _ a2
   have b3:=low _ a3
   have b4:=low _ a4
   have b5:=low _ a5
   obtain⟨p,e⟩:=x
   refine c5x ((hs2.set 25 _).set 26 _) ?_
   refine walk ?_
   refine a2e fun tm1 hs1=>⟨tm1,_,_,none,_,_,_,_,_,_,_,rfl,hs1,by exact a0g,?_⟩
   by_cases c1:e=0
   case neg =>
    refine walk ?_
    refine a2x fun tm3 hs3=>⟨.ret,_,_,_,_,_,_,_,_,_,_,_,rfl,by exact a0g,false,rfl,?_⟩
    exact b4s.bad i (by exact hle) (fun c hc r1 r2 r3 r9=>by have gc:H.get c=H.get c:=rfl; exact a0g) (fun k=>by exact hok) (a0a.gs _ _ _) (by exact a0g) (by exact a0g) (by exact a0g) c1 (.inl c1)
   subst c1
   refine walk ?_
   refine a0b (e6k (n:=n) (p:=p) hn lx) rfl rfl rfl (d6b rfl rfl rfl rfl rfl rfl) ?_
   rintro v hB ⟨xB,rfl⟩
   by_cases c2:a6z p
   case neg =>
    rw[if_neg c2]
    refine walk ?_
    refine a2x fun tm3 hs3=>⟨.ret,_,_,_,_,_,_,_,_,_,_,_,rfl,by exact a0g,false,rfl,?_⟩
    exact b4s.bad i (by exact hle) (fun c hc r1 r2 r3 r9=>by have gc:H.get c=H.get c:=rfl; exact a0g) (fun k=>by exact hok) (a0a.gs _ _ _) (by exact a0g) (by exact a0g) (by exact a0g) (by decide) (.inr c2)
   rw[if_pos c2]
   have nB:=xB.nx
   obtain⟨HA,eHA⟩:∃ HA,HA=hB:=⟨_,rfl⟩
   have kH:=i.k
   have kB:hB.ok:=xB.ok (by exact hok)
   have oB:∀ c,c<H.next→c≠h.next+9→hB.get c=H.get c:=fun c hc r=>by
    have gc:H.get c=H.get c:=rfl
    exact(xB.old c (by exact hlt)).trans (by exact a0g)
   have nB2:H.next+1≤hB.next:=xB.nx
   have gl9:=(xB.old (h.next+9) (by exact hlt)).trans (a0a.gs _ _ _)
   have gt13:hB.get H.next=some (.cells 64 p.cs true):=(xB.old H.next (by exact hlt)).trans (by exact a0g)
   clear xB nB
   obtain⟨vu,wu⟩:=a1u.one ou
   obtain⟨vw,ww⟩:=a1u.one ow
   have gb1:=(oB _ b1 (by omega)).trans g1
   have gb2:=(oB _ b2 (by omega)).trans g2
   obtain⟨X,hX⟩:∃ X,X=(a0a.mk hB.t (hB.next+11)).set (hB.next+2) (.cells 9 [.str (a2v p)] true):=⟨_,rfl⟩
   have nX:X.next=hB.next+11:=by rw[hX]; rfl
   have oX:∀ c,c<H.next→c≠h.next+9→X.get c=H.get c:=fun c hc r=>by rw[hX]; exact(a0a.gn _ _ _ _ (by omega)).trans (oB c hc r)
   have gX:X.get (hB.next+2)=some (.cells 9 (d7b (a2v p)) true):=by rw[hX]; exact a0a.gs _ _ _
   have kX:X.ok:=by rw[hX]; exact a0w (a0a.a2o kB 11) _ _ (by show hB.next+2<hB.next+11; omega)
   obtain⟨v3,h3,e3,o3,t3⟩:=a4e (T:=TV n) (st:=245) (rest:=[245]) (h:=X) (x:=a2v p) (ou.keep (h':=X) (fun c q hl=>oX c hl (by have:=(su c q).2.1; omega)) (by omega)) gX (by omega) (by rw[List.length_map]; omega) rfl rfl rfl rfl rfl (by exact Nat.le_of_ble_eq_true rfl) rfl (by decide) rfl
   have n3:=t3.nx
   obtain⟨vu3,wu3⟩:=a1u.one o3
   have o3H:∀ c,c<H.next→c≠h.next+9→¬ Su c→h3.get c=H.get c:=fun c hc r q=>(t3.old c (by omega) q).trans (oX c hc r)
   obtain⟨Y,hY⟩:∃ Y,Y=h3.set (hB.next+7) (.cells 29 [.int .u32 p.page] true):=⟨_,rfl⟩
   have nY:Y.next=h3.next:=by rw[hY]; rfl
   have oY:∀ c,c≠hB.next+7→Y.get c=h3.get c:=fun c hc=>by rw[hY]; exact a0a.gn _ _ _ _ hc
   have gY:Y.get (hB.next+7)=some (.cells 29 (a3a p.page) true):=by rw[hY]; exact a0a.gs _ _ _
   have kY:Y.ok:=by rw[hY]; exact a0w (t3.ok kX) _ _ (by omega)
   obtain⟨v8,h8,e8,o8,t8⟩:=a4e (T:=TV n) (st:=42) (rest:=[42]) (h:=Y) (x:=p.page) (ow.keep (h':=Y) (fun c q hl=>(oY c (by omega)).trans (o3H c hl (by have:=(sw c q).2; omega) (fun r=>(su c r).2.2 q))) (by omega)) gY (by omega) (by rw[List.length_map]; omega) rfl rfl rfl rfl rfl (by exact Nat.le_of_ble_eq_true rfl) rfl (by decide) rfl
   have n8:=t8.nx
   obtain⟨vw8,ww8⟩:=a1u.one o8
   have o8H:∀ c,c<H.next→c≠h.next+9→¬ Su c→¬ Sw c→h8.get c=H.get c:=fun c hc r q q'=>(t8.old c (by omega) q').trans ((oY c (by omega)).trans (o3H c hc r q))
   rw[hX] at e3
   rw[hY] at e8
   have e3:a1h (TV n) [u,.slice (hB.next+2) 0 1 1] [245,245] ((a0a.mk hB.t (hB.next+11)).set (hB.next+2) (.cells 9 [.str (a2v p)] true))=.val v3 h3:=e3
   have e8:a1h (TV n) [w,.slice (hB.next+7) 0 1 1] [42,42] (h3.set (hB.next+7) (.cells 29 [.int .u32 p.page] true))=.val v8 h8:=e8
   have z1:¬ Su (h.next+1):=fun q=>by have:=(su _ q).2.1; omega
   have z2:¬ Su (h.next+2):=fun q=>by have:=(su _ q).2.1; omega
   have y1:¬ Sw (h.next+1):=fun q=>by have:=(sw _ q).2; omega
   have y2:¬ Sw (h.next+2):=fun q=>by have:=(sw _ q).2; omega
   have y9:¬ Sw (h.next+9):=fun q=>by have:=(sw _ q).2; omega
   have z9:¬ Su (h.next+9):=fun q=>by have:=(su _ q).2.1; omega
   have g31:=(o3H _ b1 (by omega) z1).trans g1
   have g32:=(o3H _ b2 (by omega) z2).trans g2
   have g81:=(o8H _ b1 (by omega) z1 y1).trans g1
   have g82:=(o8H _ b2 (by omega) z2 y2).trans g2
   have g89:=(t8.old _ (by omega) y9).trans ((oY _ (by omega)).trans ((t3.old _ (by omega) z9).trans ((by rw[hX]; exact a0a.gn _ _ _ _ (by omega):X.get (h.next+9)=hB.get (h.next+9)).trans gl9)))
   have gt3:h3.get H.next=some (.cells 64 p.cs true):=(t3.old _ (by omega) (fun q=>by have:=low _ (su _ q).1; omega)).trans ((by rw[hX]; exact a0a.gn _ _ _ _ (by omega):X.get H.next=hB.get H.next).trans gt13)
   refine walk ?_
   refine a0c (q:=11) (ms:=[0,0,2,7,0,0,32,96,255,511,1023]) (hl:=[[39,40,42,43,44,45],[38,42,43,44,45],[38,42,43,44,45],[42,43,44,45],[38,39,40,41,43,44,45],[38,39,40,41,42],[38,39,40,41,42],[38,39,40,41,42],[],[],[]]) hok rfl (by kernel_rfl) (by kernel_rfl) rfl ?_
   refine walk ?_
   refine a2e fun tm3 hs3=>⟨.normal,_,_,_,_,_,_,_,_,_,_,_,rfl,by exact a0g,true,rfl,?_⟩
   refine b4s.good (Su:=fun c=>(Su c∨X.next≤c)∧c<h3.next) (Sw:=fun c=>(Sw c∨Y.next≤c)∧c<h8.next) i (by show H.next≤h8.next; omega) (fun c hc r1 r2 r9 q=>?_) ?_ (a0a.gs _ _ _) (by exact a0g) (by exact a0g) c2 ?_ ?_ ?_ ?_
   ·have gc:=o8H c hc r9 (fun r=>by have:=su c r; rcases q with q|q; exact q this.1; omega) (fun r=>by have:=sw c r; rcases q with q|q; exact q this.1; omega)
    exact(a0a.gn _ _ _ _ (by omega)).trans ((a0a.gn _ _ _ _ (by omega)).trans ((a0a.gn _ _ _ _ (by omega)).trans gc))
   ·exact a0w (a0w (a0w (t8.ok kY) _ _ (by omega)) _ _ (by show _<h8.next; omega)) _ _ (by show _<h8.next; omega)
   ·refine a1u.mono (a1u.keep (o3.mono fun c q r=>⟨q,r⟩) (fun c q hl=>?_) (by show h3.next≤h8.next; omega)) fun c q r=>q
    have q1:c≠h.next+1∧c≠h.next+2∧c≠h.next+9∧c≠hB.next+7∧¬ Sw c:=by
     rcases q.1 with r|r
     ·have:=su c r
      have:=low c this.1
      exact⟨by omega,by omega,by omega,by omega,(su c r).2.2⟩
     ·exact⟨by omega,by omega,by omega,by omega,fun r2=>by have:=low c (sw c r2).1; omega⟩
    exact(a0a.gn _ _ _ _ q1.2.2.1).trans ((a0a.gn _ _ _ _ q1.2.1).trans ((a0a.gn _ _ _ _ q1.1).trans ((t8.old c (by omega) q1.2.2.2.2).trans (oY c q1.2.2.2.1))))
   ·refine a1u.mono (a1u.keep (o8.mono fun c q r=>⟨q,r⟩) (fun c q hl=>?_) (Nat.le_refl _)) fun c q r=>q
    have q1:c≠h.next+1∧c≠h.next+2∧c≠h.next+9:=by
     rcases q.1 with r|r
     ·have:=sw c r
      exact⟨by omega,by omega,by omega⟩
     ·exact⟨by omega,by omega,by omega⟩
    exact(a0a.gn _ _ _ _ q1.2.2).trans ((a0a.gn _ _ _ _ q1.2.1).trans (a0a.gn _ _ _ _ q1.1))
   ·rintro c ⟨q,r⟩
    rcases q with q|q
    ·have q1:=su c q
     have:=low c q1.1
     exact⟨.inl ⟨q1.1,q1.2.1⟩,fun p=>by rcases p.1 with p|p; exact q1.2.2 p; omega⟩
    ·exact⟨.inr ⟨by omega,by show c<h8.next; omega⟩,fun p=>by
      rcases p.1 with p|p
      ·have:=low c (sw c p).1; omega
      ·omega⟩
   ·rintro c ⟨q,r⟩
    rcases q with q|q
    ·exact .inl (sw c q)
    ·exact .inr ⟨by omega,r⟩
 ·rintro h4 ⟨S,acc,b,fn,tm,nt,ps,as',bd,dd,x4,k4,n4,i,sb,f1,l,f2,f3⟩
  obtain⟨a0,a1,a2,a3,a4,a5⟩:=i.s0
  have gd:=i.gd
  have st:=i.st
  have e8:h1.next=h.next+8:=n1
  cases b with
  |true =>
   obtain⟨gl,⟨Su,Sw,u,w,g1,g2,g3,ou,ow,su,sw⟩,al⟩:=st
   obtain⟨ps2,er,rfl⟩:=c6e (f1 rfl) fun x hx=>(al x hx).1
   have ok2:∀ p∈ps2,a6z p:=fun p hp=>(al (p,0) (List.mem_map.2 ⟨p,hp,rfl⟩)).2
   rw[er]
   refine⟨_,none,fn,tm,nt,ps,as',bd,dd,by rw[e8]; exact gl,(by intro c; cases c),?_⟩
   rw[e8]
   show GJ _ _ _ _ _ _ _ _
   refine walk ?_
   obtain⟨vu,wu⟩:=a1u.one ou
   obtain⟨vw,ww⟩:=a1u.one ow
   refine a0c (q:=5) (ms:=[0,0,1,7,15]) (hl:=[[48],[47],[48],[],[]]) (a0w k4 _ _ (by omega)) rfl (by kernel_rfl) (by kernel_rfl) rfl ?_
   refine walk ?_
   have low:=i.low
   have lu:∀ c,Su c→h.next+9<c∧c<h4.next:=fun c q=>⟨(su c q).2.1,low c (su c q).1⟩
   have lw:∀ c,Sw c→h.next+9<c∧c<h4.next:=fun c q=>⟨(sw c q).2,low c (sw c q).1⟩
   have en:((some ps2).bind fun l=>if ∀ p∈l,a6z p then some l else none)=some ps2:=if_pos ok2
   rw[en]
   refine a2x fun tm hs=>?_
   refine a3k (by exact a0g) ?_
   refine a1z (vs:=[u,w,.int .i64 0]) hs rfl (a0x rfl (a2p rfl rfl (by exact a0g)) (a0x rfl (a2p rfl rfl (by exact a0g)) (a0x rfl (a2p rfl rfl (by exact a0g)) rfl))) ⟨_,_,rfl,by exact a0j,u,w,rfl,?_,?_⟩
   ·have o2:a1a d7b 9 1 Su h4 u (ps2.map a2v):=by
     have:=ou
     rw[List.map_map] at this
     exact this
    refine a1u.mono (a1u.keep o2 (fun c q hl=>?_) (by show h4.next≤h4.next+5; omega)) fun c q _=>by have:=lu c q; omega
    have gc:h4.get c=h4.get c:=rfl
    have:=lu c q
    exact a0g
   ·have o2:a1a a3a 29 1 Sw h4 w (ps2.map (·.page)):=by
     have:=ow
     rw[List.map_map] at this
     exact this
    refine a1u.mono (a1u.keep o2 (fun c q hl=>?_) (by show h4.next≤h4.next+5; omega)) fun c q _=>by have:=lw c q; omega
    have gc:h4.get c=h4.get c:=rfl
    have:=lw c q
    exact a0g
  |false =>
   obtain⟨⟨fn',tm',nt',ps',as2,bd',dd',gl⟩,g1,g2,⟨e,he,g3⟩,al⟩:=st
   obtain⟨x,hx,bad⟩:=al
   refine⟨_,some .ret,fn',tm',nt',ps',as2,bd',dd',by rw[e8]; exact gl,(by intro c; cases c),?_⟩
   rw[e8]
   have en:((a2h z img 5 (pages z img+2) [] hd).bind fun l=>if ∀ p∈l,a6z p then some l else none)=none:=by
    rcases c3i f2 (f3.subset hx) bad with q|⟨ps3,q,q2⟩
    ·rw[q]; rfl
    ·rw[q]; exact if_neg q2
   rw[en]
   show GJ _ _ (.code .ret::_) _ _ _ _ _
   refine a2x fun tm hs=>?_
   refine a3k (by exact(a0a.gn _ _ _ _ (by omega)).trans gd) ?_
   exact a1z (vs:=[.nilslice,.nilslice,.int .i64 e]) hs rfl (a0x rfl (a2p rfl rfl (by exact a0g)) (a0x rfl (a2p rfl rfl (by exact a0g)) (a0x rfl (a2p rfl rfl (by exact a0g)) rfl))) ⟨_,_,rfl,by exact a0j,e,he,rfl⟩
set_option maxRecDepth 10000
set_option maxHeartbeats 4000000
theorem f2f {z:Int}{img:List UInt8}{hd:Nat}{ln:Int}:a8w z img hd ln=(b6a z img hd).bind fun l=>if 1≤ln∧((l.flatMap a2v).length:Int)=ln then some (l.flatMap a2v,l.map (·.page)) else none:=by
 unfold a8w b6a
 split
 ·cases a2h z img 5 (pages z img+2) [] hd with
  |none=>rfl
  |some l =>
   simp only[Option.bind_some,b7e]
   by_cases c:∀ p∈l,a6z p
   ·rw[if_pos c,Option.bind_some]
    by_cases d:1≤ln∧((l.flatMap a2v).length:Int)=ln
    ·rw[if_pos d,if_pos ⟨c,d⟩]
    ·rw[if_neg d,if_neg fun q=>d q.2]
   ·rw[if_neg c,if_neg fun q=>c q.1]; rfl
 ·rfl
theorem d7q {z:Int}{img:List UInt8}{hd:Nat}{l:List Pg}(hi:img.length≤20000) (e:b6a z img hd=some l):l.length≤160∧∀ p∈l,(a2v p).length≤100000:=by
 unfold b6a at e
 split at e
 ·cases ec:a2h z img 5 (pages z img+2) [] hd with
  |none=>rw[ec] at e; cases e
  |some r =>
   rw[ec] at e
   have e:(if ∀ p∈r,a6z p then some r else none)=some l:=e
   split at e
   ·cases e
    obtain⟨h1,h2⟩:=c2x _ _ _ _ ec
    have pb:=b1u (z:=z) hi
    refine⟨by omega,fun p hp=>?_⟩
    have hr:=(h2 p hp).2.2.2
    have m:=a4t z img p.page (by rw[hr])
    rw[hr] at m
    have:=room_le z
    unfold a2v
    rw[List.length_take]
    unfold a7a at m; simp only at m; omega
   ·cases e
 ·cases e
theorem e3u {n:Nat}(hn:5<n){z:Int}{img:List UInt8}{hd:Nat}{ln:Int}{h:a0a}(hk:h.ok) (hi:img.length≤20000) (hh:hd<4294967296):a0l (TV n) 171 [.int .i64 z,.str img,.int .u32 hd,.int .i64 ln] h (fun v h'=>Ext h h'∧match a8w z img hd ln with
  |none=>∃ e:Int,e≠0∧v=.tuple [.str [],.nilslice,.int .i64 e]
  |some (s,ps)=>∃ u,v=.tuple [.str s,u,.int .i64 0]∧a1a a3a 29 1 (h.next ≤ ·) h' u ps):=by
 refine a0r (a1x rfl rfl) rfl rfl ?_
 rw[f2f]
 refine walk ?_
 refine a0b (e6s (n:=n) hn hk hi hh) rfl rfl rfl rfl ?_
 rintro v h1 ⟨x1,c1⟩
 have k1:=x1.ok hk
 have nx1:=x1.nx
 cases eC:b6a z img hd with
 |none =>
  rw[eC] at c1
  obtain⟨e,he,rfl⟩:=c1
  refine walk ?_
  exact a0d (by exact hres) ⟨by exact a0j,e,he,rfl⟩
 |some l =>
 rw[eC] at c1
 obtain⟨u,w,rfl,ou,ow⟩:=c1
 obtain⟨ll,lp⟩:=d7q hi eC
 have lu:=ou.ls.len
 have nu:=ou.ls.ns
 rw[List.length_map] at lu
 refine walk ?_
 refine a0n (ι:=Nat) (fun i=>l.length-i) (fun i=>[(3,.int .i64 ln),(12,w),(14,.str ((l.take i).flatMap a2v)),(28,u),(29,.int .i64 (l.length:Nat)),(30,.int .i64 (i:Nat))]) (fun i h2=>i≤l.length∧Ext h1 h2∧((l.take i).flatMap a2v).length≤i*100000) 0 (by exact hsub) ⟨Nat.zero_le _,.refl _,by simp⟩ ?_
 rintro i h2 ⟨hi2,x2,vl⟩ next
 have k2:=x2.ok k1
 by_cases c:i<l.length
 case neg =>
  have ei:l.take i=l:=List.take_of_length_le (by omega)
  rw[ei] at vl ⊢
  by_cases d1:ln<1
  ·rw[Option.bind_some,if_neg fun q=>by omega]
   refine walk ?_
   exact a0d (by exact hres) ⟨by exact a0j,4,by decide,rfl⟩
  by_cases d2:((l.flatMap a2v).length:Int)=ln
  ·rw[Option.bind_some,if_pos ⟨by omega,d2⟩]
   refine walk ?_
   exact a0d (by exact hres) ⟨by exact a0j,w,rfl,a1u.keep ow (fun c _ hl=>x2.old c hl) x2.nx⟩
  ·rw[Option.bind_some,if_neg fun q=>d2 q.2]
   refine walk ?_
   exact a0d (by exact hres) ⟨by exact a0j,4,by decide,rfl⟩
 obtain⟨y,hy⟩:∃ y,l[i]?=some y:=⟨l[i],List.getElem?_eq_getElem c⟩
 obtain⟨B,q,e',all,rw',hb',hg,hpl,he,a1⟩:=(ou.ls.ext x2).at e0z (show(l.map a2v)[i]?=some (a2v y) by rw[List.getElem?_map,hy]; rfl)
 have he:(all.drop q).take 1=[.str (a2v y)]:=he
 have pl:=lp y (List.mem_of_getElem? hy)
 have et:(l.take (i+1)).flatMap a2v=(l.take i).flatMap a2v++a2v y:=by rw[List.take_add_one,hy,List.flatMap_append]; simp
 have vm:i*100000≤100000000:=by have:=Nat.mul_le_mul_right 100000 (show i≤1000 by omega); omega
 refine walk ?_
 refine next (i+1) (by omega) ?_ ⟨by omega,by exact a0j,by rw[et,List.length_append]; omega⟩
 rw[et]
 exact hsub
end Go.Proofs.YtejfbaecadbdiaaGreat
