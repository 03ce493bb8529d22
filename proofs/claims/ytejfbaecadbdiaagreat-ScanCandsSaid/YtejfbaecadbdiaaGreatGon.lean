/- What the functions of this part answer at any input, told by the rules over the evaluator. Conditions: those that each theorem states. -/
import Derived.Test.YtejfbaecadbdiaaGreatGoc
import Derived.Test.YtejfbaecadbdiaaGreatSow
set_option linter.unusedVariables false
set_option linter.unusedSimpArgs false
open Go Ev
namespace Go.Proofs.YtejfbaecadbdiaaGreat
set_option maxRecDepth 10000
set_option maxHeartbeats 4000000
theorem e2l {n:Nat}(hn:6<n){z:Int}{img:List UInt8}{R M:Nat}(hi:img.length≤20000):∀ (k:Nat){S:Nat→Prop}{s:Rs}{m d:Nat}{b:Bd}{h:a0a}(hk:h.ok) (i:GoI z img R M S s h) (f:a5n (pages z img) s.pg) (ho:s.out.length≤1400*s.pg.length) (hd:k+d=17) (hm:m<4294967296),
  Wp (TV n) (.call 112 [.ptr R 0,.int .u32 m,.int .i64 d,.agg b.cs] h) (GoP z img R M S h (a7h z img k m b s)):=by
 intro k
 induction k with
 |zero =>
  intro S s m d b h hk i f ho hd hm
  refine a4k (a1x rfl rfl) rfl rfl ?_
  have c:¬ (d:Int)≤16:=by omega
  refine walk ?_
  refine a1p (a4s false _) rfl rfl rfl rfl (fun _ _ f=>by cases f.1) ?_
  rintro _ _ ⟨-,rfl,rfl⟩ tm hs
  exact a1g rfl (.inr ⟨_,_,rfl,rfl,rfl,S,.ext (by exact a0j)⟩)
 |succ k ih =>
 intro S s m d b h hk i f ho hd hm
 have rl:R<h.next:=by obtain⟨Sw,w,i⟩:=i; exact i.rl
 have lowS:∀ c,S c→c<h.next:=by obtain⟨Sw,w,i⟩:=i; exact i.low
 have c16:(d:Int)≤16:=by omega
 refine a4k (a1x rfl rfl) rfl rfl ?_
 refine walk ?_
 refine a1p (a4s true _) rfl rfl rfl rfl ?_ (fun _ _ f=>by cases f.1)
 rintro _ _ ⟨-,rfl,rfl⟩
 have x0:Ext h (h.alloc (.cells 188 b.cs true)):=by exact a0j
 have i0:GoI z img R M S s (h.alloc (.cells 188 b.cs true)):=by obtain⟨Sw,w,i⟩:=i; exact⟨Sw,w,i.ext x0⟩
 have en:a7h z img (k+1) m b s=match a3h s.pg m with
  |none=>none
  |some q=>if m<2∨(a0u z img m).2≠0 then none else if(a0u z img m).1.kind=4 then b1n z img (a0u z img m).1 d b ⟨q,s.deep,s.out⟩ else match ofB (a0u z img m).1 with
   |none=>none
   |some l=>a4m (a7h z img k) b l 0 l.length ⟨q,s.deep,s.out⟩:=by
  show(match a3h s.pg m with
   |none=>none
   |some q=>if m<2∨(a0u z img m).2≠0 then none else if(a0u z img m).1.kind=4 then b1n z img (a0u z img m).1 (16-k) b ⟨q,s.deep,s.out⟩ else match ofB (a0u z img m).1 with
    |none=>none
    |some l=>a4m (a7h z img k) b l 0 l.length ⟨q,s.deep,s.out⟩)=_
  rw[show 16-k=d by omega]
 refine walk ?_
 refine a1p (d4f (m:=m) (by exact hok) i0) rfl rfl rfl rfl ?_ ?_
 rotate_left
 ·rintro _ h1 ⟨et,rfl,S1,t1⟩ tm hs
  have e0:a7h z img (k+1) m b s=none:=by
   rw[en]
   by_cases c2:m<2
   ·cases a3h s.pg m with
    |none=>rfl
    |some q=>exact if_pos (.inl c2)
   ·rw[if_neg c2] at et
    cases ec:a3h s.pg m with
    |none=>rfl
    |some q=>rw[ec] at et; cases et
  rw[e0]
  exact a1g rfl (.inr ⟨_,_,rfl,rfl,rfl,S1,(RdT.ext x0).trans t1⟩)
 rintro _ h1 ⟨t,S1,et,rfl,i1,t1⟩
 have c2:¬ m<2:=fun c=>by rw[if_pos c] at et; cases et
 rw[if_neg c2] at et
 cases ec:a3h s.pg m with
 |none=>rw[ec] at et; cases et
 |some q1 =>
 rw[ec] at et
 cases et
 rw[ec] at en
 dsimp only at en
 have n1:h.next+1≤h1.next:=t1.nx
 have k1:h1.ok:=t1.ok (by exact hok)
 have t01:RdT R S S1 h h1:=(RdT.ext x0).trans t1
 have gb:h1.get h.next=some (.cells 188 b.cs true):=(t1.old _ (by show h.next<h.next+1; omega) (by omega) (fun q=>by have:=lowS _ q; omega)).trans (by exact a0g)
 obtain⟨Sw1,w1',i1⟩:=i1
 have g1:=i1.g
 have rl1:=i1.rl
 have low1:=i1.low
 have nS1:¬ S1 h.next:=fun q=>by
  rcases t1.grow _ q with r|r
  ·have:=lowS _ r; omega
  ·have r:h.next+1≤h.next:=r; omega
 have w1:=c8b (n:=n) (by omega) z img m (by omega) hm
 have hmm:=a4t z img m
 have hpg:=a5l (z:=z) (img:=img) (p:=m)
 have lq:=b8x ec
 generalize a0u z img m=r at w1 hmm hpg en
 obtain⟨p,e⟩:=r
 dsimp only at w1 hmm hpg en
 refine walk ?_
 refine a0c (q:=16) (ms:=[0,1,3,7,0,16,48,112,0,511,1023,2047,2047,0,12287,32767]) (hl:=[[25,26,27,28,29,8],[25,26,27,28,29,8],[25,26,27,28,29,8],[25,26,27,28,29,8],[21,22,23,24,29,8],[21,22,23,24,29,8],[21,22,23,24,29,8],[21,22,23,24,29,8],[21,22,23,24,25,26,27,28,8],[8],[8],[32,8],[31,8],[21,22,23,24,25,26,27,28,29,30,20,31,32],[32],[]]) hok rfl (by kernel_rfl) (by kernel_rfl) rfl ?_
 refine walk ?_
 refine OJ.gen [(0,.ptr R 0),(1,.int .u32 m),(2,.int .i64 d),(7,.ptr h.next 0),(8,.ptr (h1.next+13) 0),(9,.int .i64 e),(34,.bool (decide (e=0)))] (fun g=>Ext h1 g∧g.ok∧h1.next+13<g.next∧g.get (h1.next+13)=some (.cells 64 p.cs true)) (by exact hsub) ⟨by exact a0j,by exact hok,by exact hlt,by exact a0g⟩ ?_
 rintro g ⟨xg,kg,ng,gp⟩
 have t0g:RdT R S S1 h g:=t01.trans (.ext xg)
 have ig:=i1.ext xg
 have gR:=ig.g
 have rlg:=ig.rl
 have gbg:g.get h.next=some (.cells 188 b.cs true):=(xg.old _ (by omega)).trans gb
 refine a1p (a4s (decide (e=0)) _) rfl rfl rfl rfl ?_ ?_
 rotate_left
 ·rintro _ _ ⟨ce,rfl,rfl⟩ tm hs
  rw[en,if_pos (.inr (of_decide_eq_false ce))]
  exact a1g rfl (.inr ⟨_,_,rfl,rfl,rfl,S1,t0g⟩)
 rintro _ _ ⟨ce,rfl,rfl⟩
 have c1:e=0:=of_decide_eq_true ce
 rw[if_neg (fun q=>by rcases q with q|q; exact c2 q; exact q c1)] at en
 have fq:a5n (pages z img) q1:=f.d9d ec (hpg c1).2
 have lq1:q1.length=s.pg.length+1:=by rw[lq]; simp
 have mf:=hmm c1
 have rz:=room_le z
 have bl:p.body.length≤100000:=by unfold a7a at mf; omega
 have bc:p.count<1000000000:=by unfold a7a at mf; omega
 by_cases c4:p.kind=4
 ·rw[if_pos c4] at en
  rw[en]
  refine walk ?_
  refine a1p (e3f (n:=n) (p:=p) (d:=d) (b:=b) hn kg hi ⟨Sw1,w1',ig⟩ fq (by simp only; omega) bl bc) rfl rfl rfl rfl ?_ ?_
  ·rintro _ h5 ⟨t5,S5,e5,rfl,i5,tt5⟩
   refine walk ?_
   refine a2x fun tm hs=>?_
   exact a1z (vs:=[]) hs rfl rfl (.inl ⟨_,_,rfl,t5,S5,e5,rfl,i5,t0g.trans tt5⟩)
  ·rintro _ h5 ⟨e5,rfl,S5,tt5⟩ tm hs
   exact a1g rfl (.inr ⟨_,_,rfl,e5,rfl,S5,t0g.trans tt5⟩)
 rw[if_neg c4] at en
 rw[en]
 refine walk ?_
 refine a0b (d5r (n:=n) (by omega) (p:=p) kg bl bc) rfl rfl rfl rfl ?_
 rintro v h5 ⟨x5,c5⟩
 have i5:=ig.ext x5
 have n5:=x5.nx
 have k5:=x5.ok kg
 have t05:RdT R S S1 h h5:=t0g.trans (.ext x5)
 cases el:ofB p with
 |none =>
  rw[el] at c5
  subst c5
  refine walk ?_
  refine a1p (a4s false _) rfl rfl rfl rfl (fun _ _ f=>by cases f.1) ?_
  rintro _ _ ⟨-,rfl,rfl⟩ tm hs
  exact a1g rfl (.inr ⟨_,_,rfl,rfl,rfl,S1,t05⟩)
 |some l =>
 rw[el] at c5
 obtain⟨u10,rfl,lo⟩:=c5
 dsimp only
 obtain⟨ll,lm⟩:=d5w el
 have ls:a1a Fk.cs 147 2 (fun c=>g.next≤c∧c<h5.next) h5 u10 l:=(Own.d2d lo).mono fun c q r=>⟨q,r⟩
 have gb5:h5.get h.next=some (.cells 188 b.cs true):=(x5.old _ (by omega)).trans gbg
 have lu:=ls.ls.len
 have nu:=ls.ls.ns
 refine walk ?_
 refine a1p (a4s true _) rfl rfl rfl rfl ?_ (fun _ _ f=>by cases f.1)
 rintro _ _ ⟨-,rfl,rfl⟩
 refine walk ?_
 obtain⟨s0,hs0⟩:∃ s0:Rs,s0=⟨q1,s.deep,s.out⟩:=⟨_,rfl⟩
 have i5:GoI z img R M S1 s0 h5:=by rw[hs0]; exact⟨Sw1,w1',i5⟩
 have fs0:a5n (pages z img) s0.pg∧s0.out.length≤1400*s0.pg.length:=by rw[hs0]; exact⟨fq,by simp only; omega⟩
 rw[← hs0]
 have ih':=fun S s m b h hk i f ho hm=>@ih S s m (d+1) b h hk i f ho (by omega) hm
 clear ih
 have hgr:=b2n (z:=z) (img:=img) k
 generalize a7h z img k=go at ih' hgr ⊢
 have nS5:∀ c,g.next≤c∧c<h5.next→c≠R∧¬ S1 c:=fun c q=>⟨by omega,fun r=>by have:=low1 c r; have:=xg.nx; omega⟩
 refine a0n (ι:=Nat×(Nat→Prop)×Rs) (fun a=>l.length-a.1) (fun a=>[(0,.ptr R 0),(2,.int .i64 d),(7,.ptr h.next 0),(10,u10),(52,u10),(53,.int .i64 (l.length:Nat)),(54,.int .i64 (a.1:Nat))]) (fun a h6=>a.1≤l.length∧h6.ok∧GoI z img R M a.2.1 a.2.2 h6∧RdT R S1 a.2.1 h5 h6∧a4m go b l 0 l.length s0=a4m go b l a.1 (l.length-a.1) a.2.2∧a5n (pages z img) a.2.2.pg∧a.2.2.out.length≤1400*a.2.2.pg.length) (0,S1,s0) (by exact hsub) ⟨Nat.zero_le _,k5,i5,.refl _,rfl,fs0⟩ ?_
 rintro⟨j,S6,s6⟩ h6 ⟨hj,k6,i6,t6,st1,st2,st3⟩ next
 dsimp only at hj i6 t6 st1 st2 st3 next ⊢
 have n6:=t6.nx
 have grow6:=t6.grow
 have d6:∀ c,g.next≤c∧c<h5.next→c≠R∧¬ S6 c:=fun c q=>⟨by omega,fun r=>by
  rcases grow6 c r with r|r
  ·exact(nS5 c q).2 r
  ·omega⟩
 have ls6:=t6.Ls ls nS5
 have gb6:h6.get h.next=some (.cells 188 b.cs true):=(t6.old _ (by omega) (by omega) nS1).trans gb5
 have t06:=t05.trans t6
 by_cases cj:j<l.length
 case neg =>
  refine walk ?_
  refine a2e fun tm hs=>?_
  rw[st1,show l.length-j=0 by omega]
  exact a1z (vs:=[]) hs rfl rfl (.inl ⟨_,_,rfl,s6,S6,rfl,rfl,i6,t06⟩)
 obtain⟨Sw6,w6,i6⟩:=i6
 have g6R:=i6.g
 have rl6:=i6.rl
 have low6:=i6.low
 obtain⟨y,hy⟩:∃ y,l[j]?=some y:=⟨l[j],List.getElem?_eq_getElem cj⟩
 have yd:l.getD j ⟨[],0⟩=y:=by rw[List.getD_eq_getElem?_getD,hy]; rfl
 obtain⟨B,q,e',all,rw',hb',hg,hpl,he,a1⟩:=ls6.ls.at Fk.len hy
 have est:a4m go b l 0 l.length s0=if 0<j∧b.inside y.key=false then none else match go y.child (a9a b l j) s6 with
   |none=>none
   |some s'=>a4m go b l (j+1) (l.length-(j+1)) s':=by
  rw[st1,show l.length-j=(l.length-(j+1))+1 by omega]
  show(if 0<j∧b.inside (l.getD j ⟨[],0⟩).key=false then none else match go (l.getD j ⟨[],0⟩).child (a9a b l j) s6 with
   |none=>none
   |some s'=>a4m go b l (j+1) (l.length-(j+1)) s')=_
  rw[yd]
 refine walk ?_
 refine b5b (ι:=Unit) (fun _=>[(0,.ptr R 0),(2,.int .i64 d),(7,.ptr h.next 0),(10,u10),(11,.int .i64 (j:Nat)),(12,.ptr h6.next 0),(52,u10),(53,.int .i64 (l.length:Nat)),(54,.int .i64 (j:Nat))]) (fun _ g7=>Ext h6 g7∧h6.next<g7.next∧g7.get h6.next=some (.cells 147 y.cs true)∧¬ (0<j∧b.inside y.key=false)) ?_ ?_
 ·intro k' join
  rcases Nat.eq_zero_or_pos j with rfl|j0
  ·have c0:((0:Nat):Int)=0:=rfl
   refine walk ?_
   refine a1p (a4s true _) rfl rfl rfl rfl ?_ (fun _ _ f=>by cases f.1)
   rintro _ _ ⟨-,rfl,rfl⟩
   refine walk ?_
   exact join () (by exact hsub) ⟨by exact a0j,by exact hlt,by exact a0g,by omega⟩
  ·have c0:¬ (j:Int)=0:=by omega
   refine walk ?_
   refine a0b (d1k (b:=b) (k:=y.key)) rfl rfl rfl rfl ?_
   rintro _ h8 ⟨rfl,x8⟩
   have n8:h6.next+1≤h8.next:=x8.nx
   have x68:Ext h6 h8:=Ext.trans (by exact a0j) x8
   have g12:h8.get h6.next=some (.cells 147 y.cs true):=(x8.old _ (by show h6.next<h6.next+1; omega)).trans (by exact a0g)
   refine walk ?_
   refine a1p (a4s (b.inside y.key) _) rfl rfl rfl rfl ?_ ?_
   rotate_left
   ·rintro _ _ ⟨ci,rfl,rfl⟩ tm hs
    rw[est,if_pos ⟨j0,ci⟩]
    exact a1g rfl (.inr ⟨_,_,rfl,rfl,rfl,S6,t06.trans (.ext x68)⟩)
   rintro _ _ ⟨ci,rfl,rfl⟩
   refine walk ?_
   exact join () (by exact hsub) ⟨x68,by omega,g12,by rw[ci]; simp⟩
 rintro⟨⟩ g7 ⟨x7,n7,g12,nb⟩
 rw[if_neg nb] at est
 have k7:=x7.ok k6
 have i7:=i6.ext x7
 have ls7:a1a Fk.cs 147 2 (fun c=>g.next≤c∧c<h5.next) g7 u10 l:=ls6.keep (fun c q hl=>x7.old c hl) x7.nx
 have gb7:=(x7.old _ (by omega)).trans gb6
 have eF:a9a b l j=⟨if 0<j then y.key else b.low,if j+1<l.length then(l.getD (j+1) ⟨[],0⟩).key else b.less,if j+1<l.length then true else b.high⟩:=by unfold a9a; rw[yd]
 clear a1 hg hb' hpl he
 refine walk ?_
 refine a5f (ι:=Unit) (fun _=>[(0,.ptr R 0),(2,.int .i64 d),(7,.ptr h.next 0),(10,u10),(11,.int .i64 (j:Nat)),(12,.ptr h6.next 0),(13,.ptr g7.next 0),(52,u10),(53,.int .i64 (l.length:Nat)),(54,.int .i64 (j:Nat))]) (fun _ g8=>Ext g7 g8∧g8.next=g7.next+1∧g8.get g7.next=some (.cells 188 (Bd.cs ⟨if 0<j then y.key else b.low,b.less,b.high⟩) true)) ?_ ?_
 ·intro k' join
  rcases Nat.eq_zero_or_pos j with rfl|j0
  ·have c0:¬ (0:Int)<((0:Nat):Int):=by omega
   refine walk ?_
   exact join () (by exact hsub) ⟨by exact a0j,rfl,by exact a0g⟩
  ·have c0:(0:Int)<(j:Int):=by omega
   refine walk ?_
   refine join () (by exact hsub) ⟨by exact a0j,rfl,?_⟩
   rw[if_pos j0]
   exact a0a.gs _ _ _
 rintro⟨⟩ g8 ⟨x8,n8,g13⟩
 have k8:=x8.ok k7
 have g128:=(x8.old _ n7).trans g12
 have ls8:a1a Fk.cs 147 2 (fun c=>g.next≤c∧c<h5.next) g8 u10 l:=ls7.keep (fun c q hl=>x8.old c hl) x8.nx
 refine walk ?_
 refine a5f (ι:=Unit) (fun _=>[(0,.ptr R 0),(2,.int .i64 d),(7,.ptr h.next 0),(10,u10),(11,.int .i64 (j:Nat)),(12,.ptr h6.next 0),(13,.ptr g7.next 0),(52,u10),(53,.int .i64 (l.length:Nat)),(54,.int .i64 (j:Nat))]) (fun _ g9=>Ext g7 g9∧g9.next=g7.next+1∧g9.get g7.next=some (.cells 188 (a9a b l j).cs true)) ?_ ?_
 ·intro k' join
  by_cases c1':(j:Int)+1<(l.length:Int)
  ·obtain⟨y2,hy2⟩:∃ y2,l[j+1]?=some y2:=⟨l[j+1]'(by omega),List.getElem?_eq_getElem (by omega)⟩
   have yd2:l.getD (j+1) ⟨[],0⟩=y2:=by rw[List.getD_eq_getElem?_getD,hy2]; rfl
   obtain⟨B2,q2,e2',all2,rw2,hb2,hg2,hpl2,he2,a2⟩:=ls8.ls.at Fk.len hy2
   rw[if_pos (show j+1<l.length by omega),if_pos (show j+1<l.length by omega),yd2] at eF
   refine walk ?_
   refine join () (by exact hsub) ⟨by exact a0j,n8,?_⟩
   rw[eF]
   exact a0a.gs _ _ _
  ·rw[if_neg (show ¬ j+1<l.length by omega),if_neg (show ¬ j+1<l.length by omega)] at eF
   refine walk ?_
   exact join () (by exact hsub) ⟨x8,n8,by rw[eF]; exact g13⟩
 rintro⟨⟩ g9 ⟨x9,n9,g139⟩
 have g129:=(x9.old _ n7).trans g12
 have k9:=x9.ok k7
 have i9:=i7.ext x9
 have cy:y.child<4294967296:=by have:=(lm.1 j y hy).2.1.2; omega
 refine walk ?_
 refine a1p (ih' S6 s6 y.child (a9a b l j) _ (by exact hok) ⟨Sw6,w6,by exact i9⟩ st2 st3 cy) rfl rfl rfl rfl ?_ ?_
 ·rintro _ hA ⟨tA,SA,eA,rfl,iA,ttA⟩
  rw[eA] at est
  obtain⟨gr,go2⟩:=hgr _ _ _ _ st2 st3 eA
  have xx:Ext h6 g9:=x7.trans x9
  refine walk ?_
  refine next (j+1,SA,tA) (by simp only; omega) (by exact hsub) ⟨by simp only; omega,ttA.ok (by exact hok),iA,t6.trans ((RdT.ext xx).trans ttA),est,gr.f,go2⟩
 ·rintro _ hA ⟨eA,rfl,SA,ttA⟩ tm hs
  rw[eA] at est
  rw[est]
  have xx:Ext h6 g9:=x7.trans x9
  exact a1g rfl (.inr ⟨_,_,rfl,rfl,rfl,SA,t06.trans ((RdT.ext xx).trans ttA)⟩)
set_option maxRecDepth 10000
set_option maxHeartbeats 4000000
theorem d8w {n:Nat}{z:Int}{img:List UInt8}{R M:Nat}{S Sw:Nat→Prop}{w:AV}{s:Rs}{h:a0a}(hk:h.ok) (i:GoW z img R M S Sw w s h) (hl:s.pg.length<50):a0l (TV n) 85 [.ptr R 0] h (fun v h'=>Ext h h'∧a1a a3a 29 1 (h.next ≤ ·) h' v (c6l s.pg)):=by
 have g:=i.g
 have rl:=i.rl
 have mlt:=i.m.1
 refine a0r (a1x rfl rfl) rfl rfl ?_
 refine walk ?_
 refine a0b e6w rfl rfl rfl rfl ?_
 rintro _ _ ⟨rfl,rfl⟩
 have w1:=e3j (n:=n) (pg:=s.pg) (i.m.keep (h':=h.alloc (.cells 150 [.map M] true)) (a0a.ga _ _ _ (by omega)) (Nat.le_succ _)) (a0t _ _) (Nat.lt_succ_self _) (by omega) hl
 obtain⟨o,x⟩:=e5j (pg:=s.pg) (h:=h.alloc (.cells 150 [.map M] true))
 refine walk ?_
 refine a3e w1 rfl rfl rfl rfl ?_
 refine walk ?_
 refine a0e (by exact hres) ⟨(Ext.alloc _ _).trans x,o.mono fun c q _=>?_⟩
 have q:h.next+1≤c:=q
 omega
theorem GoW.reset {z:Int}{img:List UInt8}{R M:Nat}{S Sw:Nat→Prop}{w:AV}{s:Rs}{h h':a0a}(i:GoW z img R M S Sw w s h) (hn:h'.next=h.next) (g:h'.get R=some (.cells 152 [.int .i64 z,.str img,.map M,.nilslice,.int .i64 (0:Nat)] true)) (o:∀ c,c≠R→h'.get c=h.get c):GoW z img R M (fun c=>c=M) (fun _=>False) .nilslice ⟨s.pg,0,[]⟩ h' :=
 have nMR:M≠R:=fun e=>i.nR (e ▸ i.sm)
 ⟨g,by rw[hn]; exact i.rl,fun q=>nMR q.symm,i.m.keep (o M nMR) (by omega),rfl,fun q=>q,fun c q=>by rw[q,hn]; exact i.m.1,fun c q=>q.elim,.nil⟩
theorem e2h {n:Nat}(hn:6<n){z:Int}{img:List UInt8}{R M:Nat}{S Sw:Nat→Prop}{w:AV}{s:Rs}{root:Nat}{h:a0a}(hi:img.length≤20000) (hk:h.ok) (i:GoW z img R M S Sw w s h) (f:a5n (pages z img) s.pg) (hr:root<4294967296) :
  Wp (TV n) (.call 84 [.ptr R 0,.int .u32 root] h) (fun q=>(∃ v h2,q=.ret v h2∧∃ t S' Sw',a6x z img root s.pg=some t∧GoW z img R M S' Sw' v t h2∧RdT R (fun c=>c=M) S' h h2)∨∃ v h2,q=.thrown v h2∧(a6x z img root s.pg=none∧v=c9f∧∃ S',RdT R (fun c=>c=M) S' h h2)):=by
 have g:=i.g
 have rl:=i.rl
 refine a4k (a1x rfl rfl) rfl rfl ?_
 refine walk ?_
 refine GJ.gen [(0,.ptr R 0),(1,.int .u32 root),(12,.bool (decide ((root:Int)≠0)))] (fun g=>g.ok∧GoW z img R M (fun c=>c=M) (fun _=>False) .nilslice ⟨s.pg,0,[]⟩ g∧RdT R (fun c=>c=M) (fun c=>c=M) h g) (by exact hsub) ⟨a0w (a0w hk _ _ rl) _ _ rl,i.reset rfl (a0a.gs _ _ _) (fun c hc=>(a0a.gn _ _ _ _ hc).trans (a0a.gn _ _ _ _ hc)),⟨Nat.le_refl _,fun c _ hc _=>(a0a.gn _ _ _ _ hc).trans (a0a.gn _ _ _ _ hc),fun k=>a0w (a0w k _ _ rl) _ _ rl,fun c q=>.inl q⟩⟩ ?_
 rintro hA ⟨kA,iA,tA⟩
 have gA:=iA.g
 by_cases c:(root:Int)=0
 ·have c0:root=0:=by omega
  have et:a6x z img root s.pg=some ⟨s.pg,0,[]⟩:=by unfold a6x; rw[if_pos c0]
  refine walk ?_
  refine a2x fun tm hs=>?_
  exact a1z (vs:=[.nilslice]) hs rfl rfl (.inl ⟨_,_,rfl,_,_,_,et,iA,tA⟩)
 have c0:¬ root=0:=by omega
 have et:a6x z img root s.pg=a7h z img 16 root .all ⟨s.pg,0,[]⟩:=by unfold a6x; rw[if_neg c0]
 rw[et]
 refine walk ?_
 refine a1p (e2l (n:=n) hn hi 16 (b:=.all) (d:=1) kA ⟨_,_,iA⟩ f (Nat.zero_le _) rfl hr) rfl rfl rfl rfl ?_ ?_
 ·rintro _ h2 ⟨t,S',et',rfl,⟨Sw',w',i2⟩,t2⟩
  have g2:=i2.g
  have rl2:=i2.rl
  refine walk ?_
  refine a2x fun tm hs=>?_
  exact a1z (vs:=[w']) hs rfl rfl (.inl ⟨_,_,rfl,t,S',Sw',et',i2,tA.trans t2⟩)
 ·rintro _ h2 ⟨et',rfl,S',t2⟩ tm hs
  exact a1g rfl (.inr ⟨_,_,rfl,et',rfl,S',tA.trans t2⟩)
end Go.Proofs.YtejfbaecadbdiaaGreat
