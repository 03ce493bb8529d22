/- What the functions of this part answer at any input, told by the rules over the evaluator. Conditions: those that each theorem states. -/
import Derived.Test.YtejfbaecadbdiaaGreatRdr
set_option linter.unusedVariables false
set_option linter.unusedSimpArgs false
open Go Ev
namespace Go.Proofs.YtejfbaecadbdiaaGreat
set_option maxRecDepth 10000
set_option maxHeartbeats 4000000
def e1p {α:Type}(bad:Bool) (r:Option α):Option α:=match bad with
 |true=>none
 |false=>r
theorem e5e {n:Nat}(hn:6<n){z:Int}{img:List UInt8}{R:Nat}(hi:img.length≤20000):∀ (k:Nat){S:Nat→Prop}{s:Rs}{m d:Nat}{b:Bd}{bad:Bool}{h:a0a}(hk:h.ok) (i:RdI z img R S s bad h) (f:bad=false→a5n (pages z img) s.pg∧s.out.length≤1400*s.pg.length) (pl:s.pg.length≤5000) (hd:k+d=17) (hm:m<4294967296),
  a0l (TV n) 38 [.ptr R 0,.int .u32 m,.int .i64 d,.agg b.cs] h (RdP z img R S h (e1p bad (a7h z img k m b s))):=by
 intro k
 induction k using Nat.strongRecOn with
 |ind k ih =>
 intro S s m d b bad h hk i f pl hd hm
 refine a0r (a1x rfl rfl) rfl rfl ?_
 obtain⟨Su0,Sw0,u0,w0,i0⟩:=i
 have rl:=i0.rl
 have lowS:=i0.low
 refine walk ?_
 refine a0b (c7j (m:=m) (by exact hok) (RdI.ext ⟨Su0,Sw0,u0,w0,i0⟩ (by exact a0j)) (by omega)) rfl rfl rfl rfl ?_
 rintro _ h1 ⟨rfl,S1,⟨Su,Sw,u,w,i1⟩,t1⟩
 have n1:h.next+1≤h1.next:=t1.nx
 have gb:h1.get h.next=some (.cells 91 b.cs true):=(t1.old _ (by show h.next<h.next+1; omega) (by omega) (fun q=>by have:=lowS _ q; omega)).trans (by exact a0g)
 have k1:h1.ok:=t1.ok (by exact hok)
 have t01:RdT R S S1 h h1:=(RdT.ext (by exact a0j)).trans t1
 have nS1:¬ S1 h.next:=fun q=>by
  rcases t1.grow _ q with r|r
  ·have:=lowS _ r; omega
  ·have r:h.next+1≤h.next:=r; omega
 have g1:=i1.g
 have rl1:=i1.rl
 have low1:=i1.low
 have w1:=c0w (n:=n) (by omega) z img m (by omega) hm
 have hmm:=a4t z img m
 have hpg:=a5l (z:=z) (img:=img) (p:=m)
 refine walk ?_
 refine a0c (q:=16) (ms:=[0,1,3,7,0,16,48,112,0,511,1023,2047,2047,0,12287,32767]) (hl:=[[21,22,23,24,25,8],[21,22,23,24,25,8],[21,22,23,24,25,8],[21,22,23,24,25,8],[17,18,19,20,25,8],[17,18,19,20,25,8],[17,18,19,20,25,8],[17,18,19,20,25,8],[17,18,19,20,21,22,23,24,8],[8],[8],[28,8],[27,8],[17,18,19,20,21,22,23,24,25,26,16,27,28],[28],[]]) hok rfl (by kernel_rfl) (by kernel_rfl) rfl ?_
 refine walk ?_
 have key:e1p bad (a7h z img k m b s)=if(bad||decide (m∈s.pg))=true∨(a0u z img m).2≠0∨m<2∨16<d then none else if(a0u z img m).1.kind=4 then b1n z img (a0u z img m).1 d b ⟨s.pg++[m],s.deep,s.out⟩ else match ofB (a0u z img m).1 with
   |none=>none
   |some l=>a4m (a7h z img (16-d)) b l 0 l.length ⟨s.pg++[m],s.deep,s.out⟩:=by
  cases bad with
  |true=>rw[if_pos (.inl rfl)]; rfl
  |false =>
   show a7h z img k m b s=_
   rw[Bool.false_or]
   cases k with
   |zero=>rw[if_pos (.inr (.inr (.inr (by omega))))]; rfl
   |succ k =>
    unfold a7h
    unfold a3h
    by_cases cm:m∈s.pg
    ·rw[if_pos cm,if_pos (.inl (decide_eq_true cm))]
    ·rw[if_neg cm]
     dsimp only
     by_cases c2:m<2∨(a0u z img m).2≠0
     ·rw[if_pos c2,if_pos (.inr (by rcases c2 with q|q; exact .inr (.inl q); exact .inl q))]
     ·have c3:¬ (decide (m∈s.pg)=true∨(a0u z img m).2≠0∨m<2∨16<d):=by
       rintro(q|q|q|q)
       ·exact cm (of_decide_eq_true q)
       ·exact c2 (.inr q)
       ·exact c2 (.inl q)
       ·omega
      rw[if_neg c2,if_neg c3]
      have e1:16-k=d:=by omega
      have e2:16-d=k:=by omega
      rw[e1,e2]
      rfl
 generalize a0u z img m=r at w1 hmm hpg key ⊢
 obtain⟨p,e⟩:=r
 dsimp only at w1 hmm hpg key ⊢
 refine OJ.gen [(0,.ptr R 0),(1,.int .u32 m),(2,.int .i64 d),(7,.ptr h.next 0),(8,.ptr (h1.next+13) 0),(9,.int .i64 e),(33,.bool (bad||decide (m∈s.pg)))] (fun g=>Ext h1 g∧g.ok∧h1.next+13<g.next∧g.get (h1.next+13)=some (.cells 64 p.cs true)) (by exact hsub) ⟨by exact a0j,by exact hok,by exact hlt,by exact a0g⟩ ?_
 rintro g ⟨xg,kg,ng,gp⟩
 have ig:=i1.ext xg
 have gR:=ig.g
 have rlg:=ig.rl
 have gbg:g.get h.next=some (.cells 91 b.cs true):=(xg.old _ (by omega)).trans gb
 have t0g:RdT R S S1 h g:=t01.trans (.ext xg)
 by_cases cc:(bad||decide (m∈s.pg))=true∨e≠0∨m<2∨16<d
 ·rw[if_pos cc] at key
  rw[key]
  refine b5b (ι:=Unit) (fun _=>[(0,.ptr R 0),(44,.bool true)]) (fun _ g2=>g=g2) ?_ ?_
  ·intro k' join
   cases cb:(bad||decide (m∈s.pg)) with
   |true =>
    refine walk ?_
    exact join () (by exact hsub) rfl
   |false =>
    rw[cb] at cc
    by_cases c1:e=0
    ·by_cases c2:(m:Int)<2
     ·refine walk ?_
      exact join () (by exact hsub) rfl
     ·have c3:16<(d:Int):=by
       rcases cc with q|q|q|q
       ·cases q
       ·exact absurd c1 q
       ·omega
       ·omega
      refine walk ?_
      exact join () (by exact hsub) rfl
    ·refine walk ?_
     exact join () (by exact hsub) rfl
  rintro⟨⟩ _ rfl
  refine walk ?_
  exact b2c (vs:=[]) rfl ⟨rfl,S1,_,true,⟨Su,Sw,u,w,ig.put s.deep true⟩,t0g.trans (.put rlg _),rfl⟩
 rw[if_neg cc] at key
 rw[key]
 have cb:(bad||decide (m∈s.pg))=false:=by
  cases q:(bad||decide (m∈s.pg)) with
  |true=>exact absurd (.inl q) cc
  |false=>rfl
 have c1:e=0:=Decidable.byContradiction fun q=>cc (.inr (.inl q))
 have c2:¬ (m:Int)<2:=fun q=>cc (.inr (.inr (.inl (by omega))))
 have c3:¬ 16<(d:Int):=fun q=>cc (.inr (.inr (.inr (by omega))))
 rw[cb] at ig gR ⊢
 have bf:bad=false:=by cases bad; rfl; cases cb
 obtain⟨f1,f2⟩:=f bf
 have cm:m ∉ s.pg:=fun q=>by rw[bf,Bool.false_or,decide_eq_true q] at cb; cases cb
 have fq:a5n (pages z img) (s.pg++[m]):=f1.d9d (by unfold a3h; rw[if_neg cm]) (hpg c1).2
 have mf:=hmm c1
 have rz:=room_le z
 have bl:p.body.length≤100000:=by unfold a7a at mf; omega
 have bc:p.count<1000000000:=by unfold a7a at mf; omega
 by_cases c4:p.kind=4
 ·rw[if_pos c4]
  refine walk ?_
  refine a0b (e5s (n:=n) (p:=p) (d:=d) (b:=b) hn kg hi ⟨Su,Sw,u,w,ig⟩ fq (by simp only[List.length_append,List.length_cons,List.length_nil]; omega) bl bc) rfl rfl rfl rfl ?_
  rintro _ h5 ⟨rfl,S5,s5,b5,i5,t5,q5⟩
  refine walk ?_
  exact b2c (vs:=[]) rfl ⟨rfl,S5,s5,b5,i5,t0g.trans t5,q5⟩
 rw[if_neg c4]
 refine walk ?_
 refine a0b (d1f (n:=n) (by omega) (p:=p) kg bl bc) rfl rfl rfl rfl ?_
 rintro v h5 ⟨x5,c5⟩
 have i5:=ig.ext x5
 have g5R:=i5.g
 have rl5:=i5.rl
 have n5:=x5.nx
 have k5:=x5.ok kg
 cases el:ofB p with
 |none =>
  rw[el] at c5
  subst c5
  refine walk ?_
  exact b2c (vs:=[]) rfl ⟨rfl,S1,_,true,⟨Su,Sw,u,w,i5.put s.deep true⟩,(t0g.trans (.ext x5)).trans (.put rl5 _),rfl⟩
 |some l =>
 rw[el] at c5
 obtain⟨u10,rfl,lo⟩:=c5
 dsimp only
 obtain⟨ll,lm⟩:=d5w el
 have ls:a1a Fk.cs 147 2 (fun c=>g.next≤c∧c<h5.next) h5 u10 l:=(Own.d2d lo).mono fun c q r=>⟨q,r⟩
 have gb5:h5.get h.next=some (.cells 91 b.cs true):=(x5.old _ (by omega)).trans gbg
 have lu:=ls.ls.len
 have nu:=ls.ls.ns
 refine walk ?_
 obtain⟨s0,hs0⟩:∃ s0:Rs,s0=⟨s.pg++[m],s.deep,s.out⟩:=⟨_,rfl⟩
 have fs0:a5n (pages z img) s0.pg∧s0.out.length≤1400*s0.pg.length:=by rw[hs0]; exact⟨fq,by simp only[List.length_append,List.length_cons,List.length_nil]; omega⟩
 have ih':=fun S s m b bad h hk i f pl hm=>@ih (16-d) (by omega) S s m (d+1) b bad h hk i f pl (by omega) hm
 have i5:RdI z img R S1 s0 false h5:=by rw[hs0]; exact⟨Su,Sw,u,w,i5⟩
 have t05:RdT R S S1 h h5:=t0g.trans (.ext x5)
 rw[← hs0]
 clear ih key
 have hgr:=b2n (z:=z) (img:=img) (16-d)
 generalize a7h z img (16-d)=go at ih' hgr ⊢
 have pn:pages z img≤157:=by
  unfold pages
  split
  ·rename_i gz
   have:=gz.1
   refine Nat.div_le_of_le_mul ?_
   have:128≤z.toNat:=by omega
   have:=Nat.mul_le_mul_right 157 this
   omega
  ·omega
 refine a0n (ι:=Nat×(Nat→Prop)×Rs×Bool) (fun a=>l.length-a.1) (fun a=>[(0,.ptr R 0),(2,.int .i64 d),(7,.ptr h.next 0),(10,u10),(11,.int .i64 (a.1:Nat))]) (fun a h6=>a.1≤l.length∧h6.ok∧RdI z img R a.2.1 a.2.2.1 a.2.2.2 h6∧RdT R S1 a.2.1 h5 h6∧match a.2.2.2 with
   |false=>a4m go b l 0 l.length s0=a4m go b l a.1 (l.length-a.1) a.2.2.1∧a5n (pages z img) a.2.2.1.pg∧a.2.2.1.out.length≤1400*a.2.2.1.pg.length
   |true=>a4m go b l 0 l.length s0=none) (0,S1,s0,false) (by exact hsub) ⟨Nat.zero_le _,k5,i5,.refl _,rfl,fs0⟩ ?_
 rintro⟨j,S6,s6,bad6⟩ h6 ⟨hj,k6,i6,t6,st⟩ next
 dsimp only at hj i6 t6 st next ⊢
 have n6:=t6.nx
 have grow6:=t6.grow
 have d6:∀ c,g.next≤c∧c<h5.next→c≠R∧¬ S6 c:=fun c q=>⟨by omega,fun r=>by
  rcases grow6 c r with r|r
  ·have:=low1 c r; have:=xg.nx; omega
  ·omega⟩
 have ls6:=t6.Ls ls fun c q=>⟨by omega,fun r=>by have:=low1 c r; have:=xg.nx; omega⟩
 have gb6:h6.get h.next=some (.cells 91 b.cs true):=(t6.old _ (by omega) (by omega) nS1).trans gb5
 have fin:RdI z img R S6 s6 bad6 h6→j=l.length∨bad6=true→RdP z img R S h (a4m go b l 0 l.length s0) (.tuple []) h6:=fun i7 q=>by
  refine⟨rfl,S6,s6,bad6,i7,t05.trans t6,?_⟩
  cases bad6 with
  |true=>rw[show a4m go b l 0 l.length s0=none from st]
  |false =>
   rcases q with q|q
   ·rw[st.1,q,Nat.sub_self]; exact⟨rfl,rfl⟩
   ·cases q
 have fin2:=fin i6
 obtain⟨Su6,Sw6,u6,w6,i6⟩:=i6
 have g6R:=i6.g
 have rl6:=i6.rl
 have low6:=i6.low
 have lu6:=ls6.ls.len
 by_cases cj:j<l.length
 case neg =>
  refine walk ?_
  exact a2e fun tm hs=>a2b hs rfl (fin2 (.inl (by omega)))
 cases bad6 with
 |true =>
  refine walk ?_
  exact a2e fun tm hs=>a2b hs rfl (fin2 (.inr rfl))
 |false =>
 obtain⟨st1,st2,st3⟩:=st
 obtain⟨y,hy⟩:∃ y,l[j]?=some y:=⟨l[j],List.getElem?_eq_getElem cj⟩
 have yd:l.getD j ⟨[],0⟩=y:=by rw[List.getD_eq_getElem?_getD,hy]; rfl
 obtain⟨B,q,e',all,rw',hb',hg,hpl,he,a1⟩:=ls6.ls.at Fk.len hy
 refine walk ?_
 have xa:Ext h6 ((h6.alloc (.cells 91 (Bd.cs ⟨[],[],false⟩) true)).set h6.next (.cells 91 b.cs true)):=Ext.st (Ext.alloc _ _) _ _ (Nat.le_refl _) (by show h6.next<h6.next+1; omega)
 refine a5f (ι:=Bool) (fun _=>[(0,.ptr R 0),(2,.int .i64 d),(7,.ptr h.next 0),(10,u10),(11,.int .i64 (j:Nat)),(12,.ptr h6.next 0)]) (fun x g7=>g7.ok∧RdI z img R S6 s6 x g7∧RdT R S6 S6 h6 g7∧h6.next<g7.next∧g7.get h6.next=some (.cells 91 (Bd.cs ⟨if 0<j then y.key else b.low,b.less,b.high⟩) true)∧x=(decide (0<j) && !b.inside y.key)) ?_ ?_
 ·intro k' join
  rcases Nat.eq_zero_or_pos j with rfl|j0
  ·have c0:¬ (0:Int)<((0:Nat):Int):=by omega
   refine walk ?_
   refine join false (by exact hsub) ⟨xa.ok k6,⟨Su6,Sw6,u6,w6,i6.ext xa⟩,.ext xa,by exact hlt,?_,rfl⟩
   exact a0a.gs _ _ _
  ·have c0:(0:Int)<(j:Int):=by omega
   refine walk ?_
   refine a0c (q:=8) (ms:=[0,0,0,6,14,30,63,127]) (hl:=[[83,84,85,86,87],[82,84],[82,83],[82],[82],[82],[],[]]) (xa.ok k6) rfl (by kernel_rfl) (by kernel_rfl) rfl ?_
   refine walk ?_
   refine a2i (c5a (b:=b) (k:=y.key)) rfl rfl rfl rfl rfl rfl ?_
   rintro _ h8 ⟨rfl,x8⟩
   have x68:Ext h6 h8:=(xa.trans (Ext.more (Ext.refl _) (xa.ok k6) 8)).trans x8
   have n8:h6.next+1+8≤h8.next:=x8.nx
   have g12:h8.get h6.next=some (.cells 91 b.cs true):=(x8.old _ (by show h6.next<h6.next+1+8; omega)).trans (a0a.gs _ _ _)
   have hg8:h8.get B=some (.cells e' all rw'):=(x68.old B hb').trans hg
   have iC:=i6.ext x68
   have gC:=iC.g
   have rlC:=iC.rl
   have k8:=x68.ok k6
   clear x8
   refine walk ?_
   cases ci:b.inside y.key with
   |true =>
    refine walk ?_
    have xs:Ext h6 (h8.set h6.next (.cells 91 (Bd.cs ⟨y.key,b.less,b.high⟩) true)):=Ext.st x68 _ _ (Nat.le_refl _) (by omega)
    refine join false (by exact hsub) ⟨xs.ok k6,⟨Su6,Sw6,u6,w6,i6.ext xs⟩,.ext xs,by show h6.next<h8.next; omega,?_,by rw[ci]; simp⟩
    rw[if_pos j0]
    exact a0a.gs _ _ _
   |false =>
    have ls9:a1a Fk.cs 147 2 (fun c=>g.next≤c∧c<h5.next) (h8.set R (.cells 85 [.int .i64 z,.str img,u6,.int .i64 s6.deep,.bool true,w6] true)) u10 l:=ls6.keep (fun c q hl=>(a0a.gn _ _ _ _ (d6 c q).1).trans (x68.old c hl)) x68.nx
    clear a1
    obtain⟨B9,q9,e9,all9,rw9,hb9,hg9,hpl9,he9,a1⟩:=ls9.ls.at Fk.len hy
    refine walk ?_
    have ip:=iC.put s6.deep true
    have rn:R≠h6.next:=by omega
    refine join true (by exact hsub) ⟨a0w (a0w k8 _ _ rlC) _ _ (by show h6.next<h8.next; omega),⟨Su6,Sw6,u6,w6,ip.keep (Nat.le_refl _) fun c q=>a0a.gn _ _ _ _ (by rcases q with q|q; omega; have:=low6 c q; omega)⟩,⟨by show h6.next≤h8.next; omega,fun c hc hr hs=>(a0a.gn _ _ _ _ (by omega)).trans ((a0a.gn _ _ _ _ hr).trans (x68.old c hc)),fun _=>a0w (a0w k8 _ _ rlC) _ _ (by show h6.next<h8.next; omega),fun c q=>.inl q⟩,by show h6.next<h8.next; omega,?_,by rw[ci]; simp; omega⟩
    rw[if_pos j0]
    exact a0a.gs _ _ _
 rintro bad7 g7 ⟨k7,i7,t7,n7,g12,eb7⟩
 have low7:∀ c,S6 c→c<h6.next:=low6
 have ls7:=t7.Ls ls6 d6
 obtain⟨Su7,Sw7,u7,w7,i7⟩:=i7
 have g7R:=i7.g
 have rl7:=i7.rl
 have eF:a9a b l j=⟨if 0<j then y.key else b.low,if j+1<l.length then(l.getD (j+1) ⟨[],0⟩).key else b.less,if j+1<l.length then true else b.high⟩:=by unfold a9a; rw[yd]
 have hb6:h6.next≠R:=by omega
 clear a1 hg hb' hpl he
 refine b0d ?_
 refine a5f (ι:=Unit) (fun _=>[(0,.ptr R 0),(2,.int .i64 d),(7,.ptr h.next 0),(10,u10),(11,.int .i64 (j:Nat)),(12,.ptr h6.next 0)]) (fun _ g8=>g8.ok∧g8.next=g7.next∧g8.get h6.next=some (.cells 91 (a9a b l j).cs true)∧∀ c,c≠h6.next→g8.get c=g7.get c) ?_ ?_
 ·intro k' join
  by_cases c1:(j:Int)+1<(l.length:Int)
  ·obtain⟨y2,hy2⟩:∃ y2,l[j+1]?=some y2:=⟨l[j+1]'(by omega),List.getElem?_eq_getElem (by omega)⟩
   have yd2:l.getD (j+1) ⟨[],0⟩=y2:=by rw[List.getD_eq_getElem?_getD,hy2]; rfl
   obtain⟨B2,q2,e2',all2,rw2,hb2,hg2,hpl2,he2,a2⟩:=ls7.ls.at Fk.len hy2
   rw[if_pos (show j+1<l.length by omega),if_pos (show j+1<l.length by omega),yd2] at eF
   refine walk ?_
   refine join () (by exact hsub) ⟨a0w (a0w k7 _ _ n7) _ _ n7,rfl,?_,fun c hc=>(a0a.gn _ _ _ _ hc).trans (a0a.gn _ _ _ _ hc)⟩
   rw[eF]
   exact a0a.gs _ _ _
  ·rw[if_neg (show ¬ j+1<l.length by omega),if_neg (show ¬ j+1<l.length by omega)] at eF
   refine walk ?_
   exact join () (by exact hsub) ⟨k7,rfl,by rw[eF]; exact g12,fun _ _=>rfl⟩
 rintro⟨⟩ g8 ⟨k8,n8,g12',o8⟩
 have ls8:a1a Fk.cs 147 2 (fun c=>g.next≤c∧c<h5.next) g8 u10 l:=ls7.keep (fun c q _=>o8 c (by omega)) (by omega)
 have i8:RdW z img R S6 Su7 Sw7 u7 w7 s6 bad7 g8:=i7.keep (by omega) fun c q=>o8 c (by rcases q with q|q; omega; have:=low7 c q; omega)
 have t68:RdT R S6 S6 h6 g8:=⟨by have:=t7.nx; omega,fun c hc hr hs=>(o8 c (by omega)).trans (t7.old c hc hr hs),fun _=>k8,fun c q=>.inl q⟩
 obtain⟨B9,q9,e9,all9,rw9,hb9,hg9,hpl9,he9,a1⟩:=ls8.ls.at Fk.len hy
 have cy:y.child<4294967296:=by have:=(lm.1 j y hy).2.1.2; omega
 have est:a4m go b l 0 l.length s0=if 0<j∧b.inside y.key=false then none else match go y.child (a9a b l j) s6 with
   |none=>none
   |some s'=>a4m go b l (j+1) (l.length-(j+1)) s':=by
  rw[st1,show l.length-j=(l.length-(j+1))+1 by omega]
  show(if 0<j∧b.inside (l.getD j ⟨[],0⟩).key=false then none else match go (l.getD j ⟨[],0⟩).child (a9a b l j) s6 with
   |none=>none
   |some s'=>a4m go b l (j+1) (l.length-(j+1)) s')=_
  rw[yd]
 refine a0c (q:=10) (ms:=[0,0,0,6,14,30,0,64,0,511]) (hl:=[[113,114,115,116,117,118,119,120],[112,114,118,119,120],[112,113,118,119,120],[112,118,119,120],[112,118,119,120],[112,118,119,120],[112,113,114,115,116,117,120],[112,113,114,115,116,117,120],[112,113,114,115,116,117,118,119],[]]) hok rfl (by kernel_rfl) (by kernel_rfl) rfl ?_
 refine walk ?_
 refine a2i (ih' S6 s6 y.child (a9a b l j) bad7 _ (by exact a0a.a2o k8 10) (RdI.ext ⟨Su7,Sw7,u7,w7,i8⟩ (Ext.more (Ext.refl _) k8 10)) (fun _=>⟨st2,st3⟩) (by have:=st2.len; omega) cy) rfl rfl rfl rfl rfl rfl ?_
 rintro _ h9 ⟨rfl,S9,s9,b9,i9,t9,q9'⟩
 refine walk ?_
 have n9:g8.next+10≤h9.next:=t9.nx
 refine next (j+1,S9,s9,b9) (by simp only; omega) (by exact hsub) ⟨by simp only; omega,t9.ok (a0a.a2o k8 10),i9,t6.trans (t68.trans ((RdT.ext (Ext.more (Ext.refl _) k8 10)).trans t9)),?_⟩
 dsimp only
 rw[est]
 cases hb7:bad7 with
 |true =>
  rw[hb7] at q9' eb7
  have q9':b9=true:=q9'
  rw[q9']
  refine if_pos ?_
  cases hi7:b.inside y.key with
  |true=>rw[hi7] at eb7; simp at eb7
  |false=>rw[hi7] at eb7; exact⟨by simpa using eb7,rfl⟩
 |false =>
  rw[hb7] at q9' eb7
  have nb:¬ (0<j∧b.inside y.key=false):=by
   rintro⟨q1,q2⟩
   rw[q2,decide_eq_true q1] at eb7
   cases eb7
  rw[if_neg nb]
  have q9':match go y.child (a9a b l j) s6 with
   |some t=>b9=false∧s9=t
   |none=>b9=true:=q9'
  cases eg:go y.child (a9a b l j) s6 with
  |none =>
   rw[eg] at q9'
   have q9':b9=true:=q9'
   rw[q9']
  |some t =>
   rw[eg] at q9'
   obtain⟨rfl,rfl⟩:=q9'
   obtain⟨gr,go2⟩:=hgr _ _ _ _ st2 st3 eg
   exact⟨rfl,gr.f,go2⟩
end Go.Proofs.YtejfbaecadbdiaaGreat
