/- What the functions of this part answer at any input, told by the rules over the evaluator. Conditions: those that each theorem states. -/
import Derived.Test.YthdlebegkhnbiaaGreatRlf
set_option linter.unusedVariables false
set_option linter.unusedSimpArgs false
open Go Ev
namespace Go.Proofs.YthdlebegkhnbiaaGreat
set_option maxRecDepth 10000
set_option maxHeartbeats 4000000
structure Grown2 (N:Nat) (s t:Rs):Prop where
 f:Fine N t.pg
 le:s.pg.length≤t.pg.length
theorem itemS_grow {z:Int} {img:List UInt8} {b:Bd} {s t:Rs} {x:It} (f:Fine (pages z img) s.pg) (e:itemS z img b s x=some t):Grown2 (pages z img) s t∧t.out.length=s.out.length+1:=by
 unfold itemS at e
 split at e
 ·cases ov:x.over with
  |false=>rw [ov] at e; cases e; exact ⟨⟨f,Nat.le_refl _⟩,by simp⟩
  |true =>
   rw [ov] at e
   cases e7:overS z img x.head x.len with
   |none=>rw [e7] at e; cases e
   |some r =>
    obtain ⟨v,ps⟩:=r
    rw [e7] at e
    have e:(match comesS s.pg ps with
     |none=>none
     |some q=>some (⟨q,s.deep,s.out++[⟨x.key,v⟩]⟩:Rs))=some t:=e
    cases e8:comesS s.pg ps with
    |none=>rw [e8] at e; cases e
    |some q =>
     rw [e8] at e
     cases e
     have:=comesS_app e8
     exact ⟨⟨f.comes e8 fun n hn=>((over_lt e7).1 n hn).1,by rw [this]; simp⟩,by simp⟩
 ·cases e
theorem itemsS_grow {z:Int} {img:List UInt8} {b:Bd}:∀ {l:List It} {s t:Rs},Fine (pages z img) s.pg→itemsS z img b s l=some t→Grown2 (pages z img) s t∧t.out.length=s.out.length+l.length
 |[],s,t,f,e=>by cases e; exact ⟨⟨f,Nat.le_refl _⟩,rfl⟩
 |x::l,s,t,f,e=>by
  unfold itemsS at e
  cases e1:itemS z img b s x with
  |none=>rw [e1] at e; cases e
  |some s' =>
   rw [e1] at e
   obtain ⟨g1,o1⟩:=itemS_grow f e1
   obtain ⟨g2,o2⟩:=itemsS_grow g1.f e
   exact ⟨⟨g2.f,Nat.le_trans g1.le g2.le⟩,by rw [o2,o1,List.length_cons]; omega⟩
theorem leafS_grow {z:Int} {img:List UInt8} {p:Pg} {d:Nat} {b:Bd} {s t:Rs} (f:Fine (pages z img) s.pg) (ho:s.out.length+1400≤1400*s.pg.length) (e:leafS z img p d b s=some t):Grown2 (pages z img) s t∧t.out.length≤1400*t.pg.length:=by
 unfold leafS at e
 cases el:ofI p with
 |none=>rw [el] at e; cases e
 |some l =>
  rw [el] at e
  have e:(if s.deep=0∨s.deep=d then itemsS z img b ⟨s.pg,d,s.out⟩ l else none)=some t:=e
  split at e
  ·obtain ⟨g,o⟩:=itemsS_grow (s:=⟨s.pg,d,s.out⟩) f e
   have:=(ofI_len el).1
   have gl:=g.le
   dsimp only at o gl
   exact ⟨⟨g.f,gl⟩,by omega⟩
  ·cases e
theorem forksS_grow {N:Nat} {go:Nat→Bd→Rs→Option Rs} {b:Bd} {l:List Fk} (hg:∀ n c s t,Fine N s.pg→s.out.length≤1400*s.pg.length→go n c s=some t→Grown2 N s t∧t.out.length≤1400*t.pg.length):∀ (k i:Nat) (s t:Rs),Fine N s.pg→s.out.length≤1400*s.pg.length→forksS go b l i k s=some t→Grown2 N s t∧t.out.length≤1400*t.pg.length
 |0,i,s,t,f,ho,e=>by cases e; exact ⟨⟨f,Nat.le_refl _⟩,ho⟩
 |k+1,i,s,t,f,ho,e=>by
  unfold forksS at e
  split at e
  ·cases e
  ·cases e1:go (l.getD i ⟨[],0⟩).child (forkB b l i) s with
   |none=>rw [e1] at e; cases e
   |some s' =>
    rw [e1] at e
    obtain ⟨g1,o1⟩:=hg _ _ _ _ f ho e1
    obtain ⟨g2,o2⟩:=forksS_grow hg k (i+1) s' t g1.f o1 e
    exact ⟨⟨g2.f,Nat.le_trans g1.le g2.le⟩,o2⟩
theorem nodeS_grow {z:Int} {img:List UInt8}:∀ (k:Nat) (n:Nat) (b:Bd) (s t:Rs),Fine (pages z img) s.pg→s.out.length≤1400*s.pg.length→nodeS z img k n b s=some t→Grown2 (pages z img) s t∧t.out.length≤1400*t.pg.length
 |0,n,b,s,t,f,ho,e=>by cases e
 |k+1,n,b,s,t,f,ho,e=>by
  unfold nodeS at e
  cases e1:comeS s.pg n with
  |none=>rw [e1] at e; cases e
  |some q =>
   rw [e1] at e
   have e:(if n<2∨(readR z img n).2≠0 then none else if (readR z img n).1.kind=4 then leafS z img (readR z img n).1 (16-k) b ⟨q,s.deep,s.out⟩ else match ofB (readR z img n).1 with
    |none=>none
    |some l=>forksS (nodeS z img k) b l 0 l.length ⟨q,s.deep,s.out⟩)=some t:=e
   split at e
   ·cases e
   ·rename_i c
    have e0:(readR z img n).2=0:=Decidable.byContradiction fun q=>c (.inr q)
    have fq:=f.come e1 (read_page e0).2
    have lq:=comeS_len e1
    have lq:q.length=s.pg.length+1:=by rw [lq]; simp
    split at e
    ·obtain ⟨g,o⟩:=leafS_grow (s:=⟨q,s.deep,s.out⟩) fq (by simp only; omega) e
     have gl:=g.le
     dsimp only at gl
     exact ⟨⟨g.f,by omega⟩,o⟩
    ·cases el:ofB (readR z img n).1 with
     |none=>rw [el] at e; cases e
     |some l =>
      rw [el] at e
      obtain ⟨g,o⟩:=forksS_grow (nodeS_grow k) _ _ ⟨q,s.deep,s.out⟩ t fq (by simp only; omega) e
      have gl:=g.le
      dsimp only at gl
      exact ⟨⟨g.f,by omega⟩,o⟩
theorem sizeB_ge (l:List Fk):5*l.length≤sizeB l:=by
 induction l with
 |nil=>simp [sizeB]
 |cons a r ih =>
  simp only [sizeB,List.map_cons,List.sum_cons,List.length_cons] at ih ⊢
  omega
theorem ofB_500 {p:Pg} {l:List Fk} (e:ofB p=some l):l.length≤1000∧mayB l:=by
 unfold ofB at e
 cases ep:parseF p.count.toNat p.body with
 |none=>rw [ep] at e; cases e
 |some r =>
  rw [ep] at e
  have e:(if pageB (p.body.length+24) p.page p.tx r=(p,0) then some r else none)=some l:=e
  split at e
  ·rename_i c
   cases e
   unfold pageB at c
   split at c
   ·rename_i d
    have:=room_le ((p.body.length:Int)+24)
    have hs:=sizeB_ge l
    exact ⟨by omega,d.1⟩
   ·cases congrArg Prod.snd c
  ·cases e
def orNone {α:Type} (bad:Bool) (r:Option α):Option α:=match bad with
 |true=>none
 |false=>r
theorem rnode_g {n:Nat} (hn:6<n) {z:Int} {img:List UInt8} {R:Nat} (hi:img.length≤20000):∀ (k:Nat) {S:Nat→Prop} {s:Rs} {m d:Nat} {b:Bd} {bad:Bool} {h:Heap} (hk:h.ok) (i:RdI z img R S s bad h) (f:bad=false→Fine (pages z img) s.pg∧s.out.length≤1400*s.pg.length) (pl:s.pg.length≤5000) (hd:k+d=17) (hm:m<4294967296),
  Gives (TV n) 20 [.ptr R 0,.int .u32 m,.int .i64 d,.agg b.cs] h (RdP z img R S h (orNone bad (nodeS z img k m b s))):=by
 intro k
 induction k using Nat.strongRecOn with
 |ind k ih =>
 intro S s m d b bad h hk i f pl hd hm
 refine call_j (no_w rfl rfl) rfl rfl ?_
 obtain ⟨Su0,Sw0,u0,w0,i0⟩:=i
 have rl:=i0.rl
 have lowS:=i0.low
 refine walk ?_
 refine jo_call (rcome_g (m:=m) (by exact hok) (RdI.ext ⟨Su0,Sw0,u0,w0,i0⟩ (by exact hext)) (by omega)) rfl rfl rfl rfl ?_
 rintro _ h1 ⟨rfl,S1,⟨Su,Sw,u,w,i1⟩,t1⟩
 have n1:h.next+1≤h1.next:=t1.nx
 have gb:h1.get h.next=some (.cells 67 b.cs true):=(t1.old _ (by show h.next<h.next+1; omega) (by omega) (fun q=>by have:=lowS _ q; omega)).trans (by exact hget)
 have k1:h1.ok:=t1.ok (by exact hok)
 have t01:RdT R S S1 h h1:=(RdT.ext (by exact hext)).trans t1
 have nS1:¬ S1 h.next:=fun q=>by
  rcases t1.grow _ q with r|r
  ·have:=lowS _ r; omega
  ·have r:h.next+1≤h.next:=r; omega
 have g1:=i1.g
 have rl1:=i1.rl
 have low1:=i1.low
 have w1:=rread_w (n:=n) (by omega) z img m (by omega) hm
 have hmm:=pages_len z img m
 have hpg:=read_page (z:=z) (img:=img) (p:=m)
 refine walk ?_
 refine jg_drawn (q:=16) (ms:=[0,1,3,7,0,16,48,112,0,511,1023,2047,2047,0,12287,32767]) (hl:=[[21,22,23,24,25,8],[21,22,23,24,25,8],[21,22,23,24,25,8],[21,22,23,24,25,8],[17,18,19,20,25,8],[17,18,19,20,25,8],[17,18,19,20,25,8],[17,18,19,20,25,8],[17,18,19,20,21,22,23,24,8],[8],[8],[28,8],[27,8],[17,18,19,20,21,22,23,24,25,26,16,27,28],[28],[]]) hok rfl (by kernel_rfl) (by kernel_rfl) rfl ?_
 refine walk ?_
 have key:orNone bad (nodeS z img k m b s)=if (bad||decide (m∈s.pg))=true∨(readR z img m).2≠0∨m<2∨16<d then none else if (readR z img m).1.kind=4 then leafS z img (readR z img m).1 d b ⟨s.pg++[m],s.deep,s.out⟩ else match ofB (readR z img m).1 with
   |none=>none
   |some l=>forksS (nodeS z img (16-d)) b l 0 l.length ⟨s.pg++[m],s.deep,s.out⟩:=by
  cases bad with
  |true=>rw [if_pos (.inl rfl)]; rfl
  |false =>
   show nodeS z img k m b s=_
   rw [Bool.false_or]
   cases k with
   |zero=>rw [if_pos (.inr (.inr (.inr (by omega))))]; rfl
   |succ k =>
    unfold nodeS
    unfold comeS
    by_cases cm:m∈s.pg
    ·rw [if_pos cm,if_pos (.inl (decide_eq_true cm))]
    ·rw [if_neg cm]
     dsimp only
     by_cases c2:m<2∨(readR z img m).2≠0
     ·rw [if_pos c2,if_pos (.inr (by rcases c2 with q|q; exact .inr (.inl q); exact .inl q))]
     ·have c3:¬ (decide (m∈s.pg)=true∨(readR z img m).2≠0∨m<2∨16<d):=by
       rintro (q|q|q|q)
       ·exact cm (of_decide_eq_true q)
       ·exact c2 (.inr q)
       ·exact c2 (.inl q)
       ·omega
      rw [if_neg c2,if_neg c3]
      have e1:16-k=d:=by omega
      have e2:16-d=k:=by omega
      rw [e1,e2]
      rfl
 generalize readR z img m=r at w1 hmm hpg key ⊢
 obtain ⟨p,e⟩:=r
 dsimp only at w1 hmm hpg key ⊢
 refine OJ.gen [(0,.ptr R 0),(1,.int .u32 m),(2,.int .i64 d),(7,.ptr h.next 0),(8,.ptr (h1.next+13) 0),(9,.int .i64 e),(33,.bool (bad||decide (m∈s.pg)))] (fun g=>Ext h1 g∧g.ok∧h1.next+13<g.next∧g.get (h1.next+13)=some (.cells 32 p.cs true)) (by exact hsub) ⟨by exact hext,by exact hok,by exact hlt,by exact hget⟩ ?_
 rintro g ⟨xg,kg,ng,gp⟩
 have ig:=i1.ext xg
 have gR:=ig.g
 have rlg:=ig.rl
 have gbg:g.get h.next=some (.cells 67 b.cs true):=(xg.old _ (by omega)).trans gb
 have t0g:RdT R S S1 h g:=t01.trans (.ext xg)
 by_cases cc:(bad||decide (m∈s.pg))=true∨e≠0∨m<2∨16<d
 ·rw [if_pos cc] at key
  rw [key]
  refine oj_cut0 (ι:=Unit) (fun _=>[(0,.ptr R 0),(44,.bool true)]) (fun _ g2=>g=g2) ?_ ?_
  ·intro k' join
   cases cb:(bad||decide (m∈s.pg)) with
   |true =>
    refine walk ?_
    exact join () (by exact hsub) rfl
   |false =>
    rw [cb] at cc
    by_cases c1:e=0
    ·by_cases c2:(m:Int)<2
     ·refine walk ?_
      exact join () (by exact hsub) rfl
     ·have c3:16<(d:Int):=by
       rcases cc with q|q|q|q
       ·cases q
       ·exact absurd c1 q
       ·omega
       ·omega
      refine walk ?_
      exact join () (by exact hsub) rfl
    ·refine walk ?_
     exact join () (by exact hsub) rfl
  rintro ⟨⟩ _ rfl
  refine walk ?_
  exact jg_ret (vs:=[]) rfl ⟨rfl,S1,_,true,⟨Su,Sw,u,w,ig.put s.deep true⟩,t0g.trans (.put rlg _),rfl⟩
 rw [if_neg cc] at key
 rw [key]
 have cb:(bad||decide (m∈s.pg))=false:=by
  cases q:(bad||decide (m∈s.pg)) with
  |true=>exact absurd (.inl q) cc
  |false=>rfl
 have c1:e=0:=Decidable.byContradiction fun q=>cc (.inr (.inl q))
 have c2:¬ (m:Int)<2:=fun q=>cc (.inr (.inr (.inl (by omega))))
 have c3:¬ 16<(d:Int):=fun q=>cc (.inr (.inr (.inr (by omega))))
 rw [cb] at ig gR ⊢
 have bf:bad=false:=by cases bad; rfl; cases cb
 obtain ⟨f1,f2⟩:=f bf
 have cm:m ∉ s.pg:=fun q=>by rw [bf,Bool.false_or,decide_eq_true q] at cb; cases cb
 have fq:Fine (pages z img) (s.pg++[m]):=f1.come (by unfold comeS; rw [if_neg cm]) (hpg c1).2
 have mf:=hmm c1
 have rz:=room_le z
 have bl:p.body.length≤100000:=by unfold mayF at mf; omega
 have bc:p.count<1000000000:=by unfold mayF at mf; omega
 by_cases c4:p.kind=4
 ·rw [if_pos c4]
  refine walk ?_
  refine jo_call (rleaf_g (n:=n) (p:=p) (d:=d) (b:=b) hn kg hi ⟨Su,Sw,u,w,ig⟩ fq (by simp only [List.length_append,List.length_cons,List.length_nil]; omega) bl bc) rfl rfl rfl rfl ?_
  rintro _ h5 ⟨rfl,S5,s5,b5,i5,t5,q5⟩
  refine walk ?_
  exact jg_ret (vs:=[]) rfl ⟨rfl,S5,s5,b5,i5,t0g.trans t5,q5⟩
 rw [if_neg c4]
 refine walk ?_
 refine jo_call (rbraOf_g (n:=n) (by omega) (p:=p) kg bl bc) rfl rfl rfl rfl ?_
 rintro v h5 ⟨x5,c5⟩
 have i5:=ig.ext x5
 have g5R:=i5.g
 have rl5:=i5.rl
 have n5:=x5.nx
 have k5:=x5.ok kg
 cases el:ofB p with
 |none =>
  rw [el] at c5
  subst c5
  refine walk ?_
  exact jg_ret (vs:=[]) rfl ⟨rfl,S1,_,true,⟨Su,Sw,u,w,i5.put s.deep true⟩,(t0g.trans (.ext x5)).trans (.put rl5 _),rfl⟩
 |some l =>
 rw [el] at c5
 obtain ⟨u10,rfl,lo⟩:=c5
 dsimp only
 obtain ⟨ll,lm⟩:=ofB_500 el
 have ls:OwnLS Fk.cs 104 2 (fun c=>g.next≤c∧c<h5.next) h5 u10 l:=(Own.to_s lo).mono fun c q r=>⟨q,r⟩
 have gb5:h5.get h.next=some (.cells 67 b.cs true):=(x5.old _ (by omega)).trans gbg
 have lu:=ls.ls.len
 have nu:=ls.ls.ns
 refine walk ?_
 obtain ⟨s0,hs0⟩:∃ s0:Rs,s0=⟨s.pg++[m],s.deep,s.out⟩:=⟨_,rfl⟩
 have fs0:Fine (pages z img) s0.pg∧s0.out.length≤1400*s0.pg.length:=by rw [hs0]; exact ⟨fq,by simp only [List.length_append,List.length_cons,List.length_nil]; omega⟩
 have ih':=fun S s m b bad h hk i f pl hm=>@ih (16-d) (by omega) S s m (d+1) b bad h hk i f pl (by omega) hm
 have i5:RdI z img R S1 s0 false h5:=by rw [hs0]; exact ⟨Su,Sw,u,w,i5⟩
 have t05:RdT R S S1 h h5:=t0g.trans (.ext x5)
 rw [← hs0]
 clear ih key
 have hgr:=nodeS_grow (z:=z) (img:=img) (16-d)
 generalize nodeS z img (16-d)=go at ih' hgr ⊢
 have pn:pages z img≤157:=by
  unfold pages
  split
  ·rename_i gz
   have:=gz.1
   refine Nat.div_le_of_le_mul ?_
   have:128≤z.toNat:=by omega
   have:=Nat.mul_le_mul_right 157 this
   omega
  ·omega
 refine jg_loop (ι:=Nat×(Nat→Prop)×Rs×Bool) (fun a=>l.length-a.1) (fun a=>[(0,.ptr R 0),(2,.int .i64 d),(7,.ptr h.next 0),(10,u10),(11,.int .i64 (a.1:Nat))]) (fun a h6=>a.1≤l.length∧h6.ok∧RdI z img R a.2.1 a.2.2.1 a.2.2.2 h6∧RdT R S1 a.2.1 h5 h6∧match a.2.2.2 with
   |false=>forksS go b l 0 l.length s0=forksS go b l a.1 (l.length-a.1) a.2.2.1∧Fine (pages z img) a.2.2.1.pg∧a.2.2.1.out.length≤1400*a.2.2.1.pg.length
   |true=>forksS go b l 0 l.length s0=none) (0,S1,s0,false) (by exact hsub) ⟨Nat.zero_le _,k5,i5,.refl _,rfl,fs0⟩ ?_
 rintro ⟨j,S6,s6,bad6⟩ h6 ⟨hj,k6,i6,t6,st⟩ next
 dsimp only at hj i6 t6 st next ⊢
 have n6:=t6.nx
 have grow6:=t6.grow
 have d6:∀ c,g.next≤c∧c<h5.next→c≠R∧¬ S6 c:=fun c q=>⟨by omega,fun r=>by
  rcases grow6 c r with r|r
  ·have:=low1 c r; have:=xg.nx; omega
  ·omega⟩
 have ls6:=t6.Ls ls fun c q=>⟨by omega,fun r=>by have:=low1 c r; have:=xg.nx; omega⟩
 have gb6:h6.get h.next=some (.cells 67 b.cs true):=(t6.old _ (by omega) (by omega) nS1).trans gb5
 have fin:RdI z img R S6 s6 bad6 h6→j=l.length∨bad6=true→RdP z img R S h (forksS go b l 0 l.length s0) (.tuple []) h6:=fun i7 q=>by
  refine ⟨rfl,S6,s6,bad6,i7,t05.trans t6,?_⟩
  cases bad6 with
  |true=>rw [show forksS go b l 0 l.length s0=none from st]
  |false =>
   rcases q with q|q
   ·rw [st.1,q,Nat.sub_self]; exact ⟨rfl,rfl⟩
   ·cases q
 have fin2:=fin i6
 obtain ⟨Su6,Sw6,u6,w6,i6⟩:=i6
 have g6R:=i6.g
 have rl6:=i6.rl
 have low6:=i6.low
 have lu6:=ls6.ls.len
 by_cases cj:j<l.length
 case neg =>
  refine walk ?_
  exact jg_nil fun tm hs=>ends_normal hs rfl (fin2 (.inl (by omega)))
 cases bad6 with
 |true =>
  refine walk ?_
  exact jg_nil fun tm hs=>ends_normal hs rfl (fin2 (.inr rfl))
 |false =>
 obtain ⟨st1,st2,st3⟩:=st
 obtain ⟨y,hy⟩:∃ y,l[j]?=some y:=⟨l[j],List.getElem?_eq_getElem cj⟩
 have yd:l.getD j ⟨[],0⟩=y:=by rw [List.getD_eq_getElem?_getD,hy]; rfl
 obtain ⟨B,q,e',all,rw',hb',hg,hpl,he,a1⟩:=ls6.ls.at Fk.len hy
 refine walk ?_
 have xa:Ext h6 ((h6.alloc (.cells 67 (Bd.cs ⟨[],[],false⟩) true)).set h6.next (.cells 67 b.cs true)):=Ext.st (Ext.alloc _ _) _ _ (Nat.le_refl _) (by show h6.next<h6.next+1; omega)
 refine gj_cut1 (ι:=Bool) (fun _=>[(0,.ptr R 0),(2,.int .i64 d),(7,.ptr h.next 0),(10,u10),(11,.int .i64 (j:Nat)),(12,.ptr h6.next 0)]) (fun x g7=>g7.ok∧RdI z img R S6 s6 x g7∧RdT R S6 S6 h6 g7∧h6.next<g7.next∧g7.get h6.next=some (.cells 67 (Bd.cs ⟨if 0<j then y.key else b.low,b.less,b.high⟩) true)∧x=(decide (0<j) && !b.inside y.key)) ?_ ?_
 ·intro k' join
  rcases Nat.eq_zero_or_pos j with rfl|j0
  ·have c0:¬ (0:Int)<((0:Nat):Int):=by omega
   refine walk ?_
   refine join false (by exact hsub) ⟨xa.ok k6,⟨Su6,Sw6,u6,w6,i6.ext xa⟩,.ext xa,by exact hlt,?_,rfl⟩
   exact Heap.gs _ _ _
  ·have c0:(0:Int)<(j:Int):=by omega
   refine walk ?_
   refine jg_drawn (q:=8) (ms:=[0,0,0,6,14,30,63,127]) (hl:=[[83,84,85,86,87],[82,84],[82,83],[82],[82],[82],[],[]]) (xa.ok k6) rfl (by kernel_rfl) (by kernel_rfl) rfl ?_
   refine walk ?_
   refine jd_call (rinside_g (b:=b) (k:=y.key)) rfl rfl rfl rfl rfl rfl ?_
   rintro _ h8 ⟨rfl,x8⟩
   have x68:Ext h6 h8:=(xa.trans (Ext.more (Ext.refl _) (xa.ok k6) 8)).trans x8
   have n8:h6.next+1+8≤h8.next:=x8.nx
   have g12:h8.get h6.next=some (.cells 67 b.cs true):=(x8.old _ (by show h6.next<h6.next+1+8; omega)).trans (Heap.gs _ _ _)
   have hg8:h8.get B=some (.cells e' all rw'):=(x68.old B hb').trans hg
   have iC:=i6.ext x68
   have gC:=iC.g
   have rlC:=iC.rl
   have k8:=x68.ok k6
   clear x8
   refine walk ?_
   cases ci:b.inside y.key with
   |true =>
    refine walk ?_
    have xs:Ext h6 (h8.set h6.next (.cells 67 (Bd.cs ⟨y.key,b.less,b.high⟩) true)):=Ext.st x68 _ _ (Nat.le_refl _) (by omega)
    refine join false (by exact hsub) ⟨xs.ok k6,⟨Su6,Sw6,u6,w6,i6.ext xs⟩,.ext xs,by show h6.next<h8.next; omega,?_,by rw [ci]; simp⟩
    rw [if_pos j0]
    exact Heap.gs _ _ _
   |false =>
    have ls9:OwnLS Fk.cs 104 2 (fun c=>g.next≤c∧c<h5.next) (h8.set R (.cells 61 [.int .i64 z,.str img,u6,.int .i64 s6.deep,.bool true,w6] true)) u10 l:=ls6.keep (fun c q hl=>(Heap.gn _ _ _ _ (d6 c q).1).trans (x68.old c hl)) x68.nx
    clear a1
    obtain ⟨B9,q9,e9,all9,rw9,hb9,hg9,hpl9,he9,a1⟩:=ls9.ls.at Fk.len hy
    refine walk ?_
    have ip:=iC.put s6.deep true
    have rn:R≠h6.next:=by omega
    refine join true (by exact hsub) ⟨ok_st (ok_st k8 _ _ rlC) _ _ (by show h6.next<h8.next; omega),⟨Su6,Sw6,u6,w6,ip.keep (Nat.le_refl _) fun c q=>Heap.gn _ _ _ _ (by rcases q with q|q; omega; have:=low6 c q; omega)⟩,⟨by show h6.next≤h8.next; omega,fun c hc hr hs=>(Heap.gn _ _ _ _ (by omega)).trans ((Heap.gn _ _ _ _ hr).trans (x68.old c hc)),fun _=>ok_st (ok_st k8 _ _ rlC) _ _ (by show h6.next<h8.next; omega),fun c q=>.inl q⟩,by show h6.next<h8.next; omega,?_,by rw [ci]; simp; omega⟩
    rw [if_pos j0]
    exact Heap.gs _ _ _
 rintro bad7 g7 ⟨k7,i7,t7,n7,g12,eb7⟩
 have low7:∀ c,S6 c→c<h6.next:=low6
 have ls7:=t7.Ls ls6 d6
 obtain ⟨Su7,Sw7,u7,w7,i7⟩:=i7
 have g7R:=i7.g
 have rl7:=i7.rl
 have eF:forkB b l j=⟨if 0<j then y.key else b.low,if j+1<l.length then (l.getD (j+1) ⟨[],0⟩).key else b.less,if j+1<l.length then true else b.high⟩:=by unfold forkB; rw [yd]
 have hb6:h6.next≠R:=by omega
 clear a1 hg hb' hpl he
 refine jg_seq ?_
 refine gj_cut1 (ι:=Unit) (fun _=>[(0,.ptr R 0),(2,.int .i64 d),(7,.ptr h.next 0),(10,u10),(11,.int .i64 (j:Nat)),(12,.ptr h6.next 0)]) (fun _ g8=>g8.ok∧g8.next=g7.next∧g8.get h6.next=some (.cells 67 (forkB b l j).cs true)∧∀ c,c≠h6.next→g8.get c=g7.get c) ?_ ?_
 ·intro k' join
  by_cases c1:(j:Int)+1<(l.length:Int)
  ·obtain ⟨y2,hy2⟩:∃ y2,l[j+1]?=some y2:=⟨l[j+1]'(by omega),List.getElem?_eq_getElem (by omega)⟩
   have yd2:l.getD (j+1) ⟨[],0⟩=y2:=by rw [List.getD_eq_getElem?_getD,hy2]; rfl
   obtain ⟨B2,q2,e2',all2,rw2,hb2,hg2,hpl2,he2,a2⟩:=ls7.ls.at Fk.len hy2
   rw [if_pos (show j+1<l.length by omega),if_pos (show j+1<l.length by omega),yd2] at eF
   refine walk ?_
   refine join () (by exact hsub) ⟨ok_st (ok_st k7 _ _ n7) _ _ n7,rfl,?_,fun c hc=>(Heap.gn _ _ _ _ hc).trans (Heap.gn _ _ _ _ hc)⟩
   rw [eF]
   exact Heap.gs _ _ _
  ·rw [if_neg (show ¬ j+1<l.length by omega),if_neg (show ¬ j+1<l.length by omega)] at eF
   refine walk ?_
   exact join () (by exact hsub) ⟨k7,rfl,by rw [eF]; exact g12,fun _ _=>rfl⟩
 rintro ⟨⟩ g8 ⟨k8,n8,g12',o8⟩
 have ls8:OwnLS Fk.cs 104 2 (fun c=>g.next≤c∧c<h5.next) g8 u10 l:=ls7.keep (fun c q _=>o8 c (by omega)) (by omega)
 have i8:RdW z img R S6 Su7 Sw7 u7 w7 s6 bad7 g8:=i7.keep (by omega) fun c q=>o8 c (by rcases q with q|q; omega; have:=low7 c q; omega)
 have t68:RdT R S6 S6 h6 g8:=⟨by have:=t7.nx; omega,fun c hc hr hs=>(o8 c (by omega)).trans (t7.old c hc hr hs),fun _=>k8,fun c q=>.inl q⟩
 obtain ⟨B9,q9,e9,all9,rw9,hb9,hg9,hpl9,he9,a1⟩:=ls8.ls.at Fk.len hy
 have cy:y.child<4294967296:=by have:=(lm.1 j y hy).2.1.2; omega
 have est:forksS go b l 0 l.length s0=if 0<j∧b.inside y.key=false then none else match go y.child (forkB b l j) s6 with
   |none=>none
   |some s'=>forksS go b l (j+1) (l.length-(j+1)) s':=by
  rw [st1,show l.length-j=(l.length-(j+1))+1 by omega]
  show (if 0<j∧b.inside (l.getD j ⟨[],0⟩).key=false then none else match go (l.getD j ⟨[],0⟩).child (forkB b l j) s6 with
   |none=>none
   |some s'=>forksS go b l (j+1) (l.length-(j+1)) s')=_
  rw [yd]
 refine jg_drawn (q:=10) (ms:=[0,0,0,6,14,30,0,64,0,511]) (hl:=[[113,114,115,116,117,118,119,120],[112,114,118,119,120],[112,113,118,119,120],[112,118,119,120],[112,118,119,120],[112,118,119,120],[112,113,114,115,116,117,120],[112,113,114,115,116,117,120],[112,113,114,115,116,117,118,119],[]]) hok rfl (by kernel_rfl) (by kernel_rfl) rfl ?_
 refine walk ?_
 refine jd_call (ih' S6 s6 y.child (forkB b l j) bad7 _ (by exact Heap.ok_more k8 10) (RdI.ext ⟨Su7,Sw7,u7,w7,i8⟩ (Ext.more (Ext.refl _) k8 10)) (fun _=>⟨st2,st3⟩) (by have:=st2.len; omega) cy) rfl rfl rfl rfl rfl rfl ?_
 rintro _ h9 ⟨rfl,S9,s9,b9,i9,t9,q9'⟩
 refine walk ?_
 have n9:g8.next+10≤h9.next:=t9.nx
 refine next (j+1,S9,s9,b9) (by simp only; omega) (by exact hsub) ⟨by simp only; omega,t9.ok (Heap.ok_more k8 10),i9,t6.trans (t68.trans ((RdT.ext (Ext.more (Ext.refl _) k8 10)).trans t9)),?_⟩
 dsimp only
 rw [est]
 cases hb7:bad7 with
 |true =>
  rw [hb7] at q9' eb7
  have q9':b9=true:=q9'
  rw [q9']
  refine if_pos ?_
  cases hi7:b.inside y.key with
  |true=>rw [hi7] at eb7; simp at eb7
  |false=>rw [hi7] at eb7; exact ⟨by simpa using eb7,rfl⟩
 |false =>
  rw [hb7] at q9' eb7
  have nb:¬ (0<j∧b.inside y.key=false):=by
   rintro ⟨q1,q2⟩
   rw [q2,decide_eq_true q1] at eb7
   cases eb7
  rw [if_neg nb]
  have q9':match go y.child (forkB b l j) s6 with
   |some t=>b9=false∧s9=t
   |none=>b9=true:=q9'
  cases eg:go y.child (forkB b l j) s6 with
  |none =>
   rw [eg] at q9'
   have q9':b9=true:=q9'
   rw [q9']
  |some t =>
   rw [eg] at q9'
   obtain ⟨rfl,rfl⟩:=q9'
   obtain ⟨gr,go2⟩:=hgr _ _ _ _ st2 st3 eg
   exact ⟨rfl,gr.f,go2⟩
end Go.Proofs.YthdlebegkhnbiaaGreat
