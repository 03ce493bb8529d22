/- What the functions of this part answer at any input, told by the rules over the evaluator. Conditions: those that each theorem states. -/
import Derived.Test.YthdlebegkhnbiaaGreatGap
import Derived.Test.YthdlebegkhnbiaaGreatRdr
set_option linter.unusedVariables false
set_option linter.unusedSimpArgs false
open Go Ev
namespace Go.Proofs.YthdlebegkhnbiaaGreat
set_option maxRecDepth 10000
set_option maxHeartbeats 4000000
theorem comesS_snoc (pg:List Nat) (l:List Nat) (n:Nat):comesS pg (l++[n])=(comesS pg l).bind (comeS · n):=by
 induction l generalizing pg with
 |nil =>
  simp only [List.nil_append,comesS,Option.bind_some]
  cases comeS pg n<;>rfl
 |cons a l ih =>
  simp only [List.cons_append,comesS]
  cases comeS pg a with
  |none=>rfl
  |some q=>exact ih q
theorem comesS_none (pg:List Nat) (l r:List Nat) (h:comesS pg l=none):comesS pg (l++r)=none:=by
 induction l generalizing pg with
 |nil=>cases h
 |cons a l ih =>
  simp only [List.cons_append,comesS] at h ⊢
  cases e:comeS pg a with
  |none=>rfl
  |some q=>rw [e] at h; exact ih q h
structure Fine (N:Nat) (pg:List Nat):Prop where
 nd:pg.Nodup
 lt:∀ n∈pg,n<N
theorem Fine.len {N:Nat} {pg:List Nat} (f:Fine N pg):pg.length≤N:=nodup_le N pg f.nd f.lt
theorem Fine.come {N n:Nat} {pg q:List Nat} (f:Fine N pg) (e:comeS pg n=some q) (h:n<N):Fine N q:=by
 unfold comeS at e
 split at e
 ·cases e
 ·rename_i c
  cases e
  refine ⟨?_,fun m hm=>?_⟩
  ·rw [List.nodup_append]
   exact ⟨f.nd,by simp,fun a ha b hb=>by
    obtain rfl:=List.mem_singleton.1 hb
    exact fun e=>c (e ▸ ha)⟩
  ·rcases List.mem_append.1 hm with q|q
   ·exact f.lt m q
   ·obtain rfl:=List.mem_singleton.1 q
    exact h
theorem Fine.comes {N:Nat} {pg q l:List Nat} (f:Fine N pg) (e:comesS pg l=some q) (h:∀ n∈l,n<N):Fine N q:=by
 induction l generalizing pg with
 |nil=>cases e; exact f
 |cons a l ih =>
  simp only [comesS] at e
  cases ea:comeS pg a with
  |none=>rw [ea] at e; cases e
  |some p =>
   rw [ea] at e
   exact ih (f.come ea (h a (List.mem_cons_self ..))) e fun n hn=>h n (List.mem_cons_of_mem _ hn)
theorem comeS_len {pg q:List Nat} {n:Nat} (e:comeS pg n=some q):q=pg++[n]:=by
 unfold comeS at e
 split at e
 ·cases e
 ·cases e; rfl
theorem comesS_app {pg q l:List Nat} (e:comesS pg l=some q):q=pg++l:=by
 induction l generalizing pg with
 |nil=>cases e; simp
 |cons a l ih =>
  simp only [comesS] at e
  cases ea:comeS pg a with
  |none=>rw [ea] at e; cases e
  |some p =>
   rw [ea] at e
   rw [ih e,comeS_len ea,List.append_assoc]; rfl
theorem chain_lt {z:Int} {img:List UInt8} {kd:Int}:∀ (k:Nat) (met:List Nat) (n:Nat) (l:List Pg),chainS z img kd k met n=some l→l.length<k∧∀ p∈l,p.page<pages z img∧2≤p.page∧p.kind=kd∧readR z img p.page=(p,0)
 |0,_,_,_,e=>by cases e
 |k+1,met,n,l,e=>by
  unfold chainS at e
  split at e
  ·cases e; exact ⟨Nat.succ_pos _,fun p hp=>by cases hp⟩
  ·split at e
   ·cases e
   ·rename_i c
    cases er:chainS z img kd k (met++[n]) (readR z img n).1.link with
    |none=>rw [er] at e; cases e
    |some r =>
     rw [er] at e
     cases e
     obtain ⟨h1,h2⟩:=chain_lt k _ _ _ er
     have e0:(readR z img n).2=0:=Decidable.byContradiction fun q=>c (.inl q)
     obtain ⟨p1,p2⟩:=read_page e0
     refine ⟨by rw [List.length_cons]; omega,fun p hp=>?_⟩
     rcases List.mem_cons.1 hp with rfl|hp
     ·refine ⟨by omega,?_,Decidable.byContradiction fun q=>c (.inr (.inr (.inl q))),?_⟩
      ·have:¬ n<2:=fun q=>c (.inr (.inl q))
       omega
      ·rw [p1]; exact Prod.ext rfl e0
     ·exact h2 p hp
theorem over_lt {z:Int} {img:List UInt8} {hd:Nat} {ln:Int} {v:List UInt8} {ps:List Nat} (e:overS z img hd ln=some (v,ps)):(∀ n∈ps,n<pages z img∧2≤n)∧ps.length≤pages z img+1∧(v.length:Int)=ln∧1≤ln:=by
 unfold overS at e
 split at e
 ·cases ec:chainS z img 5 (pages z img+2) [] hd with
  |none=>rw [ec] at e; cases e
  |some l =>
   rw [ec] at e
   have e:overV ln l=some (v,ps):=e
   unfold overV at e
   split at e
   ·rename_i c
    cases e
    obtain ⟨h1,h2⟩:=chain_lt _ _ _ _ ec
    refine ⟨fun n hn=>?_,by rw [List.length_map]; omega,c.2.2,c.2.1⟩
    obtain ⟨p,hp,rfl⟩:=List.mem_map.1 hn
    exact ⟨(h2 p hp).1,(h2 p hp).2.1⟩
   ·cases e
 ·cases e
theorem sizeI_ge (l:List It):3*l.length≤sizeI l:=by
 induction l with
 |nil=>simp [sizeI]
 |cons a r ih =>
  simp only [sizeI,List.map_cons,List.sum_cons,List.length_cons] at ih ⊢
  have:3≤szI a:=by unfold szI; split<;>omega
  omega
theorem ofI_len {p:Pg} {l:List It} (e:ofI p=some l):l.length≤1400∧mayI l:=by
 unfold ofI at e
 cases ep:parseI p.count.toNat p.body with
 |none=>rw [ep] at e; cases e
 |some r =>
  rw [ep] at e
  have e:(if pageI (p.body.length+24) p.page p.tx r=(p,0) then some r else none)=some l:=e
  split at e
  ·rename_i c
   cases e
   unfold pageI at c
   split at c
   ·rename_i d
    have:=room_le ((p.body.length:Int)+24)
    have hs:=sizeI_ge l
    exact ⟨by omega,d.1⟩
   ·cases congrArg Prod.snd c
  ·cases e
theorem rinside_g {n:Nat} {b:Bd} {k:List UInt8} {h:Heap}:Gives (TV n) 43 [.agg b.cs,.str k] h (fun v h'=>v=.bool (b.inside k)∧Ext h h'):=by
 refine call_j (no_w rfl rfl) rfl rfl ?_
 obtain ⟨low,less,high⟩:=b
 unfold Bd.inside Bd.cs
 dsimp only
 cases c1:bytesLess k low with
 |true =>
  have c2:(!bytesLess k low)=false:=by rw [c1]; rfl
  refine walk ?_
  exact jg_ret1 (by exact hres) ⟨rfl,by exact hext⟩
 |false =>
  have c2:(!bytesLess k low)=true:=by rw [c1]; rfl
  cases high with
  |false =>
   refine walk ?_
   exact jg_ret1 (by exact hres) ⟨rfl,by exact hext⟩
  |true =>
   refine walk ?_
   exact jg_ret1 (by exact hres) ⟨by simp,by exact hext⟩
set_option maxRecDepth 10000
set_option maxHeartbeats 4000000
theorem RdW.ext {z:Int} {img:List UInt8} {R:Nat} {S Su Sw:Nat→Prop} {u w:AV} {s:Rs} {bad:Bool} {h h':Heap} (i:RdW z img R S Su Sw u w s bad h) (x:Ext h h'):RdW z img R S Su Sw u w s bad h' :=
 i.keep x.nx fun c q=>x.old c (by rcases q with rfl|q; exact i.rl; exact i.low c q)
theorem RdW.out {T:Ev.Tabs} {z:Int} {img:List UInt8} {R:Nat} {S Su Sw:Nat→Prop} {u w v:AV} {s:Rs} {bad:Bool} {x:Pr} {X h:Heap} (i:RdW z img R S Su Sw u w s bad X) (hX:X.ok) (o:OwnLS Pr.cs 136 2 (fun b=>Sw b∨X.next≤b) h v (s.out++[x])) (t:Ev.Touch Sw X h) :
  RdW z img R (fun c=>S c∨(X.next≤c∧c<h.next)) Su (fun c=>(Sw c∨X.next≤c)∧c<h.next) u v ⟨s.pg,s.deep,s.out++[x]⟩ bad (h.set R (.cells 61 [.int .i64 z,.str img,u,.int .i64 s.deep,.bool bad,v] true))∧RdT R S (fun c=>S c∨(X.next≤c∧c<h.next)) X (h.set R (.cells 61 [.int .i64 z,.str img,u,.int .i64 s.deep,.bool bad,v] true)):=by
 have nx:=t.nx
 have rl:=i.rl
 have y:∀ c,c<X.next→¬ Sw c→h.get c=X.get c:=fun c hc hs=>t.old c hc hs
 refine ⟨⟨Heap.gs _ _ _,by show R<h.next; omega,?_,?_,fun c q=>.inl (i.su c q),?_,?_,?_,?_⟩,by show X.next≤h.next; omega,fun c hc hr hs=>(Heap.gn _ _ _ _ hr).trans (y c hc fun q=>hs (i.sw c q)),fun _=>ok_st (t.ok hX) _ _ (by omega),fun c q=>?_⟩
 ·rintro (q|q)
  ·exact i.nR q
  ·omega
 ·rintro c (q|q)
  ·show c<h.next; have:=i.low c q; omega
  ·exact q.2
 ·rintro c ⟨q|q,r⟩
  ·exact .inl (i.sw c q)
  ·exact .inr ⟨q,r⟩
 ·rintro c q ⟨p|p,r⟩
  ·exact i.dis c q p
  ·have:=i.low c (i.su c q); omega
 ·exact i.ou.keep (fun c q hl=>(Heap.gn _ _ _ _ (show c≠R from fun e=>i.nR (by rw [← e]; exact i.su c q))).trans (y c hl fun p=>i.dis c q p)) (by show X.next≤h.next; omega)
 ·refine OwnS.mono (OwnS.keep o (fun c q hl=>Heap.gn _ _ _ _ fun e=>?_) (Nat.le_refl _)) fun c q r=>⟨q,r⟩
  subst e
  rcases q with q|q
  ·exact i.nR (i.sw _ q)
  ·have q:X.next≤c:=q; omega
 ·rcases q with q|q
  ·exact .inl q
  ·exact .inr q.1
def RdP (z:Int) (img:List UInt8) (R:Nat) (S:Nat→Prop) (h:Heap) (r:Option Rs) (v:AV) (h':Heap):Prop:=v=.tuple []∧∃ S' s' bad,RdI z img R S' s' bad h'∧RdT R S S' h h'∧match r with
 |some t=>bad=false∧s'=t
 |none=>bad=true
theorem rleaf_g {n:Nat} (hn:6<n) {z:Int} {img:List UInt8} {R:Nat} {S:Nat→Prop} {s:Rs} {p:Pg} {d:Nat} {b:Bd} {h:Heap} (hk:h.ok) (hi:img.length≤20000) (i:RdI z img R S s false h) (f:Fine (pages z img) s.pg) (ho:s.out.length+1400≤1400*s.pg.length) (hb:p.body.length≤100000) (hc:p.count<1000000000):Gives (TV n) 42 [.ptr R 0,p.av,.int .i64 d,.agg b.cs] h (RdP z img R S h (leafS z img p d b s)):=by
 obtain ⟨Su,Sw,u,w,i⟩:=i
 have pn:pages z img≤157:=by
  unfold pages
  split
  ·rename_i g
   have:=g.1
   refine Nat.div_le_of_le_mul ?_
   have:128≤z.toNat:=by omega
   have:=Nat.mul_le_mul_right 157 this
   omega
  ·omega
 have fl:=f.len
 have rl:=i.rl
 have lowS:=i.low
 refine call_j (no_w rfl rfl) rfl rfl ?_
 refine walk ?_
 refine jo_call (rleaOf_g (n:=n) (by omega) (p:=p) (by exact hok) hb hc) rfl rfl rfl rfl ?_
 rintro v h1 ⟨x1,c3⟩
 have n1:h.next+2≤h1.next:=x1.nx
 have gb:h1.get (h.next+1)=some (.cells 67 b.cs true):=by exact hget
 have x01:Ext h h1:=Ext.trans (by exact hext) x1
 have k1:=x01.ok hk
 have i1:=i.ext x01
 have g1:=i1.g
 have rl1:=i1.rl
 unfold leafS
 cases e:ofI p with
 |none =>
  rw [e] at c3
  subst c3
  refine walk ?_
  exact jg_ret (vs:=[]) rfl ⟨rfl,S,_,true,⟨Su,Sw,u,w,i1.put s.deep true⟩,(RdT.ext x01).trans (.put rl1 _),rfl⟩
 |some l =>
 rw [e] at c3
 obtain ⟨u8,rfl,ls⟩:=c3
 dsimp only
 obtain ⟨ll,lm⟩:=ofI_len e
 by_cases cd:s.deep=0∨s.deep=d
 case neg =>
  rw [if_neg cd]
  have d1:¬ (s.deep:Int)=0:=fun q=>cd (.inl (by omega))
  have d2:¬ (s.deep:Int)=(d:Int):=fun q=>cd (.inr (by omega))
  refine walk ?_
  exact jg_ret (vs:=[]) rfl ⟨rfl,S,_,true,⟨Su,Sw,u,w,i1.put s.deep true⟩,(RdT.ext x01).trans (.put rl1 _),rfl⟩
 rw [if_pos cd]
 have ls2:OwnLS It.cs 123 5 (fun c=>h.next+2≤c∧c<h1.next) h1 u8 l:=(Own.to_s ls).mono fun c q r=>⟨q,r⟩
 have ip:=i1.put d false
 refine walk ?_
 refine oj_cut0 (ι:=Unit) (fun _=>[(0,.ptr R 0),(2,.int .i64 d),(5,.ptr h.next 0),(7,.ptr (h.next+1) 0),(8,u8),(37,.bool false)]) (fun _ g=>h1=g) ?_ ?_
 ·intro k' join
  rcases cd with q|q
  ·have d1:(s.deep:Int)=0:=by omega
   refine walk ?_
   exact join () (by exact hsub) rfl
  ·by_cases d1:(s.deep:Int)=0
   ·refine walk ?_
    exact join () (by exact hsub) rfl
   ·have d2:(s.deep:Int)=(d:Int):=by omega
    refine walk ?_
    exact join () (by exact hsub) rfl
 rintro ⟨⟩ _ rfl
 obtain ⟨hB,ehB⟩:∃ hB,hB=h1.set R (.cells 61 [.int .i64 z,.str img,u,.int .i64 d,.bool false,w] true):=⟨_,rfl⟩
 have nB:hB.next=h1.next:=by rw [ehB]; rfl
 have kB:hB.ok:=by rw [ehB]; exact ok_st k1 _ _ rl1
 have tB:RdT R S S h hB:=by rw [ehB]; exact (RdT.ext x01).trans (.put rl1 _)
 rw [← ehB] at ip
 have RnS:∀ c,c≠R→hB.get c=h1.get c:=fun c hc=>by rw [ehB]; exact Heap.gn _ _ _ _ hc
 have lsB:OwnLS It.cs 123 5 (fun c=>h.next+2≤c∧c<h1.next) hB u8 l:=ls2.keep (fun c q _=>RnS c (by omega)) (by omega)
 have gbB:hB.get (h.next+1)=some (.cells 67 b.cs true):=(RnS _ (by omega)).trans gb
 have lu:=lsB.ls.len
 have nu:=lsB.ls.ns
 refine walk ?_
 refine GJ.gen [(0,.ptr R 0),(2,.int .i64 d),(7,.ptr (h.next+1) 0),(8,u8),(10,.int .i64 0)] (fun g=>hB=g) (by exact hsub) ehB ?_
 rintro _ rfl
 clear ehB gb g1 i1 x1
 refine jg_loop (ι:=Nat×(Nat→Prop)×Rs×Bool) (fun a=>l.length-a.1) (fun a=>[(0,.ptr R 0),(2,.int .i64 d),(7,.ptr (h.next+1) 0),(8,u8),(10,.int .i64 (a.1:Nat))]) (fun a h2=>a.1≤l.length∧h2.ok∧RdI z img R a.2.1 a.2.2.1 a.2.2.2 h2∧RdT R S a.2.1 hB h2∧a.2.2.1.pg.length≤2000∧a.2.2.1.out.length≤s.out.length+a.1∧match a.2.2.2 with
   |false=>itemsS z img b ⟨s.pg,d,s.out⟩ l=itemsS z img b a.2.2.1 (l.drop a.1)∧Fine (pages z img) a.2.2.1.pg
   |true=>itemsS z img b ⟨s.pg,d,s.out⟩ l=none) (0,S,⟨s.pg,d,s.out⟩,false) (by exact hsub) ⟨Nat.zero_le _,kB,⟨Su,Sw,u,w,ip⟩,.refl _,by simp only; omega,Nat.le_refl _,by simp,f⟩ ?_
 rintro ⟨j,S1,s1,bad⟩ h2 ⟨hj,k2,i2,t2,pgl,outl,st⟩ next
 dsimp only at hj i2 t2 pgl outl st next ⊢
 have n2:=t2.nx
 have ls3:OwnLS It.cs 123 5 (fun c=>h.next+2≤c∧c<h1.next) h2 u8 l:=t2.Ls lsB fun c q=>⟨by omega,fun r=>by have:=lowS c r; omega⟩
 have gb3:h2.get (h.next+1)=some (.cells 67 b.cs true):=(t2.old _ (by omega) (by omega) (fun r=>by have:=lowS _ r; omega)).trans gbB
 have fin:RdI z img R S1 s1 bad h2→j=l.length∨bad=true→RdP z img R S h (itemsS z img b ⟨s.pg,d,s.out⟩ l) (.tuple []) h2:=fun i3 q=>by
  refine ⟨rfl,S1,s1,bad,i3,tB.trans t2,?_⟩
  cases bad with
  |true=>rw [show itemsS z img b ⟨s.pg,d,s.out⟩ l=none from st]
  |false =>
   rcases q with q|q
   ·rw [st.1,q,List.drop_length]; exact ⟨rfl,rfl⟩
   ·cases q
 have fin2:=fin i2
 obtain ⟨Su1,Sw1,u1,w1,i3⟩:=i2
 have g3:=i3.g
 have rl3:=i3.rl
 by_cases cj:j<l.length
 case neg =>
  refine walk ?_
  exact jg_nil fun tm hs=>ends_normal hs rfl (fin2 (.inl (by omega)))
 cases bad with
 |true =>
  refine walk ?_
  exact jg_nil fun tm hs=>ends_normal hs rfl (fin2 (.inr rfl))
 |false =>
 obtain ⟨st1,st2⟩:=st
 have pf1:=st2.len
 have low1:=i3.low
 have grow1:=t2.grow
 obtain ⟨y,hy⟩:∃ y,l[j]?=some y:=⟨l[j],List.getElem?_eq_getElem cj⟩
 obtain ⟨B,q,e',all,rw',hb',hg,hpl,he,a1⟩:=ls3.ls.at It.csl hy
 have edr:l.drop j=y::l.drop (j+1):=by
  rw [List.drop_eq_getElem_cons cj]
  congr 1
  rw [List.getElem?_eq_getElem cj] at hy
  exact Option.some.inj hy
 have est:itemsS z img b ⟨s.pg,d,s.out⟩ l=match itemS z img b s1 y with
  |none=>none
  |some s'=>itemsS z img b s' (l.drop (j+1)):=by rw [st1,edr]; rfl
 refine walk ?_
 refine jg_drawn (q:=8) (ms:=[0,0,0,6,14,30,63,127]) (hl:=[[64,65,66,67,68],[63,65],[63,64],[63],[63],[63],[],[]]) hok rfl (by kernel_rfl) (by kernel_rfl) rfl ?_
 refine walk ?_
 refine jd_call (rinside_g (b:=b) (k:=y.key)) rfl rfl rfl rfl rfl rfl ?_
 rintro _ h4 ⟨rfl,x4⟩
 have n4:h2.next+8≤h4.next:=x4.nx
 have i4:=i3.ext (Ext.trans (Ext.more (Ext.refl h2) k2 8) x4)
 have g4:=i4.g
 have rl4:=i4.rl
 have k4:h4.ok:=x4.ok (Heap.ok_more k2 8)
 have x24:Ext h2 h4:=Ext.trans (Ext.more (Ext.refl h2) k2 8) x4
 refine walk ?_
 refine gj_cut1 (ι:=Bool) (fun _=>[(0,.ptr R 0),(2,.int .i64 d),(7,.ptr (h.next+1) 0),(8,u8),(10,.int .i64 (j:Nat)),(11,.str y.val)]) (fun x g=>g.ok∧RdI z img R S1 s1 x g∧RdT R S1 S1 h2 g∧x = !b.inside y.key) ?_ ?_
 ·intro k' join
  cases ci:b.inside y.key with
  |true =>
   refine walk ?_
   exact join false (by exact hsub) ⟨k4,⟨Su1,Sw1,u1,w1,i4⟩,.ext x24,by rw [ci]; rfl⟩
  |false =>
   refine walk ?_
   exact join true (by exact hsub) ⟨ok_st k4 _ _ rl4,⟨Su1,Sw1,u1,w1,i4.put s1.deep true⟩,(RdT.ext x24).trans (.put rl4 _),by rw [ci]; rfl⟩
 clear x4 x24 i4 g4 rl4 k4 n4 g3 rl3 a1 hg hb' hpl he i3
 clear h4
 rintro bad g5 ⟨k5,i5,t5,eb⟩
 have n5:=t5.nx
 have dS:∀ c,h.next+2≤c∧c<h1.next→c≠R∧¬ S1 c:=fun c q=>⟨by omega,fun r=>by
  rcases grow1 c r with r|r
  ·have:=lowS c r; omega
  ·omega⟩
 have ls5:=t5.Ls ls3 dS
 obtain ⟨B5,q5,e5,all5,rw5,hb5,hg5,hpl5,he5,a1⟩:=ls5.ls.at It.csl hy
 have it:itemS z img b s1 y=if bad=false then (match y.over with
   |true=>match overS z img y.head y.len with
    |none=>none
    |some (v,ps)=>match comesS s1.pg ps with
     |none=>none
     |some q=>some ⟨q,s1.deep,s1.out++[⟨y.key,v⟩]⟩
   |false=>some ⟨s1.pg,s1.deep,s1.out++[⟨y.key,y.val⟩]⟩) else none:=by
  unfold itemS
  rw [eb]
  cases b.inside y.key<;>rfl
 refine jg_seq ?_
 refine gj_cut1 (ι:=(Nat→Prop)×Rs×Bool×List UInt8) (fun x=>[(0,.ptr R 0),(2,.int .i64 d),(7,.ptr (h.next+1) 0),(8,u8),(10,.int .i64 (j:Nat)),(11,.str x.2.2.2)]) (fun x g=>g.ok∧RdI z img R x.1 x.2.1 x.2.2.1 g∧RdT R S1 x.1 h2 g∧x.2.1.out=s1.out∧x.2.1.pg.length≤2000∧match x.2.2.1 with
   |false=>itemS z img b s1 y=some ⟨x.2.1.pg,x.2.1.deep,s1.out++[⟨y.key,x.2.2.2⟩]⟩∧Fine (pages z img) x.2.1.pg
   |true=>itemS z img b s1 y=none) ?_ ?_
 ·intro k' join
  obtain ⟨Su5,Sw5,u5,w5,i5⟩:=i5
  have g5R:=i5.g
  have rl5:=i5.rl
  rcases Bool.eq_false_or_eq_true y.over with ov|ov
  case inr =>
   rw [ov] at it
   refine walk ?_
   refine join (S1,s1,bad,y.val) (by exact hsub) ⟨k5,⟨Su5,Sw5,u5,w5,i5⟩,t5,rfl,pgl,?_⟩
   cases bad with
   |true=>exact it
   |false=>exact ⟨it,st2⟩
  rw [ov] at it
  have hl1:y.head<4294967296:=by
   have:=(lm.1 j y hy).1.2
   rcases this with q|q
   ·have:=q.2.2.2.2.2; omega
   ·have:=q.1; rw [ov] at this; cases this
  refine walk ?_
  refine jg_drawn (q:=26) (ms:=[0,1,3,7,0,16,48,112,0,0,768,1792,3840,0,0,24576,57344,122880,262143,524287,1048575,1048575,1048575,2097151,12582911,33554431]) (hl:=[[84,85,86,87,88,89,90,91,92,93,94,95,96,97],[84,85,86,87,88,89,90,91,92,93,94,95,96,97],[84,85,86,87,88,89,90,91,92,93,94,95,96,97],[84,85,86,87,88,89,90,91,92,93,94,95,96,97],[80,81,82,83,88,89,90,91,92,93,94,95,96,97],[80,81,82,83,88,89,90,91,92,93,94,95,96,97],[80,81,82,83,88,89,90,91,92,93,94,95,96,97],[80,81,82,83,88,89,90,91,92,93,94,95,96,97],[80,81,82,83,84,85,86,87,89,93,94,95,96,97],[80,81,82,83,84,85,86,87,88,93,94,95,96,97],[80,81,82,83,84,85,86,87,93,94,95,96,97],[80,81,82,83,84,85,86,87,93,94,95,96,97],[80,81,82,83,84,85,86,87,93,94,95,96,97],[80,81,82,83,84,85,86,87,88,89,90,91,92,94],[80,81,82,83,84,85,86,87,88,89,90,91,92,93],[80,81,82,83,84,85,86,87,88,89,90,91,92],[80,81,82,83,84,85,86,87,88,89,90,91,92],[80,81,82,83,84,85,86,87,88,89,90,91,92],[],[],[100,101],[99,101,12],[99,100,12,13],[100,101],[101],[]]) hok rfl (by kernel_rfl) (by kernel_rfl) rfl ?_
  refine walk ?_
  refine jd_call (rover_g (n:=n) (z:=z) (img:=img) (hd:=y.head) (ln:=y.len) (by omega) (Heap.ok_more k5 26) hi hl1) rfl rfl rfl rfl rfl rfl ?_
  rintro v7 h7 ⟨x7,c7⟩
  have n7:g5.next+26≤h7.next:=x7.nx
  have x57:Ext g5 h7:=Ext.trans (Ext.more (Ext.refl g5) k5 26) x7
  have i7:=i5.ext x57
  have g7R:=i7.g
  have rl7:=i7.rl
  have k7:h7.ok:=x57.ok k5
  cases e7:overS z img y.head y.len with
  |none =>
   rw [e7] at c7
   obtain ⟨ec,ec0,rfl⟩:=c7
   rw [e7] at it
   refine walk ?_
   refine jg_loop1 ?_
   refine walk ?_
   refine join (S1,⟨s1.pg,s1.deep,s1.out⟩,true,[]) (by exact hsub) ⟨ok_st k7 _ _ rl7,⟨Su5,Sw5,u5,w5,i7.put s1.deep true⟩,t5.trans ((RdT.ext x57).trans (.put rl7 _)),rfl,pgl,?_⟩
   cases bad with
   |true=>exact it
   |false=>exact it
  |some r7 =>
   obtain ⟨v8,ps⟩:=r7
   rw [e7] at c7
   obtain ⟨u8',rfl,lps⟩:=c7
   rw [e7] at it
   have it:itemS z img b s1 y=if bad=false then (match comesS s1.pg ps with
     |none=>none
     |some q=>some ⟨q,s1.deep,s1.out++[⟨y.key,v8⟩]⟩) else none:=it
   obtain ⟨ol,oln,-,-⟩:=over_lt e7
   have low5:=i5.low
   have lps':OwnLS u32c 22 1 (fun c=>g5.next+26≤c∧c<h7.next) h7 u8' ps:=(Own.to_s lps).mono fun c q r=>⟨q,r⟩
   have lu8:=lps'.ls.len
   have nu8:=lps'.ls.ns
   refine walk ?_
   refine jg_loop (ι:=Nat×(Nat→Prop)×Rs×Bool) (fun a=>ps.length-a.1) (fun a=>[(0,.ptr R 0),(2,.int .i64 d),(7,.ptr (h.next+1) 0),(8,u8),(10,.int .i64 (j:Nat)),(12,.str v8),(13,u8'),(15,.int .i64 (a.1:Nat))]) (fun a h8=>a.1≤ps.length∧h8.ok∧RdI z img R a.2.1 a.2.2.1 a.2.2.2 h8∧RdT R S1 a.2.1 h7 h8∧a.2.2.1.out=s1.out∧a.2.2.1.deep=s1.deep∧a.2.2.1.pg.length≤s1.pg.length+a.1∧match a.2.2.2 with
     |false=>bad=false∧comesS s1.pg (ps.take a.1)=some a.2.2.1.pg∧Fine (pages z img) a.2.2.1.pg
     |true=>bad=true∨comesS s1.pg ps=none) (0,S1,s1,bad) (by exact hsub) ⟨Nat.zero_le _,k7,⟨Su5,Sw5,u5,w5,i7⟩,.refl _,rfl,rfl,Nat.le_refl _,?_⟩ ?_
   ·cases bad with
    |true=>exact .inl rfl
    |false=>exact ⟨rfl,rfl,st2⟩
   rintro ⟨i8,S8,s8,bad8⟩ h8 ⟨hi8,k8,ii8,t8,eo8,ed8,pl8,st8⟩ next8
   dsimp only at hi8 ii8 t8 eo8 ed8 pl8 st8 next8 ⊢
   by_cases c8:i8<ps.length
   case neg =>
    have e8:ps.take i8=ps:=List.take_of_length_le (by omega)
    rw [e8] at st8
    refine walk ?_
    refine join (S8,s8,bad8,v8) (by exact hsub) ⟨k8,ii8,t5.trans ((RdT.ext x57).trans t8),eo8,?_,?_⟩
    ·cases bad8 with
     |true=>simp only; omega
     |false=>simp only; omega
    ·cases bad8 with
     |true =>
      rcases st8 with q|q
      ·rw [q] at it; exact it
      ·rw [q] at it
       cases bad with
       |true=>exact it
       |false=>exact it
     |false =>
      obtain ⟨q1,q2,q3⟩:=st8
      rw [q1,q2] at it
      rw [ed8]
      exact ⟨it,q3⟩
   obtain ⟨m8,hm8⟩:∃ m8,ps[i8]?=some m8:=⟨ps[i8],List.getElem?_eq_getElem c8⟩
   have lp8:=t8.Ls lps' fun c q=>⟨by omega,fun r=>by have:=low5 c r; omega⟩
   obtain ⟨B8,q8,e8',all8,rw8,hb8,hg8,hpl8,he8,a2⟩:=lp8.ls.at u32c_len hm8
   have he8:(all8.drop q8).take 1=[.int .u32 m8]:=he8
   refine walk ?_
   refine jo_call (rcome_g (m:=m8) k8 ii8 (by omega)) rfl rfl rfl rfl ?_
   rintro _ h9 ⟨rfl,S9,ii9,t9⟩
   have et8:ps.take (i8+1)=ps.take i8++[m8]:=by rw [List.take_add_one,hm8]; rfl
   refine walk ?_
   refine next8 (i8+1,S9,⟨s8.pg++[m8],s8.deep,s8.out⟩,bad8||decide (m8∈s8.pg)) (by simp only; omega) (by exact hsub) ⟨by simp only; omega,t9.ok k8,ii9,t8.trans t9,eo8,ed8,by simp only [List.length_append,List.length_cons,List.length_nil]; omega,?_⟩
   cases bad8 with
   |true=>exact st8
   |false =>
    obtain ⟨q1,q2,q3⟩:=st8
    have sn:comesS s1.pg (ps.take (i8+1))=comeS s8.pg m8:=by rw [et8,comesS_snoc,q2]; rfl
    by_cases cm:m8∈s8.pg
    ·rw [Bool.false_or,decide_eq_true cm]
     have sn0:comeS s8.pg m8=none:=by unfold comeS; rw [if_pos cm]
     rw [sn0] at sn
     refine .inr ?_
     rw [← List.take_append_drop (i8+1) ps]
     exact comesS_none _ _ _ sn
    ·rw [Bool.false_or,decide_eq_false cm]
     have sn1:comeS s8.pg m8=some (s8.pg++[m8]):=by unfold comeS; rw [if_neg cm]
     exact ⟨q1,sn.trans sn1,q3.come sn1 (ol m8 (List.mem_of_getElem? hm8)).1⟩
 rintro ⟨S6,s6,bad6,v6⟩ g6 ⟨k6,i6,t6,eo,pl6,st6⟩
 dsimp only at i6 t6 eo pl6 st6 ⊢
 obtain ⟨Su6,Sw6,u6,w6,i6⟩:=i6
 have g6R:=i6.g
 have rl6:=i6.rl
 have low6:=i6.low
 have n6:=t6.nx
 have ls6:=t6.Ls ls3 dS
 clear ls5 a1 hg5 hb5 hpl5 he5
 obtain ⟨B6,q6,e6,all6,rw6,hb6,hg6,hpl6,he6,a1⟩:=ls6.ls.at It.csl hy
 refine jg_drawn (q:=17) (ms:=[0,0,2,6,14,0,0,96,224,480,0,2016,4064,8190,16383,32767,65535]) (hl:=[[121,122,123,124,125,126,127,128,129,130,131,132,133],[120,125,126,127,128,129,130,131,132],[120,125,126,127,128,129,130,131,132],[120,125,126,127,128,129,130,131,132],[120,125,126,127,128,129,130,131,132],[120,121,122,123,124,126,130],[120,121,122,123,124,125,130],[120,121,122,123,124,130],[120,121,122,123,124,130],[120,121,122,123,124,130],[120,121,122,123,124,125,126,127,128,129],[120,121,122,123,124],[120,121,122,123,124],[120],[],[],[]]) hok rfl (by kernel_rfl) (by kernel_rfl) rfl ?_
 refine walk ?_
 have ol6:s6.out.length≤1000000:=by rw [eo]; have:=fl; omega
 obtain ⟨X,hX⟩:∃ X,X=(Heap.mk g6.t (g6.next+17)).set (g6.next+12) (.cells 136 (Pr.cs ⟨y.key,v6⟩) true):=⟨_,rfl⟩
 have nX:X.next=g6.next+17:=by rw [hX]; rfl
 have kX:X.ok:=by rw [hX]; exact ok_st (Heap.ok_more k6 17) _ _ (by show g6.next+12<g6.next+17; omega)
 have xX:Ext g6 X:=by rw [hX]; exact Ext.st (Ext.more (Ext.refl g6) k6 17) _ _ (by omega) (by show g6.next+12<g6.next+17; omega)
 have gX:X.get (g6.next+12)=some (.cells 136 (Pr.cs ⟨y.key,v6⟩) true):=by rw [hX]; exact Heap.gs _ _ _
 have iX:=i6.ext xX
 obtain ⟨v9,h9,e9,o9,t9⟩:=app_row_s (T:=TV n) (st:=59) (rest:=[59]) (h:=X) (x:=(⟨y.key,v6⟩:Pr)) iX.ow gX (by omega) ol6 rfl rfl rfl rfl rfl (by exact Nat.le_of_ble_eq_true rfl) rfl (by decide) rfl
 have n9:=t9.nx
 obtain ⟨vc9,vo9⟩:=OwnS.one o9
 obtain ⟨iF,tF⟩:=RdW.out (T:=TV n) iX kX o9 t9
 have g9R:h9.get R=some (.cells 61 [.int .i64 z,.str img,u6,.int .i64 s6.deep,.bool bad6,w6] true):=(t9.old R (by omega) (fun q=>i6.nR (i6.sw _ q))).trans iX.g
 rw [hX] at e9
 refine walk ?_
 refine next (j+1,(fun c=>S6 c∨(X.next≤c∧c<h9.next)),⟨s6.pg,s6.deep,s6.out++[⟨y.key,v6⟩]⟩,bad6) (by simp only; omega) (by exact hsub) ⟨by simp only; omega,ok_st (t9.ok kX) _ _ (by have:=iX.rl; omega),⟨Su6,_,u6,v9,iF⟩,(t2.trans t6).trans ((RdT.ext xX).trans tF),pl6,?_,?_⟩
 ·simp only [List.length_append,List.length_cons,List.length_nil]; rw [eo]; omega
 ·cases bad6 with
  |true =>
   show itemsS z img b ⟨s.pg,d,s.out⟩ l=none
   rw [est,show itemS z img b s1 y=none from st6]
  |false =>
   obtain ⟨q1,q2⟩:=st6
   refine ⟨?_,q2⟩
   rw [est,q1,eo]
end Go.Proofs.YthdlebegkhnbiaaGreat
