/- What the functions of this part answer at any input, told by the rules over the evaluator. Conditions: those that each theorem states. -/
import Derived.Test.YtejfbaecadbdiaaGreatGar
import Derived.Test.YtejfbaecadbdiaaGreatGaq
import Derived.Test.YtejfbaecadbdiaaGreatChc
set_option linter.unusedVariables false
set_option linter.unusedSimpArgs false
open Go Ev
namespace Go.Proofs.YtejfbaecadbdiaaGreat
set_option maxRecDepth 10000
set_option maxHeartbeats 4000000
def c9f:AV:=.iface 183 (.agg [])
theorem a4s {n:Nat}(b:Bool) (h:a0a):Wp (TV n) (.call 81 [.bool b] h) (fun r=>(∃ v h2,r=.ret v h2∧(b=true∧v=.tuple []∧h=h2))∨∃ v h2,r=.thrown v h2∧(b=false∧v=c9f∧h=h2)):=by
 refine a4k (a1x rfl rfl) rfl rfl ?_
 cases b with
 |true =>
  refine walk ?_
  refine a2e fun tm hs=>?_
  exact a1z (vs:=[]) hs rfl rfl (.inl ⟨_,_,rfl,rfl,rfl,rfl⟩)
 |false =>
  refine walk ?_
  exact a8k rfl rfl fun tm hs=>a1g rfl (.inr ⟨_,_,rfl,rfl,rfl,rfl⟩)
structure GoW (z:Int) (img:List UInt8) (R M:Nat) (S Sw:Nat→Prop) (w:AV) (s:Rs) (h:a0a):Prop where
 g:h.get R=some (.cells 152 [.int .i64 z,.str img,.map M,w,.int .i64 s.deep] true)
 rl:R<h.next
 nR:¬ S R
 m:a7v h M s.pg
 sm:S M
 nM:¬ Sw M
 low:∀ c,S c→c<h.next
 sw:∀ c,Sw c→S c
 ow:a1a Pr.cs 108 2 Sw h w s.out
def GoI (z:Int) (img:List UInt8) (R M:Nat) (S:Nat→Prop) (s:Rs) (h:a0a):Prop:=∃ Sw w,GoW z img R M S Sw w s h
theorem GoW.keep {z:Int}{img:List UInt8}{R M:Nat}{S Sw:Nat→Prop}{w:AV}{s:Rs}{h h':a0a}(i:GoW z img R M S Sw w s h) (nx:h.next≤h'.next) (k:∀ c,c=R∨S c→h'.get c=h.get c):GoW z img R M S Sw w s h' :=
 ⟨(k _ (.inl rfl)).trans i.g,Nat.lt_of_lt_of_le i.rl nx,i.nR,i.m.keep (k _ (.inr i.sm)) nx,i.sm,i.nM,fun c q=>Nat.lt_of_lt_of_le (i.low c q) nx,i.sw,i.ow.keep (fun c q _=>k c (.inr (i.sw c q))) nx⟩
theorem GoW.ext {z:Int}{img:List UInt8}{R M:Nat}{S Sw:Nat→Prop}{w:AV}{s:Rs}{h h':a0a}(i:GoW z img R M S Sw w s h) (x:Ext h h'):GoW z img R M S Sw w s h' :=
 i.keep x.nx fun c q=>x.old c (by rcases q with rfl|q; exact i.rl; exact i.low c q)
theorem GoW.put {z:Int}{img:List UInt8}{R M:Nat}{S Sw:Nat→Prop}{w:AV}{s:Rs}{h:a0a}(i:GoW z img R M S Sw w s h) (d:Nat):GoW z img R M S Sw w ⟨s.pg,d,s.out⟩ (h.set R (.cells 152 [.int .i64 z,.str img,.map M,w,.int .i64 d] true)) :=
 ⟨a0a.gs _ _ _,i.rl,i.nR,i.m.keep (a0a.gn _ _ _ _ (fun e=>i.nR (e ▸ i.sm))) (Nat.le_refl _),i.sm,i.nM,i.low,i.sw,i.ow.keep (fun c q _=>a0a.gn _ _ _ _ (fun e=>i.nR (e ▸ i.sw c q))) (Nat.le_refl _)⟩
def GoP (z:Int) (img:List UInt8) (R M:Nat) (S:Nat→Prop) (h:a0a) (r:Option Rs) (q:Res):Prop :=
 (∃ v h2,q=.ret v h2∧∃ t S',r=some t∧v=.tuple []∧GoI z img R M S' t h2∧RdT R S S' h h2)∨∃ v h2,q=.thrown v h2∧(r=none∧v=c9f∧∃ S',RdT R S S' h h2)
theorem d4f {n:Nat}{z:Int}{img:List UInt8}{R M:Nat}{S:Nat→Prop}{s:Rs}{m:Nat}{h:a0a}(hk:h.ok) (i:GoI z img R M S s h):Wp (TV n) (.call 82 [.ptr R 0,.int .u32 m] h) (GoP z img R M S h (if m<2 then none else(a3h s.pg m).map fun q=>⟨q,s.deep,s.out⟩)):=by
 obtain⟨Sw,w,i⟩:=i
 have g:=i.g
 have rl:=i.rl
 refine a4k (a1x rfl rfl) rfl rfl ?_
 refine walk ?_
 refine a1k rfl rfl rfl (c8u c7z i.m.f6a (v:=.agg []) (b:=decide (m∈s.pg)) (by split<;>rfl) (by split<;>simp_all) rfl rfl rfl rfl rfl rfl) ?_
 by_cases c1:m∈s.pg
 ·have e:(if m<2 then none else(a3h s.pg m).map fun q=>(⟨q,s.deep,s.out⟩:Rs))=none:=by
   unfold a3h
   rw[if_pos c1]
   split<;>rfl
  rw[decide_eq_true c1,e]
  refine walk ?_
  refine a1p (a4s false _) rfl rfl rfl rfl (fun _ _ f=>by cases f.1) ?_
  rintro _ _ ⟨-,rfl,rfl⟩ tm hs
  exact a1g rfl (.inr ⟨_,_,rfl,rfl,rfl,S,.ext (by exact a0j)⟩)
 rw[decide_eq_false c1]
 by_cases c2:(m:Int)<2
 ·rw[if_pos (by omega)]
  refine walk ?_
  refine a1p (a4s false _) rfl rfl rfl rfl (fun _ _ f=>by cases f.1) ?_
  rintro _ _ ⟨-,rfl,rfl⟩ tm hs
  exact a1g rfl (.inr ⟨_,_,rfl,rfl,rfl,S,.ext (by exact a0j)⟩)
 rw[if_neg (by omega)]
 have e:a3h s.pg m=some (s.pg++[m]):=by unfold a3h; rw[if_neg c1]
 rw[e]
 refine walk ?_
 refine a1p (a4s true _) rfl rfl rfl rfl ?_ (fun _ _ f=>by cases f.1)
 rintro _ _ ⟨-,rfl,rfl⟩
 refine walk ?_
 have xA:Ext h ((h.alloc (.cells 182 [] true)).set h.next (.cells 182 [] true)):=Ext.st (Ext.al (Ext.refl _) _) _ _ (Nat.le_refl _) (by show h.next<h.next+1; omega)
 have iA:=i.ext xA
 refine b0q rfl rfl (d0s (iA.m.ins (T:=TV n) (t:=150) c1 rfl rfl) rfl rfl rfl rfl) ?_
 refine walk ?_
 refine a2e fun tm hs=>?_
 have nMR:M≠R:=fun e=>i.nR (e ▸ i.sm)
 have mlt:=iA.m.1
 refine a1z (vs:=[]) hs rfl rfl (.inl ⟨_,_,rfl,_,S,rfl,rfl,⟨Sw,w,?_⟩,?_⟩)
 ·exact⟨(a0a.gn _ _ _ _ (fun e=>nMR e.symm)).trans iA.g,iA.rl,i.nR,iA.m.put,i.sm,i.nM,iA.low,i.sw,iA.ow.keep (fun c q _=>a0a.gn _ _ _ _ (fun e=>i.nM (e ▸ q))) (Nat.le_refl _)⟩
 ·exact(RdT.ext xA).trans ⟨Nat.le_refl _,fun c hc hr hs=>a0a.gn _ _ _ _ (fun e=>hs (e ▸ i.sm)),fun k=>a0w k _ _ mlt,fun c q=>.inl q⟩
set_option maxRecDepth 10000
set_option maxHeartbeats 4000000
theorem d1k {n:Nat}{b:Bd}{k:List UInt8}{h:a0a}:a0l (TV n) 144 [.agg b.cs,.str k] h (fun v h'=>v=.bool (b.inside k)∧Ext h h'):=by
 refine a0r (a1x rfl rfl) rfl rfl ?_
 obtain⟨low,less,high⟩:=b
 unfold Bd.inside Bd.cs
 dsimp only
 cases c1:bytesLess k low with
 |true =>
  have c2:(!bytesLess k low)=false:=by rw[c1]; rfl
  refine walk ?_
  exact a0e (by exact hres) ⟨rfl,by exact a0j⟩
 |false =>
  have c2:(!bytesLess k low)=true:=by rw[c1]; rfl
  cases high with
  |false =>
   refine walk ?_
   exact a0e (by exact hres) ⟨rfl,by exact a0j⟩
  |true =>
   refine walk ?_
   exact a0e (by exact hres) ⟨by simp,by exact a0j⟩
theorem GoW.out {T:Ev.a0k}{z:Int}{img:List UInt8}{R M:Nat}{S Sw:Nat→Prop}{w v:AV}{s:Rs}{x:Pr}{X h:a0a}(i:GoW z img R M S Sw w s X) (hX:X.ok) (o:a1a Pr.cs 108 2 (fun b=>Sw b∨X.next≤b) h v (s.out++[x])) (t:Ev.Touch Sw X h) :
  GoW z img R M (fun c=>S c∨(X.next≤c∧c<h.next)) (fun c=>(Sw c∨X.next≤c)∧c<h.next) v ⟨s.pg,s.deep,s.out++[x]⟩ (h.set R (.cells 152 [.int .i64 z,.str img,.map M,v,.int .i64 s.deep] true))∧RdT R S (fun c=>S c∨(X.next≤c∧c<h.next)) X (h.set R (.cells 152 [.int .i64 z,.str img,.map M,v,.int .i64 s.deep] true)):=by
 have nx:=t.nx
 have rl:=i.rl
 have nMR:M≠R:=fun e=>i.nR (e ▸ i.sm)
 have mlt:=i.m.1
 have y:∀ c,c<X.next→¬ Sw c→h.get c=X.get c:=fun c hc hs=>t.old c hc hs
 refine⟨⟨a0a.gs _ _ _,by show R<h.next; omega,?_,i.m.keep ((a0a.gn _ _ _ _ nMR).trans (y M mlt i.nM)) (by show X.next≤h.next; omega),.inl i.sm,?_,?_,?_,?_⟩,by show X.next≤h.next; omega,fun c hc hr hs=>(a0a.gn _ _ _ _ hr).trans (y c hc fun q=>hs (i.sw c q)),fun _=>a0w (t.ok hX) _ _ (by omega),fun c q=>?_⟩
 ·rintro(q|q)
  ·exact i.nR q
  ·omega
 ·rintro⟨q|q,r⟩
  ·exact i.nM q
  ·omega
 ·rintro c (q|q)
  ·show c<h.next; have:=i.low c q; omega
  ·exact q.2
 ·rintro c ⟨q|q,r⟩
  ·exact .inl (i.sw c q)
  ·exact .inr ⟨q,r⟩
 ·refine a1u.mono (a1u.keep o (fun c q hl=>a0a.gn _ _ _ _ fun e=>?_) (Nat.le_refl _)) fun c q r=>⟨q,r⟩
  subst e
  rcases q with q|q
  ·exact i.nR (i.sw _ q)
  ·have q:X.next≤c:=q; omega
 ·rcases q with q|q
  ·exact .inl q
  ·exact .inr q.1
theorem e3f {n:Nat}(hn:6<n){z:Int}{img:List UInt8}{R M:Nat}{S:Nat→Prop}{s:Rs}{p:Pg}{d:Nat}{b:Bd}{h:a0a}(hk:h.ok) (hi:img.length≤20000) (i:GoI z img R M S s h) (f:a5n (pages z img) s.pg) (ho:s.out.length+1400≤1400*s.pg.length) (hb:p.body.length≤100000) (hc:p.count<1000000000):Wp (TV n) (.call 143 [.ptr R 0,p.av,.int .i64 d,.agg b.cs] h) (GoP z img R M S h (b1n z img p d b s)):=by
 obtain⟨Sw,w,i⟩:=i
 have pn:=b1u (z:=z) hi
 have fl:=f.len
 have rl:=i.rl
 have lowS:=i.low
 have gR:=i.g
 refine a4k (a1x rfl rfl) rfl rfl ?_
 refine walk ?_
 by_cases cd:s.deep=0∨s.deep=d
 case neg =>
  have d1:¬ (s.deep:Int)=0:=fun q=>cd (.inl (by omega))
  have d2:¬ (s.deep:Int)=(d:Int):=fun q=>cd (.inr (by omega))
  have e:b1n z img p d b s=none:=by
   unfold b1n
   cases ofI p with
   |none=>rfl
   |some l=>exact if_neg cd
  rw[e]
  refine walk ?_
  refine a1p (a4s false _) rfl rfl rfl rfl (fun _ _ f=>by cases f.1) ?_
  rintro _ _ ⟨-,rfl,rfl⟩ tm hs
  exact a1g rfl (.inr ⟨_,_,rfl,rfl,rfl,S,.ext (by exact a0j)⟩)
 refine b5b (ι:=Unit) (fun _=>[(0,.ptr R 0),(2,.int .i64 d),(5,.ptr h.next 0),(7,.ptr (h.next+1) 0)]) (fun _ g=>(h.alloc (.cells 64 p.cs true)).alloc (.cells 188 b.cs true)=g) ?_ ?_
 ·intro k' join
  by_cases d1:(s.deep:Int)=0
  ·refine walk ?_
   refine a1p (a4s true _) rfl rfl rfl rfl ?_ (fun _ _ f=>by cases f.1)
   rintro _ _ ⟨-,rfl,rfl⟩
   refine walk ?_
   exact join () (by exact hsub) rfl
  ·have d2:(s.deep:Int)=(d:Int):=by omega
   refine walk ?_
   refine a1p (a4s true _) rfl rfl rfl rfl ?_ (fun _ _ f=>by cases f.1)
   rintro _ _ ⟨-,rfl,rfl⟩
   refine walk ?_
   exact join () (by exact hsub) rfl
 rintro⟨⟩ _ rfl
 have x0:Ext h ((h.alloc (.cells 64 p.cs true)).alloc (.cells 188 b.cs true)):=by exact a0j
 have i0:=(i.ext x0).put d
 have t0:=(RdT.ext (R:=R) (S:=S) x0).trans (.put (by show R<h.next+1+1; omega) (.cells 152 [.int .i64 z,.str img,.map M,w,.int .i64 d] true))
 refine walk ?_
 refine OJ.gen [(0,.ptr R 0),(2,.int .i64 d),(5,.ptr h.next 0),(7,.ptr (h.next+1) 0),(36,p.av)] (fun g=>g.ok∧g.next=h.next+2∧GoW z img R M S Sw w ⟨s.pg,d,s.out⟩ g∧RdT R S S h g∧g.get h.next=some (.cells 64 p.cs true)∧g.get (h.next+1)=some (.cells 188 b.cs true)) (by exact hsub) ⟨by exact hok,rfl,i0,t0,by exact a0g,by exact a0g⟩ ?_
 clear i gR i0 t0 x0
 rintro hA ⟨kA,nA,i,tA,gp,gb⟩
 have gR:=i.g
 have rl:=i.rl
 refine walk ?_
 refine a0b (d6d (n:=n) (by omega) (p:=p) (by exact hok) hb hc) rfl rfl rfl rfl ?_
 rintro v h1 ⟨x1,c3⟩
 have n1:=x1.nx
 have k1:=x1.ok kA
 have i1:=i.ext x1
 have t1:=tA.trans (.ext x1)
 have gb1:=(x1.old _ (by omega)).trans gb
 unfold b1n
 cases e:ofI p with
 |none =>
  rw[e] at c3
  subst c3
  refine walk ?_
  refine a1p (a4s false _) rfl rfl rfl rfl (fun _ _ f=>by cases f.1) ?_
  rintro _ _ ⟨-,rfl,rfl⟩ tm hs
  exact a1g rfl (.inr ⟨_,_,rfl,rfl,rfl,S,t1⟩)
 |some l =>
 rw[e] at c3
 obtain⟨u8,rfl,ls,-⟩:=c3
 dsimp only
 rw[if_pos cd]
 obtain⟨ll,lm⟩:=c8e e
 have ls1:a1a It.cs 175 5 (fun c=>hA.next≤c∧c<h1.next) h1 u8 l:=(Own.d2d ls).mono fun c q r=>⟨q,r⟩
 have lu:=ls1.ls.len
 have nu:=ls1.ls.ns
 refine walk ?_
 refine a1p (a4s true _) rfl rfl rfl rfl ?_ (fun _ _ f=>by cases f.1)
 rintro _ _ ⟨-,rfl,rfl⟩
 refine walk ?_
 refine GJ.gen [(0,.ptr R 0),(7,.ptr (h.next+1) 0),(43,u8),(44,.int .i64 (l.length:Nat)),(45,.int .i64 0)] (fun g=>h1=g) (by exact hsub) rfl ?_
 rintro _ rfl
 clear x1 ls gR gp gb
 refine a0n (ι:=Nat×(Nat→Prop)×Rs) (fun a=>l.length-a.1) (fun a=>[(0,.ptr R 0),(7,.ptr (h.next+1) 0),(43,u8),(44,.int .i64 (l.length:Nat)),(45,.int .i64 (a.1:Nat))]) (fun a h2=>a.1≤l.length∧h2.ok∧GoI z img R M a.2.1 a.2.2 h2∧RdT R S a.2.1 h1 h2∧a.2.2.out.length≤s.out.length+a.1∧a5r z img b ⟨s.pg,d,s.out⟩ l=a5r z img b a.2.2 (l.drop a.1)∧a5n (pages z img) a.2.2.pg) (0,S,⟨s.pg,d,s.out⟩) (by exact hsub) ⟨Nat.zero_le _,k1,⟨Sw,w,i1⟩,.refl _,Nat.le_refl _,by simp,f⟩ ?_
 rintro⟨j,S1,s1⟩ h2 ⟨hj,k2,i2,t2,outl,st1,st2⟩ next
 dsimp only at hj i2 t2 outl st1 st2 next ⊢
 have n2:=t2.nx
 have ls2:a1a It.cs 175 5 (fun c=>hA.next≤c∧c<h1.next) h2 u8 l:=t2.Ls ls1 fun c q=>⟨by have:=i.rl; omega,fun r=>by have:=i.low c r; omega⟩
 have gb2:h2.get (h.next+1)=some (.cells 188 b.cs true):=(t2.old _ (by omega) (by have:=rl; omega) (fun r=>by have:=lowS _ r; omega)).trans gb1
 by_cases cj:j<l.length
 case neg =>
  refine walk ?_
  refine a2e fun tm hs=>?_
  rw[st1,List.drop_of_length_le (by omega)]
  exact a1z (vs:=[]) hs rfl rfl (.inl ⟨_,_,rfl,s1,S1,rfl,rfl,i2,t1.trans t2⟩)
 obtain⟨Sw1,w1,i3⟩:=i2
 have rl3:=i3.rl
 have low1:=i3.low
 have grow1:=t2.grow
 obtain⟨y,hy⟩:∃ y,l[j]?=some y:=⟨l[j],List.getElem?_eq_getElem cj⟩
 obtain⟨B,q,e',all,rw',hb',hg,hpl,he,a1⟩:=ls2.ls.at It.csl hy
 have edr:l.drop j=y::l.drop (j+1):=by
  rw[List.drop_eq_getElem_cons cj]
  congr 1
  rw[List.getElem?_eq_getElem cj] at hy
  exact Option.some.inj hy
 have est:a5r z img b ⟨s.pg,d,s.out⟩ l=match a7t z img b s1 y with
  |none=>none
  |some s'=>a5r z img b s' (l.drop (j+1)):=by rw[st1,edr]; rfl
 refine walk ?_
 refine a0b (d1k (b:=b) (k:=y.key)) rfl rfl rfl rfl ?_
 rintro _ h4 ⟨rfl,x4⟩
 have n4:h2.next+1≤h4.next:=x4.nx
 have x24:Ext h2 h4:=Ext.trans (by exact a0j) x4
 have g11:h4.get h2.next=some (.cells 175 y.cs true):=(x4.old _ (by show h2.next<h2.next+1; omega)).trans (by exact a0g)
 refine walk ?_
 refine a1p (a4s (b.inside y.key) _) rfl rfl rfl rfl ?_ ?_
 rotate_left
 ·rintro _ _ ⟨ci,rfl,rfl⟩ tm hs
  have en:a7t z img b s1 y=none:=by unfold a7t; rw[ci]; rfl
  rw[est,en]
  exact a1g rfl (.inr ⟨_,_,rfl,rfl,rfl,S1,(t1.trans t2).trans (.ext x24)⟩)
 rintro _ _ ⟨ci,rfl,rfl⟩
 have i4:GoW z img R M S1 Sw1 w1 s1 h4:=i3.ext x24
 have k4:=x24.ok k2
 have it:a7t z img b s1 y=match y.over with
   |true=>match a8w z img y.head y.len with
    |none=>none
    |some (v,ps)=>match a3i s1.pg ps with
     |none=>none
     |some q=>some ⟨q,s1.deep,s1.out++[⟨y.key,v⟩]⟩
   |false=>some ⟨s1.pg,s1.deep,s1.out++[⟨y.key,y.val⟩]⟩:=by
  unfold a7t
  rw[ci]
  rfl
 have dI:∀ c,h2.next≤c→c≠R∧¬ S1 c:=fun c q=>⟨by omega,fun r=>by have:=low1 c r; omega⟩
 refine walk ?_
 refine a5f (ι:=(Nat→Prop)×Rs×List UInt8) (fun x=>[(0,.ptr R 0),(7,.ptr (h.next+1) 0),(11,.ptr h2.next 0),(43,u8),(44,.int .i64 (l.length:Nat)),(45,.int .i64 (j:Nat))]) (fun x g=>g.ok∧GoI z img R M x.1 x.2.1 g∧RdT R S1 x.1 h2 g∧x.2.1.out=s1.out∧a7t z img b s1 y=some ⟨x.2.1.pg,x.2.1.deep,s1.out++[⟨y.key,x.2.2⟩]⟩∧a5n (pages z img) x.2.1.pg∧g.get h2.next=some (.cells 175 (It.cs ⟨y.key,x.2.2,y.over,y.len,y.head⟩) true)) ?_ ?_
 ·intro k' join
  rcases Bool.eq_false_or_eq_true y.over with ov|ov
  case inr =>
   rw[ov] at it
   refine walk ?_
   exact join (S1,s1,y.val) (by exact hsub) ⟨k4,⟨Sw1,w1,i4⟩,.ext x24,rfl,it,st2,g11⟩
  rw[ov] at it
  have hl1:y.head<4294967296:=by
   have:=(lm.1 j y hy).1.2
   rcases this with q|q
   ·have:=q.2.2.2.2.2; omega
   ·have:=q.1; rw[ov] at this; cases this
  have g4R:=i4.g
  have rl4:=i4.rl
  refine walk ?_
  refine a0c (q:=20) (ms:=[0,1,3,7,0,16,48,112,0,256,0,1024,4095,8191,16383,16383,16383,32767,196607,524287]) (hl:=[[61,62,63,64,65,66,67,68],[61,62,63,64,65,66,67,68],[61,62,63,64,65,66,67,68],[61,62,63,64,65,66,67,68],[57,58,59,60,65,66,67,68],[57,58,59,60,65,66,67,68],[57,58,59,60,65,66,67,68],[57,58,59,60,65,66,67,68],[57,58,59,60,61,62,63,64,67,68],[57,58,59,60,61,62,63,64,67,68],[57,58,59,60,61,62,63,64,65,66],[57,58,59,60,61,62,63,64,65,66],[],[],[71,72],[70,72,12],[70,71,12,13],[71,72],[72],[]]) hok rfl (by kernel_rfl) (by kernel_rfl) rfl ?_
  refine walk ?_
  refine a2i (e3u (n:=n) (z:=z) (img:=img) (hd:=y.head) (ln:=y.len) (by omega) (a0a.a2o k4 20) hi hl1) rfl rfl rfl rfl rfl rfl ?_
  rintro v7 h7 ⟨x7,c7⟩
  have n7:h4.next+20≤h7.next:=x7.nx
  have x47:Ext h4 h7:=Ext.trans (Ext.more (Ext.refl h4) k4 20) x7
  have i7:=i4.ext x47
  have g7R:=i7.g
  have rl7:=i7.rl
  have k7:h7.ok:=x47.ok k4
  have t7:RdT R S1 S1 h2 h7:=.ext (x24.trans x47)
  have g71:=(x47.old h2.next (by omega)).trans g11
  cases e7:a8w z img y.head y.len with
  |none =>
   rw[e7] at c7
   obtain⟨ec,ec0,rfl⟩:=c7
   rw[e7] at it
   refine walk ?_
   refine a1p (a4s false _) rfl rfl rfl rfl (fun _ _ f=>by cases f.1) ?_
   rintro _ _ ⟨-,rfl,rfl⟩ tm hs
   rw[est,it]
   exact a1g rfl (.inr ⟨_,_,rfl,rfl,rfl,S1,(t1.trans t2).trans t7⟩)
  |some r7 =>
   obtain⟨v8,ps⟩:=r7
   rw[e7] at c7
   obtain⟨u8',rfl,lps⟩:=c7
   rw[e7] at it
   have it:a7t z img b s1 y=match a3i s1.pg ps with
     |none=>none
     |some q=>some ⟨q,s1.deep,s1.out++[⟨y.key,v8⟩]⟩:=it
   obtain⟨ol,oln,-,-⟩:=c8d e7
   have lps':a1a a3a 29 1 (fun c=>h4.next+20≤c∧c<h7.next) h7 u8' ps:=lps.mono fun c q r=>⟨q,r⟩
   have lu8:=lps'.ls.len
   have nu8:=lps'.ls.ns
   refine walk ?_
   refine a1p (a4s true _) rfl rfl rfl rfl ?_ (fun _ _ f=>by cases f.1)
   rintro _ _ ⟨-,rfl,rfl⟩
   refine walk ?_
   refine a0n (ι:=Nat×(Nat→Prop)×Rs) (fun a=>ps.length-a.1) (fun a=>[(0,.ptr R 0),(7,.ptr (h.next+1) 0),(11,.ptr h2.next 0),(12,.str v8),(43,u8),(44,.int .i64 (l.length:Nat)),(45,.int .i64 (j:Nat)),(76,u8'),(77,.int .i64 (ps.length:Nat)),(78,.int .i64 (a.1:Nat))]) (fun a h8=>a.1≤ps.length∧h8.ok∧GoI z img R M a.2.1 a.2.2 h8∧RdT R S1 a.2.1 h7 h8∧a.2.2.out=s1.out∧a.2.2.deep=s1.deep∧a3i s1.pg (ps.take a.1)=some a.2.2.pg∧a5n (pages z img) a.2.2.pg) (0,S1,s1) (by exact hsub) ⟨Nat.zero_le _,k7,⟨Sw1,w1,i7⟩,.refl _,rfl,rfl,rfl,st2⟩ ?_
   rintro⟨i8,S8,s8⟩ h8 ⟨hi8,k8,ii8,t8,eo8,ed8,q2,q3⟩ next8
   dsimp only at hi8 ii8 t8 eo8 ed8 q2 q3 next8 ⊢
   have g81:=(t8.old h2.next (by omega) (by omega) (dI _ (Nat.le_refl _)).2).trans g71
   by_cases c8:i8<ps.length
   case neg =>
    have e8:ps.take i8=ps:=List.take_of_length_le (by omega)
    rw[e8] at q2
    rw[q2] at it
    have n8:=t8.nx
    obtain⟨Sw8,w8,j8⟩:=ii8
    have low8:=j8.low
    have dI8:¬ S8 h2.next:=fun r=>by
     rcases t8.grow _ r with r|r
     ·exact(dI _ (Nat.le_refl _)).2 r
     ·omega
    refine walk ?_
    refine join (S8,s8,v8) (by exact hsub) ⟨a0w k8 _ _ (by omega),⟨Sw8,w8,j8.keep (Nat.le_refl _) fun c q=>a0a.gn _ _ _ _ (by rcases q with q|q; omega; exact fun e=>dI8 (e ▸ q))⟩,⟨by show h2.next≤h8.next; omega,fun c hc hr hs=>(a0a.gn _ _ _ _ (by omega)).trans ((t7.trans t8).old c hc hr hs),fun _=>a0w k8 _ _ (by omega),(t7.trans t8).grow⟩,eo8,by rw[ed8]; exact it,q3,?_⟩
    exact a0a.gs _ _ _
   obtain⟨m8,hm8⟩:∃ m8,ps[i8]?=some m8:=⟨ps[i8],List.getElem?_eq_getElem c8⟩
   have lp8:=t8.Ls lps' fun c q=>dI c (by omega)
   obtain⟨B8,p8,e8',all8,rw8,hb8,hg8,hpl8,he8,a2⟩:=lp8.ls.at a2k hm8
   have he8:(all8.drop p8).take 1=[.int .u32 m8]:=he8
   obtain⟨om1,om2⟩:=ol m8 (List.mem_of_getElem? hm8)
   have et8:ps.take (i8+1)=ps.take i8++[m8]:=by rw[List.take_add_one,hm8]; rfl
   have sn:a3i s1.pg (ps.take (i8+1))=a3h s8.pg m8:=by rw[et8,c0h,q2]; rfl
   refine walk ?_
   refine a1p (d4f (m:=m8) k8 ii8) rfl rfl rfl rfl ?_ ?_
   ·rintro _ h9 ⟨t,S9,et,rfl,ii9,t9⟩
    rw[if_neg (by omega)] at et
    cases ec:a3h s8.pg m8 with
    |none=>rw[ec] at et; cases et
    |some q9 =>
    rw[ec] at et
    cases et
    refine walk ?_
    exact next8 (i8+1,S9,_) (by simp only; omega) (by exact hsub) ⟨by simp only; omega,t9.ok k8,ii9,t8.trans t9,eo8,ed8,sn.trans ec,q3.d9d ec om1⟩
   ·rintro _ h9 ⟨et,rfl,S9,t9⟩ tm hs
    rw[if_neg (by omega)] at et
    have ec:a3h s8.pg m8=none:=by
     cases ec:a3h s8.pg m8 with
     |none=>rfl
     |some q9=>rw[ec] at et; cases et
    have e0:a3i s1.pg ps=none:=by
     rw[← List.take_append_drop (i8+1) ps]
     exact c0f _ _ _ (sn.trans ec)
    rw[e0] at it
    rw[est,it]
    exact a1g rfl (.inr ⟨_,_,rfl,rfl,rfl,S9,(t1.trans t2).trans (t7.trans (t8.trans t9))⟩)
 rintro⟨S6,s6,v6⟩ g6 ⟨k6,i6,t6,eo,it6,f6,g61⟩
 dsimp only at i6 t6 eo it6 f6 g61 ⊢
 obtain⟨Sw6,w6,i6⟩:=i6
 have g6R:=i6.g
 have rl6:=i6.rl
 have n6:=t6.nx
 obtain⟨vc6,vo6⟩:=a1u.one i6.ow
 have fl6:=f6.len
 have ol6:s6.out.length≤1000000:=by rw[eo]; omega
 obtain⟨X,hX⟩:∃ X,X=(a0a.mk g6.t (g6.next+15)).set (g6.next+10) (.cells 108 (Pr.cs ⟨y.key,v6⟩) true):=⟨_,rfl⟩
 have nX:X.next=g6.next+15:=by rw[hX]; rfl
 have kX:X.ok:=by rw[hX]; exact a0w (a0a.a2o k6 15) _ _ (by show g6.next+10<g6.next+15; omega)
 have xX:Ext g6 X:=by rw[hX]; exact Ext.st (Ext.more (Ext.refl g6) k6 15) _ _ (by omega) (by show g6.next+10<g6.next+15; omega)
 have gX:X.get (g6.next+10)=some (.cells 108 (Pr.cs ⟨y.key,v6⟩) true):=by rw[hX]; exact a0a.gs _ _ _
 have iX:=i6.ext xX
 obtain⟨v9,h9,e9,o9,t9⟩:=a4e (T:=TV n) (st:=83) (rest:=[83]) (h:=X) (x:=(⟨y.key,v6⟩:Pr)) iX.ow gX (by omega) ol6 rfl rfl rfl rfl rfl (by exact Nat.le_of_ble_eq_true rfl) rfl (by decide) rfl
 have n9:=t9.nx
 obtain⟨vc9,vo9⟩:=a1u.one o9
 obtain⟨iF,tF⟩:=GoW.out (T:=TV n) iX kX o9 t9
 have g9R:h9.get R=some (.cells 152 [.int .i64 z,.str img,.map M,w6,.int .i64 s6.deep] true):=(t9.old R (by omega) (fun q=>i6.nR (i6.sw _ q))).trans iX.g
 have rX:=iX.rl
 rw[hX] at e9
 refine a0c (q:=15) (ms:=[0,0,2,6,14,0,32,0,128,480,992,2046,4095,8191,16383]) (hl:=[[89,90,91,92,93,94,95,96,97,98,99],[88,93,94,95,96,97,98],[88,93,94,95,96,97,98],[88,93,94,95,96,97,98],[88,93,94,95,96,97,98],[88,89,90,91,92,95,96],[88,89,90,91,92,95,96],[88,89,90,91,92,93,94],[88,89,90,91,92,93,94],[88,89,90,91,92],[88,89,90,91,92],[88],[],[],[]]) hok rfl (by kernel_rfl) (by kernel_rfl) rfl ?_
 refine walk ?_
 refine next (j+1,(fun c=>S6 c∨(X.next≤c∧c<h9.next)),⟨s6.pg,s6.deep,s6.out++[⟨y.key,v6⟩]⟩) (by simp only; omega) (by exact hsub) ⟨by simp only; omega,a0w (t9.ok kX) _ _ (by omega),⟨_,v9,iF⟩,(t2.trans t6).trans ((RdT.ext xX).trans tF),?_,?_,f6⟩
 ·simp only[List.length_append,List.length_cons,List.length_nil]; rw[eo]; omega
 ·rw[est,it6,eo]
end Go.Proofs.YtejfbaecadbdiaaGreat
