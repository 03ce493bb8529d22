/- What the functions of this part answer at any input, told by the rules over the evaluator. Conditions: those that each theorem states. -/
import Derived.Test.YtejfbaecadbdiaaGreatGap
import Derived.Test.YtejfbaecadbdiaaGreatRch
import Derived.Test.YtejfbaecadbdiaaGreatGaq
set_option linter.unusedVariables false
set_option linter.unusedSimpArgs false
open Go Ev
namespace Go.Proofs.YtejfbaecadbdiaaGreat
set_option maxRecDepth 10000
set_option maxHeartbeats 4000000
structure RdW (z:Int) (img:List UInt8) (R:Nat) (S Su Sw:Nat→Prop) (u w:AV) (s:Rs) (bad:Bool) (h:a0a):Prop where
 g:h.get R=some (.cells 85 [.int .i64 z,.str img,u,.int .i64 s.deep,.bool bad,w] true)
 rl:R<h.next
 nR:¬ S R
 low:∀ c,S c→c<h.next
 su:∀ c,Su c→S c
 sw:∀ c,Sw c→S c
 dis:∀ c,Su c→¬ Sw c
 ou:a1a a3a 29 1 Su h u s.pg
 ow:a1a Pr.cs 108 2 Sw h w s.out
def RdI (z:Int) (img:List UInt8) (R:Nat) (S:Nat→Prop) (s:Rs) (bad:Bool) (h:a0a):Prop:=∃ Su Sw u w,RdW z img R S Su Sw u w s bad h
theorem RdW.keep {z:Int}{img:List UInt8}{R:Nat}{S Su Sw:Nat→Prop}{u w:AV}{s:Rs}{bad:Bool}{h h':a0a}(i:RdW z img R S Su Sw u w s bad h) (nx:h.next≤h'.next) (k:∀ c,c=R∨S c→h'.get c=h.get c):RdW z img R S Su Sw u w s bad h' :=
 ⟨(k _ (.inl rfl)).trans i.g,Nat.lt_of_lt_of_le i.rl nx,i.nR,fun c q=>Nat.lt_of_lt_of_le (i.low c q) nx,i.su,i.sw,i.dis,i.ou.keep (fun c q _=>k c (.inr (i.su c q))) nx,i.ow.keep (fun c q _=>k c (.inr (i.sw c q))) nx⟩
theorem RdI.ext {z:Int}{img:List UInt8}{R:Nat}{S:Nat→Prop}{s:Rs}{bad:Bool}{h h':a0a}(i:RdI z img R S s bad h) (x:Ext h h'):RdI z img R S s bad h':=by
 obtain⟨Su,Sw,u,w,i⟩:=i
 exact⟨Su,Sw,u,w,i.keep x.nx fun c q=>x.old c (by rcases q with rfl|q; exact i.rl; exact i.low c q)⟩
theorem RdW.put {z:Int}{img:List UInt8}{R:Nat}{S Su Sw:Nat→Prop}{u w:AV}{s:Rs}{bad:Bool}{h:a0a}(i:RdW z img R S Su Sw u w s bad h) (d:Nat) (b:Bool):RdW z img R S Su Sw u w ⟨s.pg,d,s.out⟩ b (h.set R (.cells 85 [.int .i64 z,.str img,u,.int .i64 d,.bool b,w] true)) :=
 ⟨a0a.gs _ _ _,i.rl,i.nR,i.low,i.su,i.sw,i.dis,i.ou.keep (fun c q _=>a0a.gn _ _ _ _ (fun e=>i.nR (e ▸ i.su c q))) (Nat.le_refl _),i.ow.keep (fun c q _=>a0a.gn _ _ _ _ (fun e=>i.nR (e ▸ i.sw c q))) (Nat.le_refl _)⟩
theorem c7j {n:Nat}{z:Int}{img:List UInt8}{R:Nat}{S:Nat→Prop}{s:Rs}{bad:Bool}{m:Nat}{h:a0a}(hk:h.ok) (i:RdI z img R S s bad h) (hl:s.pg.length≤100000):a0l (TV n) 37 [.ptr R 0,.int .u32 m] h (fun v h'=>v=.tuple []∧∃ S',RdI z img R S' ⟨s.pg++[m],s.deep,s.out⟩ (bad||decide (m∈s.pg)) h'∧RdT R S S' h h'):=by
 obtain⟨Su,Sw,u,w,i⟩:=i
 refine a0r (a1x rfl rfl) rfl rfl ?_
 have lu:=i.ou.ls.len
 have nu:=i.ou.ls.ns
 refine walk ?_
 refine a0n (ι:=Nat) (fun j=>s.pg.length-j) (fun j=>[(0,.ptr R 0),(1,.int .u32 m),(4,.int .i64 (j:Nat))]) (fun j h2=>j≤s.pg.length∧h2.ok∧RdT R S S h h2∧RdW z img R S Su Sw u w s (bad||decide (m∈s.pg.take j)) h2) 0 hsub ⟨Nat.zero_le _,hk,.refl h,by simpa using i⟩ ?_
 rintro j h2 ⟨hj,k2,t2,i2⟩ next
 have g2:=i2.g
 have rl2:=i2.rl
 by_cases c:j<s.pg.length
 ·obtain⟨y,hy⟩:∃ y,s.pg[j]?=some y:=⟨s.pg[j],List.getElem?_eq_getElem c⟩
  obtain⟨B,q,e',all,rw',hb',hg,hpl,he,a1⟩:=i2.ou.ls.at a2k hy
  have he:(all.drop q).take 1=[.int .u32 y]:=he
  have et:s.pg.take (j+1)=s.pg.take j++[y]:=by rw[List.take_add_one,hy]; rfl
  by_cases d:(y:Int)=(m:Int)
  ·have e2:(bad||decide (m∈s.pg.take (j+1)))=true:=by
    rw[et,decide_eq_true (by rw[List.mem_append]; exact .inr (by simp; omega)),Bool.or_true]
   have ip:=i2.put s.deep true
   refine walk ?_
   exact next (j+1) (by omega) (by exact hsub) ⟨by omega,a0w k2 _ _ rl2,t2.trans (.put rl2 _),by rw[e2]; exact ip⟩
  ·have e2:(bad||decide (m∈s.pg.take (j+1)))=(bad||decide (m∈s.pg.take j)):=by
    rw[et]
    congr 1
    rw[decide_eq_decide,List.mem_append]
    constructor
    ·rintro(q|q)
     ·exact q
     ·simp at q; omega
    ·exact .inl
   refine walk ?_
   exact next (j+1) (by omega) hsub ⟨by omega,k2,t2,by rw[e2]; exact i2⟩
 have ej:s.pg.take j=s.pg:=List.take_of_length_le (by omega)
 rw[ej] at i2 g2
 obtain⟨v7,h7,e7,o7,t7⟩:=a4e (T:=TV n) (st:=42) (rest:=[42]) (h:=h2.alloc (.cells 29 (a3a m) true)) (x:=m) (i2.ou.keep (h':=h2.alloc (.cells 29 (a3a m) true)) (fun c _ hl=>a0a.ga _ _ _ (by omega)) (Nat.le_succ _)) (a0t _ _) (by show h2.next<h2.next+1; omega) (by omega) rfl rfl rfl rfl rfl (by exact Nat.le_of_ble_eq_true rfl) rfl (by decide) rfl
 have n7:h2.next+1≤h7.next:=t7.nx
 obtain⟨vc7,vo7⟩:=a1u.one o7
 have e7:a1h (TV n) [u,.slice h2.next 0 1 1] [42,42] (h2.alloc (.cells 29 [.int .u32 m] true))=.val v7 h7:=e7
 have y7:∀ c,c<h2.next→¬ Su c→h7.get c=h2.get c:=fun c hc hs=>(t7.old c (by show c<h2.next+1; omega) hs).trans (a0a.ga _ _ _ (by omega))
 have g7:h7.get R=some (.cells 85 [.int .i64 z,.str img,u,.int .i64 s.deep,.bool (bad||decide (m∈s.pg)),w] true):=(y7 R rl2 (fun q=>i2.nR (i2.su _ q))).trans g2
 have k7:h7.ok:=t7.ok (a4n k2 _)
 have nn:(h7.set R (.cells 85 [.int .i64 z,.str img,v7,.int .i64 s.deep,.bool (bad||decide (m∈s.pg)),w] true)).next=h7.next:=rfl
 refine walk ?_
 refine a2e fun tm hs=>a2b hs rfl ⟨rfl,fun c=>S c∨(h2.next+1≤c∧c<h7.next),⟨fun c=>(Su c∨h2.next+1≤c)∧c<h7.next,Sw,v7,w,?_⟩,?_⟩
 ·refine⟨a0a.gs _ _ _,by show R<h7.next; omega,?_,?_,?_,fun c q=>.inl (i2.sw c q),?_,?_,?_⟩
  ·rintro(q|q)
   ·exact i2.nR q
   ·omega
  ·rintro c (q|q)
   ·show c<h7.next; have:=i2.low c q; omega
   ·exact q.2
  ·rintro c ⟨q|q,r⟩
   ·exact .inl (i2.su c q)
   ·exact .inr ⟨q,r⟩
  ·rintro c ⟨q|q,r⟩ p
   ·exact i2.dis c q p
   ·have:=i2.low c (i2.sw c p); omega
  ·refine a1u.mono (a1u.keep o7 (fun c q hl=>a0a.gn _ _ _ _ fun e=>?_) (Nat.le_refl _)) fun c q r=>⟨q,r⟩
   subst e
   rcases q with q|q
   ·exact i2.nR (i2.su _ q)
   ·have q:h2.next+1≤c:=q; omega
  ·exact i2.ow.keep (fun c q hl=>(a0a.gn _ _ _ _ (show c≠R from fun e=>i2.nR (by rw[← e]; exact i2.sw c q))).trans (y7 c hl fun p=>i2.dis c p q)) (by show h2.next≤h7.next; omega)
 ·refine t2.trans ⟨by show h2.next≤h7.next; omega,fun c hc hr hs=>(a0a.gn _ _ _ _ hr).trans (y7 c hc fun q=>hs (i2.su c q)),fun _=>a0w k7 _ _ (by omega),fun c q=>?_⟩
  rcases q with q|q
  ·exact .inl q
  ·exact .inr (by omega)
set_option maxRecDepth 10000
set_option maxHeartbeats 4000000
theorem c5a {n:Nat}{b:Bd}{k:List UInt8}{h:a0a}:a0l (TV n) 77 [.agg b.cs,.str k] h (fun v h'=>v=.bool (b.inside k)∧Ext h h'):=by
 refine a0r (a1x rfl rfl) rfl rfl ?_
 obtain⟨low,less,high⟩:=b
 unfold Bd.inside Bd.cs
 dsimp only
 cases c1:bytesLess k low with
 |true =>
  have c2:(!bytesLess k low)=false:=by rw[c1]; rfl
  refine walk ?_
  exact a0e (by exact hres) ⟨rfl,by exact a0j⟩
 |false =>
  have c2:(!bytesLess k low)=true:=by rw[c1]; rfl
  cases high with
  |false =>
   refine walk ?_
   exact a0e (by exact hres) ⟨rfl,by exact a0j⟩
  |true =>
   refine walk ?_
   exact a0e (by exact hres) ⟨by simp,by exact a0j⟩
set_option maxRecDepth 10000
set_option maxHeartbeats 4000000
theorem RdW.ext {z:Int}{img:List UInt8}{R:Nat}{S Su Sw:Nat→Prop}{u w:AV}{s:Rs}{bad:Bool}{h h':a0a}(i:RdW z img R S Su Sw u w s bad h) (x:Ext h h'):RdW z img R S Su Sw u w s bad h' :=
 i.keep x.nx fun c q=>x.old c (by rcases q with rfl|q; exact i.rl; exact i.low c q)
theorem RdW.out {T:Ev.a0k}{z:Int}{img:List UInt8}{R:Nat}{S Su Sw:Nat→Prop}{u w v:AV}{s:Rs}{bad:Bool}{x:Pr}{X h:a0a}(i:RdW z img R S Su Sw u w s bad X) (hX:X.ok) (o:a1a Pr.cs 108 2 (fun b=>Sw b∨X.next≤b) h v (s.out++[x])) (t:Ev.Touch Sw X h) :
  RdW z img R (fun c=>S c∨(X.next≤c∧c<h.next)) Su (fun c=>(Sw c∨X.next≤c)∧c<h.next) u v ⟨s.pg,s.deep,s.out++[x]⟩ bad (h.set R (.cells 85 [.int .i64 z,.str img,u,.int .i64 s.deep,.bool bad,v] true))∧RdT R S (fun c=>S c∨(X.next≤c∧c<h.next)) X (h.set R (.cells 85 [.int .i64 z,.str img,u,.int .i64 s.deep,.bool bad,v] true)):=by
 have nx:=t.nx
 have rl:=i.rl
 have y:∀ c,c<X.next→¬ Sw c→h.get c=X.get c:=fun c hc hs=>t.old c hc hs
 refine⟨⟨a0a.gs _ _ _,by show R<h.next; omega,?_,?_,fun c q=>.inl (i.su c q),?_,?_,?_,?_⟩,by show X.next≤h.next; omega,fun c hc hr hs=>(a0a.gn _ _ _ _ hr).trans (y c hc fun q=>hs (i.sw c q)),fun _=>a0w (t.ok hX) _ _ (by omega),fun c q=>?_⟩
 ·rintro(q|q)
  ·exact i.nR q
  ·omega
 ·rintro c (q|q)
  ·show c<h.next; have:=i.low c q; omega
  ·exact q.2
 ·rintro c ⟨q|q,r⟩
  ·exact .inl (i.sw c q)
  ·exact .inr ⟨q,r⟩
 ·rintro c q ⟨p|p,r⟩
  ·exact i.dis c q p
  ·have:=i.low c (i.su c q); omega
 ·exact i.ou.keep (fun c q hl=>(a0a.gn _ _ _ _ (show c≠R from fun e=>i.nR (by rw[← e]; exact i.su c q))).trans (y c hl fun p=>i.dis c q p)) (by show X.next≤h.next; omega)
 ·refine a1u.mono (a1u.keep o (fun c q hl=>a0a.gn _ _ _ _ fun e=>?_) (Nat.le_refl _)) fun c q r=>⟨q,r⟩
  subst e
  rcases q with q|q
  ·exact i.nR (i.sw _ q)
  ·have q:X.next≤c:=q; omega
 ·rcases q with q|q
  ·exact .inl q
  ·exact .inr q.1
def RdP (z:Int) (img:List UInt8) (R:Nat) (S:Nat→Prop) (h:a0a) (r:Option Rs) (v:AV) (h':a0a):Prop:=v=.tuple []∧∃ S' s' bad,RdI z img R S' s' bad h'∧RdT R S S' h h'∧match r with
 |some t=>bad=false∧s'=t
 |none=>bad=true
theorem e5s {n:Nat}(hn:6<n){z:Int}{img:List UInt8}{R:Nat}{S:Nat→Prop}{s:Rs}{p:Pg}{d:Nat}{b:Bd}{h:a0a}(hk:h.ok) (hi:img.length≤20000) (i:RdI z img R S s false h) (f:a5n (pages z img) s.pg) (ho:s.out.length+1400≤1400*s.pg.length) (hb:p.body.length≤100000) (hc:p.count<1000000000):a0l (TV n) 76 [.ptr R 0,p.av,.int .i64 d,.agg b.cs] h (RdP z img R S h (b1n z img p d b s)):=by
 obtain⟨Su,Sw,u,w,i⟩:=i
 have pn:pages z img≤157:=by
  unfold pages
  split
  ·rename_i g
   have:=g.1
   refine Nat.div_le_of_le_mul ?_
   have:128≤z.toNat:=by omega
   have:=Nat.mul_le_mul_right 157 this
   omega
  ·omega
 have fl:=f.len
 have rl:=i.rl
 have lowS:=i.low
 refine a0r (a1x rfl rfl) rfl rfl ?_
 refine walk ?_
 refine a0b (d0t (n:=n) (by omega) (p:=p) (by exact hok) hb hc) rfl rfl rfl rfl ?_
 rintro v h1 ⟨x1,c3⟩
 have n1:h.next+2≤h1.next:=x1.nx
 have gb:h1.get (h.next+1)=some (.cells 91 b.cs true):=by exact a0g
 have x01:Ext h h1:=Ext.trans (by exact a0j) x1
 have k1:=x01.ok hk
 have i1:=i.ext x01
 have g1:=i1.g
 have rl1:=i1.rl
 unfold b1n
 cases e:ofI p with
 |none =>
  rw[e] at c3
  subst c3
  refine walk ?_
  exact b2c (vs:=[]) rfl ⟨rfl,S,_,true,⟨Su,Sw,u,w,i1.put s.deep true⟩,(RdT.ext x01).trans (.put rl1 _),rfl⟩
 |some l =>
 rw[e] at c3
 obtain⟨u8,rfl,ls⟩:=c3
 dsimp only
 obtain⟨ll,lm⟩:=c8e e
 by_cases cd:s.deep=0∨s.deep=d
 case neg =>
  rw[if_neg cd]
  have d1:¬ (s.deep:Int)=0:=fun q=>cd (.inl (by omega))
  have d2:¬ (s.deep:Int)=(d:Int):=fun q=>cd (.inr (by omega))
  refine walk ?_
  exact b2c (vs:=[]) rfl ⟨rfl,S,_,true,⟨Su,Sw,u,w,i1.put s.deep true⟩,(RdT.ext x01).trans (.put rl1 _),rfl⟩
 rw[if_pos cd]
 have ls2:a1a It.cs 175 5 (fun c=>h.next+2≤c∧c<h1.next) h1 u8 l:=(Own.d2d ls).mono fun c q r=>⟨q,r⟩
 have ip:=i1.put d false
 refine walk ?_
 refine b5b (ι:=Unit) (fun _=>[(0,.ptr R 0),(2,.int .i64 d),(5,.ptr h.next 0),(7,.ptr (h.next+1) 0),(8,u8),(37,.bool false)]) (fun _ g=>h1=g) ?_ ?_
 ·intro k' join
  rcases cd with q|q
  ·have d1:(s.deep:Int)=0:=by omega
   refine walk ?_
   exact join () (by exact hsub) rfl
  ·by_cases d1:(s.deep:Int)=0
   ·refine walk ?_
    exact join () (by exact hsub) rfl
   ·have d2:(s.deep:Int)=(d:Int):=by omega
    refine walk ?_
    exact join () (by exact hsub) rfl
 rintro⟨⟩ _ rfl
 obtain⟨hB,ehB⟩:∃ hB,hB=h1.set R (.cells 85 [.int .i64 z,.str img,u,.int .i64 d,.bool false,w] true):=⟨_,rfl⟩
 have nB:hB.next=h1.next:=by rw[ehB]; rfl
 have kB:hB.ok:=by rw[ehB]; exact a0w k1 _ _ rl1
 have tB:RdT R S S h hB:=by rw[ehB]; exact(RdT.ext x01).trans (.put rl1 _)
 rw[← ehB] at ip
 have RnS:∀ c,c≠R→hB.get c=h1.get c:=fun c hc=>by rw[ehB]; exact a0a.gn _ _ _ _ hc
 have lsB:a1a It.cs 175 5 (fun c=>h.next+2≤c∧c<h1.next) hB u8 l:=ls2.keep (fun c q _=>RnS c (by omega)) (by omega)
 have gbB:hB.get (h.next+1)=some (.cells 91 b.cs true):=(RnS _ (by omega)).trans gb
 have lu:=lsB.ls.len
 have nu:=lsB.ls.ns
 refine walk ?_
 refine GJ.gen [(0,.ptr R 0),(2,.int .i64 d),(7,.ptr (h.next+1) 0),(8,u8),(10,.int .i64 0)] (fun g=>hB=g) (by exact hsub) ehB ?_
 rintro _ rfl
 clear ehB gb g1 i1 x1
 refine a0n (ι:=Nat×(Nat→Prop)×Rs×Bool) (fun a=>l.length-a.1) (fun a=>[(0,.ptr R 0),(2,.int .i64 d),(7,.ptr (h.next+1) 0),(8,u8),(10,.int .i64 (a.1:Nat))]) (fun a h2=>a.1≤l.length∧h2.ok∧RdI z img R a.2.1 a.2.2.1 a.2.2.2 h2∧RdT R S a.2.1 hB h2∧a.2.2.1.pg.length≤2000∧a.2.2.1.out.length≤s.out.length+a.1∧match a.2.2.2 with
   |false=>a5r z img b ⟨s.pg,d,s.out⟩ l=a5r z img b a.2.2.1 (l.drop a.1)∧a5n (pages z img) a.2.2.1.pg
   |true=>a5r z img b ⟨s.pg,d,s.out⟩ l=none) (0,S,⟨s.pg,d,s.out⟩,false) (by exact hsub) ⟨Nat.zero_le _,kB,⟨Su,Sw,u,w,ip⟩,.refl _,by simp only; omega,Nat.le_refl _,by simp,f⟩ ?_
 rintro⟨j,S1,s1,bad⟩ h2 ⟨hj,k2,i2,t2,pgl,outl,st⟩ next
 dsimp only at hj i2 t2 pgl outl st next ⊢
 have n2:=t2.nx
 have ls3:a1a It.cs 175 5 (fun c=>h.next+2≤c∧c<h1.next) h2 u8 l:=t2.Ls lsB fun c q=>⟨by omega,fun r=>by have:=lowS c r; omega⟩
 have gb3:h2.get (h.next+1)=some (.cells 91 b.cs true):=(t2.old _ (by omega) (by omega) (fun r=>by have:=lowS _ r; omega)).trans gbB
 have fin:RdI z img R S1 s1 bad h2→j=l.length∨bad=true→RdP z img R S h (a5r z img b ⟨s.pg,d,s.out⟩ l) (.tuple []) h2:=fun i3 q=>by
  refine⟨rfl,S1,s1,bad,i3,tB.trans t2,?_⟩
  cases bad with
  |true=>rw[show a5r z img b ⟨s.pg,d,s.out⟩ l=none from st]
  |false =>
   rcases q with q|q
   ·rw[st.1,q,List.drop_length]; exact⟨rfl,rfl⟩
   ·cases q
 have fin2:=fin i2
 obtain⟨Su1,Sw1,u1,w1,i3⟩:=i2
 have g3:=i3.g
 have rl3:=i3.rl
 by_cases cj:j<l.length
 case neg =>
  refine walk ?_
  exact a2e fun tm hs=>a2b hs rfl (fin2 (.inl (by omega)))
 cases bad with
 |true =>
  refine walk ?_
  exact a2e fun tm hs=>a2b hs rfl (fin2 (.inr rfl))
 |false =>
 obtain⟨st1,st2⟩:=st
 have pf1:=st2.len
 have low1:=i3.low
 have grow1:=t2.grow
 obtain⟨y,hy⟩:∃ y,l[j]?=some y:=⟨l[j],List.getElem?_eq_getElem cj⟩
 obtain⟨B,q,e',all,rw',hb',hg,hpl,he,a1⟩:=ls3.ls.at It.csl hy
 have edr:l.drop j=y::l.drop (j+1):=by
  rw[List.drop_eq_getElem_cons cj]
  congr 1
  rw[List.getElem?_eq_getElem cj] at hy
  exact Option.some.inj hy
 have est:a5r z img b ⟨s.pg,d,s.out⟩ l=match a7t z img b s1 y with
  |none=>none
  |some s'=>a5r z img b s' (l.drop (j+1)):=by rw[st1,edr]; rfl
 refine walk ?_
 refine a0c (q:=8) (ms:=[0,0,0,6,14,30,63,127]) (hl:=[[64,65,66,67,68],[63,65],[63,64],[63],[63],[63],[],[]]) hok rfl (by kernel_rfl) (by kernel_rfl) rfl ?_
 refine walk ?_
 refine a2i (c5a (b:=b) (k:=y.key)) rfl rfl rfl rfl rfl rfl ?_
 rintro _ h4 ⟨rfl,x4⟩
 have n4:h2.next+8≤h4.next:=x4.nx
 have i4:=i3.ext (Ext.trans (Ext.more (Ext.refl h2) k2 8) x4)
 have g4:=i4.g
 have rl4:=i4.rl
 have k4:h4.ok:=x4.ok (a0a.a2o k2 8)
 have x24:Ext h2 h4:=Ext.trans (Ext.more (Ext.refl h2) k2 8) x4
 refine walk ?_
 refine a5f (ι:=Bool) (fun _=>[(0,.ptr R 0),(2,.int .i64 d),(7,.ptr (h.next+1) 0),(8,u8),(10,.int .i64 (j:Nat)),(11,.str y.val)]) (fun x g=>g.ok∧RdI z img R S1 s1 x g∧RdT R S1 S1 h2 g∧x = !b.inside y.key) ?_ ?_
 ·intro k' join
  cases ci:b.inside y.key with
  |true =>
   refine walk ?_
   exact join false (by exact hsub) ⟨k4,⟨Su1,Sw1,u1,w1,i4⟩,.ext x24,by rw[ci]; rfl⟩
  |false =>
   refine walk ?_
   exact join true (by exact hsub) ⟨a0w k4 _ _ rl4,⟨Su1,Sw1,u1,w1,i4.put s1.deep true⟩,(RdT.ext x24).trans (.put rl4 _),by rw[ci]; rfl⟩
 clear x4 x24 i4 g4 rl4 k4 n4 g3 rl3 a1 hg hb' hpl he i3
 clear h4
 rintro bad g5 ⟨k5,i5,t5,eb⟩
 have n5:=t5.nx
 have dS:∀ c,h.next+2≤c∧c<h1.next→c≠R∧¬ S1 c:=fun c q=>⟨by omega,fun r=>by
  rcases grow1 c r with r|r
  ·have:=lowS c r; omega
  ·omega⟩
 have ls5:=t5.Ls ls3 dS
 obtain⟨B5,q5,e5,all5,rw5,hb5,hg5,hpl5,he5,a1⟩:=ls5.ls.at It.csl hy
 have it:a7t z img b s1 y=if bad=false then(match y.over with
   |true=>match a8w z img y.head y.len with
    |none=>none
    |some (v,ps)=>match a3i s1.pg ps with
     |none=>none
     |some q=>some ⟨q,s1.deep,s1.out++[⟨y.key,v⟩]⟩
   |false=>some ⟨s1.pg,s1.deep,s1.out++[⟨y.key,y.val⟩]⟩) else none:=by
  unfold a7t
  rw[eb]
  cases b.inside y.key<;>rfl
 refine b0d ?_
 refine a5f (ι:=(Nat→Prop)×Rs×Bool×List UInt8) (fun x=>[(0,.ptr R 0),(2,.int .i64 d),(7,.ptr (h.next+1) 0),(8,u8),(10,.int .i64 (j:Nat)),(11,.str x.2.2.2)]) (fun x g=>g.ok∧RdI z img R x.1 x.2.1 x.2.2.1 g∧RdT R S1 x.1 h2 g∧x.2.1.out=s1.out∧x.2.1.pg.length≤2000∧match x.2.2.1 with
   |false=>a7t z img b s1 y=some ⟨x.2.1.pg,x.2.1.deep,s1.out++[⟨y.key,x.2.2.2⟩]⟩∧a5n (pages z img) x.2.1.pg
   |true=>a7t z img b s1 y=none) ?_ ?_
 ·intro k' join
  obtain⟨Su5,Sw5,u5,w5,i5⟩:=i5
  have g5R:=i5.g
  have rl5:=i5.rl
  rcases Bool.eq_false_or_eq_true y.over with ov|ov
  case inr =>
   rw[ov] at it
   refine walk ?_
   refine join (S1,s1,bad,y.val) (by exact hsub) ⟨k5,⟨Su5,Sw5,u5,w5,i5⟩,t5,rfl,pgl,?_⟩
   cases bad with
   |true=>exact it
   |false=>exact⟨it,st2⟩
  rw[ov] at it
  have hl1:y.head<4294967296:=by
   have:=(lm.1 j y hy).1.2
   rcases this with q|q
   ·have:=q.2.2.2.2.2; omega
   ·have:=q.1; rw[ov] at this; cases this
  refine walk ?_
  refine a0c (q:=26) (ms:=[0,1,3,7,0,16,48,112,0,0,768,1792,3840,0,0,24576,57344,122880,262143,524287,1048575,1048575,1048575,2097151,12582911,33554431]) (hl:=[[84,85,86,87,88,89,90,91,92,93,94,95,96,97],[84,85,86,87,88,89,90,91,92,93,94,95,96,97],[84,85,86,87,88,89,90,91,92,93,94,95,96,97],[84,85,86,87,88,89,90,91,92,93,94,95,96,97],[80,81,82,83,88,89,90,91,92,93,94,95,96,97],[80,81,82,83,88,89,90,91,92,93,94,95,96,97],[80,81,82,83,88,89,90,91,92,93,94,95,96,97],[80,81,82,83,88,89,90,91,92,93,94,95,96,97],[80,81,82,83,84,85,86,87,89,93,94,95,96,97],[80,81,82,83,84,85,86,87,88,93,94,95,96,97],[80,81,82,83,84,85,86,87,93,94,95,96,97],[80,81,82,83,84,85,86,87,93,94,95,96,97],[80,81,82,83,84,85,86,87,93,94,95,96,97],[80,81,82,83,84,85,86,87,88,89,90,91,92,94],[80,81,82,83,84,85,86,87,88,89,90,91,92,93],[80,81,82,83,84,85,86,87,88,89,90,91,92],[80,81,82,83,84,85,86,87,88,89,90,91,92],[80,81,82,83,84,85,86,87,88,89,90,91,92],[],[],[100,101],[99,101,12],[99,100,12,13],[100,101],[101],[]]) hok rfl (by kernel_rfl) (by kernel_rfl) rfl ?_
  refine walk ?_
  refine a2i (e7d (n:=n) (z:=z) (img:=img) (hd:=y.head) (ln:=y.len) (by omega) (a0a.a2o k5 26) hi hl1) rfl rfl rfl rfl rfl rfl ?_
  rintro v7 h7 ⟨x7,c7⟩
  have n7:g5.next+26≤h7.next:=x7.nx
  have x57:Ext g5 h7:=Ext.trans (Ext.more (Ext.refl g5) k5 26) x7
  have i7:=i5.ext x57
  have g7R:=i7.g
  have rl7:=i7.rl
  have k7:h7.ok:=x57.ok k5
  cases e7:a8w z img y.head y.len with
  |none =>
   rw[e7] at c7
   obtain⟨ec,ec0,rfl⟩:=c7
   rw[e7] at it
   refine walk ?_
   refine a7m ?_
   refine walk ?_
   refine join (S1,⟨s1.pg,s1.deep,s1.out⟩,true,[]) (by exact hsub) ⟨a0w k7 _ _ rl7,⟨Su5,Sw5,u5,w5,i7.put s1.deep true⟩,t5.trans ((RdT.ext x57).trans (.put rl7 _)),rfl,pgl,?_⟩
   cases bad with
   |true=>exact it
   |false=>exact it
  |some r7 =>
   obtain⟨v8,ps⟩:=r7
   rw[e7] at c7
   obtain⟨u8',rfl,lps⟩:=c7
   rw[e7] at it
   have it:a7t z img b s1 y=if bad=false then(match a3i s1.pg ps with
     |none=>none
     |some q=>some ⟨q,s1.deep,s1.out++[⟨y.key,v8⟩]⟩) else none:=it
   obtain⟨ol,oln,-,-⟩:=c8d e7
   have low5:=i5.low
   have lps':a1a a3a 29 1 (fun c=>g5.next+26≤c∧c<h7.next) h7 u8' ps:=(Own.d2d lps).mono fun c q r=>⟨q,r⟩
   have lu8:=lps'.ls.len
   have nu8:=lps'.ls.ns
   refine walk ?_
   refine a0n (ι:=Nat×(Nat→Prop)×Rs×Bool) (fun a=>ps.length-a.1) (fun a=>[(0,.ptr R 0),(2,.int .i64 d),(7,.ptr (h.next+1) 0),(8,u8),(10,.int .i64 (j:Nat)),(12,.str v8),(13,u8'),(15,.int .i64 (a.1:Nat))]) (fun a h8=>a.1≤ps.length∧h8.ok∧RdI z img R a.2.1 a.2.2.1 a.2.2.2 h8∧RdT R S1 a.2.1 h7 h8∧a.2.2.1.out=s1.out∧a.2.2.1.deep=s1.deep∧a.2.2.1.pg.length≤s1.pg.length+a.1∧match a.2.2.2 with
     |false=>bad=false∧a3i s1.pg (ps.take a.1)=some a.2.2.1.pg∧a5n (pages z img) a.2.2.1.pg
     |true=>bad=true∨a3i s1.pg ps=none) (0,S1,s1,bad) (by exact hsub) ⟨Nat.zero_le _,k7,⟨Su5,Sw5,u5,w5,i7⟩,.refl _,rfl,rfl,Nat.le_refl _,?_⟩ ?_
   ·cases bad with
    |true=>exact .inl rfl
    |false=>exact⟨rfl,rfl,st2⟩
   rintro⟨i8,S8,s8,bad8⟩ h8 ⟨hi8,k8,ii8,t8,eo8,ed8,pl8,st8⟩ next8
   dsimp only at hi8 ii8 t8 eo8 ed8 pl8 st8 next8 ⊢
   by_cases c8:i8<ps.length
   case neg =>
    have e8:ps.take i8=ps:=List.take_of_length_le (by omega)
    rw[e8] at st8
    refine walk ?_
    refine join (S8,s8,bad8,v8) (by exact hsub) ⟨k8,ii8,t5.trans ((RdT.ext x57).trans t8),eo8,?_,?_⟩
    ·cases bad8 with
     |true=>simp only; omega
     |false=>simp only; omega
    ·cases bad8 with
     |true =>
      rcases st8 with q|q
      ·rw[q] at it; exact it
      ·rw[q] at it
       cases bad with
       |true=>exact it
       |false=>exact it
     |false =>
      obtain⟨q1,q2,q3⟩:=st8
      rw[q1,q2] at it
      rw[ed8]
      exact⟨it,q3⟩
   obtain⟨m8,hm8⟩:∃ m8,ps[i8]?=some m8:=⟨ps[i8],List.getElem?_eq_getElem c8⟩
   have lp8:=t8.Ls lps' fun c q=>⟨by omega,fun r=>by have:=low5 c r; omega⟩
   obtain⟨B8,q8,e8',all8,rw8,hb8,hg8,hpl8,he8,a2⟩:=lp8.ls.at a2k hm8
   have he8:(all8.drop q8).take 1=[.int .u32 m8]:=he8
   refine walk ?_
   refine a0b (c7j (m:=m8) k8 ii8 (by omega)) rfl rfl rfl rfl ?_
   rintro _ h9 ⟨rfl,S9,ii9,t9⟩
   have et8:ps.take (i8+1)=ps.take i8++[m8]:=by rw[List.take_add_one,hm8]; rfl
   refine walk ?_
   refine next8 (i8+1,S9,⟨s8.pg++[m8],s8.deep,s8.out⟩,bad8||decide (m8∈s8.pg)) (by simp only; omega) (by exact hsub) ⟨by simp only; omega,t9.ok k8,ii9,t8.trans t9,eo8,ed8,by simp only[List.length_append,List.length_cons,List.length_nil]; omega,?_⟩
   cases bad8 with
   |true=>exact st8
   |false =>
    obtain⟨q1,q2,q3⟩:=st8
    have sn:a3i s1.pg (ps.take (i8+1))=a3h s8.pg m8:=by rw[et8,c0h,q2]; rfl
    by_cases cm:m8∈s8.pg
    ·rw[Bool.false_or,decide_eq_true cm]
     have sn0:a3h s8.pg m8=none:=by unfold a3h; rw[if_pos cm]
     rw[sn0] at sn
     refine .inr ?_
     rw[← List.take_append_drop (i8+1) ps]
     exact c0f _ _ _ sn
    ·rw[Bool.false_or,decide_eq_false cm]
     have sn1:a3h s8.pg m8=some (s8.pg++[m8]):=by unfold a3h; rw[if_neg cm]
     exact⟨q1,sn.trans sn1,q3.d9d sn1 (ol m8 (List.mem_of_getElem? hm8)).1⟩
 rintro⟨S6,s6,bad6,v6⟩ g6 ⟨k6,i6,t6,eo,pl6,st6⟩
 dsimp only at i6 t6 eo pl6 st6 ⊢
 obtain⟨Su6,Sw6,u6,w6,i6⟩:=i6
 have g6R:=i6.g
 have rl6:=i6.rl
 have low6:=i6.low
 have n6:=t6.nx
 have ls6:=t6.Ls ls3 dS
 clear ls5 a1 hg5 hb5 hpl5 he5
 obtain⟨B6,q6,e6,all6,rw6,hb6,hg6,hpl6,he6,a1⟩:=ls6.ls.at It.csl hy
 refine a0c (q:=17) (ms:=[0,0,2,6,14,0,0,96,224,480,0,2016,4064,8190,16383,32767,65535]) (hl:=[[121,122,123,124,125,126,127,128,129,130,131,132,133],[120,125,126,127,128,129,130,131,132],[120,125,126,127,128,129,130,131,132],[120,125,126,127,128,129,130,131,132],[120,125,126,127,128,129,130,131,132],[120,121,122,123,124,126,130],[120,121,122,123,124,125,130],[120,121,122,123,124,130],[120,121,122,123,124,130],[120,121,122,123,124,130],[120,121,122,123,124,125,126,127,128,129],[120,121,122,123,124],[120,121,122,123,124],[120],[],[],[]]) hok rfl (by kernel_rfl) (by kernel_rfl) rfl ?_
 refine walk ?_
 have ol6:s6.out.length≤1000000:=by rw[eo]; have:=fl; omega
 obtain⟨X,hX⟩:∃ X,X=(a0a.mk g6.t (g6.next+17)).set (g6.next+12) (.cells 108 (Pr.cs ⟨y.key,v6⟩) true):=⟨_,rfl⟩
 have nX:X.next=g6.next+17:=by rw[hX]; rfl
 have kX:X.ok:=by rw[hX]; exact a0w (a0a.a2o k6 17) _ _ (by show g6.next+12<g6.next+17; omega)
 have xX:Ext g6 X:=by rw[hX]; exact Ext.st (Ext.more (Ext.refl g6) k6 17) _ _ (by omega) (by show g6.next+12<g6.next+17; omega)
 have gX:X.get (g6.next+12)=some (.cells 108 (Pr.cs ⟨y.key,v6⟩) true):=by rw[hX]; exact a0a.gs _ _ _
 have iX:=i6.ext xX
 obtain⟨v9,h9,e9,o9,t9⟩:=a4e (T:=TV n) (st:=83) (rest:=[83]) (h:=X) (x:=(⟨y.key,v6⟩:Pr)) iX.ow gX (by omega) ol6 rfl rfl rfl rfl rfl (by exact Nat.le_of_ble_eq_true rfl) rfl (by decide) rfl
 have n9:=t9.nx
 obtain⟨vc9,vo9⟩:=a1u.one o9
 obtain⟨iF,tF⟩:=RdW.out (T:=TV n) iX kX o9 t9
 have g9R:h9.get R=some (.cells 85 [.int .i64 z,.str img,u6,.int .i64 s6.deep,.bool bad6,w6] true):=(t9.old R (by omega) (fun q=>i6.nR (i6.sw _ q))).trans iX.g
 rw[hX] at e9
 refine walk ?_
 refine next (j+1,(fun c=>S6 c∨(X.next≤c∧c<h9.next)),⟨s6.pg,s6.deep,s6.out++[⟨y.key,v6⟩]⟩,bad6) (by simp only; omega) (by exact hsub) ⟨by simp only; omega,a0w (t9.ok kX) _ _ (by have:=iX.rl; omega),⟨Su6,_,u6,v9,iF⟩,(t2.trans t6).trans ((RdT.ext xX).trans tF),pl6,?_,?_⟩
 ·simp only[List.length_append,List.length_cons,List.length_nil]; rw[eo]; omega
 ·cases bad6 with
  |true =>
   show a5r z img b ⟨s.pg,d,s.out⟩ l=none
   rw[est,show a7t z img b s1 y=none from st6]
  |false =>
   obtain⟨q1,q2⟩:=st6
   refine⟨?_,q2⟩
   rw[est,q1,eo]
end Go.Proofs.YtejfbaecadbdiaaGreat
