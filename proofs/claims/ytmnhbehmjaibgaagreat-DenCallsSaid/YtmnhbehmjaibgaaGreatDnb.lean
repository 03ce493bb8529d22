/- What the functions of this part answer at any input, told by the rules over the evaluator. Conditions: those that each theorem states. -/
import Derived.Test.YtmnhbehmjaibgaaGreatGaq
import Derived.Test.YtmnhbehmjaibgaaGreatLv
import Derived.Test.YtmnhbehmjaibgaaGreatGap
import Derived.Test.YtmnhbehmjaibgaaGreatGar
set_option linter.unusedVariables false
set_option linter.unusedSimpArgs false
open Go Ev
namespace Go.Proofs.YtmnhbehmjaibgaaGreat
set_option maxRecDepth 10000
set_option maxHeartbeats 4000000
structure Pr where
 key:List UInt8
 val:List UInt8
 deriving DecidableEq
def Pr.cs (p:Pr):List AV:=[.str p.key,.str p.val]
theorem Pr.csl (p:Pr):p.cs.length=2:=rfl
theorem a1l.form {e:TypeId}{sz n:Nat}{S:Nat→Prop}{h:a0a}{v:AV}{cs:List AV}(w:a1l e sz S h v n cs):v=.nilslice∨(∃ B n c,v=.slice B 0 n c)∨∃ B n c,v=.oslice B 0 n c:=by
 cases w with
 |nil=>exact .inl rfl
 |sl=>exact .inr (.inl ⟨_,_,_,rfl⟩)
 |os=>exact .inr (.inr ⟨_,_,_,rfl⟩)
def Nm.cs (x:List UInt8×AV):List AV:=[.str x.1,x.2]
theorem Nm.len (x:List UInt8×AV):(Nm.cs x).length=2:=rfl
def a6c (h:a0a) (v:AV) (bs:List (List UInt8×List Pr)):Prop:=∃ l,Ls Nm.cs 2 h v l∧l.length=bs.length∧∀ (j:Nat) (x:List UInt8×AV) (b:List UInt8×List Pr),l[j]?=some x→bs[j]?=some b→x.1=b.1∧Ls Pr.cs 2 h x.2 b.2
theorem a6c.ext {h h':a0a}{v:AV}{bs:List (List UInt8×List Pr)}(d:a6c h v bs) (x:Ext h h'):a6c h' v bs:=by
 obtain⟨l,a,b,c⟩:=d
 exact⟨l,a.ext x,b,fun j y b h1 h2=>⟨(c j y b h1 h2).1,(c j y b h1 h2).2.ext x⟩⟩
set_option maxRecDepth 10000
set_option maxHeartbeats 4000000
theorem d4s {q:Nat}(p r:Pr):eqv (TV q) 100 37 (.agg p.cs) (.agg r.cs)=some (decide (p=r)):=by
 refine(d5s rfl rfl (a8p rfl rfl rfl (c7t rfl) (a8p rfl rfl rfl (c7t rfl) d6j))).trans ?_
 congr 1
 rw[decide_eq_decide]
 cases p; cases r
 simp only[Pr.mk.injEq]
 constructor
 ·rintro⟨a,b,_⟩
  exact⟨a,b⟩
 ·rintro⟨a,b⟩
  exact⟨a,b,trivial⟩
theorem d0l {n:Nat}(hn:0<n){h:a0a}{u v:AV}{l:List Pr}(hk:h.ok) (lu:Ls Pr.cs 2 h u l) (lv:Ls Pr.cs 2 h v l) (hl:l.length≤1000000):(TV n).sm 24 [u,v] h=some (.bool true,h):=by
 refine a6l hn (fun h=>Ls Pr.cs 2 h u l∧Ls Pr.cs 2 h v l∧h.ok) rfl rfl ⟨lu,lv,hk⟩ (fun hp=>⟨lu.any (by simp[AV.a0z] at hp; exact hp.1),lv.any (by simp[AV.a0z] at hp; exact hp.2),a2e⟩) ?_
 clear lu lv hk h
 rintro n hn h ⟨lu,lv,hk⟩
 refine a0u rfl rfl ?_
 have e1:=lu.len
 have e2:=lv.len
 have n1:=lu.ns
 have n2:=lv.ns
 refine walk ?_
 rw[show decide ((l.length:Int)≠(l.length:Int))=false from decide_eq_false (fun c=>c rfl)]
 refine walk ?_
 refine a0k (ι:=Nat) (fun i=>l.length-i) (fun i=>[(0,u),(1,v),(5,.int .i64 i)]) (fun i h2=>i≤l.length∧Ext h h2) 0 hsub ⟨Nat.zero_le _,.refl _⟩ ?_
 rintro i h2 ⟨hi,x2⟩ next
 have k2:=x2.ok hk
 by_cases c:i<l.length
 case neg =>
  refine walk ?_
  exact a0d (by exact hres) ⟨rfl,x2⟩
 obtain⟨y,hy⟩:∃ y,l[i]?=some y:=⟨_,List.getElem?_eq_getElem c⟩
 obtain⟨B,p,e,all,rw',hb,hg,hpl,he,a1⟩:=(lu.ext x2).at Pr.csl hy
 obtain⟨B2,p2,e2',all2,rw2,hb2,hg2,hpl2,he2,a2⟩:=(lv.ext x2).at Pr.csl hy
 refine walk ?_
 refine a0b (q:=9) (ms:=[0,0,3,7,0,0,48,112,255]) (hl:=[[18,21,22,23,24],[17,21,22,23,24],[21,22,23,24],[21,22,23,24],[17,18,19,20,22],[17,18,19,20,21],[17,18,19,20],[17,18,19,20],[]]) hok rfl (by kernel_rfl) (by kernel_rfl) rfl ?_
 refine walk ?_
 refine a2z rfl rfl rfl rfl (a3k rfl rfl rfl (a8u (d4s y y) rfl) rfl) ?_
 rw[show decide (¬ y=y)=false from decide_eq_false (fun c=>c rfl)]
 refine walk ?_
 exact next (i+1) (by omega) (by exact hsub) ⟨by omega,by exact a0g⟩
theorem a6c.any {h h':a0a}{v:AV}{bs:List (List UInt8×List Pr)}(d:a6c h v bs) (p:v.plain=true):a6c h' v bs:=by
 obtain⟨l,a,b,c⟩:=d
 have hl:l=[]:=by
  have a':Sl h 2 v l.length (l.flatMap Nm.cs):=a
  cases v<;>first|(simp[AV.plain] at p; done)|exact a'.elim|exact List.length_eq_zero_iff.1 a'.1
 subst hl
 exact⟨[],a.any p,b,fun j x y q=>by simp at q⟩
theorem c5f {n:Nat}(hn:1<n){h:a0a}{u v:AV}{bs:List (List UInt8×List Pr)}(hk:h.ok) (du:a6c h u bs) (dv:a6c h v bs) (hl:bs.length≤1000) (hp:∀ b∈bs,b.2.length≤1000000):(TV n).sm 15 [.agg [u],.agg [v]] h=some (.bool true,h):=by
 refine a6l hn (fun h=>a6c h u bs∧a6c h v bs∧h.ok) rfl rfl ⟨du,dv,hk⟩ (fun hp=>⟨du.any (by simp[AV.a0z,AV.plain] at hp; exact hp.1),dv.any (by simp[AV.a0z,AV.plain] at hp; exact hp.2),a2e⟩) ?_
 clear du dv hk h
 rintro n hn h ⟨du,dv,hk⟩
 obtain⟨lu,du1,du2,du3⟩:=du
 obtain⟨lv,dv1,dv2,dv3⟩:=dv
 refine a0u rfl rfl ?_
 have e1:=du1.len
 have e2:=dv1.len
 have n1:=du1.ns
 have n2:=dv1.ns
 rw[du2] at e1
 rw[dv2] at e2
 refine walk ?_
 rw[show decide ((bs.length:Int)≠(bs.length:Int))=false from decide_eq_false (fun c=>c rfl)]
 refine walk ?_
 refine a0k (ι:=Nat) (fun i=>bs.length-i) (fun i=>[(2,.ptr h.next 0),(3,.ptr (h.next+1) 0),(5,.int .i64 i)]) (fun i h2=>i≤bs.length∧Ext h h2∧h.next+2≤h2.next∧h2.get h.next=some (.cells 27 [u] true)∧h2.get (h.next+1)=some (.cells 27 [v] true)) 0 (by exact hsub) ⟨Nat.zero_le _,by exact a0g,Nat.le_refl _,by exact a0j,by exact a0j⟩ ?_
 rintro i h2 ⟨hi,x2,nx2,g1,g2⟩ next
 have k2:=x2.ok hk
 by_cases c:i<bs.length
 case neg =>
  refine walk ?_
  exact a0d (by exact hres) ⟨rfl,x2⟩
 obtain⟨y,hy⟩:∃ y,lu[i]?=some y:=⟨_,List.getElem?_eq_getElem (by omega)⟩
 obtain⟨y',hy'⟩:∃ y',lv[i]?=some y':=⟨_,List.getElem?_eq_getElem (by omega)⟩
 obtain⟨b,hb0⟩:∃ b,bs[i]?=some b:=⟨_,List.getElem?_eq_getElem c⟩
 obtain⟨q1,q2⟩:=du3 i y b hy hb0
 obtain⟨q1',q2'⟩:=dv3 i y' b hy' hb0
 have bm:=hp b (List.mem_of_getElem? hb0)
 obtain⟨B,p,e,all,rw',hb,hg,hpl,he,a1⟩:=(du1.ext x2).at Nm.len hy
 obtain⟨B2,p2,e2',all2,rw2,hb2,hg2,hpl2,he2,a2⟩:=(dv1.ext x2).at Nm.len hy'
 have he:(all.drop p).take 2=[.str y.1,y.2]:=he
 have he2:(all2.drop p2).take 2=[.str y'.1,y'.2]:=he2
 have eq:y.1=y'.1:=q1.trans q1'.symm
 refine walk ?_
 have w1:=d0l (n:=n) (by omega) (by exact a0a.a2g k2 29) ((q2.ext x2).ext (Ext.more (Ext.refl _) k2 29)) ((q2'.ext x2).ext (Ext.more (Ext.refl _) k2 29)) bm
 refine a0b (q:=29) (ms:=[0,1,0,7,15,31,0,64,0,448,960,1984,4095,8191,16383,32767,16383,131071,262143,524287,16383,1064959,16383,7356415,15745023,32522239,67108863,134217727,268435455]) (hl:=[[22,26,27,28,29,30,31],[22,26,27,28,29,30,31],[20,21,26,27,28,29,30,31],[26,27,28,29,30,31],[26,27,28,29,30,31],[26,27,28,29,30,31],[20,21,22,23,24,25,28],[20,21,22,23,24,25,28],[20,21,22,23,24,25,26,27],[20,21,22,23,24,25],[20,21,22,23,24,25],[20,21,22,23,24,25],[],[],[36,40,41,42,43,44,45],[36,40,41,42,43,44,45],[34,35,40,41,42,43,44,45],[40,41,42,43,44,45],[40,41,42,43,44,45],[40,41,42,43,44,45],[34,35,36,37,38,39,42],[34,35,36,37,38,39,42],[34,35,36,37,38,39,40,41],[34,35,36,37,38,39],[34,35,36,37,38,39],[34,35,36,37,38,39],[],[],[]]) hok rfl (by kernel_rfl) (by kernel_rfl) rfl ?_
 refine walk ?_
 refine c4n w1 rfl rfl rfl rfl rfl rfl ?_
 refine walk ?_
 exact next (i+1) (by omega) (by exact hsub) ⟨by omega,by exact a0g,by show h.next+2≤h2.next+29; omega,g1,g2⟩
set_option maxRecDepth 10000
set_option maxHeartbeats 4000000
def a6s:Nat→List Pr→Option Nat
 |b,[]=>some b
 |b,p::l=>if p.key.length>100∨p.val.length>2000 then none else a6s (b+p.key.length+p.val.length) l
def a7y:Nat→Nat→List (List UInt8×List Pr)→Bool
 |n,b,[]=>decide (b≤9000)
 |n,b,x::l=>if n+x.2.length>80∨x.1.length>100 then false else match a6s b x.2 with
  |none=>false
  |some b'=>a7y (n+x.2.length) b' l
def c2w (bs:List (List UInt8×List Pr)):Bool:=if bs.length>10 then false else a7y 0 0 bs
structure f1f (bs:List (List UInt8×List Pr)):Prop where
 len:bs.length≤10
 all:(bs.map (·.2.length)).sum≤80
 nm:∀ b∈bs,b.1.length≤100∧b.2.length≤80∧∀ p∈b.2,p.key.length≤100∧p.val.length≤2000
theorem c6n:∀ (l:List Pr) (b b':Nat),a6s b l=some b'→∀ p∈l,p.key.length≤100∧p.val.length≤2000
 |[],b,b',h,p,hp=>by simp at hp
 |x::l,b,b',h,p,hp=>by
  unfold a6s at h
  split at h
  ·cases h
  ·rename_i c
   rcases List.mem_cons.1 hp with r|r
   ·subst r; omega
   ·exact c6n l _ _ h p r
theorem c6j:∀ (l:List (List UInt8×List Pr)) (n b:Nat),a7y n b l=true→n≤80→n+(l.map (·.2.length)).sum≤80∧∀ b∈l,b.1.length≤100∧b.2.length≤80∧∀ p∈b.2,p.key.length≤100∧p.val.length≤2000
 |[],n,b,h,hn=>⟨by simpa using hn,fun b hb=>by simp at hb⟩
 |x::l,n,b,h,hn=>by
  unfold a7y at h
  split at h
  ·cases h
  ·rename_i c
   split at h
   ·cases h
   ·rename_i b' e
    obtain⟨h1,h2⟩:=c6j l _ _ h (by omega)
    refine⟨by simp only[List.map_cons,List.sum_cons]; omega,fun y hy=>?_⟩
    rcases List.mem_cons.1 hy with r|r
    ·subst r
     exact⟨by omega,by omega,c6n _ _ _ e⟩
    ·exact h2 y r
theorem d9v {bs:List (List UInt8×List Pr)}(h:c2w bs=true):f1f bs:=by
 unfold c2w at h
 split at h
 ·cases h
 ·obtain⟨h1,h2⟩:=c6j bs 0 0 h (by omega)
  exact⟨by omega,by omega,h2⟩
theorem d2v {n:Nat}(hn:0<n){h:a0a}{v:AV}{bs:List (List UInt8×List Pr)}(hk:h.ok) (dl:a6c h v bs) (fl:bs.length<9223372036854775808) (fb:∀ b∈bs,b.1.length<9223372036854775808∧b.2.length<9223372036854775808∧∀ p∈b.2,p.key.length<9223372036854775808∧p.val.length<9223372036854775808):(TV n).sm 17 [.agg [v]] h=some (.bool (c2w bs),h):=by
 refine a6l hn (fun h=>a6c h v bs∧h.ok) rfl rfl ⟨dl,hk⟩ (fun hp=>⟨dl.any (by simp[AV.a0z,AV.plain] at hp; exact hp),a2e⟩) ?_
 clear dl hk h
 rintro n hn h ⟨dl,hk⟩
 obtain⟨nl,d1,d2,d3⟩:=dl
 have e1:=d1.len
 have n1:=d1.ns
 rw[d2] at e1
 refine a0u rfl rfl ?_
 unfold c2w
 by_cases c10:bs.length>10
 ·have c11:(bs.length:Int)>10:=by omega
  rw[if_pos c10]
  refine walk ?_
  exact a0d (by exact hres) ⟨rfl,by exact a0g⟩
 have c11:¬ (bs.length:Int)>10:=by omega
 rw[if_neg c10]
 refine walk ?_
 refine a0k (ι:=Nat×Nat×Nat) (fun a=>bs.length-a.1) (fun a=>[(1,.ptr h.next 0),(3,.int .i64 (a.2.1:Nat)),(4,.int .i64 (a.2.2:Nat)),(5,.int .i64 (a.1:Nat))]) (fun a h2=>a.1≤bs.length∧Ext h h2∧h.next<h2.next∧h2.get h.next=some (.cells 27 [v] true)∧a.2.1≤80∧a.2.2≤a.2.1*2100∧a7y a.2.1 a.2.2 (bs.drop a.1)=a7y 0 0 bs) (0,0,0) (by exact hsub) ⟨Nat.zero_le _,by exact a0g,by exact hlt,by exact a0j,by decide,by decide,rfl⟩ ?_
 rintro⟨i,m,b⟩ h2 ⟨hi,x2,l2,g2,hm,hb,st⟩ next
 dsimp only at hi hm hb st next ⊢
 have k2:=x2.ok hk
 by_cases c:i<bs.length
 case neg =>
  have ed:bs.drop i=[]:=List.drop_of_length_le (by omega)
  rw[ed] at st
  refine walk ?_
  refine a0d (by exact hres) ⟨?_,by exact a0g⟩
  rw[← st]
  show AV.bool (decide ((b:Int)≤9000))=.bool (decide (b≤9000))
  congr 1
  rw[decide_eq_decide]
  omega
 obtain⟨y,hy⟩:∃ y,nl[i]?=some y:=⟨_,List.getElem?_eq_getElem (by omega)⟩
 obtain⟨bk,hb0⟩:∃ b,bs[i]?=some b:=⟨_,List.getElem?_eq_getElem c⟩
 obtain⟨q1,q2⟩:=d3 i y bk hy hb0
 have edr:bs.drop i=bk::bs.drop (i+1):=by
  obtain⟨hi',e⟩:=List.getElem?_eq_some_iff.1 hb0
  rw[List.drop_eq_getElem_cons c,e]
 rw[edr] at st
 obtain⟨f1,f2,f3⟩:=fb bk (List.mem_of_getElem? hb0)
 obtain⟨B,p,e,all,rw',hbB,hg,hpl,he,a1⟩:=(d1.ext x2).at Nm.len hy
 have he:(all.drop p).take 2=[.str y.1,y.2]:=he
 have lw:=q2.len
 have nw:=q2.ns
 have yl:y.1.length=bk.1.length:=by rw[q1]
 by_cases cA:(bk.2.length:Int)>80-(m:Int)
 ·have:a7y m b (bk::bs.drop (i+1))=false:=by unfold a7y; rw[if_pos (by omega)]
  rw[← st,this]
  refine walk ?_
  exact a0d (by exact hres) ⟨rfl,by exact a0g⟩
 by_cases cB:(y.1.length:Int)>100
 ·have:a7y m b (bk::bs.drop (i+1))=false:=by unfold a7y; rw[if_pos (by omega)]
  rw[← st,this]
  refine walk ?_
  exact a0d (by exact hres) ⟨rfl,by exact a0g⟩
 have c1:¬ (m+bk.2.length>80∨bk.1.length>100):=by omega
 have st2:a7y m b (bk::bs.drop (i+1))=match a6s b bk.2 with
  |none=>false
  |some b'=>a7y (m+bk.2.length) b' (bs.drop (i+1)):=by conv=>lhs; unfold a7y; rw[if_neg c1]
 rw[st2] at st
 refine walk ?_
 refine a0k (ι:=Nat×Nat) (fun a=>bk.2.length-a.1) (fun a=>[(1,.ptr h.next 0),(3,.int .i64 ((m+bk.2.length:Nat):Int)),(4,.int .i64 (a.2:Nat)),(5,.int .i64 (i:Nat)),(6,y.2),(7,.int .i64 (a.1:Nat))]) (fun a h4=>a.1≤bk.2.length∧Ext h2 h4∧a.2≤b+a.1*2100∧a6s a.2 (bk.2.drop a.1)=a6s b bk.2) (0,b) (by rw[show((m+bk.2.length:Nat):Int)=(m:Int)+(bk.2.length:Int) by omega]; exact hsub) ⟨Nat.zero_le _,.refl _,by simp,by simp⟩ ?_
 rintro⟨j,bb⟩ h4 ⟨hj,x4,hbb,sp⟩ next4
 dsimp only at hj hbb sp next4 ⊢
 have x24:=x2.trans x4
 have k4:=x24.ok hk
 have g4:=(x4.old _ l2).trans g2
 by_cases c4:j<bk.2.length
 case neg =>
  have ej:bk.2.drop j=[]:=List.drop_of_length_le (by omega)
  rw[ej] at sp
  have sp:a6s b bk.2=some bb:=sp.symm
  rw[sp] at st
  refine walk ?_
  have ej2:j=bk.2.length:=by omega
  refine next (i+1,m+bk.2.length,bb) (by simp only; omega) (by exact hsub) ⟨by simp only; omega,x24,by have:=x4.nx; omega,g4,by simp only; omega,by simp only; rw[Nat.add_mul]; omega,st⟩
 obtain⟨u,hu⟩:∃ u,bk.2[j]?=some u:=⟨_,List.getElem?_eq_getElem c4⟩
 have edj:bk.2.drop j=u::bk.2.drop (j+1):=by
  obtain⟨hi',e⟩:=List.getElem?_eq_some_iff.1 hu
  rw[List.drop_eq_getElem_cons c4,e]
 rw[edj] at sp
 obtain⟨r1,r2⟩:=f3 u (List.mem_of_getElem? hu)
 clear a1 hbB hg hpl he
 obtain⟨B,p,e,all,rw',hbB,hg,hpl,he,a1⟩:=(q2.ext x24).at Pr.csl hu
 have he:(all.drop p).take 2=[.str u.key,.str u.val]:=he
 by_cases cC:(u.key.length:Int)>100
 ·have:a6s bb (u::bk.2.drop (j+1))=none:=by unfold a6s; rw[if_pos (by omega)]
  rw[← sp,this] at st
  rw[← st]
  refine walk ?_
  exact a0d (by exact hres) ⟨rfl,by exact a0g⟩
 by_cases cD:(u.val.length:Int)>2000
 ·have:a6s bb (u::bk.2.drop (j+1))=none:=by unfold a6s; rw[if_pos (by omega)]
  rw[← sp,this] at st
  rw[← st]
  refine walk ?_
  exact a0d (by exact hres) ⟨rfl,by exact a0g⟩
 have c5:¬ (u.key.length>100∨u.val.length>2000):=by omega
 have sp2:a6s bb (u::bk.2.drop (j+1))=a6s (bb+u.key.length+u.val.length) (bk.2.drop (j+1)):=by conv=>lhs; unfold a6s; rw[if_neg c5]
 rw[sp2] at sp
 refine walk ?_
 refine a0b (q:=16) (ms:=[0,0,0,6,14,30,62,127,0,0,768,1792,3840,7936,16383,32767]) (hl:=[[67,68,69,70,71,72,74,75,76,77,78,79],[66,68,74,75,76,77,78,79],[66,67,74,75,76,77,78,79],[66,74,75,76,77,78,79],[66,74,75,76,77,78,79],[66,74,75,76,77,78,79],[66,74,75,76,77,78,79],[74,75,76,77,78,79],[66,67,68,69,70,71,72,73,75],[66,67,68,69,70,71,72,73,74],[66,67,68,69,70,71,72,73],[66,67,68,69,70,71,72,73],[66,67,68,69,70,71,72,73],[66,67,68,69,70,71,72,73],[],[]]) hok rfl (by kernel_rfl) (by kernel_rfl) rfl ?_
 refine walk ?_
 refine next4 (j+1,bb+u.key.length+u.val.length) (by simp only; omega) (by rw[show((bb+u.key.length+u.val.length:Nat):Int)=(bb:Int)+(u.key.length:Int)+(u.val.length:Int) by omega]; exact hsub) ⟨by simp only; omega,by exact a0g,by simp only; rw[Nat.add_mul]; omega,sp⟩
theorem e8e {n:Nat}{h:a0a}{v:AV}{l:List Pr}(lv:Ls Pr.cs 2 h v l) (hl:l.length≤100000):∃ v' h',a1b (TV n) [.slice h.next 0 0 0,v] [33,33] (h.alloc (.cells 37 [] true))=.val v' h'∧a1f Pr.cs 37 2 (fun c=>h.next≤c∧c<h'.next) h' v' l∧Ext h h':=by
 have x1:Ext h (h.alloc (.cells 37 [] true)):=.alloc _ _
 obtain⟨v9,h9,e9,o9,t9⟩:=b2g (enc:=Pr.cs) (T:=TV n) (st:=33) (rest:=[33]) (h:=h.alloc (.cells 37 [] true)) (u:=.slice h.next 0 0 0) (w:=v) (l:=[]) (r:=l) (S:=fun c=>c=h.next) (a1l.sl (all:=[]) rfl (Nat.lt_succ_self _) (a0s _ _) (Nat.zero_le _) rfl rfl) (lv.ext x1) (by simp; omega) (fun p=>rfl) rfl rfl rfl (by exact Nat.le_of_ble_eq_true rfl) rfl (by decide) rfl
 have n9:h.next+1≤h9.next:=t9.nx
 refine⟨v9,h9,e9,a1l.mono o9 fun c q r=>⟨?_,r⟩,⟨by omega,fun c hc=>(t9.old c (by show c<h.next+1; omega) (by omega)).trans (x1.old c hc),fun k=>t9.ok (x1.ok k)⟩⟩
 rcases q with q|q
 ·omega
 ·have q:h.next+1≤c:=q
  omega
theorem e3i {n:Nat}{h:a0a}{v:AV}{l:List Pr}(hk:h.ok) (lv:Ls Pr.cs 2 h v l) (hl:l.length≤100000):a0l (TV n) 51 [v] h (fun r h'=>a1f Pr.cs 37 2 (fun c=>h.next≤c∧c<h'.next) h' r l∧Ext h h'):=by
 refine a0r (a1x rfl rfl) rfl rfl ?_
 obtain⟨v9,h9,e9,o9,x9⟩:=e8e (n:=n) lv hl
 rcases Sl.shape lv with ⟨e,-,c⟩|⟨e,-,c⟩|⟨b,p,c,e⟩|⟨b,p,e⟩<;>subst e
 ·have el:l=[]:=by
   cases l with
   |nil=>rfl
   |cons p l=>simp[Pr.cs] at c
  subst el
  refine walk ?_
  exact a0d (by exact hres) ⟨.nil,.refl _⟩
 all_goals
  refine walk ?_
  exact a0d (by exact hres) ⟨o9,x9⟩
structure b1f (lo:Nat) (h:a0a) (Sd Sp:Nat→Prop) (dv:AV) (nl:List (List UInt8×AV)) (bs:List (List UInt8×List Pr)):Prop where
 od:a1f Nm.cs 35 2 Sd h dv nl
 len:nl.length=bs.length
 at_:∀ (j:Nat) (x:List UInt8×AV) (b:List UInt8×List Pr),nl[j]?=some x→bs[j]?=some b→x.1=b.1∧a1f Pr.cs 37 2 Sp h x.2 b.2
 sd:∀ c,Sd c→lo≤c∧c<h.next∧¬ Sp c
 sp:∀ c,Sp c→lo≤c∧c<h.next
theorem b1f.den {lo:Nat}{h:a0a}{Sd Sp:Nat→Prop}{dv:AV}{nl:List (List UInt8×AV)}{bs:List (List UInt8×List Pr)}(o:b1f lo h Sd Sp dv nl bs):a6c h dv bs:=⟨nl,o.od.ls,o.len,fun j x b h1 h2=>⟨(o.at_ j x b h1 h2).1,(o.at_ j x b h1 h2).2.ls⟩⟩
theorem b1f.nil {lo:Nat}{h:a0a}:b1f lo h (fun _=>False) (fun _=>False) .nilslice [] []:=⟨.nil,rfl,fun j x b h1=>by simp at h1,fun c q=>q.elim,fun c q=>q.elim⟩
theorem b1f.keep {lo:Nat}{h h':a0a}{Sd Sp:Nat→Prop}{dv:AV}{nl:List (List UInt8×AV)}{bs:List (List UInt8×List Pr)}(o:b1f lo h Sd Sp dv nl bs) (hn:h.next≤h'.next) (k:∀ c,lo≤c→c<h.next→h'.get c=h.get c):b1f lo h' Sd Sp dv nl bs :=
 ⟨o.od.keep (fun c q hc=>k c (o.sd c q).1 hc) hn,o.len,fun j x b h1 h2=>⟨(o.at_ j x b h1 h2).1,(o.at_ j x b h1 h2).2.keep (fun c q hc=>k c (o.sp c q).1 hc) hn⟩,fun c q=>⟨(o.sd c q).1,by have:=(o.sd c q).2.1; omega,(o.sd c q).2.2⟩,fun c q=>⟨(o.sp c q).1,by have:=(o.sp c q).2; omega⟩⟩
theorem b1f.f3p {n lo c0:Nat}{ho h1 X:a0a}{Sd Sp Sw:Nat→Prop}{dv pv:AV}{nl:List (List UInt8×AV)}{bs:List (List UInt8×List Pr)}{nm:List UInt8}{ps:List Pr}(o:b1f lo ho Sd Sp dv nl bs) (op:a1f Pr.cs 37 2 Sw h1 pv ps) (hp:∀ c,Sw c→ho.next≤c∧c<h1.next) (h1n:ho.next≤h1.next) (nX:h1.next≤X.next) (k1:∀ c,c<ho.next→X.get c=ho.get c) (k2:∀ c,Sw c→X.get c=h1.get c) (hlo:lo≤ho.next) (gX:X.get c0=some (.cells 35 (Nm.cs (nm,pv)) true)) (lX:c0<X.next) (hl:bs.length≤1000) :
  ∃ v' h' Sd' Sp',a1b (TV n) [dv,.slice c0 0 1 1] [25,25] X=.val v' h'∧b1f lo h' Sd' Sp' v' (nl++[(nm,pv)]) (bs++[(nm,ps)])∧Ev.Touch Sd X h'∧v'.cells=[v']∧v'.one=true:=by
 have ho':(Nm.cs (nm,pv)).all AV.one=true:=by simp[Nm.cs,(a1l.one op).2]; try rfl
 obtain⟨v9,h9,e9,o9,t9⟩:=a4r (T:=TV n) (st:=25) (rest:=[25]) (h:=X) (x:=(nm,pv)) (o.od.keep (h':=X) (fun c q hl=>k1 c hl) (by omega)) gX lX (by rw[o.len]; omega) rfl ho' rfl rfl rfl (by exact Nat.le_of_ble_eq_true rfl) rfl (by decide) rfl
 have n9:=t9.nx
 have sdn:∀ c,Sd c→c<ho.next:=fun c q=>(o.sd c q).2.1
 refine⟨v9,h9,fun c=>Sd c∨(X.next≤c∧c<h9.next),fun c=>Sp c∨Sw c,e9,⟨a1l.mono o9 fun c q r=>?_,by simp[o.len],?_,?_,?_⟩,t9,(a1l.one o9).1,(a1l.one o9).2⟩
 ·rcases q with q|q
  ·exact .inl q
  ·exact .inr ⟨q,r⟩
 ·intro j x b hx hb
  by_cases cj:j<nl.length
  ·rw[List.getElem?_append_left cj] at hx
   rw[List.getElem?_append_left (by rw[← o.len]; exact cj)] at hb
   obtain⟨p1,p2⟩:=o.at_ j x b hx hb
   refine⟨p1,(p2.keep (h':=h9) (fun c q hc=>?_) (by omega)).mono fun c q r=>.inl q⟩
   exact(t9.old c (by omega) (fun r=>(o.sd c r).2.2 q)).trans (k1 c hc)
  ·have ej:j=nl.length:=by
    have:=(List.getElem?_eq_some_iff.1 hx).1
    simp at this
    omega
   rw[ej,List.getElem?_append_right (Nat.le_refl _),Nat.sub_self] at hx
   rw[ej,List.getElem?_append_right (by rw[o.len]; exact Nat.le_refl _),o.len,Nat.sub_self] at hb
   cases hx
   cases hb
   exact⟨rfl,(op.keep (h':=h9) (fun c q hc=>(t9.old c (by omega) (fun r=>by have:=sdn c r; have:=hp c q; omega)).trans (k2 c q)) (by omega)).mono fun c q r=>.inr q⟩
 ·intro c q
  rcases q with q|q
  ·obtain⟨a,b,d⟩:=o.sd c q
   exact⟨a,by omega,fun r=>by rcases r with r|r; exact d r; (have:=hp c r; omega)⟩
  ·exact⟨by omega,q.2,fun r=>by
    rcases r with r|r
    ·have:=(o.sp c r).2; omega
    ·have:=hp c r; omega⟩
 ·intro c q
  rcases q with q|q
  ·have:=o.sp c q; omega
  ·have:=hp c q; omega
theorem b1f.add {n lo c0 p0:Nat}{ho h1 X:a0a}{Sd Sp:Nat→Prop}{dv pv:AV}{nl:List (List UInt8×AV)}{bs:List (List UInt8×List Pr)}{nm:List UInt8}{ps:List Pr}(o:b1f lo ho Sd Sp dv nl bs) (op:a1f Pr.cs 37 2 (fun c=>p0≤c∧c<h1.next) h1 pv ps) (hp:ho.next≤p0) (h1n:ho.next≤h1.next) (nX:h1.next≤X.next) (k1:∀ c,c<ho.next→X.get c=ho.get c) (k2:∀ c,p0≤c→c<h1.next→X.get c=h1.get c) (hlo:lo≤ho.next) (gX:X.get c0=some (.cells 35 (Nm.cs (nm,pv)) true)) (lX:c0<X.next) (hl:bs.length≤1000) :
  ∃ v' h' Sd' Sp',a1b (TV n) [dv,.slice c0 0 1 1] [25,25] X=.val v' h'∧b1f lo h' Sd' Sp' v' (nl++[(nm,pv)]) (bs++[(nm,ps)])∧Ev.Touch Sd X h'∧v'.cells=[v']∧v'.one=true :=
 b1f.f3p o op (fun c q=>⟨by omega,q.2⟩) h1n nX k1 (fun c q=>k2 c q.1 q.2) hlo gX lX hl
theorem d9b {n:Nat}{h:a0a}{v:AV}{nm:List UInt8}{bs:List (List UInt8×List Pr)}(hk:h.ok) (dl:a6c h v bs) (hb:bs.length≤1000) (hp:∀ b∈bs,b.2.length≤100000):a0l (TV n) 25 [.agg [v],.str nm] h (fun r h'=>∃ a Sd Sp nl,r=.agg [a]∧Ext h h'∧b1f h.next h' Sd Sp a nl (bs.filter fun b=>decide (b.1≠nm))):=by
 obtain⟨ol,d1,d2,d3⟩:=dl
 have e1:=d1.len
 have n1:=d1.ns
 rw[d2] at e1
 refine a0r (a1x rfl rfl) rfl rfl ?_
 refine walk ?_
 refine a0k (ι:=Nat) (fun i=>bs.length-i) (fun i=>[(1,.str nm),(2,.ptr h.next 0),(4,.ptr (h.next+1) 0),(5,.ptr (h.next+2) 0),(9,v),(10,.int .i64 (bs.length:Nat)),(11,.int .i64 (i:Nat))]) (fun i h2=>i≤bs.length∧∃ dv Sd Sp nl,Ext h h2∧h2.get (h.next+1)=some (.cells 27 [.nilslice] true)∧h2.get (h.next+2)=some (.cells 27 [dv] true)∧h.next+3≤h2.next∧b1f (h.next+3) h2 Sd Sp dv nl ((bs.take i).filter fun b=>decide (b.1≠nm))) 0 (by exact hsub) ⟨Nat.zero_le _,.nilslice,_,_,[],by exact a0g,by exact a0j,by exact a0j,Nat.le_refl _,by rw[List.take_zero]; exact .nil⟩ ?_
 rintro i h2 ⟨hi,dv,Sd,Sp,nl,x2,g1,g2,l2,o⟩ next
 have k2:=x2.ok hk
 obtain⟨vdc,vdo⟩:=a1l.one o.od
 by_cases c:i<bs.length
 case neg =>
  have ei:bs.take i=bs:=List.take_of_length_le (by omega)
  rw[ei] at o
  refine walk ?_
  refine a5h rfl rfl (a5b (n:=1) (cs:=[.nilslice]) (vs:=[dv]) rfl rfl rfl rfl rfl (by simp[vdo]) g1 (by decide)) ?_
  refine walk ?_
  refine a0d (by exact hres) ⟨dv,Sd,Sp,nl,rfl,by exact a0g,?_⟩
  have o2:=o.keep (h':=h2.set (h.next+1) (.cells 27 [dv] true)) (Nat.le_refl _) (fun c q _=>a0a.gn _ _ _ _ (by omega))
  exact⟨o2.od,o2.len,o2.at_,fun c q=>⟨by have:=(o2.sd c q).1; omega,(o2.sd c q).2⟩,fun c q=>⟨by have:=(o2.sp c q).1; omega,(o2.sp c q).2⟩⟩
 obtain⟨y,hy⟩:∃ y,ol[i]?=some y:=⟨_,List.getElem?_eq_getElem (by omega)⟩
 obtain⟨bk,hb0⟩:∃ b,bs[i]?=some b:=⟨_,List.getElem?_eq_getElem c⟩
 obtain⟨q1,q2⟩:=d3 i y bk hy hb0
 have et:bs.take (i+1)=bs.take i++[bk]:=by rw[List.take_add_one,hb0]; rfl
 obtain⟨B,p,e,all,rw',hbB,hg,hpl,he,a1⟩:=(d1.ext x2).at Nm.len hy
 have he:(all.drop p).take 2=[.str y.1,y.2]:=he
 have yo:=Sl.one q2
 have yc:=Sl.cells q2
 have fl:((bs.take i).filter fun b=>decide (b.1≠nm)).length≤1000:=by
  have:=List.length_filter_le (fun b:List UInt8×List Pr=>decide (b.1≠nm)) (bs.take i)
  rw[List.length_take] at this
  omega
 refine walk ?_
 refine a5h rfl rfl (a5b (n:=2) (cs:=[.str [],.nilslice]) (vs:=[.str y.1,y.2]) rfl rfl rfl rfl rfl (by simp[yo]; rfl) (a0s _ _) (by decide)) ?_
 refine OJ.gen [(1,.str nm),(2,.ptr h.next 0),(4,.ptr (h.next+1) 0),(5,.ptr (h.next+2) 0),(7,.ptr h2.next 0),(9,v),(10,.int .i64 (bs.length:Nat)),(11,.int .i64 (i:Nat))] (fun g=>Ext h2 g∧g.next=h2.next+1∧g.get h2.next=some (.cells 35 [.str y.1,y.2] true)) (by exact hsub) ⟨by exact a0g,rfl,a0a.gs _ _ _⟩ ?_
 clear a1 hbB hg hpl he
 rintro H ⟨xH,nH,gH⟩
 have kH:=xH.ok k2
 have oH:∀ c,c<h2.next→H.get c=h2.get c:=fun c hc=>xH.old c hc
 have g2H:=(oH _ (by omega)).trans g2
 have g1H:=(oH _ (by omega)).trans g1
 by_cases cn:y.1=nm
 ·refine walk ?_
  refine next (i+1) (by omega) (by exact hsub) ⟨by omega,dv,Sd,Sp,nl,x2.trans xH,g1H,g2H,by omega,?_⟩
  rw[et,List.filter_append]
  have:[bk].filter (fun b=>decide (b.1≠nm))=[]:=by simp[← q1,cn]
  rw[this,List.append_nil]
  exact o.keep (by omega) fun c _ hc=>oH c hc
 refine walk ?_
 refine a0b (q:=12) (ms:=[0,1,0,4,0,16,48,124,252,511,1023,2047]) (hl:=[[21,22,23,24,25,26,27],[21,22,23,24,25,26,27],[19,20,23,24,25],[19,20,23,24,25],[19,20,21,22],[19,20,21,22],[19,20,21,22],[19,20],[19,20],[],[],[]]) kH rfl (by kernel_rfl) (by kernel_rfl) rfl ?_
 refine walk ?_
 refine a2c (e3i (n:=n) (v:=y.2) (l:=bk.2) (by exact hok) ((q2.ext (x2.trans xH)).ext (Ext.more (Ext.refl _) kH 12)) (hp bk (List.mem_of_getElem? hb0))) rfl rfl rfl rfl rfl rfl ?_
 rintro v5 h5 ⟨o5,x5⟩
 have n5:H.next+12≤h5.next:=x5.nx
 have old5:∀ c,c<H.next→h5.get c=H.get c:=fun c hc=>x5.old c (by show c<H.next+12; omega)
 have fv5:=a1l.form o5
 obtain⟨vc5,vo5⟩:=a1l.one o5
 obtain⟨v9,h9,Sd',Sp',e9,o9,t9,vc9,vo9⟩:=b1f.add (n:=n) (c0:=H.next+8) (p0:=H.next+12) (nm:=y.1) (h1:=h5) (X:=h5.set (H.next+8) (.cells 35 (Nm.cs (y.1,v5)) true)) o o5 (by omega) (by omega) (Nat.le_refl _) (fun c hc=>(a0a.gn _ _ _ _ (by omega)).trans ((old5 c (by omega)).trans (oH c hc))) (fun c q r=>a0a.gn _ _ _ _ (by omega)) (by omega) (a0a.gs _ _ _) (by show H.next+8<h5.next; omega) fl
 refine walk ?_
 refine a2z (v:=.agg [.str y.1,v5]) rfl rfl rfl rfl (by rcases fv5 with e|⟨_,_,_,e⟩|⟨_,_,_,e⟩<;>subst e<;>rfl) ?_
 have nD:¬ Sd (h.next+2):=fun q=>by have:=(o.sd _ q).1; omega
 have X9:∀ c,c<h2.next→¬ Sd c→h9.get c=h2.get c:=fun c hc q=>(t9.old c (by show c<h5.next; omega) q).trans ((a0a.gn _ _ _ _ (by omega)).trans ((old5 c (by omega)).trans (oH c hc)))
 have n9:h5.next≤h9.next:=t9.nx
 have g9:=(X9 (h.next+2) (by omega) nD).trans g2
 have k9:h9.ok:=t9.ok (a0w (x5.ok (by exact hok)) _ _ (by omega))
 have l9:h.next+2<h9.next:=by omega
 refine walk ?_
 have low:∀ c,Sd c→h.next+3≤c:=fun c q=>(o.sd c q).1
 have y9:∀ c,c<h.next+3→c≠h.next+2→(h9.set (h.next+2) (.cells 27 [v9] true)).get c=h2.get c:=fun c hc r=>(a0a.gn _ _ _ _ r).trans (X9 c (by omega) (fun q=>by have:=low c q; omega))
 refine next (i+1) (by omega) (by exact hsub) ⟨by omega,v9,Sd',Sp',nl++[(y.1,v5)],⟨by show h.next≤h9.next; omega,fun c hc=>(y9 c (by omega) (by omega)).trans (x2.old c hc),fun _=>a0w k9 _ _ l9⟩,(y9 _ (by omega) (by omega)).trans g1,a0a.gs _ _ _,by show h.next+3≤h9.next; omega,?_⟩
 have eb:(y.1,bk.2)=bk:=by rw[q1]
 rw[eb] at o9
 rw[et,List.filter_append]
 have:[bk].filter (fun b=>decide (b.1≠nm))=[bk]:=by simp[← q1,cn]
 rw[this]
 exact o9.keep (Nat.le_refl _) fun c hc _=>a0a.gn _ _ _ _ (by omega)
theorem d4z {n:Nat}{h:a0a}{v:AV}{nm:List UInt8}{bs:List (List UInt8×List Pr)}(hk:h.ok) (dl:a6c h v bs) (hb:bs.length≤1000) (hp:∀ b∈bs,b.2.length≤100000):a0l (TV n) 26 [.agg [v],.str nm] h (fun r h'=>∃ a Sd Sp nl,r=.agg [a]∧Ext h h'∧b1f h.next h' Sd Sp a nl (bs.filter fun b=>decide (b.1≠nm))):=by
 obtain⟨ol,d1,d2,d3⟩:=dl
 have e1:=d1.len
 have n1:=d1.ns
 rw[d2] at e1
 refine a0r (a1x rfl rfl) rfl rfl ?_
 refine walk ?_
 refine a0k (ι:=Nat) (fun i=>bs.length-i) (fun i=>[(1,.str nm),(2,.ptr h.next 0),(4,.ptr (h.next+1) 0),(5,.ptr (h.next+2) 0),(6,.int .i64 (i:Nat))]) (fun i h2=>i≤bs.length∧∃ dv Sd Sp nl,Ext h h2∧h2.get h.next=some (.cells 27 [v] true)∧h2.get (h.next+1)=some (.cells 27 [.nilslice] true)∧h2.get (h.next+2)=some (.cells 27 [dv] true)∧h.next+3≤h2.next∧b1f (h.next+3) h2 Sd Sp dv nl ((bs.take i).filter fun b=>decide (b.1≠nm))) 0 (by exact hsub) ⟨Nat.zero_le _,.nilslice,_,_,[],by exact a0g,by exact a0j,by exact a0j,by exact a0j,Nat.le_refl _,by rw[List.take_zero]; exact .nil⟩ ?_
 rintro i h2 ⟨hi,dv,Sd,Sp,nl,x2,g0,g1,g2,l2,o⟩ next
 have k2:=x2.ok hk
 obtain⟨vdc,vdo⟩:=a1l.one o.od
 by_cases c:i<bs.length
 case neg =>
  have ei:bs.take i=bs:=List.take_of_length_le (by omega)
  rw[ei] at o
  refine walk ?_
  refine a5h rfl rfl (a5b (n:=1) (cs:=[.nilslice]) (vs:=[dv]) rfl rfl rfl rfl rfl (by simp[vdo]) g1 (by decide)) ?_
  refine walk ?_
  refine a0d (by exact hres) ⟨dv,Sd,Sp,nl,rfl,by exact a0g,?_⟩
  have o2:=o.keep (h':=h2.set (h.next+1) (.cells 27 [dv] true)) (Nat.le_refl _) (fun c q _=>a0a.gn _ _ _ _ (by omega))
  exact⟨o2.od,o2.len,o2.at_,fun c q=>⟨by have:=(o2.sd c q).1; omega,(o2.sd c q).2⟩,fun c q=>⟨by have:=(o2.sp c q).1; omega,(o2.sp c q).2⟩⟩
 obtain⟨y,hy⟩:∃ y,ol[i]?=some y:=⟨_,List.getElem?_eq_getElem (by omega)⟩
 obtain⟨bk,hb0⟩:∃ b,bs[i]?=some b:=⟨_,List.getElem?_eq_getElem c⟩
 obtain⟨q1,q2⟩:=d3 i y bk hy hb0
 have et:bs.take (i+1)=bs.take i++[bk]:=by rw[List.take_add_one,hb0]; rfl
 obtain⟨B,p,e,all,rw',hbB,hg,hpl,he,a1⟩:=(d1.ext x2).at Nm.len hy
 have he:(all.drop p).take 2=[.str y.1,y.2]:=he
 rw[q1] at he
 have yo:=Sl.one q2
 have yc:=Sl.cells q2
 have fl:((bs.take i).filter fun b=>decide (b.1≠nm)).length≤1000:=by
  have:=List.length_filter_le (fun b:List UInt8×List Pr=>decide (b.1≠nm)) (bs.take i)
  rw[List.length_take] at this
  omega
 by_cases cn:bk.1=nm
 ·refine walk ?_
  refine next (i+1) (by omega) (by exact hsub) ⟨by omega,dv,Sd,Sp,nl,x2,g0,g1,g2,l2,?_⟩
  rw[et,List.filter_append]
  have:[bk].filter (fun b=>decide (b.1≠nm))=[]:=by simp[cn]
  rw[this,List.append_nil]
  exact o
 refine walk ?_
 refine a0b (q:=21) (ms:=[0,1,0,4,0,28,60,124,0,0,512,0,3584,7680,15872,32512,65532,131068,262143,524287,1048575]) (hl:=[[24,25,26,27,28,29,30,31,32,33,34,35,36,37,38,39],[24,25,26,27,28,29,30,31,32,33,34,35,36,37,38,39],[22,23,26,30,31,32,33,34,35,36,37],[22,23,26,30,31,32,33,34,35,36,37],[22,23,24,25,30,31,32,33,34,35,36,37],[22,23,30,31,32,33,34,35,36,37],[22,23,30,31,32,33,34,35,36,37],[22,23,30,31,32,33,34,35,36,37],[22,23,24,25,26,27,28,29,31,32,33,34,35,36],[22,23,24,25,26,27,28,29,30,33],[22,23,24,25,26,27,28,29,30,33],[22,23,24,25,26,27,28,29,30,31,32],[22,23,24,25,26,27,28,29,30],[22,23,24,25,26,27,28,29,30],[22,23,24,25,26,27,28,29,30],[22,23,24,25,26,27,28,29],[22,23],[22,23],[],[],[]]) k2 rfl (by kernel_rfl) (by kernel_rfl) rfl ?_
 obtain⟨X1,hX1⟩:∃ X1,X1=(a0a.mk h2.t (h2.next+21)).set (h2.next+8) (.cells 37 [] true):=⟨_,rfl⟩
 have nX1:X1.next=h2.next+21:=by rw[hX1]; rfl
 have oX1:∀ c,c<h2.next→X1.get c=h2.get c:=fun c hc=>by rw[hX1]; exact a0a.gn _ _ _ _ (by omega)
 have kX1:X1.ok:=by rw[hX1]; exact a0w (a0a.a2g k2 21) _ _ (by show h2.next+8<h2.next+21; omega)
 have xX1:Ext h2 X1:=⟨by omega,oX1,fun _=>kX1⟩
 obtain⟨v5,h5,e5,o5,t5⟩:=b2g (enc:=Pr.cs) (T:=TV n) (st:=33) (rest:=[33]) (h:=X1) (u:=.slice (h2.next+8) 0 0 0) (w:=y.2) (l:=[]) (r:=bk.2) (S:=fun c=>c=h2.next+8) (a1l.sl (all:=[]) rfl (by omega) (by rw[hX1]; exact a0a.gs _ _ _) (Nat.zero_le _) rfl rfl) ((q2.ext x2).ext xX1) (by have:=hp bk (List.mem_of_getElem? hb0); simp; omega) (fun p=>rfl) rfl rfl rfl (by exact Nat.le_of_ble_eq_true rfl) rfl (by decide) rfl
 have n5:=t5.nx
 rw[hX1] at e5
 have old5:∀ c,c<h2.next→h5.get c=h2.get c:=fun c hc=>(t5.old c (by omega) (by omega)).trans (oX1 c hc)
 have x5:Ext h2 h5:=⟨by omega,old5,fun _=>t5.ok kX1⟩
 have o5':a1f Pr.cs 37 2 (fun c=>(c=h2.next+8∨h2.next+21≤c)∧c<h5.next) h5 v5 bk.2:=a1l.mono o5 fun c q r=>⟨by
  rcases q with q|q
  ·exact .inl q
  ·exact .inr (by omega),r⟩
 have fv5:=a1l.form o5
 obtain⟨vc5,vo5⟩:=a1l.one o5
 obtain⟨v9,h9,Sd',Sp',e9,o9,t9,vc9,vo9⟩:=b1f.f3p (n:=n) (c0:=h2.next+17) (nm:=bk.1) (h1:=h5) (X:=h5.set (h2.next+17) (.cells 35 (Nm.cs (bk.1,v5)) true)) o o5' (fun c q=>⟨by omega,q.2⟩) (by omega) (Nat.le_refl _) (fun c hc=>(a0a.gn _ _ _ _ (by omega)).trans (old5 c hc)) (fun c q=>a0a.gn _ _ _ _ (by omega)) (by omega) (a0a.gs _ _ _) (by show h2.next+17<h5.next; omega) fl
 refine walk ?_
 refine a2z (v:=.agg [.str bk.1,v5]) rfl rfl rfl rfl (by rcases fv5 with e|⟨_,_,_,e⟩|⟨_,_,_,e⟩<;>subst e<;>rfl) ?_
 have nD:¬ Sd (h.next+2):=fun q=>by have:=(o.sd _ q).1; omega
 have X9:∀ c,c<h2.next→¬ Sd c→h9.get c=h2.get c:=fun c hc q=>(t9.old c (by show c<h5.next; omega) q).trans ((a0a.gn _ _ _ _ (by omega)).trans (old5 c hc))
 have n9:h5.next≤h9.next:=t9.nx
 have g9:=(X9 (h.next+2) (by omega) nD).trans g2
 have k9:h9.ok:=t9.ok (a0w (t5.ok kX1) _ _ (by omega))
 have l9:h.next+2<h9.next:=by omega
 refine walk ?_
 have low:∀ c,Sd c→h.next+3≤c:=fun c q=>(o.sd c q).1
 have y9:∀ c,c<h.next+3→c≠h.next+2→(h9.set (h.next+2) (.cells 27 [v9] true)).get c=h2.get c:=fun c hc r=>(a0a.gn _ _ _ _ r).trans (X9 c (by omega) (fun q=>by have:=low c q; omega))
 refine next (i+1) (by omega) (by exact hsub) ⟨by omega,v9,Sd',Sp',nl++[(bk.1,v5)],⟨by show h.next≤h9.next; omega,fun c hc=>(y9 c (by omega) (by omega)).trans (x2.old c hc),fun _=>a0w k9 _ _ l9⟩,(y9 _ (by omega) (by omega)).trans g0,(y9 _ (by omega) (by omega)).trans g1,a0a.gs _ _ _,by show h.next+3≤h9.next; omega,?_⟩
 rw[et,List.filter_append]
 have:[bk].filter (fun b=>decide (b.1≠nm))=[bk]:=by simp[cn]
 rw[this]
 exact o9.keep (Nat.le_refl _) fun c hc _=>a0a.gn _ _ _ _ (by omega)
set_option maxRecDepth 10000
set_option maxHeartbeats 4000000
open Go.RowKit Go.ChangeShapes Go.WideShapes
section
variable {H:Type}{enc:TypeId×Value→H}{W:World}
theorem d2c:Tryz.prog.cellsOf 37=2:=by kernel_rfl
theorem c9p:Tryz.prog.cellsOf 35=2:=by kernel_rfl
theorem d9x:Tryz.prog.cellsOf 27=1:=by kernel_rfl
theorem e3s {l:List Value}(h:l.length=2):∃ a b,l=[a,b]:=by
 match l,h with
 |[a,b],_=>exact⟨a,b,rfl⟩
theorem f0v {l:List Value}(h:l.length=1):∃ a,l=[a]:=by
 match l,h with
 |[a],_=>exact⟨a,rfl⟩
theorem c8o {E:En}(s:ByteArray):VR E (.str s.data.toList) (.string s):=by
 have:=VR.str (E:=E) s.data.toList
 have e:(⟨s.data.toList.toArray⟩:ByteArray)=s:=by cases s; simp
 rw[e] at this
 exact this
theorem d4n {s:ByteArray}(h:s.size≤maxLen):s.data.toList.length≤maxLen:=by
 have:s.data.toList.length=s.size:=Array.length_toList
 omega
theorem add_add (a:Addr) (i j:Nat):(a.add i).add j=a.add (i+j):=by
 unfold Addr.add
 by_cases c:i=0
 ·subst c; simp
 ·by_cases d:j=0
  ·subst d; simp
  ·simp[c,d,Nat.add_assoc]
theorem d6u {t:TypeId}{fs:Array Field}{fuel:Nat}{cs:List Value}{x:DataW H×List MemPlace}(ht:Tryz.prog.underlying t=some (.struct fs)) (h:DataW.trod enc Tryz.prog W 0 (fun _=>true) true fuel t cs=some x):cs.length=Tryz.prog.cellsOf t∧∃ n,∀ (i:Nat) (f:Field),fs[i]?=some f→∃ y,DataW.trod enc Tryz.prog W 0 (fun _=>true) true n f.type ((cs.drop f.offset).take (Tryz.prog.cellsOf f.type))=some y:=by
 obtain⟨xs,n,_,_,hl,hx,hall⟩:=DataW.trod_struct ht h
 refine⟨hl,n,fun i f hi=>?_⟩
 have lt:=(Array.getElem?_eq_some_iff.1 hi).1
 have:=hall i f hi
 rw[List.getElem?_eq_getElem (by omega)] at this
 exact⟨_,this⟩
theorem e0p {fs:Array Field}{l:List Value}{n:Nat}(hf:∀ (i:Nat) (f:Field),fs[i]?=some f→∃ y,DataW.trod enc Tryz.prog W 0 (fun _=>true) true n f.type ((l.drop f.offset).take (Tryz.prog.cellsOf f.type))=some y) (i:Nat){f:Field}(hi:fs[i]?=some f) (hc:Tryz.prog.cellsOf f.type=1){v:Value}(hd:(l.drop f.offset).take 1=[v]){t:TypeId}(ht:f.type=t):∃ y,DataW.trod enc Tryz.prog W 0 (fun _=>true) true n t [v]=some y:=by
 have h:=hf i f hi
 rw[hc,hd,ht] at h
 exact h
def Pr.fit (p:Pr):Prop:=p.key.length≤maxLen∧p.val.length≤maxLen
theorem e6o {fuel:Nat}{cs:List Value}{x:DataW H×List MemPlace}(h:DataW.trod enc Tryz.prog W 0 (fun _=>true) true fuel 37 cs=some x):∃ p:Pr,p.fit∧∀ E,VRs E p.cs cs:=by
 obtain⟨hl,n,hf⟩:=d6u Tryz.underlying37 h
 rw[d2c] at hl
 obtain⟨a,b,rfl⟩:=e3s hl
 obtain⟨s0,rfl,l0⟩:=d4c (v:=a) hf 0 rfl (by kernel_rfl) rfl Tryz.underlying9
 obtain⟨s1,rfl,l1⟩:=d4c (v:=b) hf 1 rfl (by kernel_rfl) rfl Tryz.underlying9
 exact⟨⟨s0.data.toList,s1.data.toList⟩,⟨d4n l0,d4n l1⟩,fun E=>.cons _ _ _ _ (c8o s0) (.cons _ _ _ _ (c8o s1) .nil)⟩
theorem b9h {α:Type}{C:Nat→α→Prop}:∀ (n:Nat),(∀ i,i<n→∃ x,C i x)→∃ l:List α,l.length=n∧∀ i x,l[i]?=some x→C i x
 |0,_=>⟨[],rfl,fun i x h=>by simp at h⟩
 |n+1,h=>by
  obtain⟨l,e,k⟩:=b9h n fun i hi=>h i (by omega)
  obtain⟨x,hx⟩:=h n (by omega)
  refine⟨l++[x],by simp[e],fun i y hy=>?_⟩
  by_cases c:i<l.length
  ·rw[List.getElem?_append_left c] at hy
   exact k i y hy
  ·rw[List.getElem?_append_right (by omega)] at hy
   obtain⟨hi,q⟩:=List.getElem?_eq_some_iff.1 hy
   simp at q hi
   have:i=n:=by omega
   subst this
   rw[← q]
   exact hx
theorem d1q {te ts:TypeId}{sz fuel:Nat}{cs:List Value}{x:DataW H×List MemPlace}(hu:Tryz.prog.underlying ts=some (.slice te)) (hc:Tryz.prog.cellsOf te=sz) (h:DataW.trod enc Tryz.prog W 0 (fun _=>true) true fuel ts cs=some x) :
  cs=[.slice none 0 0]∨∃ (a:Addr) (n cap:Nat) (vs:List (List Value)),cs=[.slice (some a) n cap]∧n≤maxLen∧vs.length=n∧∀ i v,vs[i]?=some v→(∀ r u,v[r]?=some u→W.cell? (a.add (i*sz+r))=some u)∧∃ fuel y,DataW.trod enc Tryz.prog W 0 (fun _=>true) true fuel te v=some y:=by
 rcases DataW.trod_slice hu h with ⟨e,_⟩|⟨a,len,cap,elems,rest,n,_,e,_,_,hl,hm,hle,he,_⟩
 ·exact .inl e
 right
 rw[hc] at he
 obtain⟨vs,h1,h2⟩:=b9h (C:=fun i (v:List Value)=>(∀ r u,v[r]?=some u→W.cell? (a.add (i*sz+r))=some u)∧∃ fuel y,DataW.trod enc Tryz.prog W 0 (fun _=>true) true fuel te v=some y) len fun i hi=>by
  have q:=he i hi
  rw[List.getElem?_eq_getElem (by omega)] at q
  obtain⟨v,h1,h2⟩:=Option.bind_eq_some_iff.1 q
  obtain⟨_,hlen,hcell⟩:=World.cells?_some h1
  refine⟨v,fun r u hr=>?_,n,_,h2⟩
  have hr':=(List.getElem?_eq_some_iff.1 hr).1
  have c:=hcell r (by omega)
  rw[hr,add_add] at c
  exact c
 exact⟨a,len,cap,vs,e,by omega,h1,h2⟩
theorem e0r {fuel:Nat}{v:Value}{x:DataW H×List MemPlace}{l:List Inr}(ok:b8b W l) (h:DataW.trod enc Tryz.prog W 0 (fun _=>true) true fuel 33 [v]=some x) :
  ∃ (m:List Inr) (a:AV) (ps:List Pr),b8b W (l++m)∧VR (b0x (l++m)) a v∧Ls Pr.cs 2 (a4w (l++m)) a ps∧ps.length≤maxLen∧∀ p∈ps,p.fit:=by
 rcases d1q Tryz.underlying33 d2c h with e|⟨a,n,cap,vs,e,hn,hl,hv⟩
 ·cases e
  exact⟨[],.nilslice,[],by rwa [List.append_nil],.nilslice,Ls.nil,Nat.zero_le _,by simp⟩
 ·cases e
  by_cases z:n=0
  ·subst z
   exact⟨[],.eslice,[],by rwa [List.append_nil],.eslice _ _,⟨rfl,rfl⟩,Nat.zero_le _,by simp⟩
  ·obtain⟨ps,hp,hq⟩:=b9h (C:=fun i (p:Pr)=>p.fit∧∃ v,vs[i]?=some v∧∀ E,VRs E p.cs v) n fun i hi=>by
    have ei:vs[i]?=some (vs[i]'(by omega)):=by simp
    obtain⟨-,f,y,t⟩:=hv i _ ei
    obtain⟨p,h1,h2⟩:=e6o t
    exact⟨p,h1,_,ei,h2⟩
   obtain⟨x,h1,h2,h3⟩:=d0r (sz:=2) (cap:=cap) Pr.csl (by omega) ok (a:=a) (n:=n) (xs:=ps) (vs:=fun i=>(vs[i]?).getD []) (by omega) hp (fun i hi r v q=>by
    have ei:vs[i]?=some (vs[i]'(by omega)):=by simp
    simp only[ei] at q
    exact(hv i _ ei).1 r v q) (fun i p hi=>by
    obtain⟨-,v,h1,h2⟩:=hq i p hi
    simp only[h1]
    exact h2 _)
   exact⟨[x],_,ps,h1,h2,h3,by omega,fun p hp=>by
    obtain⟨i,hi⟩:=List.mem_iff_getElem?.1 hp
    exact(hq i p hi).1⟩
def NmR (l:List Inr) (y:List UInt8×AV) (b:List UInt8×List Pr) (v:List Value):Prop:=y.1=b.1∧Ls Pr.cs 2 (a4w l) y.2 b.2∧VRs (b0x l) (Nm.cs y) v∧b.1.length≤maxLen∧b.2.length≤maxLen∧∀ p∈b.2,p.fit
theorem NmR.more {l:List Inr}{y:List UInt8×AV}{b:List UInt8×List Pr}{v:List Value}(n:NmR l y b v) (m:List Inr):NmR (l++m) y b v:=⟨n.1,n.2.1.ext (d4l l m),n.2.2.1.mono (d7a l m),n.2.2.2⟩
theorem e5h {fuel:Nat}{cs:List Value}{x:DataW H×List MemPlace}{l:List Inr}(ok:b8b W l) (h:DataW.trod enc Tryz.prog W 0 (fun _=>true) true fuel 35 cs=some x):∃ (m:List Inr) (y:List UInt8×AV) (b:List UInt8×List Pr),b8b W (l++m)∧NmR (l++m) y b cs:=by
 obtain⟨hl,n,hf⟩:=d6u Tryz.underlying35 h
 rw[c9p] at hl
 obtain⟨a,b,rfl⟩:=e3s hl
 obtain⟨s0,rfl,l0⟩:=d4c (v:=a) hf 0 rfl (by kernel_rfl) rfl Tryz.underlying9
 obtain⟨y,hy⟩:=e0p (v:=b) hf 1 rfl (by kernel_rfl) rfl (t:=33) rfl
 obtain⟨m,av,ps,k1,k2,k3,k4,k5⟩:=e0r ok hy
 exact⟨m,(s0.data.toList,av),(s0.data.toList,ps),k1,rfl,k3,.cons _ _ _ _ (c8o s0) (.cons _ _ _ _ k2 .nil),d4n l0,k4,k5⟩
theorem e4g {vs:List (List Value)}(hv:∀ v∈vs,∃ fuel y,DataW.trod enc Tryz.prog W 0 (fun _=>true) true fuel 35 v=some y){l:List Inr}(ok:b8b W l):∃ (m:List Inr) (ys:List (List UInt8×AV)) (bs:List (List UInt8×List Pr)),b8b W (l++m)∧ys.length=vs.length∧bs.length=vs.length∧∀ (i:Nat) y b v,ys[i]?=some y→bs[i]?=some b→vs[i]?=some v→NmR (l++m) y b v:=by
 induction vs generalizing l with
 |nil=>exact⟨[],[],[],by rwa [List.append_nil],rfl,rfl,fun i y b v h=>by simp at h⟩
 |cons v vs ih =>
  obtain⟨f,y,t⟩:=hv v (List.mem_cons_self ..)
  obtain⟨m,y0,b0,k1,k2⟩:=e5h ok t
  obtain⟨m2,ys,bs,j1,j2,j3,j4⟩:=ih (fun w hw=>hv w (List.mem_cons_of_mem _ hw)) k1
  rw[List.append_assoc] at j1 j4
  refine⟨m++m2,y0::ys,b0::bs,j1,by simp[j2],by simp[j3],fun i y b w h1 h2 h3=>?_⟩
  cases i with
  |zero =>
   simp at h1 h2 h3
   subst h1 h2 h3
   have:=k2.more m2
   rwa [List.append_assoc] at this
  |succ i=>exact j4 i y b w (by simpa using h1) (by simpa using h2) (by simpa using h3)
def e6s (bs:List (List UInt8×List Pr)):Prop:=bs.length≤maxLen∧∀ b∈bs,b.1.length≤maxLen∧b.2.length≤maxLen∧∀ p∈b.2,p.fit
theorem e6s.fit {bs:List (List UInt8×List Pr)}(f:e6s bs):bs.length<9223372036854775808∧∀ b∈bs,b.1.length<9223372036854775808∧b.2.length<9223372036854775808∧∀ p∈b.2,p.key.length<9223372036854775808∧p.val.length<9223372036854775808:=by
 have m:maxLen<9223372036854775808:=by decide +kernel
 refine⟨by have:=f.1; omega,fun b hb=>?_⟩
 obtain⟨a,c,d⟩:=f.2 b hb
 exact⟨by omega,by omega,fun p hp=>by have:=d p hp; unfold Pr.fit at this; omega⟩
theorem e1n {b0:Nat}{v:Value}{d:DataW H}{p:List MemPlace}{l:List Inr}(ok:b8b W l) (hval:Value.okWide Tryz.prog W .any b0 27 v) (h:DataW.Trod enc Tryz.prog W 0 (fun _=>true) true 27 v d p):∃ (m:List Inr) (a:AV) (bs:List (List UInt8×List Pr)),b8b W (l++m)∧VR (b0x (l++m)) (.agg [a]) v∧a6c (a4w (l++m)) a bs∧e6s bs:=by
 obtain⟨c,rfl,hc,n,hf⟩:=d1k Tryz.underlying27 hval h
 rw[d9x] at hc
 obtain⟨u,rfl⟩:=f0v hc
 obtain⟨y,hy⟩:=e0p (v:=u) hf 0 rfl (by kernel_rfl) rfl (t:=25) rfl
 rcases d1q Tryz.underlying25 c9p hy with e|⟨a,n,cap,vs,e,hn,hl,hv⟩
 ·cases e
  exact⟨[],.nilslice,[],by rwa [List.append_nil],.agg _ _ (.cons _ _ _ _ .nilslice .nil),⟨[],Ls.nil,rfl,fun j x b h=>by simp at h⟩,Nat.zero_le _,by simp⟩
 ·cases e
  by_cases z:n=0
  ·subst z
   exact⟨[],.eslice,[],by rwa [List.append_nil],.agg _ _ (.cons _ _ _ _ (.eslice _ _) .nil),⟨[],⟨rfl,rfl⟩,rfl,fun j x b h=>by simp at h⟩,Nat.zero_le _,by simp⟩
  ·obtain⟨m,ys,bs,k1,k2,k3,k4⟩:=e4g (vs:=vs) (fun v q=>by
    obtain⟨i,hi⟩:=List.mem_iff_getElem?.1 q
    exact(hv i v hi).2) ok
   have all:∀ i,i<n→∃ y b v,ys[i]?=some y∧bs[i]?=some b∧vs[i]?=some v∧NmR (l++m) y b v:=fun i hi=>by
    have e1:ys[i]?=some (ys[i]'(by omega)):=by simp
    have e2:bs[i]?=some (bs[i]'(by omega)):=by simp
    have e3:vs[i]?=some (vs[i]'(by omega)):=by simp
    exact⟨_,_,_,e1,e2,e3,k4 i _ _ _ e1 e2 e3⟩
   obtain⟨x,h1,h2,h3⟩:=d0r (sz:=2) (cap:=cap) Nm.len (by omega) k1 (a:=a) (n:=n) (xs:=ys) (vs:=fun i=>(vs[i]?).getD []) (by omega) (by omega) (fun i hi r v q=>by
    have ei:vs[i]?=some (vs[i]'(by omega)):=by simp
    simp only[ei] at q
    exact(hv i _ ei).1 r v q) (fun i y hi=>by
    have hi':=(List.getElem?_eq_some_iff.1 hi).1
    obtain⟨y',b,v,e1,e2,e3,q⟩:=all i (by omega)
    rw[hi] at e1
    cases e1
    simp only[e3]
    exact q.2.2.1)
   rw[List.append_assoc] at h1 h2 h3
   refine⟨m++[x],_,bs,h1,.agg _ _ (.cons _ _ _ _ h2 .nil),⟨ys,h3,by omega,fun j y b e1 e2=>?_⟩,by omega,fun b hb=>?_⟩
   ·have hi':=(List.getElem?_eq_some_iff.1 e1).1
    obtain⟨y',b',v,f1,f2,f3,q⟩:=all j (by omega)
    rw[e1] at f1
    rw[e2] at f2
    cases f1; cases f2
    have q:=q.more [x]
    rw[List.append_assoc] at q
    exact⟨q.1,q.2.1⟩
   ·obtain⟨i,hi⟩:=List.mem_iff_getElem?.1 hb
    have hi':=(List.getElem?_eq_some_iff.1 hi).1
    obtain⟨y',b',v,f1,f2,f3,q⟩:=all i (by omega)
    rw[hi] at f2
    cases f2
    exact q.2.2.2
end
end Go.Proofs.YtmnhbehmjaibgaaGreat
