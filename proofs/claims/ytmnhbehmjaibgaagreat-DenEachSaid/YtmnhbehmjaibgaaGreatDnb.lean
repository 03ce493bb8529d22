/- What the functions of this part answer at any input, told by the rules over the evaluator. Conditions: those that each theorem states. -/
import Derived.Test.YtmnhbehmjaibgaaGreatGaq
import Derived.Test.YtmnhbehmjaibgaaGreatLv
import Derived.Test.YtmnhbehmjaibgaaGreatGap
set_option linter.unusedVariables false
set_option linter.unusedSimpArgs false
open Go Ev
namespace Go.Proofs.YtmnhbehmjaibgaaGreat
set_option maxRecDepth 10000
set_option maxHeartbeats 4000000
structure Pr where
 key:List UInt8
 val:List UInt8
 deriving DecidableEq
def Pr.cs (p:Pr):List AV:=[.str p.key,.str p.val]
theorem Pr.csl (p:Pr):p.cs.length=2:=rfl
theorem OwnS.form {e:TypeId}{sz n:Nat}{S:Nat→Prop}{h:Heap}{v:AV}{cs:List AV}(w:OwnS e sz S h v n cs):v=.nilslice∨(∃ B n c,v=.slice B 0 n c)∨∃ B n c,v=.oslice B 0 n c:=by
 cases w with
 |nil=>exact .inl rfl
 |sl=>exact .inr (.inl ⟨_,_,_,rfl⟩)
 |os=>exact .inr (.inr ⟨_,_,_,rfl⟩)
def Nm.cs (x:List UInt8×AV):List AV:=[.str x.1,x.2]
theorem Nm.len (x:List UInt8×AV):(Nm.cs x).length=2:=rfl
def DenL (h:Heap) (v:AV) (bs:List (List UInt8×List Pr)):Prop:=∃ l,Ls Nm.cs 2 h v l∧l.length=bs.length∧∀ (j:Nat) (x:List UInt8×AV) (b:List UInt8×List Pr),l[j]?=some x→bs[j]?=some b→x.1=b.1∧Ls Pr.cs 2 h x.2 b.2
theorem DenL.ext {h h':Heap}{v:AV}{bs:List (List UInt8×List Pr)}(d:DenL h v bs) (x:Ext h h'):DenL h' v bs:=by
 obtain⟨l,a,b,c⟩:=d
 exact⟨l,a.ext x,b,fun j y b h1 h2=>⟨(c j y b h1 h2).1,(c j y b h1 h2).2.ext x⟩⟩
set_option maxRecDepth 10000
set_option maxHeartbeats 4000000
theorem pr_eqv {q:Nat}(p r:Pr):eqv (TV q) 100 37 (.agg p.cs) (.agg r.cs)=some (decide (p=r)):=by
 refine(eqv_agg rfl rfl (eqF_cons rfl rfl rfl (eqv_str rfl) (eqF_cons rfl rfl rfl (eqv_str rfl) eqF_nil))).trans ?_
 congr 1
 rw[decide_eq_decide]
 cases p; cases r
 simp only[Pr.mk.injEq]
 constructor
 ·rintro⟨a,b,_⟩
  exact⟨a,b⟩
 ·rintro⟨a,b⟩
  exact⟨a,b,trivial⟩
theorem samePr_w {n:Nat}(hn:0<n){h:Heap}{u v:AV}{l:List Pr}(hk:h.ok) (lu:Ls Pr.cs 2 h u l) (lv:Ls Pr.cs 2 h v l) (hl:l.length≤1000000):(TV n).sm 24 [u,v] h=some (.bool true,h):=by
 refine w_in hn (fun h=>Ls Pr.cs 2 h u l∧Ls Pr.cs 2 h v l∧h.ok) rfl rfl ⟨lu,lv,hk⟩ (fun hp=>⟨lu.any (by simp[AV.plains] at hp; exact hp.1),lv.any (by simp[AV.plains] at hp; exact hp.2),ok_nil⟩) ?_
 clear lu lv hk h
 rintro n hn h ⟨lu,lv,hk⟩
 refine body_j rfl rfl ?_
 have e1:=lu.len
 have e2:=lv.len
 have n1:=lu.ns
 have n2:=lv.ns
 refine walk ?_
 rw[show decide ((l.length:Int)≠(l.length:Int))=false from decide_eq_false (fun c=>c rfl)]
 refine walk ?_
 refine jg_loop (ι:=Nat) (fun i=>l.length-i) (fun i=>[(0,u),(1,v),(5,.int .i64 i)]) (fun i h2=>i≤l.length∧Ext h h2) 0 hsub ⟨Nat.zero_le _,.refl _⟩ ?_
 rintro i h2 ⟨hi,x2⟩ next
 have k2:=x2.ok hk
 by_cases c:i<l.length
 case neg =>
  refine walk ?_
  exact jg_ret1 (by exact hres) ⟨rfl,x2⟩
 obtain⟨y,hy⟩:∃ y,l[i]?=some y:=⟨_,List.getElem?_eq_getElem c⟩
 obtain⟨B,p,e,all,rw',hb,hg,hpl,he,a1⟩:=(lu.ext x2).at Pr.csl hy
 obtain⟨B2,p2,e2',all2,rw2,hb2,hg2,hpl2,he2,a2⟩:=(lv.ext x2).at Pr.csl hy
 refine walk ?_
 refine jg_drawn (q:=9) (ms:=[0,0,3,7,0,0,48,112,255]) (hl:=[[18,21,22,23,24],[17,21,22,23,24],[21,22,23,24],[21,22,23,24],[17,18,19,20,22],[17,18,19,20,21],[17,18,19,20],[17,18,19,20],[]]) hok rfl (by kernel_rfl) (by kernel_rfl) rfl ?_
 refine walk ?_
 refine jd_val rfl rfl rfl rfl (k_bin rfl rfl rfl (bin_ne (pr_eqv y y) rfl) rfl) ?_
 rw[show decide (¬ y=y)=false from decide_eq_false (fun c=>c rfl)]
 refine walk ?_
 exact next (i+1) (by omega) (by exact hsub) ⟨by omega,by exact hext⟩
theorem DenL.any {h h':Heap}{v:AV}{bs:List (List UInt8×List Pr)}(d:DenL h v bs) (p:v.plain=true):DenL h' v bs:=by
 obtain⟨l,a,b,c⟩:=d
 have hl:l=[]:=by
  have a':Sl h 2 v l.length (l.flatMap Nm.cs):=a
  cases v<;>first|(simp[AV.plain] at p; done)|exact a'.elim|exact List.length_eq_zero_iff.1 a'.1
 subst hl
 exact⟨[],a.any p,b,fun j x y q=>by simp at q⟩
set_option maxRecDepth 10000
set_option maxHeartbeats 4000000
def lightP:Nat→List Pr→Option Nat
 |b,[]=>some b
 |b,p::l=>if p.key.length>100∨p.val.length>2000 then none else lightP (b+p.key.length+p.val.length) l
def lightB:Nat→Nat→List (List UInt8×List Pr)→Bool
 |n,b,[]=>decide (b≤9000)
 |n,b,x::l=>if n+x.2.length>80∨x.1.length>100 then false else match lightP b x.2 with
  |none=>false
  |some b'=>lightB (n+x.2.length) b' l
def lightD (bs:List (List UInt8×List Pr)):Bool:=if bs.length>10 then false else lightB 0 0 bs
structure LightD (bs:List (List UInt8×List Pr)):Prop where
 len:bs.length≤10
 all:(bs.map (·.2.length)).sum≤80
 nm:∀ b∈bs,b.1.length≤100∧b.2.length≤80∧∀ p∈b.2,p.key.length≤100∧p.val.length≤2000
theorem lightP_ok:∀ (l:List Pr) (b b':Nat),lightP b l=some b'→∀ p∈l,p.key.length≤100∧p.val.length≤2000
 |[],b,b',h,p,hp=>by simp at hp
 |x::l,b,b',h,p,hp=>by
  unfold lightP at h
  split at h
  ·cases h
  ·rename_i c
   rcases List.mem_cons.1 hp with r|r
   ·subst r; omega
   ·exact lightP_ok l _ _ h p r
theorem lightB_ok:∀ (l:List (List UInt8×List Pr)) (n b:Nat),lightB n b l=true→n≤80→n+(l.map (·.2.length)).sum≤80∧∀ b∈l,b.1.length≤100∧b.2.length≤80∧∀ p∈b.2,p.key.length≤100∧p.val.length≤2000
 |[],n,b,h,hn=>⟨by simpa using hn,fun b hb=>by simp at hb⟩
 |x::l,n,b,h,hn=>by
  unfold lightB at h
  split at h
  ·cases h
  ·rename_i c
   split at h
   ·cases h
   ·rename_i b' e
    obtain⟨h1,h2⟩:=lightB_ok l _ _ h (by omega)
    refine⟨by simp only[List.map_cons,List.sum_cons]; omega,fun y hy=>?_⟩
    rcases List.mem_cons.1 hy with r|r
    ·subst r
     exact⟨by omega,by omega,lightP_ok _ _ _ e⟩
    ·exact h2 y r
theorem lightD_ok {bs:List (List UInt8×List Pr)}(h:lightD bs=true):LightD bs:=by
 unfold lightD at h
 split at h
 ·cases h
 ·obtain⟨h1,h2⟩:=lightB_ok bs 0 0 h (by omega)
  exact⟨by omega,by omega,h2⟩
theorem lightDen_w {n:Nat}(hn:0<n){h:Heap}{v:AV}{bs:List (List UInt8×List Pr)}(hk:h.ok) (dl:DenL h v bs) (fl:bs.length<9223372036854775808) (fb:∀ b∈bs,b.1.length<9223372036854775808∧b.2.length<9223372036854775808∧∀ p∈b.2,p.key.length<9223372036854775808∧p.val.length<9223372036854775808):(TV n).sm 17 [.agg [v]] h=some (.bool (lightD bs),h):=by
 refine w_in hn (fun h=>DenL h v bs∧h.ok) rfl rfl ⟨dl,hk⟩ (fun hp=>⟨dl.any (by simp[AV.plains,AV.plain] at hp; exact hp),ok_nil⟩) ?_
 clear dl hk h
 rintro n hn h ⟨dl,hk⟩
 obtain⟨nl,d1,d2,d3⟩:=dl
 have e1:=d1.len
 have n1:=d1.ns
 rw[d2] at e1
 refine body_j rfl rfl ?_
 unfold lightD
 by_cases c10:bs.length>10
 ·have c11:(bs.length:Int)>10:=by omega
  rw[if_pos c10]
  refine walk ?_
  exact jg_ret1 (by exact hres) ⟨rfl,by exact hext⟩
 have c11:¬ (bs.length:Int)>10:=by omega
 rw[if_neg c10]
 refine walk ?_
 refine jg_loop (ι:=Nat×Nat×Nat) (fun a=>bs.length-a.1) (fun a=>[(1,.ptr h.next 0),(3,.int .i64 (a.2.1:Nat)),(4,.int .i64 (a.2.2:Nat)),(5,.int .i64 (a.1:Nat))]) (fun a h2=>a.1≤bs.length∧Ext h h2∧h.next<h2.next∧h2.get h.next=some (.cells 27 [v] true)∧a.2.1≤80∧a.2.2≤a.2.1*2100∧lightB a.2.1 a.2.2 (bs.drop a.1)=lightB 0 0 bs) (0,0,0) (by exact hsub) ⟨Nat.zero_le _,by exact hext,by exact hlt,by exact hget,by decide,by decide,rfl⟩ ?_
 rintro⟨i,m,b⟩ h2 ⟨hi,x2,l2,g2,hm,hb,st⟩ next
 dsimp only at hi hm hb st next ⊢
 have k2:=x2.ok hk
 by_cases c:i<bs.length
 case neg =>
  have ed:bs.drop i=[]:=List.drop_of_length_le (by omega)
  rw[ed] at st
  refine walk ?_
  refine jg_ret1 (by exact hres) ⟨?_,by exact hext⟩
  rw[← st]
  show AV.bool (decide ((b:Int)≤9000))=.bool (decide (b≤9000))
  congr 1
  rw[decide_eq_decide]
  omega
 obtain⟨y,hy⟩:∃ y,nl[i]?=some y:=⟨_,List.getElem?_eq_getElem (by omega)⟩
 obtain⟨bk,hb0⟩:∃ b,bs[i]?=some b:=⟨_,List.getElem?_eq_getElem c⟩
 obtain⟨q1,q2⟩:=d3 i y bk hy hb0
 have edr:bs.drop i=bk::bs.drop (i+1):=by
  obtain⟨hi',e⟩:=List.getElem?_eq_some_iff.1 hb0
  rw[List.drop_eq_getElem_cons c,e]
 rw[edr] at st
 obtain⟨f1,f2,f3⟩:=fb bk (List.mem_of_getElem? hb0)
 obtain⟨B,p,e,all,rw',hbB,hg,hpl,he,a1⟩:=(d1.ext x2).at Nm.len hy
 have he:(all.drop p).take 2=[.str y.1,y.2]:=he
 have lw:=q2.len
 have nw:=q2.ns
 have yl:y.1.length=bk.1.length:=by rw[q1]
 by_cases cA:(bk.2.length:Int)>80-(m:Int)
 ·have:lightB m b (bk::bs.drop (i+1))=false:=by unfold lightB; rw[if_pos (by omega)]
  rw[← st,this]
  refine walk ?_
  exact jg_ret1 (by exact hres) ⟨rfl,by exact hext⟩
 by_cases cB:(y.1.length:Int)>100
 ·have:lightB m b (bk::bs.drop (i+1))=false:=by unfold lightB; rw[if_pos (by omega)]
  rw[← st,this]
  refine walk ?_
  exact jg_ret1 (by exact hres) ⟨rfl,by exact hext⟩
 have c1:¬ (m+bk.2.length>80∨bk.1.length>100):=by omega
 have st2:lightB m b (bk::bs.drop (i+1))=match lightP b bk.2 with
  |none=>false
  |some b'=>lightB (m+bk.2.length) b' (bs.drop (i+1)):=by conv=>lhs; unfold lightB; rw[if_neg c1]
 rw[st2] at st
 refine walk ?_
 refine jg_loop (ι:=Nat×Nat) (fun a=>bk.2.length-a.1) (fun a=>[(1,.ptr h.next 0),(3,.int .i64 ((m+bk.2.length:Nat):Int)),(4,.int .i64 (a.2:Nat)),(5,.int .i64 (i:Nat)),(6,y.2),(7,.int .i64 (a.1:Nat))]) (fun a h4=>a.1≤bk.2.length∧Ext h2 h4∧a.2≤b+a.1*2100∧lightP a.2 (bk.2.drop a.1)=lightP b bk.2) (0,b) (by rw[show((m+bk.2.length:Nat):Int)=(m:Int)+(bk.2.length:Int) by omega]; exact hsub) ⟨Nat.zero_le _,.refl _,by simp,by simp⟩ ?_
 rintro⟨j,bb⟩ h4 ⟨hj,x4,hbb,sp⟩ next4
 dsimp only at hj hbb sp next4 ⊢
 have x24:=x2.trans x4
 have k4:=x24.ok hk
 have g4:=(x4.old _ l2).trans g2
 by_cases c4:j<bk.2.length
 case neg =>
  have ej:bk.2.drop j=[]:=List.drop_of_length_le (by omega)
  rw[ej] at sp
  have sp:lightP b bk.2=some bb:=sp.symm
  rw[sp] at st
  refine walk ?_
  have ej2:j=bk.2.length:=by omega
  refine next (i+1,m+bk.2.length,bb) (by simp only; omega) (by exact hsub) ⟨by simp only; omega,x24,by have:=x4.nx; omega,g4,by simp only; omega,by simp only; rw[Nat.add_mul]; omega,st⟩
 obtain⟨u,hu⟩:∃ u,bk.2[j]?=some u:=⟨_,List.getElem?_eq_getElem c4⟩
 have edj:bk.2.drop j=u::bk.2.drop (j+1):=by
  obtain⟨hi',e⟩:=List.getElem?_eq_some_iff.1 hu
  rw[List.drop_eq_getElem_cons c4,e]
 rw[edj] at sp
 obtain⟨r1,r2⟩:=f3 u (List.mem_of_getElem? hu)
 clear a1 hbB hg hpl he
 obtain⟨B,p,e,all,rw',hbB,hg,hpl,he,a1⟩:=(q2.ext x24).at Pr.csl hu
 have he:(all.drop p).take 2=[.str u.key,.str u.val]:=he
 by_cases cC:(u.key.length:Int)>100
 ·have:lightP bb (u::bk.2.drop (j+1))=none:=by unfold lightP; rw[if_pos (by omega)]
  rw[← sp,this] at st
  rw[← st]
  refine walk ?_
  exact jg_ret1 (by exact hres) ⟨rfl,by exact hext⟩
 by_cases cD:(u.val.length:Int)>2000
 ·have:lightP bb (u::bk.2.drop (j+1))=none:=by unfold lightP; rw[if_pos (by omega)]
  rw[← sp,this] at st
  rw[← st]
  refine walk ?_
  exact jg_ret1 (by exact hres) ⟨rfl,by exact hext⟩
 have c5:¬ (u.key.length>100∨u.val.length>2000):=by omega
 have sp2:lightP bb (u::bk.2.drop (j+1))=lightP (bb+u.key.length+u.val.length) (bk.2.drop (j+1)):=by conv=>lhs; unfold lightP; rw[if_neg c5]
 rw[sp2] at sp
 refine walk ?_
 refine jg_drawn (q:=16) (ms:=[0,0,0,6,14,30,62,127,0,0,768,1792,3840,7936,16383,32767]) (hl:=[[67,68,69,70,71,72,74,75,76,77,78,79],[66,68,74,75,76,77,78,79],[66,67,74,75,76,77,78,79],[66,74,75,76,77,78,79],[66,74,75,76,77,78,79],[66,74,75,76,77,78,79],[66,74,75,76,77,78,79],[74,75,76,77,78,79],[66,67,68,69,70,71,72,73,75],[66,67,68,69,70,71,72,73,74],[66,67,68,69,70,71,72,73],[66,67,68,69,70,71,72,73],[66,67,68,69,70,71,72,73],[66,67,68,69,70,71,72,73],[],[]]) hok rfl (by kernel_rfl) (by kernel_rfl) rfl ?_
 refine walk ?_
 refine next4 (j+1,bb+u.key.length+u.val.length) (by simp only; omega) (by rw[show((bb+u.key.length+u.val.length:Nat):Int)=(bb:Int)+(u.key.length:Int)+(u.val.length:Int) by omega]; exact hsub) ⟨by simp only; omega,by exact hext,by simp only; rw[Nat.add_mul]; omega,sp⟩
theorem prs_app {n:Nat}{h:Heap}{v:AV}{l:List Pr}(lv:Ls Pr.cs 2 h v l) (hl:l.length≤100000):∃ v' h',appendA (TV n) [.slice h.next 0 0 0,v] [33,33] (h.alloc (.cells 37 [] true))=.val v' h'∧OwnLS Pr.cs 37 2 (fun c=>h.next≤c∧c<h'.next) h' v' l∧Ext h h':=by
 have x1:Ext h (h.alloc (.cells 37 [] true)):=.alloc _ _
 obtain⟨v9,h9,e9,o9,t9⟩:=app_rows_s (enc:=Pr.cs) (T:=TV n) (st:=33) (rest:=[33]) (h:=h.alloc (.cells 37 [] true)) (u:=.slice h.next 0 0 0) (w:=v) (l:=[]) (r:=l) (S:=fun c=>c=h.next) (OwnS.sl (all:=[]) rfl (Nat.lt_succ_self _) (get_new _ _) (Nat.zero_le _) rfl rfl) (lv.ext x1) (by simp; omega) (fun p=>rfl) rfl rfl rfl (by exact Nat.le_of_ble_eq_true rfl) rfl (by decide) rfl
 have n9:h.next+1≤h9.next:=t9.nx
 refine⟨v9,h9,e9,OwnS.mono o9 fun c q r=>⟨?_,r⟩,⟨by omega,fun c hc=>(t9.old c (by show c<h.next+1; omega) (by omega)).trans (x1.old c hc),fun k=>t9.ok (x1.ok k)⟩⟩
 rcases q with q|q
 ·omega
 ·have q:h.next+1≤c:=q
  omega
theorem own_g {n:Nat}{h:Heap}{v:AV}{l:List Pr}(hk:h.ok) (lv:Ls Pr.cs 2 h v l) (hl:l.length≤100000):Gives (TV n) 56 [v] h (fun r h'=>OwnLS Pr.cs 37 2 (fun c=>h.next≤c∧c<h'.next) h' r l∧Ext h h'):=by
 refine call_j (no_w rfl rfl) rfl rfl ?_
 obtain⟨v9,h9,e9,o9,x9⟩:=prs_app (n:=n) lv hl
 refine walk ?_
 exact jg_ret1 (by exact hres) ⟨o9,x9⟩
theorem clone_g {n:Nat}{h:Heap}{v:AV}{l:List Pr}(hk:h.ok) (lv:Ls Pr.cs 2 h v l) (hl:l.length≤100000):Gives (TV n) 51 [v] h (fun r h'=>OwnLS Pr.cs 37 2 (fun c=>h.next≤c∧c<h'.next) h' r l∧Ext h h'):=by
 refine call_j (no_w rfl rfl) rfl rfl ?_
 obtain⟨v9,h9,e9,o9,x9⟩:=prs_app (n:=n) lv hl
 rcases Sl.shape lv with ⟨e,-,c⟩|⟨e,-,c⟩|⟨b,p,c,e⟩|⟨b,p,e⟩<;>subst e
 ·have el:l=[]:=by
   cases l with
   |nil=>rfl
   |cons p l=>simp[Pr.cs] at c
  subst el
  refine walk ?_
  exact jg_ret1 (by exact hres) ⟨.nil,.refl _⟩
 all_goals
  refine walk ?_
  exact jg_ret1 (by exact hres) ⟨o9,x9⟩
structure OutI (lo:Nat) (h:Heap) (Sd Sp:Nat→Prop) (dv:AV) (nl:List (List UInt8×AV)) (bs:List (List UInt8×List Pr)):Prop where
 od:OwnLS Nm.cs 35 2 Sd h dv nl
 len:nl.length=bs.length
 at_:∀ (j:Nat) (x:List UInt8×AV) (b:List UInt8×List Pr),nl[j]?=some x→bs[j]?=some b→x.1=b.1∧OwnLS Pr.cs 37 2 Sp h x.2 b.2
 sd:∀ c,Sd c→lo≤c∧c<h.next∧¬ Sp c
 sp:∀ c,Sp c→lo≤c∧c<h.next
theorem OutI.den {lo:Nat}{h:Heap}{Sd Sp:Nat→Prop}{dv:AV}{nl:List (List UInt8×AV)}{bs:List (List UInt8×List Pr)}(o:OutI lo h Sd Sp dv nl bs):DenL h dv bs:=⟨nl,o.od.ls,o.len,fun j x b h1 h2=>⟨(o.at_ j x b h1 h2).1,(o.at_ j x b h1 h2).2.ls⟩⟩
theorem OutI.nil {lo:Nat}{h:Heap}:OutI lo h (fun _=>False) (fun _=>False) .nilslice [] []:=⟨.nil,rfl,fun j x b h1=>by simp at h1,fun c q=>q.elim,fun c q=>q.elim⟩
theorem OutI.keep {lo:Nat}{h h':Heap}{Sd Sp:Nat→Prop}{dv:AV}{nl:List (List UInt8×AV)}{bs:List (List UInt8×List Pr)}(o:OutI lo h Sd Sp dv nl bs) (hn:h.next≤h'.next) (k:∀ c,lo≤c→c<h.next→h'.get c=h.get c):OutI lo h' Sd Sp dv nl bs :=
 ⟨o.od.keep (fun c q hc=>k c (o.sd c q).1 hc) hn,o.len,fun j x b h1 h2=>⟨(o.at_ j x b h1 h2).1,(o.at_ j x b h1 h2).2.keep (fun c q hc=>k c (o.sp c q).1 hc) hn⟩,fun c q=>⟨(o.sd c q).1,by have:=(o.sd c q).2.1; omega,(o.sd c q).2.2⟩,fun c q=>⟨(o.sp c q).1,by have:=(o.sp c q).2; omega⟩⟩
theorem OutI.add {n lo c0 p0:Nat}{ho h1 X:Heap}{Sd Sp:Nat→Prop}{dv pv:AV}{nl:List (List UInt8×AV)}{bs:List (List UInt8×List Pr)}{nm:List UInt8}{ps:List Pr}(o:OutI lo ho Sd Sp dv nl bs) (op:OwnLS Pr.cs 37 2 (fun c=>p0≤c∧c<h1.next) h1 pv ps) (hp:ho.next≤p0) (h1n:ho.next≤h1.next) (nX:h1.next≤X.next) (k1:∀ c,c<ho.next→X.get c=ho.get c) (k2:∀ c,p0≤c→c<h1.next→X.get c=h1.get c) (hlo:lo≤ho.next) (gX:X.get c0=some (.cells 35 (Nm.cs (nm,pv)) true)) (lX:c0<X.next) (hl:bs.length≤1000) :
  ∃ v' h' Sd' Sp',appendA (TV n) [dv,.slice c0 0 1 1] [25,25] X=.val v' h'∧OutI lo h' Sd' Sp' v' (nl++[(nm,pv)]) (bs++[(nm,ps)])∧Ev.Touch Sd X h'∧v'.cells=[v']∧v'.one=true:=by
 have ho':(Nm.cs (nm,pv)).all AV.one=true:=by simp[Nm.cs,(OwnS.one op).2]; try rfl
 obtain⟨v9,h9,e9,o9,t9⟩:=app_row_s (T:=TV n) (st:=25) (rest:=[25]) (h:=X) (x:=(nm,pv)) (o.od.keep (h':=X) (fun c q hl=>k1 c hl) (by omega)) gX lX (by rw[o.len]; omega) rfl ho' rfl rfl rfl (by exact Nat.le_of_ble_eq_true rfl) rfl (by decide) rfl
 have n9:=t9.nx
 have sdn:∀ c,Sd c→c<ho.next:=fun c q=>(o.sd c q).2.1
 refine⟨v9,h9,fun c=>Sd c∨(X.next≤c∧c<h9.next),fun c=>Sp c∨(p0≤c∧c<h1.next),e9,⟨OwnS.mono o9 fun c q r=>?_,by simp[o.len],?_,?_,?_⟩,t9,(OwnS.one o9).1,(OwnS.one o9).2⟩
 ·rcases q with q|q
  ·exact .inl q
  ·exact .inr ⟨q,r⟩
 ·intro j x b hx hb
  by_cases cj:j<nl.length
  ·rw[List.getElem?_append_left cj] at hx
   rw[List.getElem?_append_left (by rw[← o.len]; exact cj)] at hb
   obtain⟨p1,p2⟩:=o.at_ j x b hx hb
   refine⟨p1,(p2.keep (h':=h9) (fun c q hc=>?_) (by omega)).mono fun c q r=>.inl q⟩
   exact(t9.old c (by omega) (fun r=>(o.sd c r).2.2 q)).trans (k1 c hc)
  ·have ej:j=nl.length:=by
    have:=(List.getElem?_eq_some_iff.1 hx).1
    simp at this
    omega
   rw[ej,List.getElem?_append_right (Nat.le_refl _),Nat.sub_self] at hx
   rw[ej,List.getElem?_append_right (by rw[o.len]; exact Nat.le_refl _),o.len,Nat.sub_self] at hb
   cases hx
   cases hb
   exact⟨rfl,(op.keep (h':=h9) (fun c q hc=>(t9.old c (by omega) (fun r=>by have:=sdn c r; omega)).trans (k2 c q.1 q.2)) (by omega)).mono fun c q r=>.inr q⟩
 ·intro c q
  rcases q with q|q
  ·obtain⟨a,b,d⟩:=o.sd c q
   exact⟨a,by omega,fun r=>by rcases r with r|r; exact d r; omega⟩
  ·exact⟨by omega,q.2,fun r=>by
    rcases r with r|r
    ·have:=(o.sp c r).2; omega
    ·omega⟩
 ·intro c q
  rcases q with q|q
  ·have:=o.sp c q; omega
  ·omega
theorem ownDen_g {n:Nat}{h:Heap}{v:AV}{bs:List (List UInt8×List Pr)}(hk:h.ok) (dl:DenL h v bs) (hb:bs.length≤1000) (hp:∀ b∈bs,b.2.length≤100000):Gives (TV n) 29 [.agg [v]] h (fun r h'=>∃ a Sd Sp nl,r=.agg [a]∧Ext h h'∧OutI h.next h' Sd Sp a nl bs):=by
 obtain⟨ol,d1,d2,d3⟩:=dl
 have e1:=d1.len
 have n1:=d1.ns
 rw[d2] at e1
 refine call_j (no_w rfl rfl) rfl rfl ?_
 refine walk ?_
 refine jg_loop (ι:=Nat) (fun i=>bs.length-i) (fun i=>[(1,.ptr h.next 0),(2,.ptr (h.next+1) 0),(3,.ptr (h.next+2) 0),(4,.int .i64 (i:Nat))]) (fun i h2=>i≤bs.length∧∃ dv Sd Sp nl,Ext h h2∧h2.get h.next=some (.cells 27 [v] true)∧h2.get (h.next+1)=some (.cells 27 [.nilslice] true)∧h2.get (h.next+2)=some (.cells 27 [dv] true)∧h.next+3≤h2.next∧OutI (h.next+3) h2 Sd Sp dv nl (bs.take i)) 0 (by exact hsub) ⟨Nat.zero_le _,.nilslice,_,_,[],by exact hext,by exact hget,by exact hget,by exact hget,Nat.le_refl _,by rw[List.take_zero]; exact .nil⟩ ?_
 rintro i h2 ⟨hi,dv,Sd,Sp,nl,x2,g0,g1,g2,l2,o⟩ next
 have k2:=x2.ok hk
 obtain⟨vdc,vdo⟩:=OwnS.one o.od
 by_cases c:i<bs.length
 case neg =>
  have ei:bs.take i=bs:=List.take_of_length_le (by omega)
  rw[ei] at o
  refine walk ?_
  refine jo_skip rfl rfl (k_storeN (n:=1) (cs:=[.nilslice]) (vs:=[dv]) rfl rfl rfl rfl rfl (by simp[vdo]) g1 (by decide)) ?_
  refine walk ?_
  refine jg_ret1 (by exact hres) ⟨dv,Sd,Sp,nl,rfl,by exact hext,?_⟩
  have o2:=o.keep (h':=h2.set (h.next+1) (.cells 27 [dv] true)) (Nat.le_refl _) (fun c q _=>Heap.gn _ _ _ _ (by omega))
  exact⟨o2.od,o2.len,o2.at_,fun c q=>⟨by have:=(o2.sd c q).1; omega,(o2.sd c q).2⟩,fun c q=>⟨by have:=(o2.sp c q).1; omega,(o2.sp c q).2⟩⟩
 obtain⟨y,hy⟩:∃ y,ol[i]?=some y:=⟨_,List.getElem?_eq_getElem (by omega)⟩
 obtain⟨bk,hb0⟩:∃ b,bs[i]?=some b:=⟨_,List.getElem?_eq_getElem c⟩
 obtain⟨q1,q2⟩:=d3 i y bk hy hb0
 have et:bs.take (i+1)=bs.take i++[bk]:=by rw[List.take_add_one,hb0]; rfl
 obtain⟨B,p,e,all,rw',hbB,hg,hpl,he,a1⟩:=(d1.ext x2).at Nm.len hy
 have he:(all.drop p).take 2=[.str y.1,y.2]:=he
 have yo:=Sl.one q2
 have yc:=Sl.cells q2
 refine walk ?_
 refine jg_drawn (q:=20) (ms:=[0,1,0,4,0,28,60,124,0,256,0,1792,3840,7936,16128,32764,65532,131071,262143,524287]) (hl:=[[14,15,16,17,18,19,20,21,22,23,24,25,26,27,28],[14,15,16,17,18,19,20,21,22,23,24,25,26,27,28],[12,13,16,20,21,22,23,24,25,26],[12,13,16,20,21,22,23,24,25,26],[12,13,14,15,20,21,22,23,24,25,26],[12,13,20,21,22,23,24,25,26],[12,13,20,21,22,23,24,25,26],[12,13,20,21,22,23,24,25,26],[12,13,14,15,16,17,18,19,22],[12,13,14,15,16,17,18,19,22],[12,13,14,15,16,17,18,19,20,21],[12,13,14,15,16,17,18,19],[12,13,14,15,16,17,18,19],[12,13,14,15,16,17,18,19],[12,13,14,15,16,17,18,19],[12,13],[12,13],[],[],[]]) hok rfl (by kernel_rfl) (by kernel_rfl) rfl ?_
 refine walk ?_
 refine jd_call (own_g (n:=n) (v:=y.2) (l:=bk.2) (by exact hok) ((q2.ext x2).ext (Ext.more (Ext.refl _) k2 20)) (hp bk (List.mem_of_getElem? hb0))) rfl rfl rfl rfl rfl rfl ?_
 rintro v5 h5 ⟨o5,x5⟩
 have n5:h2.next+20≤h5.next:=x5.nx
 have old5:∀ c,c<h2.next→h5.get c=h2.get c:=fun c hc=>x5.old c (by show c<h2.next+20; omega)
 have fv5:=OwnS.form o5
 obtain⟨vc5,vo5⟩:=OwnS.one o5
 obtain⟨v9,h9,Sd',Sp',e9,o9,t9,vc9,vo9⟩:=OutI.add (n:=n) (c0:=h2.next+16) (p0:=h2.next+20) (nm:=y.1) (h1:=h5) (X:=h5.set (h2.next+16) (.cells 35 (Nm.cs (y.1,v5)) true)) o o5 (by omega) (by omega) (Nat.le_refl _) (fun c hc=>(Heap.gn _ _ _ _ (by omega)).trans (old5 c hc)) (fun c q r=>Heap.gn _ _ _ _ (by omega)) (by omega) (Heap.gs _ _ _) (by show h2.next+16<h5.next; omega) (by rw[List.length_take]; omega)
 refine walk ?_
 refine jd_val (v:=.agg [.str y.1,v5]) rfl rfl rfl rfl (by rcases fv5 with e|⟨_,_,_,e⟩|⟨_,_,_,e⟩<;>subst e<;>rfl) ?_
 have nD:¬ Sd (h.next+2):=fun q=>by have:=(o.sd _ q).1; omega
 have X9:∀ c,c<h2.next→¬ Sd c→h9.get c=h2.get c:=fun c hc q=>(t9.old c (by show c<h5.next; omega) q).trans ((Heap.gn _ _ _ _ (by omega)).trans (old5 c hc))
 have n9:h5.next≤h9.next:=t9.nx
 have g9:=(X9 (h.next+2) (by omega) nD).trans g2
 have k9:h9.ok:=t9.ok (ok_st (x5.ok (by exact hok)) _ _ (by omega))
 have l9:h.next+2<h9.next:=by omega
 refine walk ?_
 have low:∀ c,Sd c→h.next+3≤c:=fun c q=>(o.sd c q).1
 have y9:∀ c,c<h.next+3→c≠h.next+2→(h9.set (h.next+2) (.cells 27 [v9] true)).get c=h2.get c:=fun c hc r=>(Heap.gn _ _ _ _ r).trans (X9 c (by omega) (fun q=>by have:=low c q; omega))
 refine next (i+1) (by omega) (by exact hsub) ⟨by omega,v9,Sd',Sp',nl++[(y.1,v5)],⟨by show h.next≤h9.next; omega,fun c hc=>(y9 c (by omega) (by omega)).trans (x2.old c hc),fun _=>ok_st k9 _ _ l9⟩,(y9 _ (by omega) (by omega)).trans g0,(y9 _ (by omega) (by omega)).trans g1,Heap.gs _ _ _,by show h.next+3≤h9.next; omega,?_⟩
 rw[et]
 have eb:(y.1,bk.2)=bk:=by rw[q1]
 rw[eb] at o9
 exact o9.keep (Nat.le_refl _) fun c hc _=>Heap.gn _ _ _ _ (by omega)
theorem without_g {n:Nat}{h:Heap}{v:AV}{nm:List UInt8}{bs:List (List UInt8×List Pr)}(hk:h.ok) (dl:DenL h v bs) (hb:bs.length≤1000) (hp:∀ b∈bs,b.2.length≤100000):Gives (TV n) 25 [.agg [v],.str nm] h (fun r h'=>∃ a Sd Sp nl,r=.agg [a]∧Ext h h'∧OutI h.next h' Sd Sp a nl (bs.filter fun b=>decide (b.1≠nm))):=by
 obtain⟨ol,d1,d2,d3⟩:=dl
 have e1:=d1.len
 have n1:=d1.ns
 rw[d2] at e1
 refine call_j (no_w rfl rfl) rfl rfl ?_
 refine walk ?_
 refine jg_loop (ι:=Nat) (fun i=>bs.length-i) (fun i=>[(1,.str nm),(2,.ptr h.next 0),(4,.ptr (h.next+1) 0),(5,.ptr (h.next+2) 0),(9,v),(10,.int .i64 (bs.length:Nat)),(11,.int .i64 (i:Nat))]) (fun i h2=>i≤bs.length∧∃ dv Sd Sp nl,Ext h h2∧h2.get (h.next+1)=some (.cells 27 [.nilslice] true)∧h2.get (h.next+2)=some (.cells 27 [dv] true)∧h.next+3≤h2.next∧OutI (h.next+3) h2 Sd Sp dv nl ((bs.take i).filter fun b=>decide (b.1≠nm))) 0 (by exact hsub) ⟨Nat.zero_le _,.nilslice,_,_,[],by exact hext,by exact hget,by exact hget,Nat.le_refl _,by rw[List.take_zero]; exact .nil⟩ ?_
 rintro i h2 ⟨hi,dv,Sd,Sp,nl,x2,g1,g2,l2,o⟩ next
 have k2:=x2.ok hk
 obtain⟨vdc,vdo⟩:=OwnS.one o.od
 by_cases c:i<bs.length
 case neg =>
  have ei:bs.take i=bs:=List.take_of_length_le (by omega)
  rw[ei] at o
  refine walk ?_
  refine jo_skip rfl rfl (k_storeN (n:=1) (cs:=[.nilslice]) (vs:=[dv]) rfl rfl rfl rfl rfl (by simp[vdo]) g1 (by decide)) ?_
  refine walk ?_
  refine jg_ret1 (by exact hres) ⟨dv,Sd,Sp,nl,rfl,by exact hext,?_⟩
  have o2:=o.keep (h':=h2.set (h.next+1) (.cells 27 [dv] true)) (Nat.le_refl _) (fun c q _=>Heap.gn _ _ _ _ (by omega))
  exact⟨o2.od,o2.len,o2.at_,fun c q=>⟨by have:=(o2.sd c q).1; omega,(o2.sd c q).2⟩,fun c q=>⟨by have:=(o2.sp c q).1; omega,(o2.sp c q).2⟩⟩
 obtain⟨y,hy⟩:∃ y,ol[i]?=some y:=⟨_,List.getElem?_eq_getElem (by omega)⟩
 obtain⟨bk,hb0⟩:∃ b,bs[i]?=some b:=⟨_,List.getElem?_eq_getElem c⟩
 obtain⟨q1,q2⟩:=d3 i y bk hy hb0
 have et:bs.take (i+1)=bs.take i++[bk]:=by rw[List.take_add_one,hb0]; rfl
 obtain⟨B,p,e,all,rw',hbB,hg,hpl,he,a1⟩:=(d1.ext x2).at Nm.len hy
 have he:(all.drop p).take 2=[.str y.1,y.2]:=he
 have yo:=Sl.one q2
 have yc:=Sl.cells q2
 have fl:((bs.take i).filter fun b=>decide (b.1≠nm)).length≤1000:=by
  have:=List.length_filter_le (fun b:List UInt8×List Pr=>decide (b.1≠nm)) (bs.take i)
  rw[List.length_take] at this
  omega
 refine walk ?_
 refine jo_skip rfl rfl (k_storeN (n:=2) (cs:=[.str [],.nilslice]) (vs:=[.str y.1,y.2]) rfl rfl rfl rfl rfl (by simp[yo]; rfl) (get_new _ _) (by decide)) ?_
 refine OJ.gen [(1,.str nm),(2,.ptr h.next 0),(4,.ptr (h.next+1) 0),(5,.ptr (h.next+2) 0),(7,.ptr h2.next 0),(9,v),(10,.int .i64 (bs.length:Nat)),(11,.int .i64 (i:Nat))] (fun g=>Ext h2 g∧g.next=h2.next+1∧g.get h2.next=some (.cells 35 [.str y.1,y.2] true)) (by exact hsub) ⟨by exact hext,rfl,Heap.gs _ _ _⟩ ?_
 clear a1 hbB hg hpl he
 rintro H ⟨xH,nH,gH⟩
 have kH:=xH.ok k2
 have oH:∀ c,c<h2.next→H.get c=h2.get c:=fun c hc=>xH.old c hc
 have g2H:=(oH _ (by omega)).trans g2
 have g1H:=(oH _ (by omega)).trans g1
 by_cases cn:y.1=nm
 ·refine walk ?_
  refine next (i+1) (by omega) (by exact hsub) ⟨by omega,dv,Sd,Sp,nl,x2.trans xH,g1H,g2H,by omega,?_⟩
  rw[et,List.filter_append]
  have:[bk].filter (fun b=>decide (b.1≠nm))=[]:=by simp[← q1,cn]
  rw[this,List.append_nil]
  exact o.keep (by omega) fun c _ hc=>oH c hc
 refine walk ?_
 refine jg_drawn (q:=12) (ms:=[0,1,0,4,0,16,48,124,252,511,1023,2047]) (hl:=[[21,22,23,24,25,26,27],[21,22,23,24,25,26,27],[19,20,23,24,25],[19,20,23,24,25],[19,20,21,22],[19,20,21,22],[19,20,21,22],[19,20],[19,20],[],[],[]]) kH rfl (by kernel_rfl) (by kernel_rfl) rfl ?_
 refine walk ?_
 refine jd_call (clone_g (n:=n) (v:=y.2) (l:=bk.2) (by exact hok) ((q2.ext (x2.trans xH)).ext (Ext.more (Ext.refl _) kH 12)) (hp bk (List.mem_of_getElem? hb0))) rfl rfl rfl rfl rfl rfl ?_
 rintro v5 h5 ⟨o5,x5⟩
 have n5:H.next+12≤h5.next:=x5.nx
 have old5:∀ c,c<H.next→h5.get c=H.get c:=fun c hc=>x5.old c (by show c<H.next+12; omega)
 have fv5:=OwnS.form o5
 obtain⟨vc5,vo5⟩:=OwnS.one o5
 obtain⟨v9,h9,Sd',Sp',e9,o9,t9,vc9,vo9⟩:=OutI.add (n:=n) (c0:=H.next+8) (p0:=H.next+12) (nm:=y.1) (h1:=h5) (X:=h5.set (H.next+8) (.cells 35 (Nm.cs (y.1,v5)) true)) o o5 (by omega) (by omega) (Nat.le_refl _) (fun c hc=>(Heap.gn _ _ _ _ (by omega)).trans ((old5 c (by omega)).trans (oH c hc))) (fun c q r=>Heap.gn _ _ _ _ (by omega)) (by omega) (Heap.gs _ _ _) (by show H.next+8<h5.next; omega) fl
 refine walk ?_
 refine jd_val (v:=.agg [.str y.1,v5]) rfl rfl rfl rfl (by rcases fv5 with e|⟨_,_,_,e⟩|⟨_,_,_,e⟩<;>subst e<;>rfl) ?_
 have nD:¬ Sd (h.next+2):=fun q=>by have:=(o.sd _ q).1; omega
 have X9:∀ c,c<h2.next→¬ Sd c→h9.get c=h2.get c:=fun c hc q=>(t9.old c (by show c<h5.next; omega) q).trans ((Heap.gn _ _ _ _ (by omega)).trans ((old5 c (by omega)).trans (oH c hc)))
 have n9:h5.next≤h9.next:=t9.nx
 have g9:=(X9 (h.next+2) (by omega) nD).trans g2
 have k9:h9.ok:=t9.ok (ok_st (x5.ok (by exact hok)) _ _ (by omega))
 have l9:h.next+2<h9.next:=by omega
 refine walk ?_
 have low:∀ c,Sd c→h.next+3≤c:=fun c q=>(o.sd c q).1
 have y9:∀ c,c<h.next+3→c≠h.next+2→(h9.set (h.next+2) (.cells 27 [v9] true)).get c=h2.get c:=fun c hc r=>(Heap.gn _ _ _ _ r).trans (X9 c (by omega) (fun q=>by have:=low c q; omega))
 refine next (i+1) (by omega) (by exact hsub) ⟨by omega,v9,Sd',Sp',nl++[(y.1,v5)],⟨by show h.next≤h9.next; omega,fun c hc=>(y9 c (by omega) (by omega)).trans (x2.old c hc),fun _=>ok_st k9 _ _ l9⟩,(y9 _ (by omega) (by omega)).trans g1,Heap.gs _ _ _,by show h.next+3≤h9.next; omega,?_⟩
 have eb:(y.1,bk.2)=bk:=by rw[q1]
 rw[eb] at o9
 rw[et,List.filter_append]
 have:[bk].filter (fun b=>decide (b.1≠nm))=[bk]:=by simp[← q1,cn]
 rw[this]
 exact o9.keep (Nat.le_refl _) fun c hc _=>Heap.gn _ _ _ _ (by omega)
end Go.Proofs.YtmnhbehmjaibgaaGreat
