/- What the functions of this part answer at any input, told by the rules over the evaluator. Conditions: those that each theorem states. -/
import Derived.Test.YthdlebegkhnbiaaGreatDen
set_option linter.unusedVariables false
set_option linter.unusedSimpArgs false
open Go Ev
namespace Go.Proofs.YthdlebegkhnbiaaGreat
set_option maxRecDepth 10000
set_option maxHeartbeats 4000000
structure Vis where
 page:Nat
 from':Nat
 bucket:Int
 depth:Int
 kind:Int
 low:List UInt8
 less:List UInt8
 high:Bool
def Vis.cs (v:Vis):List AV:=[.int .u32 v.page,.int .u32 v.from',.int .i64 v.bucket,.int .i64 v.depth,.int .i64 v.kind,.str v.low,.str v.less,.bool v.high]
structure Sn where
 visit:Vis
 why:Int
 page:Pg
def Sn.cs (s:Sn):List AV:=s.visit.cs++[.int .i64 s.why]++s.page.cs
def chain (s:Sn) (n:Nat):Vis:=⟨n,s.visit.page,s.visit.bucket,s.visit.depth,5,[],[],false⟩
theorem chained_w {n:Nat} (hn:0<n) (s:Sn) (p:Nat) (h:Heap):(TV n).sm 49 [.agg s.cs,.int .u32 p] h=some (.agg (chain s p).cs,h):=by
 refine w_of hn rfl rfl rfl fun n hn=>body_j rfl rfl ?_
 exact auto
noncomputable def pageR2 (z:Int) (img:List UInt8) (v:Vis):Pg×Bool:=if (rightR z img v.page v.kind).2=false∧v.kind=3 then rightR z img v.page 4 else rightR z img v.page v.kind
theorem page_w {n:Nat} (hn:9<n) (z:Int) (img:List UInt8) (v:Vis) (hi:img.length<1000000) (hp:v.page<4294967296) (h:Heap):(TV n).sm 26 [.int .i64 z,.str img,.agg v.cs] h=some (.tuple [(pageR2 z img v).1.av,.bool (pageR2 z img v).2],h):=by
 refine w_of hn rfl rfl rfl fun n hn=>body_j rfl rfl ?_
 have w1:=Right_w (n:=n) (by omega) z img v.page v.kind hi hp
 have w2:=Right_w (n:=n) (by omega) z img v.page 4 hi hp
 unfold pageR2
 generalize rightR z img v.page v.kind=r at w1 ⊢
 generalize rightR z img v.page 4=r4 at w2 ⊢
 obtain ⟨g,e⟩:=r
 obtain ⟨g4,e4⟩:=r4
 dsimp only at w1 w2 ⊢
 cases e with
 |true =>
  rw [if_neg fun c=>Bool.noConfusion c.1]
  exact auto
 |false =>
  by_cases c2:v.kind=3
  ·rw [if_pos ⟨rfl,c2⟩]
   exact auto
  ·rw [if_neg fun c=>c2 c.2]
   exact auto
theorem Vis.csl (b:Vis):b.cs.length=8:=rfl
abbrev OwnLV (lo:Nat) (h:Heap) (v:AV) (l:List Vis):Prop:=OwnL Vis.cs 29 8 lo h v l
theorem flat_suc {α:Type} (f:Nat→List α) (i:Nat):(List.range (i+1)).flatMap f=(List.range i).flatMap f++f i:=by
 rw [List.range_succ,List.flatMap_append]; simp
theorem flat_le {α:Type} (f:Nat→List α) (h:∀ i,(f i).length≤1) (i:Nat):((List.range i).flatMap f).length≤i:=by
 induction i with
 |zero=>simp
 |succ i ih=>rw [flat_suc,List.length_append]; have:=h i; omega
def vI (s:Sn) (l:List It) (i:Nat):List Vis:=match l[i]? with
 |some x=>if x.over=true then [chain s x.head] else []
 |none=>[]
theorem vI_le (s:Sn) (l:List It) (i:Nat):(vI s l i).length≤1:=by
 unfold vI
 split
 ·split<;>simp
 ·simp
noncomputable def ofLeafV (s:Sn):List Vis:=(List.range ((ofI s.page).getD []).length).flatMap (vI s ((ofI s.page).getD []))
theorem ofLeaf_g {n:Nat} (hn:5<n) {s:Sn} {h:Heap} (hk:h.ok) (hl:s.page.body.length≤100000) (hc:s.page.count<1000000000):Gives (TV n) 48 [.agg s.cs] h (fun v h'=>Ext h h'∧OwnLV h.next h' v (ofLeafV s)):=by
 refine call_j (no_w rfl rfl) rfl rfl ?_
 refine walk ?_
 refine jo_call (leaOf_g (n:=n) hn (p:=s.page) (by exact hok) hl hc) rfl rfl rfl rfl ?_
 rintro v h3 ⟨x3,c3⟩
 have n3:h.next+1≤h3.next:=x3.nx
 have c4:∃ u e,v=.tuple [u,.int .i64 e]∧LsI h3 u ((ofI s.page).getD [])∧tameI ((ofI s.page).getD []):=by
  cases e:ofI s.page with
  |none=>rw [e] at c3; exact ⟨_,_,c3,Ls.nil,by decide,by simp⟩
  |some l=>rw [e] at c3; obtain ⟨u,e,ls,t⟩:=c3; exact ⟨u,_,e,ls,t⟩
 obtain ⟨u,e,rfl,ls,tm⟩:=c4
 clear c3
 unfold ofLeafV
 generalize (ofI s.page).getD []=l at ls tm ⊢
 have hlen:=ls.len
 have q0:h3.get h.next=some (.cells 34 s.cs true):=(x3.old _ (by show h.next<h.next+1; omega)).trans (get_new _ _)
 have x03:Ext h h3:=(Ext.alloc h _).trans x3
 refine walk ?_
 refine jg_loop (ι:=Nat×AV) (fun a=>l.length-a.1) (fun a=>[(1,.ptr h.next 0),(5,a.2),(14,u),(15,.int .i64 l.length),(16,.int .i64 (a.1:Nat))]) (fun a h2=>a.1≤l.length∧Ext h3 h2∧OwnLV h3.next h2 a.2 ((List.range a.1).flatMap (vI s l))) (0,.nilslice) hsub ⟨by omega,.refl _,OwnL.nil⟩ ?_
 rintro ⟨i,w⟩ h2 ⟨hi,x2,ow⟩ next
 dsimp only at hi ow next ⊢
 by_cases hil:i<l.length
 ·obtain ⟨y,hy⟩:∃ y,l[i]?=some y:=⟨l[i],List.getElem?_eq_getElem hil⟩
  obtain ⟨b,p',e,all,rw',hb,hg,hpl,he,a1⟩:=(ls.ext x2).at It.csl hy
  have w1:=chained_w (n:=n) (by omega) s y.head
  have e1:(List.range (i+1)).flatMap (vI s l)=(List.range i).flatMap (vI s l)++vI s l i:=flat_suc _ _
  have v1:vI s l i=if y.over=true then [chain s y.head] else []:=by unfold vI; rw [hy]
  have le:=flat_le (vI s l) (vI_le s l) i
  have lt:=tm.1
  have n2:=x2.nx
  rcases Bool.eq_false_or_eq_true y.over with ho|ho
  ·rw [v1,if_pos ho] at e1
   have x4:Ext h2 (((h2.alloc (.cells 123 [.str [],.str [],.bool false,.int .i64 0,.int .u32 0] true)).set h2.next (.cells 123 y.cs true)).alloc (.cells 29 (chain s y.head).cs true)):=by exact hext
   obtain ⟨v7,h7,e7,o7,k7⟩:=app_row (T:=TV n) (st:=74) (rest:=[74]) (h:=((h2.alloc (.cells 123 [.str [],.str [],.bool false,.int .i64 0,.int .u32 0] true)).set h2.next (.cells 123 y.cs true)).alloc (.cells 29 (chain s y.head).cs true)) (x:=chain s y.head) (c:=h2.next+1) (ow.ext x4) (get_new _ _) (by show h2.next+1<h2.next+1+1; omega) (by show h3.next≤h2.next+1+1; omega) (by omega) rfl rfl rfl rfl rfl (by exact Nat.le_of_ble_eq_true rfl) rfl (by decide) rfl
   refine walk ?_
   refine next (i+1,v7) (by simp only; omega) (by exact hsub) ⟨by simp only; omega,by exact hext,?_⟩
   simp only
   rw [e1]
   exact o7
  ·rw [v1,if_neg (by rw [ho]; decide),List.append_nil] at e1
   refine walk ?_
   refine next (i+1,w) (by simp only; omega) (by exact hsub) ⟨by simp only; omega,by exact hext,?_⟩
   simp only
   rw [e1]
   exact ow.ext (by exact hext)
 ·obtain rfl:i=l.length:=by omega
  refine walk ?_
  exact jg_ret1 (by exact hres) ⟨by exact hext,Own.lo ow (by omega)⟩
theorem parseF_len:∀ (k:Nat) (s:List UInt8) (l:List Fk),parseF k s=some l→5*l.length≤s.length
 |0,s,l,h=>by cases h; simp
 |k+1,s,l,h=>by
  unfold parseF at h
  by_cases c:okF s
  case neg=>rw [if_neg c] at h; cases h
  rw [if_pos c] at h
  cases e:parseF k (fkRest s) with
  |none=>rw [e] at h; cases h
  |some m =>
   rw [e] at h
   cases h
   have ih:=parseF_len k (fkRest s) m e
   have rl:(fkRest s).length+5≤s.length:=by
    have h1:=restV_lt c.1
    have h2:=restV_lt c.2.1
    have h3:=restV_lt c.2.2
    unfold fkRest
    omega
   rw [List.length_cons]
   omega
theorem ofB_len {p:Pg} {l:List Fk} (h:ofB p=some l):5*l.length≤p.body.length:=by
 unfold ofB at h
 split at h
 ·cases h
 ·rename_i l' e
  split at h
  ·cases h; exact parseF_len _ _ _ e
  ·cases h
def vB1 (s:Sn) (f:Vis) (l:List Fk) (i:Nat) (x:Fk):Vis:=⟨x.child,f.from',f.bucket,s.visit.depth+1,3,if 0<i then x.key else f.low,match l[i+1]? with|some y=>y.key|none=>f.less,match l[i+1]? with|some _=>true|none=>f.high⟩
def vB (s:Sn) (f:Vis) (l:List Fk) (i:Nat):List Vis:=match l[i]? with
 |some x=>[vB1 s f l i x]
 |none=>[]
theorem vB_le (s:Sn) (f:Vis) (l:List Fk) (i:Nat):(vB s f l i).length≤1:=by
 unfold vB
 split<;>simp
noncomputable def ofBranchV (s:Sn) (f:Vis):List Vis:=(List.range ((ofB s.page).getD []).length).flatMap (vB s f ((ofB s.page).getD []))
theorem ofBranch_g {n:Nat} (hn:6<n) {s:Sn} {f:Vis} {h:Heap} (hk:h.ok) (hl:s.page.body.length≤100000) (hc:s.page.count<1000000000) (d1 : -1000000≤s.visit.depth) (d2:s.visit.depth≤1000000):Gives (TV n) 47 [.agg s.cs,.agg f.cs] h (fun v h'=>Ext h h'∧OwnLV h.next h' v (ofBranchV s f)):=by
 refine call_j (no_w rfl rfl) rfl rfl ?_
 refine walk ?_
 refine jo_call (braOf_g (n:=n) hn (p:=s.page) (by exact hok) hl hc) rfl rfl rfl rfl ?_
 rintro v h3 ⟨x3,c3⟩
 have n3:h.next+1+1≤h3.next:=x3.nx
 have x03:Ext h h3:=((Ext.alloc h _).trans (Ext.alloc _ _)).trans x3
 cases e:ofB s.page with
 |none =>
  rw [e] at c3
  subst c3
  refine walk ?_
  refine jg_ret1 (by exact hres) ⟨by exact hext,?_⟩
  unfold ofBranchV
  rw [e]
  exact OwnL.nil
 |some l =>
 rw [e] at c3
 obtain ⟨u,rfl,ls⟩:=c3
 have ll:=ofB_len e
 have ev:ofBranchV s f=(List.range l.length).flatMap (vB s f l):=by unfold ofBranchV; rw [e]; rfl
 rw [ev]
 have hlen:=ls.len
 have q0:h3.get h.next=some (.cells 34 s.cs true):=(x3.old _ (by show h.next<h.next+1+1; omega)).trans (by exact hget)
 have q1:h3.get (h.next+1)=some (.cells 29 f.cs true):=(x3.old _ (by show h.next+1<h.next+1+1; omega)).trans (by exact hget)
 refine walk ?_
 refine jg_loop (ι:=Nat×AV) (fun a=>l.length-a.1) (fun a=>[(2,.ptr h.next 0),(3,.ptr (h.next+1) 0),(5,u),(7,a.2),(19,u),(20,.int .i64 l.length),(21,.int .i64 (a.1:Nat))]) (fun a h2=>a.1≤l.length∧Ext h3 h2∧OwnLV h3.next h2 a.2 ((List.range a.1).flatMap (vB s f l))) (0,.nilslice) hsub ⟨by omega,.refl _,OwnL.nil⟩ ?_
 rintro ⟨i,w⟩ h2 ⟨hi,x2,ow⟩ next
 dsimp only at hi ow next ⊢
 have n2:=x2.nx
 have e1:(List.range (i+1)).flatMap (vB s f l)=(List.range i).flatMap (vB s f l)++vB s f l i:=flat_suc _ _
 have le:=flat_le (vB s f l) (vB_le s f l) i
 by_cases hil:i<l.length
 case neg =>
  obtain rfl:i=l.length:=by omega
  refine walk ?_
  exact jg_ret1 (by exact hres) ⟨by exact hext,Own.lo ow (by omega)⟩
 obtain ⟨y,hy⟩:∃ y,l[i]?=some y:=⟨l[i],List.getElem?_eq_getElem hil⟩
 obtain ⟨b,p',e',all,rw',hb,hg,hpl,he,a1⟩:=(ls.ext x2).at Fk.len hy
 have v1:vB s f l i=[vB1 s f l i y]:=by unfold vB; rw [hy]
 rw [v1] at e1
 have q02:h2.get h.next=some (.cells 34 s.cs true):=(x2.old _ (by omega)).trans q0
 have q12:h2.get (h.next+1)=some (.cells 29 f.cs true):=(x2.old _ (by omega)).trans q1
 refine walk ?_
 refine jg_drawn (q:=12) (ms:=[0,1,0,4,12,28,3,67,195,451,1023,2047]) (hl:=[[29,30,31,32],[29,30,31,32],[27,28,33,34],[27,28,33,34],[27,28,33,34],[27,28,33,34],[29,30,31,32],[29,30,31,32],[29,30,31,32],[29,30,31,32],[],[]]) hok rfl (by kernel_rfl) (by kernel_rfl) rfl ?_
 refine walk ?_
 refine GJ.gen [(2,.ptr h.next 0),(3,.ptr (h.next+1) 0),(5,u),(7,w),(8,.int .i64 (i:Nat)),(9,.ptr h2.next 0),(10,.ptr (h2.next+1) 0),(19,u),(20,.int .i64 l.length),(21,.int .i64 (i:Nat)),(37,.bool (decide ((i:Int)>0)))] (fun g=>Ext h2 g∧h2.next+2≤g.next∧g.get h2.next=some (.cells 104 y.cs true)∧g.get (h2.next+1)=some (.cells 29 (Vis.mk y.child f.from' f.bucket (s.visit.depth+1) 3 f.low f.less f.high).cs true)) hsub ⟨by exact hext,by show h2.next+2≤h2.next+1+1+12; omega,by exact hget,by exact hget⟩ ?_
 rintro g ⟨xg,ng,gf,gv⟩
 have n5:h2.next+2≤g.next:=ng
 have og:OwnLV h3.next g w ((List.range i).flatMap (vB s f l)):=ow.ext xg
 have ext5:Ext h3 g:=x2.trans xg
 by_cases c1:0<i
 ·rw [show decide ((i:Int)>0)=true from decide_eq_true (by omega)]
  by_cases c2:i+1<l.length
  ·obtain ⟨y2,hy2⟩:∃ y2,l[i+1]?=some y2:=⟨l[i+1],List.getElem?_eq_getElem c2⟩
   obtain ⟨b2,p2,e2,all2,rw2,hb2,hg2,hpl2,he2,a2⟩:=(ls.ext x2).at Fk.len hy2
   have hgg:=(xg.old _ hb2).trans hg2
   have ev1:vB1 s f l i y=(Vis.mk y.child f.from' f.bucket (s.visit.depth+1) 3 y.key y2.key true):=by unfold vB1; rw [if_pos c1,hy2]
   rw [ev1] at e1
   have xh:Ext h2 (Heap.set (Heap.set (Heap.set g (h2.next+1) (.cells 29 (Vis.mk y.child f.from' f.bucket (s.visit.depth+1) 3 y.key f.less f.high).cs true)) (h2.next+1) (.cells 29 (Vis.mk y.child f.from' f.bucket (s.visit.depth+1) 3 y.key y2.key f.high).cs true)) (h2.next+1) (.cells 29 (Vis.mk y.child f.from' f.bucket (s.visit.depth+1) 3 y.key y2.key true).cs true)):=by exact hext
   have xg2:Ext h3 (Heap.set (Heap.set (Heap.set g (h2.next+1) (.cells 29 (Vis.mk y.child f.from' f.bucket (s.visit.depth+1) 3 y.key f.less f.high).cs true)) (h2.next+1) (.cells 29 (Vis.mk y.child f.from' f.bucket (s.visit.depth+1) 3 y.key y2.key f.high).cs true)) (h2.next+1) (.cells 29 (Vis.mk y.child f.from' f.bucket (s.visit.depth+1) 3 y.key y2.key true).cs true)):=x2.trans xh
   have o5:OwnLV h3.next (Heap.set (Heap.set (Heap.set g (h2.next+1) (.cells 29 (Vis.mk y.child f.from' f.bucket (s.visit.depth+1) 3 y.key f.less f.high).cs true)) (h2.next+1) (.cells 29 (Vis.mk y.child f.from' f.bucket (s.visit.depth+1) 3 y.key y2.key f.high).cs true)) (h2.next+1) (.cells 29 (Vis.mk y.child f.from' f.bucket (s.visit.depth+1) 3 y.key y2.key true).cs true)) w ((List.range i).flatMap (vB s f l)):=ow.ext xh
   obtain ⟨v7,h7,e7,o7,k7⟩:=app_row (T:=TV n) (st:=74) (rest:=[74]) (h:=Heap.alloc (Heap.set (Heap.set (Heap.set g (h2.next+1) (.cells 29 (Vis.mk y.child f.from' f.bucket (s.visit.depth+1) 3 y.key f.less f.high).cs true)) (h2.next+1) (.cells 29 (Vis.mk y.child f.from' f.bucket (s.visit.depth+1) 3 y.key y2.key f.high).cs true)) (h2.next+1) (.cells 29 (Vis.mk y.child f.from' f.bucket (s.visit.depth+1) 3 y.key y2.key true).cs true)) (.cells 29 (Vis.mk y.child f.from' f.bucket (s.visit.depth+1) 3 y.key y2.key true).cs true)) (x:=(Vis.mk y.child f.from' f.bucket (s.visit.depth+1) 3 y.key y2.key true)) (c:=g.next) (o5.ext (Ext.alloc _ _)) (get_new _ _) (by show g.next<g.next+1; omega) (by show h3.next≤g.next+1; omega) (by omega) rfl rfl rfl rfl rfl (by exact Nat.le_of_ble_eq_true rfl) rfl (by decide) rfl
   refine walk ?_
   refine next (i+1,v7) (by simp only; omega) (by exact hsub) ⟨by simp only; omega,by exact hext,?_⟩
   simp only
   rw [e1]
   exact o7
  ·have hy2:l[i+1]?=none:=List.getElem?_eq_none (by omega)
   have ev1:vB1 s f l i y=(Vis.mk y.child f.from' f.bucket (s.visit.depth+1) 3 y.key f.less f.high):=by unfold vB1; rw [if_pos c1,hy2]
   rw [ev1] at e1
   have xh:Ext h2 (Heap.set g (h2.next+1) (.cells 29 (Vis.mk y.child f.from' f.bucket (s.visit.depth+1) 3 y.key f.less f.high).cs true)):=by exact hext
   have xg2:Ext h3 (Heap.set g (h2.next+1) (.cells 29 (Vis.mk y.child f.from' f.bucket (s.visit.depth+1) 3 y.key f.less f.high).cs true)):=x2.trans xh
   have o5:OwnLV h3.next (Heap.set g (h2.next+1) (.cells 29 (Vis.mk y.child f.from' f.bucket (s.visit.depth+1) 3 y.key f.less f.high).cs true)) w ((List.range i).flatMap (vB s f l)):=ow.ext xh
   obtain ⟨v7,h7,e7,o7,k7⟩:=app_row (T:=TV n) (st:=74) (rest:=[74]) (h:=Heap.alloc (Heap.set g (h2.next+1) (.cells 29 (Vis.mk y.child f.from' f.bucket (s.visit.depth+1) 3 y.key f.less f.high).cs true)) (.cells 29 (Vis.mk y.child f.from' f.bucket (s.visit.depth+1) 3 y.key f.less f.high).cs true)) (x:=(Vis.mk y.child f.from' f.bucket (s.visit.depth+1) 3 y.key f.less f.high)) (c:=g.next) (o5.ext (Ext.alloc _ _)) (get_new _ _) (by show g.next<g.next+1; omega) (by show h3.next≤g.next+1; omega) (by omega) rfl rfl rfl rfl rfl (by exact Nat.le_of_ble_eq_true rfl) rfl (by decide) rfl
   refine walk ?_
   refine next (i+1,v7) (by simp only; omega) (by exact hsub) ⟨by simp only; omega,by exact hext,?_⟩
   simp only
   rw [e1]
   exact o7
 ·rw [show decide ((i:Int)>0)=false from decide_eq_false (by omega)]
  by_cases c2:i+1<l.length
  ·obtain ⟨y2,hy2⟩:∃ y2,l[i+1]?=some y2:=⟨l[i+1],List.getElem?_eq_getElem c2⟩
   obtain ⟨b2,p2,e2,all2,rw2,hb2,hg2,hpl2,he2,a2⟩:=(ls.ext x2).at Fk.len hy2
   have hgg:=(xg.old _ hb2).trans hg2
   have ev1:vB1 s f l i y=(Vis.mk y.child f.from' f.bucket (s.visit.depth+1) 3 f.low y2.key true):=by unfold vB1; rw [if_neg c1,hy2]
   rw [ev1] at e1
   have xh:Ext h2 (Heap.set (Heap.set g (h2.next+1) (.cells 29 (Vis.mk y.child f.from' f.bucket (s.visit.depth+1) 3 f.low y2.key f.high).cs true)) (h2.next+1) (.cells 29 (Vis.mk y.child f.from' f.bucket (s.visit.depth+1) 3 f.low y2.key true).cs true)):=by exact hext
   have xg2:Ext h3 (Heap.set (Heap.set g (h2.next+1) (.cells 29 (Vis.mk y.child f.from' f.bucket (s.visit.depth+1) 3 f.low y2.key f.high).cs true)) (h2.next+1) (.cells 29 (Vis.mk y.child f.from' f.bucket (s.visit.depth+1) 3 f.low y2.key true).cs true)):=x2.trans xh
   have o5:OwnLV h3.next (Heap.set (Heap.set g (h2.next+1) (.cells 29 (Vis.mk y.child f.from' f.bucket (s.visit.depth+1) 3 f.low y2.key f.high).cs true)) (h2.next+1) (.cells 29 (Vis.mk y.child f.from' f.bucket (s.visit.depth+1) 3 f.low y2.key true).cs true)) w ((List.range i).flatMap (vB s f l)):=ow.ext xh
   obtain ⟨v7,h7,e7,o7,k7⟩:=app_row (T:=TV n) (st:=74) (rest:=[74]) (h:=Heap.alloc (Heap.set (Heap.set g (h2.next+1) (.cells 29 (Vis.mk y.child f.from' f.bucket (s.visit.depth+1) 3 f.low y2.key f.high).cs true)) (h2.next+1) (.cells 29 (Vis.mk y.child f.from' f.bucket (s.visit.depth+1) 3 f.low y2.key true).cs true)) (.cells 29 (Vis.mk y.child f.from' f.bucket (s.visit.depth+1) 3 f.low y2.key true).cs true)) (x:=(Vis.mk y.child f.from' f.bucket (s.visit.depth+1) 3 f.low y2.key true)) (c:=g.next) (o5.ext (Ext.alloc _ _)) (get_new _ _) (by show g.next<g.next+1; omega) (by show h3.next≤g.next+1; omega) (by omega) rfl rfl rfl rfl rfl (by exact Nat.le_of_ble_eq_true rfl) rfl (by decide) rfl
   refine walk ?_
   refine next (i+1,v7) (by simp only; omega) (by exact hsub) ⟨by simp only; omega,by exact hext,?_⟩
   simp only
   rw [e1]
   exact o7
  ·have hy2:l[i+1]?=none:=List.getElem?_eq_none (by omega)
   have ev1:vB1 s f l i y=(Vis.mk y.child f.from' f.bucket (s.visit.depth+1) 3 f.low f.less f.high):=by unfold vB1; rw [if_neg c1,hy2]
   rw [ev1] at e1
   have xh:Ext h2 g:=by exact hext
   have xg2:Ext h3 g:=x2.trans xh
   have o5:OwnLV h3.next g w ((List.range i).flatMap (vB s f l)):=ow.ext xh
   obtain ⟨v7,h7,e7,o7,k7⟩:=app_row (T:=TV n) (st:=74) (rest:=[74]) (h:=Heap.alloc g (.cells 29 (Vis.mk y.child f.from' f.bucket (s.visit.depth+1) 3 f.low f.less f.high).cs true)) (x:=(Vis.mk y.child f.from' f.bucket (s.visit.depth+1) 3 f.low f.less f.high)) (c:=g.next) (o5.ext (Ext.alloc _ _)) (get_new _ _) (by show g.next<g.next+1; omega) (by show h3.next≤g.next+1; omega) (by omega) rfl rfl rfl rfl rfl (by exact Nat.le_of_ble_eq_true rfl) rfl (by decide) rfl
   refine walk ?_
   refine next (i+1,v7) (by simp only; omega) (by exact hsub) ⟨by simp only; omega,by exact hext,?_⟩
   simp only
   rw [e1]
   exact o7
set_option maxRecDepth 10000
set_option maxHeartbeats 4000000
theorem stepC_len {s s':List UInt8} {b:Bk} (h:stepC s=some (b,s')):s'.length+4≤s.length:=by
 unfold stepC at h
 split at h
 ·rename_i c
  cases h
  have h1:=restV_len 1 s
  have h2:=restV_len (numV 1 s) (restV 1 s)
  have h3:=restV_len 4 (restV (numV 1 s) (restV 1 s))
  have h4:=restV_lt c
  omega
 ·cases h
theorem parseC_len:∀ (k:Nat) (s:List UInt8) (l:List Bk),parseC k s=some l→4*l.length≤s.length
 |0,s,l,h=>by cases h; simp
 |k+1,s,l,h=>by
  unfold parseC at h
  split at h
  ·cases h
  ·rename_i b s' e
   cases e2:parseC k s' with
   |none=>rw [e2] at h; cases h
   |some m =>
    rw [e2] at h
    cases h
    have ih:=parseC_len k s' m e2
    have rl:=stepC_len e
    rw [List.length_cons]
    omega
theorem ofC_len {p:Pg} {l:List Bk} (h:ofC p=some l):4*l.length≤p.body.length:=by
 unfold ofC at h
 split at h
 ·cases h
 ·rename_i l' e
  split at h
  ·cases h; exact parseC_len _ _ _ e
  ·cases h
def Bk.zero:Bk:=⟨[],0,0⟩
def vC (s:Sn) (l:List Bk) (i:Nat):List Vis:=match l[i]? with
 |some x=>if x.root≠0 then [⟨x.root,s.visit.page,i,1,3,[],[],false⟩] else []
 |none=>[]
theorem vC_le (s:Sn) (l:List Bk) (i:Nat):(vC s l i).length≤1:=by
 unfold vC
 split
 ·split<;>simp
 ·simp
theorem one_own {x:Vis} {lo b:Nat} {h:Heap} (hg:h.get b=some (.cells 29 x.cs true)) (hb:lo≤b) (hl:b<h.next):OwnLV lo h (.slice b 0 1 1) [x]:=by
 refine Own.sl hb hl (all:=x.cs) hg (Nat.le_refl 1) rfl ?_
 simp
 rfl
noncomputable def visitsV (s:Sn):List Vis:=if s.why≠0 then [] else if s.page.kind=2 then (List.range ((ofC s.page).getD []).length).flatMap (vC s ((ofC s.page).getD [])) else if s.page.kind=3 then ofBranchV s {s.visit with from':=s.visit.page} else if s.page.kind=4 then ofLeafV s else if s.page.kind=5 then (if s.page.link≠0 then [chain s s.page.link] else []) else []
theorem visits_g {n:Nat} (hn:6<n) {s:Sn} {h:Heap} (hk:h.ok) (hl:s.page.body.length≤100000) (hc:s.page.count<1000000000) (d1 : -1000000≤s.visit.depth) (d2:s.visit.depth≤1000000):Gives (TV n) 28 [.agg s.cs] h (fun v h'=>Ext h h'∧OwnLV h.next h' v (visitsV s)):=by
 refine call_j (no_w rfl rfl) rfl rfl ?_
 by_cases k0:s.why=0
 case neg =>
  have ev:visitsV s=[]:=by unfold visitsV; rw [if_pos k0]
  rw [ev]
  refine walk ?_
  exact jg_ret1 (by exact hres) ⟨by exact hext,OwnL.nil⟩
 by_cases k2:s.page.kind=2
 case pos =>
  have ev:visitsV s=(List.range ((ofC s.page).getD []).length).flatMap (vC s ((ofC s.page).getD [])):=by unfold visitsV; rw [if_neg (fun c=>c k0),if_pos k2]
  rw [ev]
  refine walk ?_
  refine jo_call (catOf_g (n:=n) hn (p:=s.page) (by exact hok) hl hc) rfl rfl rfl rfl ?_
  rintro v h3 ⟨x3,c3⟩
  have n3:h.next+1≤h3.next:=x3.nx
  have c4:∃ u e,v=.tuple [u,.int .i64 e]∧LsB h3 u ((ofC s.page).getD [])∧4*((ofC s.page).getD []).length≤s.page.body.length:=by
   cases e:ofC s.page with
   |none=>rw [e] at c3; exact ⟨_,_,c3,Ls.nil,by simp⟩
   |some l=>rw [e] at c3; obtain ⟨u,e',ls⟩:=c3; exact ⟨u,_,e',ls,ofC_len e⟩
  obtain ⟨u,e,rfl,ls,tm⟩:=c4
  clear c3 ev
  generalize (ofC s.page).getD []=l at ls tm ⊢
  have hlen:=ls.len
  have q0:h3.get h.next=some (.cells 34 s.cs true):=(x3.old _ (by show h.next<h.next+1; omega)).trans (get_new _ _)
  have x03:Ext h h3:=(Ext.alloc h _).trans x3
  refine walk ?_
  refine jg_loop (ι:=Nat×AV) (fun a=>l.length-a.1) (fun a=>[(1,.ptr h.next 0),(5,a.2),(23,u),(24,.int .i64 l.length),(25,.int .i64 (a.1:Nat))]) (fun a h2=>a.1≤l.length∧Ext h3 h2∧OwnLV h3.next h2 a.2 ((List.range a.1).flatMap (vC s l))) (0,.nilslice) hsub ⟨by omega,.refl _,OwnL.nil⟩ ?_
  rintro ⟨i,w⟩ h2 ⟨hi,x2,ow⟩ next
  dsimp only at hi ow next ⊢
  have n2:=x2.nx
  have e1:(List.range (i+1)).flatMap (vC s l)=(List.range i).flatMap (vC s l)++vC s l i:=flat_suc _ _
  have le:=flat_le (vC s l) (vC_le s l) i
  have q02:h2.get h.next=some (.cells 34 s.cs true):=(x2.old _ (by omega)).trans q0
  by_cases hil:i<l.length
  case neg =>
   obtain rfl:i=l.length:=by omega
   refine walk ?_
   exact jg_ret1 (by exact hres) ⟨by exact hext,Own.lo ow (by omega)⟩
  obtain ⟨y,hy⟩:∃ y,l[i]?=some y:=⟨l[i],List.getElem?_eq_getElem hil⟩
  obtain ⟨b,p',e',all,rw',hb,hg,hpl,he,a1⟩:=(ls.ext x2).at Bk.len hy
  by_cases c1:y.root=0
  ·have v1:vC s l i=[]:=by unfold vC; rw [hy]; exact if_neg (fun c=>c c1)
   rw [v1,List.append_nil] at e1
   refine walk ?_
   refine next (i+1,w) (by simp only; omega) (by exact hsub) ⟨by simp only; omega,by exact hext,?_⟩
   simp only
   rw [e1]
   exact ow.ext (by exact hext)
  ·have v1:vC s l i=[⟨y.root,s.visit.page,i,1,3,[],[],false⟩]:=by unfold vC; rw [hy]; exact if_pos c1
   rw [v1] at e1
   have x4:Ext h2 (((h2.alloc (.cells 64 Bk.zero.cs true)).set h2.next (.cells 64 y.cs true)).alloc (.cells 29 (Vis.mk y.root s.visit.page i 1 3 [] [] false).cs true)):=by exact hext
   obtain ⟨v7,h7,e7,o7,k7⟩:=app_row (T:=TV n) (st:=74) (rest:=[74]) (h:=((h2.alloc (.cells 64 Bk.zero.cs true)).set h2.next (.cells 64 y.cs true)).alloc (.cells 29 (Vis.mk y.root s.visit.page i 1 3 [] [] false).cs true)) (x:=Vis.mk y.root s.visit.page i 1 3 [] [] false) (c:=h2.next+1) (ow.ext x4) (get_new _ _) (by show h2.next+1<h2.next+1+1; omega) (by show h3.next≤h2.next+1+1; omega) (by omega) rfl rfl rfl rfl rfl (by exact Nat.le_of_ble_eq_true rfl) rfl (by decide) rfl
   refine walk ?_
   refine next (i+1,v7) (by simp only; omega) (by exact hsub) ⟨by simp only; omega,by exact hext,?_⟩
   simp only
   rw [e1]
   exact o7
 by_cases k3:s.page.kind=3
 case pos =>
  have ev:visitsV s=ofBranchV s {s.visit with from':=s.visit.page}:=by unfold visitsV; rw [if_neg (fun c=>c k0),if_neg k2,if_pos k3]
  rw [ev]
  refine walk ?_
  refine jo_call (ofBranch_g (n:=n) (s:=s) (f:={s.visit with from':=s.visit.page}) hn (by exact hok) hl hc d1 d2) rfl rfl rfl rfl ?_
  rintro v h3 ⟨x3,c3⟩
  refine walk ?_
  exact jg_ret1 (by exact hres) ⟨by exact hext,Own.lo c3 (by show h.next≤h.next+1+1; omega)⟩
 by_cases k4:s.page.kind=4
 case pos =>
  have ev:visitsV s=ofLeafV s:=by unfold visitsV; rw [if_neg (fun c=>c k0),if_neg k2,if_neg k3,if_pos k4]
  rw [ev]
  refine walk ?_
  refine jo_call (ofLeaf_g (n:=n) (s:=s) (by omega) (by exact hok) hl hc) rfl rfl rfl rfl ?_
  rintro v h3 ⟨x3,c3⟩
  refine walk ?_
  exact jg_ret1 (by exact hres) ⟨by exact hext,Own.lo c3 (by show h.next≤h.next+1; omega)⟩
 by_cases k5:s.page.kind=5
 case pos =>
  have ev:visitsV s=if s.page.link≠0 then [chain s s.page.link] else []:=by unfold visitsV; rw [if_neg (fun c=>c k0),if_neg k2,if_neg k3,if_neg k4,if_pos k5]
  rw [ev]
  have w1:=chained_w (n:=n) (by omega) s s.page.link
  by_cases c:s.page.link=0
  ·rw [if_neg fun x=>x c]
   refine walk ?_
   exact jg_ret1 (by exact hres) ⟨by exact hext,OwnL.nil⟩
  ·rw [if_pos c]
   refine walk ?_
   refine jg_ret1 (by exact hres) ⟨by exact hext,?_⟩
   exact one_own (x:=chain s s.page.link) (by exact hget) (by show h.next≤h.next+1; omega) (by show h.next+1<h.next+1+1; omega)
 have ev:visitsV s=[]:=by unfold visitsV; rw [if_neg (fun c=>c k0),if_neg k2,if_neg k3,if_neg k4,if_neg k5]
 rw [ev]
 refine walk ?_
 exact jg_ret1 (by exact hres) ⟨by exact hext,OwnL.nil⟩
end Go.Proofs.YthdlebegkhnbiaaGreat
