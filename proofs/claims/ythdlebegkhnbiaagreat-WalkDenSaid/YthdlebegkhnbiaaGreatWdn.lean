/- What the functions of this part answer at any input, told by the rules over the evaluator. Conditions: those that each theorem states. -/
import Derived.Test.YthdlebegkhnbiaaGreatOnc
import Derived.Test.YthdlebegkhnbiaaGreatRst
import Derived.Test.YthdlebegkhnbiaaGreatWfl
set_option linter.unusedVariables false
set_option linter.unusedSimpArgs false
open Go Ev
namespace Go.Proofs.YthdlebegkhnbiaaGreat
set_option maxRecDepth 10000
set_option maxHeartbeats 2000000
def Thru (z:Int) (img:List UInt8) (m:List Nat) (vs:List Vis) (acc:List Sn) (m':List Nat):Prop:=∀ left l,Run z img m (vs++left) l→∃ r,l=acc++r∧Run z img m' left r
def Wkd (z:Int) (img:List UInt8) (P:Int→Prop) (vs:List Vis) (pg pg':List Nat):Prop:=∀ m,(∀ q,q∈m↔q∈pg)→∃ acc m',Thru z img m vs acc m'∧(∀ x∈acc,x.why=0∧P x.visit.bucket)∧pg'=pg++acc.map (fun x=>x.visit.page)∧∀ q,q∈m'↔q∈pg'
theorem Wkd.nil {z:Int} {img:List UInt8} {P:Int→Prop} (pg:List Nat):Wkd z img P [] pg pg:=fun m hm=>⟨[],m,fun left l h=>⟨l,rfl,h⟩,fun x h=>(by cases h),by simp,hm⟩
theorem Wkd.app {z:Int} {img:List UInt8} {P:Int→Prop} {a b:List Vis} {p1 p2 p3:List Nat} (x:Wkd z img P a p1 p2) (y:Wkd z img P b p2 p3):Wkd z img P (a++b) p1 p3:=fun m hm=>by
 obtain ⟨a1,m1,t1,al1,e1,h1⟩:=x m hm
 obtain ⟨a2,m2,t2,al2,e2,h2⟩:=y m1 h1
 refine ⟨a1++a2,m2,fun left l h=>?_,fun s hs=>?_,by rw [e2,e1]; simp,h2⟩
 ·rw [List.append_assoc] at h
  obtain ⟨r,rfl,hr⟩:=t1 _ _ h
  obtain ⟨q,rfl,hq⟩:=t2 _ _ hr
  exact ⟨q,by rw [List.append_assoc],hq⟩
 ·rcases List.mem_append.1 hs with q|q
  ·exact al1 s q
  ·exact al2 s q
theorem Wkd.one {z:Int} {img:List UInt8} {P:Int→Prop} {v:Vis} {g:Pg} {pg p2:List Nat} (hv:v.page ∉ pg) (h2:2≤v.page) (hp:v.page<pages z img) (hd:v.depth≤16) (hr:pageR2 z img v=(g,true)) (hP:P v.bucket) (a:Wkd z img P (visitsV ⟨v,0,g⟩) (pg++[v.page]) p2):Wkd z img P [v] pg p2:=fun m hm=>by
 have e:seenP z img m v=⟨v,0,g⟩:=by
  unfold seenP
  rw [if_neg (by omega),if_neg (fun q=>hv ((hm _).1 q)),if_neg (by omega),hr]
  rfl
 obtain ⟨acc,m',t,al,ep,em⟩:=a (v.page::m) (fun q=>by rw [List.mem_cons,List.mem_append,List.mem_singleton,hm]; exact or_comm)
 refine ⟨⟨v,0,g⟩::acc,m',fun left l h=>?_,fun s hs=>?_,by rw [ep]; simp,em⟩
 ·have h:Run z img m (v::left) l:=h
  cases h with
  |step r =>
   rw [e] at r ⊢
   rw [if_neg (fun c=>absurd (show (0:Int)=1 from c) (by decide))] at r
   obtain ⟨q,rfl,hq⟩:=t _ _ r
   exact ⟨q,rfl,hq⟩
 ·rcases List.mem_cons.1 hs with rfl|q
  ·exact ⟨rfl,hP⟩
  ·exact al s q
theorem comeS_ok {pg q:List Nat} {n:Nat} (e:comeS pg n=some q):n ∉ pg∧q=pg++[n]:=by
 unfold comeS at e
 split at e
 ·cases e
 ·rename_i c; cases e; exact ⟨c,rfl⟩
def idxF {α β:Type} (f:Nat→α→List β):Nat→List α→List β
 |_,[]=>[]
 |i,x::l=>f i x++idxF f (i+1) l
theorem rng_flat {α β:Type} (f:Nat→α→List β) (l0:List α):∀ (l:List α) (i:Nat),l0.drop i=l→(List.range' i l.length).flatMap (fun j=>match l0[j]? with|some x=>f j x|none=>[])=idxF f i l
 |[],i,h=>rfl
 |x::l,i,h=>by
  have hx:l0[i]?=some x:=by rw [← List.head?_drop,h]; rfl
  have hl:l0.drop (i+1)=l:=by
   have:=congrArg List.tail h
   rw [List.tail_drop] at this
   exact this
  rw [List.length_cons,List.range'_succ,List.flatMap_cons,hx,rng_flat f l0 l (i+1) hl]
  rfl
theorem chain_wkd {z:Int} {img:List UInt8} {P:Int→Prop}:∀ (k:Nat) (met:List Nat) (head:Nat) (ps:List Pg) (pg q:List Nat) (s:Sn),chainS z img 5 k met head=some ps→(∀ p∈ps,okOf p)→comesS pg (ps.map (·.page))=some q→s.visit.depth≤16→P s.visit.bucket→Wkd z img P (if head≠0 then [chain s head] else []) pg q
 |0,met,head,ps,pg,q,s,e,_,_,_,_=>by cases e
 |k+1,met,head,ps,pg,q,s,e,ok,co,hd,hb=>by
  unfold chainS at e
  by_cases h0:head=0
  ·rw [if_pos h0] at e
   cases e
   cases co
   rw [if_neg (fun c=>c h0)]
   exact .nil _
  rw [if_neg h0] at e
  split at e
  ·cases e
  ·rename_i c
   have c1:(readR z img head).2=0:=by by_cases q:(readR z img head).2=0; exact q; exact absurd (.inl q) c
   have c2:2≤head:=by by_cases q:2≤head; exact q; exact absurd (.inr (.inl (by omega))) c
   have c3:(readR z img head).1.kind=5:=by by_cases q:(readR z img head).1.kind=5; exact q; exact absurd (.inr (.inr (.inl q))) c
   obtain ⟨g1,g2⟩:=read_page c1
   generalize hr:readR z img head=r at *
   obtain ⟨g,er⟩:=r
   dsimp only at *
   cases e2:chainS z img 5 k (met++[head]) g.link with
   |none=>rw [e2] at e; cases e
   |some ps' =>
    rw [e2] at e
    cases e
    rw [List.map_cons] at co
    unfold comesS at co
    cases e3:comeS pg g.page with
    |none=>rw [e3] at co; cases co
    |some q1 =>
     rw [e3] at co
     obtain ⟨n1,rfl⟩:=comeS_ok e3
     rw [if_pos h0]
     rw [g1] at n1 co
     refine Wkd.one (g:=g) n1 c2 g2 hd ?_ hb ?_
     ·have er0:rightR z img head 5=(g,true):=by
       unfold rightR
       rw [hr,if_pos ⟨c1,c3,.inr (.inr (.inr (.inl ⟨c3,ok g (.head _)⟩)))⟩]
      unfold pageR2
      show (if (rightR z img head 5).2=false∧(5:Int)=3 then rightR z img head 4 else rightR z img head 5)=_
      rw [if_neg (fun c=>absurd c.2 (by decide)),er0]
     ·have ev:visitsV ⟨chain s head,0,g⟩=if g.link≠0 then [chain ⟨chain s head,0,g⟩ g.link] else []:=by
       unfold visitsV
       rw [if_neg (fun c=>c rfl),if_neg (by rw [show g.kind=5 from c3]; decide),if_neg (by rw [show g.kind=5 from c3]; decide),if_neg (by rw [show g.kind=5 from c3]; decide),if_pos c3]
      rw [ev]
      exact chain_wkd k _ _ ps' _ _ ⟨chain s head,0,g⟩ e2 (fun p hp=>ok p (.tail _ hp)) co hd hb
theorem items_wkd {z:Int} {img:List UInt8} {P:Int→Prop} {b:Bd} (s:Sn) (hd:s.visit.depth≤16) (hb:P s.visit.bucket):∀ (l:List It) (i:Nat) (st st':Rs),itemsS z img b st l=some st'→Wkd z img P (idxF (fun _ (x:It)=>if x.over=true then [chain s x.head] else []) i l) st.pg st'.pg
 |[],i,st,st',e=>by cases e; exact .nil _
 |x::l,i,st,st',e=>by
  unfold itemsS at e
  cases e1:itemS z img b st x with
  |none=>rw [e1] at e; cases e
  |some s1 =>
   rw [e1] at e
   refine Wkd.app (show Wkd z img P (if x.over=true then [chain s x.head] else []) st.pg s1.pg from ?_) (items_wkd s hd hb l (i+1) s1 st' e)
   unfold itemS at e1
   split at e1
   case isFalse=>cases e1
   cases ho:x.over with
   |false =>
    rw [ho] at e1
    cases e1
    rw [if_neg (fun c=>Bool.noConfusion c)]
    exact .nil _
   |true =>
    rw [ho] at e1
    dsimp only at e1
    rw [if_pos rfl]
    cases e2:overS z img x.head x.len with
    |none=>rw [e2] at e1; cases e1
    |some vp =>
     obtain ⟨v,ps⟩:=vp
     rw [e2] at e1
     dsimp only at e1
     cases e3:comesS st.pg ps with
     |none=>rw [e3] at e1; cases e1
     |some q =>
      rw [e3] at e1
      cases e1
      unfold overS at e2
      split at e2
      case isFalse=>cases e2
      cases e4:chainS z img 5 (pages z img+2) [] x.head with
      |none=>rw [e4] at e2; cases e2
      |some ls =>
       rw [e4] at e2
       have e2:overV x.len ls=some (v,ps):=e2
       unfold overV at e2
       split at e2
       case isFalse=>cases e2
       rename_i c
       cases e2
       have w:=chain_wkd (P:=P) (pages z img+2) [] x.head ls st.pg q s e4 c.1 e3 hd hb
       have h0:x.head≠0:=fun h=>by
        rw [show pages z img+2=(pages z img+1)+1 from rfl] at e4
        unfold chainS at e4
        rw [if_pos h] at e4
        cases e4
        have c2:=c.2.1
        have c3:((0:Nat):Int)=x.len:=c.2.2
        omega
       rw [if_pos h0] at w
       exact w
theorem ofB_kind {p:Pg} {l:List Fk} (e:ofB p=some l):p.kind=3:=by
 unfold ofB at e
 split at e
 ·cases e
 ·split at e
  ·rename_i c
   unfold pageB at c
   split at c
   ·have:=congrArg (fun x=>x.1.kind) c
    exact this.symm
   ·cases congrArg Prod.snd c
  ·cases e
theorem forks_wkd {z:Int} {img:List UInt8} {P:Int→Prop} {go:Nat→Bd→Rs→Option Rs} {b:Bd} (s:Sn) (f:Vis) (l:List Fk) (hf:P f.bucket)
  (hg:∀ n b st st' (v:Vis),go n b st=some st'→v.page=n→v.kind=3→v.depth=s.visit.depth+1→P v.bucket→Wkd z img P [v] st.pg st'.pg):∀ (r:List Fk) (i:Nat) (st st':Rs),l.drop i=r→forksS go b l i r.length st=some st'→Wkd z img P (idxF (fun i x=>[vB1 s f l i x]) i r) st.pg st'.pg
 |[],i,st,st',h,e=>by
  unfold forksS at e
  cases e
  exact .nil _
 |x::r,i,st,st',h,e=>by
  have hx:l[i]?=some x:=by rw [← List.head?_drop,h]; rfl
  have hl:l.drop (i+1)=r:=by
   have:=congrArg List.tail h
   rw [List.tail_drop] at this
   exact this
  rw [List.length_cons] at e
  unfold forksS at e
  split at e
  ·cases e
  have gx:l.getD i ⟨[],0⟩=x:=by rw [List.getD_eq_getElem?_getD,hx]; rfl
  rw [gx] at e
  cases e1:go x.child (forkB b l i) st with
  |none=>rw [e1] at e; cases e
  |some s1 =>
   rw [e1] at e
   exact Wkd.app (hg _ _ _ _ (vB1 s f l i x) e1 rfl rfl rfl hf) (forks_wkd s f l hf hg r (i+1) s1 st' hl e)
theorem node_wkd {z:Int} {img:List UInt8} {P:Int→Prop}:∀ (k:Nat) (n:Nat) (b:Bd) (st st':Rs) (v:Vis),nodeS z img k n b st=some st'→v.page=n→v.kind=3→v.depth=17-k→P v.bucket→Wkd z img P [v] st.pg st'.pg
 |0,n,b,st,st',v,e,_,_,_,_=>by cases e
 |k+1,n,b,st,st',v,e,hn,hk,hd,hb=>by
  unfold nodeS at e
  cases e1:comeS st.pg n with
  |none=>rw [e1] at e; cases e
  |some q =>
  rw [e1] at e
  obtain ⟨n1,rfl⟩:=comeS_ok e1
  dsimp only at e
  split at e
  ·cases e
  rename_i c
  have c1:(readR z img n).2=0:=by by_cases q:(readR z img n).2=0; exact q; exact absurd (.inr q) c
  have c2:2≤n:=by by_cases q:2≤n; exact q; exact absurd (.inl (by omega)) c
  obtain ⟨g1,g2⟩:=read_page c1
  generalize hr:readR z img n=r at *
  obtain ⟨g,er⟩:=r
  dsimp only at *
  subst hn
  split at e
  ·rename_i k4
   unfold leafS at e
   cases el:ofI g with
   |none=>rw [el] at e; cases e
   |some l =>
   rw [el] at e
   dsimp only at e
   split at e
   case isFalse=>cases e
   refine Wkd.one (g:=g) n1 c2 g2 (by omega) ?_ hb ?_
   ·have r3:(rightR z img v.page 3).2=false:=by
     unfold rightR
     rw [hr,if_neg (fun c=>by have:=c.2.1; dsimp only at this; omega)]
    have r4:rightR z img v.page 4=(g,true):=by
     unfold rightR
     rw [hr,if_pos ⟨c1,k4,.inr (.inr (.inl ⟨k4,by rw [el]; exact fun c=>(by cases c)⟩))⟩]
    unfold pageR2
    rw [hk,if_pos ⟨r3,rfl⟩,r4]
   ·have ev:visitsV ⟨v,0,g⟩=idxF (fun _ (x:It)=>if x.over=true then [chain ⟨v,0,g⟩ x.head] else []) 0 l:=by
     unfold visitsV
     rw [if_neg (fun c=>c rfl),if_neg (by rw [show g.kind=4 from k4]; decide),if_neg (by rw [show g.kind=4 from k4]; decide),if_pos k4]
     unfold ofLeafV
     rw [show ofI (Sn.page ⟨v,0,g⟩)=some l from el,Option.getD_some,List.range_eq_range',← rng_flat _ l l 0 rfl]
     congr 1
     funext j
     unfold vI
     cases l[j]?<;>rfl
    rw [ev]
    exact items_wkd ⟨v,0,g⟩ (by show v.depth≤16; omega) hb l 0 _ _ e
  ·rename_i k4
   cases el:ofB g with
   |none=>rw [el] at e; cases e
   |some l =>
   rw [el] at e
   dsimp only at e
   have k3:=ofB_kind el
   refine Wkd.one (g:=g) n1 c2 g2 (by omega) ?_ hb ?_
   ·have r3:rightR z img v.page 3=(g,true):=by
     unfold rightR
     rw [hr,if_pos ⟨c1,k3,.inr (.inl ⟨k3,by rw [el]; exact fun c=>(by cases c)⟩)⟩]
    unfold pageR2
    rw [hk,r3,if_neg (fun c=>Bool.noConfusion c.1)]
   ·have ev:visitsV ⟨v,0,g⟩=idxF (fun i (x:Fk)=>[vB1 ⟨v,0,g⟩ {v with from':=v.page} l i x]) 0 l:=by
     unfold visitsV
     rw [if_neg (fun c=>c rfl),if_neg (by rw [show g.kind=3 from k3]; decide),if_pos k3]
     unfold ofBranchV
     rw [show ofB (Sn.page ⟨v,0,g⟩)=some l from el,Option.getD_some,List.range_eq_range',← rng_flat _ l l 0 rfl]
     congr 1
     funext j
     unfold vB
     cases l[j]?<;>rfl
    rw [ev]
    exact forks_wkd ⟨v,0,g⟩ {v with from':=v.page} l hb (fun n b st st' w e h1 h2 h3 h4=>node_wkd k n b st st' w e h1 h2 (by rw [h3]; show v.depth+1=_; omega) h4) l 0 _ _ rfl e
theorem buckets_wkd {z:Int} {img:List UInt8} {N:Nat} (s:Sn) (l:List Bk) (hN:l.length≤N):∀ (r:List Bk) (i:Nat) (pg:List Nat) (bs:List (List UInt8×List Pr)) (pg':List Nat) (bs':List (List UInt8×List Pr)),l.drop i=r→bucketsS z img pg bs r=some (pg',bs')→bs'.length=bs.length+r.length∧Wkd z img (fun b=>b<N) (idxF (fun i (x:Bk)=>if x.root≠0 then [(⟨x.root,s.visit.page,i,1,3,[],[],false⟩:Vis)] else []) i r) pg pg'
 |[],i,pg,bs,pg',bs',h,e=>by cases e; exact ⟨rfl,.nil _⟩
 |x::r,i,pg,bs,pg',bs',h,e=>by
  have hl:l.drop (i+1)=r:=by
   have:=congrArg List.tail h
   rw [List.tail_drop] at this
   exact this
  have li:i<l.length:=by
   have:=congrArg List.length h
   rw [List.length_drop,List.length_cons] at this
   omega
  unfold bucketsS at e
  cases e1:treeS z img x.root pg with
  |none=>rw [e1] at e; cases e
  |some t =>
  rw [e1] at e
  dsimp only at e
  split at e
  case isFalse=>cases e
  obtain ⟨n1,w1⟩:=buckets_wkd s l hN r (i+1) _ _ pg' bs' hl e
  refine ⟨by rw [n1]; simp; omega,Wkd.app (show Wkd z img _ (if x.root≠0 then [(⟨x.root,s.visit.page,i,1,3,[],[],false⟩:Vis)] else []) pg t.pg from ?_) w1⟩
  unfold treeS at e1
  by_cases r0:x.root=0
  ·rw [if_pos r0] at e1
   cases e1
   rw [if_neg (fun c=>c r0)]
   exact .nil _
  ·rw [if_neg r0] at e1
   rw [if_pos r0]
   exact node_wkd 16 x.root .all ⟨pg,0,[]⟩ t _ e1 rfl rfl rfl (by show ((i:Nat):Int)<(N:Int); omega)
theorem den_walk {z:Int} {img:List UInt8} {root:Nat} {pg:List Nat} {bs:List (List UInt8×List Pr)} {acc:List Sn} (e:denS z img root=some (pg,bs)) (r:RunR z img root acc):(∀ x∈acc,x.why=0∧x.visit.bucket<bs.length)∧acc.map (fun x=>x.visit.page)=pg:=by
 unfold denS at e
 by_cases r0:root=0
 ·rw [if_pos r0] at e
  cases e
  rcases r with ⟨_,q⟩|⟨q,_⟩
  ·subst q; exact ⟨fun x h=>(by cases h),rfl⟩
  ·exact absurd r0 q
 rw [if_neg r0] at e
 split at e
 ·cases e
 rename_i c
 have c1:2≤root:=by by_cases q:2≤root; exact q; exact absurd (.inl (by omega)) c
 have c2:(rightR z img root 2).2=true:=by cases q:(rightR z img root 2).2; exact absurd (.inr q) c; rfl
 rcases r with ⟨q,_⟩|⟨_,run⟩
 ·exact absurd q r0
 obtain ⟨a1,a2,a3,a4,a5⟩:=rightR_ok c2
 generalize hr:rightR z img root 2=g0 at *
 obtain ⟨g,b0⟩:=g0
 dsimp only at *
 subst c2
 cases el:ofC g with
 |none=>rw [el] at e; cases e
 |some l =>
 rw [el] at e
 dsimp only at e
 obtain ⟨nb,wb⟩:=buckets_wkd (N:=l.length) ⟨root0 root,0,g⟩ l (Nat.le_refl _) l 0 _ _ _ _ rfl e
 have nb:bs.length=l.length:=by rw [nb]; simp
 have w:Wkd z img (fun b=>b<(l.length:Nat)) [root0 root] [] pg:=by
  refine Wkd.one (g:=g) (fun h=>(by cases h)) c1 a1 (by show (0:Int)≤16; decide) ?_ (by show (-1:Int)<_; omega) ?_
  ·unfold pageR2
   show (if (rightR z img root 2).2=false∧(2:Int)=3 then rightR z img root 4 else rightR z img root 2)=_
   rw [if_neg (fun c=>absurd c.2 (by decide)),hr]
  ·have ev:visitsV ⟨root0 root,0,g⟩=idxF (fun i (x:Bk)=>if x.root≠0 then [(⟨x.root,root,i,1,3,[],[],false⟩:Vis)] else []) 0 l:=by
    unfold visitsV
    rw [if_neg (fun c=>c rfl),if_pos a4]
    rw [show ofC (Sn.page ⟨root0 root,0,g⟩)=some l from el,Option.getD_some,List.range_eq_range',← rng_flat _ l l 0 rfl]
    congr 1
    funext j
    unfold vC
    cases l[j]?<;>rfl
   rw [ev]
   exact wb
 obtain ⟨acc',m',t,al,ep,_⟩:=w [] (fun q=>Iff.rfl)
 obtain ⟨q,rfl,hq⟩:=t [] acc run
 cases hq
 rw [List.append_nil]
 exact ⟨fun x hx=>⟨(al x hx).1,by rw [nb]; exact (al x hx).2⟩,by rw [ep]; rfl⟩
theorem entd_all {l:List Sn} (h:∀ x∈l,x.why=0):entd l=l.map (fun x=>x.visit.page):=by
 unfold entd
 rw [List.filter_eq_self.2 (fun x hx=>by simpa using h x hx)]
theorem sort_same {l a b:List Nat} (x:IsSort l a) (y:SortOf l b):a=b:=(x.1.trans y.1.symm).eq_of_pairwise (le:=(· ≤ ·)) (fun a b _ _ h1 h2=>Nat.le_antisymm h1 h2) x.2 y.2
set_option maxRecDepth 10000
set_option maxHeartbeats 2000000
theorem lives_n {n:Nat} (h:Heap):(TV n).sm 5 [] h=some (.bool true,h):=b_w rfl rfl
theorem sl_one {sz n:Nat} {h:Heap} {v:AV} {cs:List AV} (s:Sl h sz v n cs):v.cells=[v]∧v.one=true:=by
 cases v<;>first|exact s.elim|exact ⟨rfl,rfl⟩
theorem same32_w {n:Nat} (hn:0<n) {v u:AV} {l:List Nat} {h:Heap} (lv:Ls u32c 1 h v l) (lu:Ls u32c 1 h u l) (ok:h.ok) (ll:l.length≤1000000):(TV n).sm 11 [v,u] h=some (.bool true,h):=by
 refine w_in hn (fun h=>Ls u32c 1 h v l∧Ls u32c 1 h u l∧h.ok) rfl rfl ⟨lv,lu,ok⟩ (fun hp=>⟨lv.any (by simp [AV.plains] at hp; exact hp.1),lu.any (by simp [AV.plains] at hp; exact hp.2),ok_nil⟩) ?_
 clear lv lu ok h
 rintro n hn h ⟨lv,lu,ok⟩
 refine body_j rfl rfl ?_
 have hv:=lv.len
 have hu:=lu.len
 have nv:=lv.ns
 have nu:=lu.ns
 have c2:(l.length:Int)=(l.length:Int):=rfl
 refine walk ?_
 refine jg_loop (ι:=Nat) (fun i=>l.length-i) (fun i=>[(0,v),(1,u),(5,.int .i64 (i:Nat))]) (fun i h2=>i≤l.length∧Ext h h2) 0 hsub ⟨Nat.zero_le _,.refl _⟩ ?_
 rintro i h2 ⟨hi,x2⟩ next
 by_cases hil:i<l.length
 case neg =>
  refine walk ?_
  exact jg_ret1 (by exact hres) ⟨rfl,x2⟩
 obtain ⟨x,hx⟩:∃ x,l[i]?=some x:=⟨l[i],List.getElem?_eq_getElem hil⟩
 obtain ⟨q1,p1,e1,all1,rw1,hb1,hg1,hpl1,he1,a1⟩:=(lv.ext x2).at u32c_len hx
 obtain ⟨q2,p2,e2,all2,rw2,hb2,hg2,hpl2,he2,a2⟩:=(lu.ext x2).at u32c_len hx
 have he1:(all1.drop p1).take 1=[.int .u32 (x:Nat)]:=he1
 have he2:(all2.drop p2).take 1=[.int .u32 (x:Nat)]:=he2
 have ok2:=x2.ok ok
 refine walk ?_
 refine jg_drawn (q:=9) (ms:=[0,0,3,7,0,0,48,112,255]) (hl:=[[18,21,22,23,24],[17,21,22,23,24],[21,22,23,24],[21,22,23,24],[17,18,19,20,22],[17,18,19,20,21],[17,18,19,20],[17,18,19,20],[]]) ok2 rfl (by kernel_rfl) (by kernel_rfl) rfl ?_
 refine walk ?_
 have c3:(x:Int)=(x:Int):=rfl
 refine walk ?_
 exact next (i+1) (by omega) hsub ⟨by omega,by exact hext⟩
theorem wden_law {n:Nat} (hn:9<n) {z:Int} {img:List UInt8} {root:Nat} {h:Heap} (hk:h.ok) (hi:img.length<9223372036854775808) (hr:root<4294967296):Gives (TV n) 4 [.int .i64 z,.str img,.int .u32 root] h (fun v h'=>v=.bool true∧Ext h h'):=by
 refine call_j (no_w rfl rfl) rfl rfl ?_
 have w1:=lives_n (n:=n)
 have w2:=light_w (n:=n) (by omega) img hi
 by_cases c1:img.length≤5000
 case neg =>
  rw [decide_eq_false c1] at w2
  exact auto
 rw [decide_eq_true c1] at w2
 have p8:=pages_128 z img
 refine walk ?_
 refine jo_call (rof_g (n:=n) (by omega) (z:=z) (img:=img) (m:=root) hk (by omega) hr) rfl rfl rfl rfl ?_
 rintro v h1 ⟨x1,c2⟩
 have k1:=x1.ok hk
 cases ed:denS z img root with
 |none =>
  rw [ed] at c2
  have c2:v=.tuple [.agg [.nilslice],.nilslice,.int .i64 4]:=c2
  subst c2
  refine walk ?_
  exact jg_ret1 (by exact hres) ⟨rfl,by exact hext⟩
 |some pb =>
 obtain ⟨pg,bs⟩:=pb
 rw [ed] at c2
 obtain ⟨dv,pv,out,rfl,⟨dl,ld,el,-⟩,lp,so⟩:=c2
 obtain ⟨vd,vo⟩:=sl_one ld
 have ln:=ld.len
 have nn:=ld.ns
 have pl:=lp.len
 have pn:=lp.ns
 have ho1:[dv].all AV.one=true:=by simp [vo]
 refine walk ?_
 refine jo_skip rfl rfl (k_storeN (n:=1) (vs:=[dv]) rfl rfl rfl rfl rfl ho1 (by exact hget) (by exact Nat.le_refl _)) ?_
 refine walk ?_
 refine jo_call (walk_g (n:=n) hn (z:=z) (img:=img) (root:=root) (by exact hok) c1 hr) rfl rfl rfl rfl ?_
 rintro w h2 ⟨acc,x2,ow,la,ψ⟩
 have x12:Ext h1 h2:=Ext.trans (by exact hext) x2
 have gd:=(x2.old h1.next (by show h1.next<h1.next+1; omega)).trans (by exact hget)
 have n12:h1.next+1≤h2.next:=x2.nx
 clear x2
 have k2:=x12.ok k1
 have ls:=ow.ls
 have lw:=ls.len
 have nw:=ls.ns
 obtain ⟨nd,nl⟩:=once_all ψ
 obtain ⟨al,em⟩:=den_walk ed ψ
 have ee:=entd_all (fun x hx=>(al x hx).1)
 rw [em] at ee
 have lpg:∀ s∈acc,s.visit.page<4294967296:=fun s hs=>by
  rcases ψ with ⟨_,e⟩|⟨_,run⟩
  ·rw [e] at hs; cases hs
  ·exact (run_mem run (fun v hv=>by obtain rfl:=List.mem_singleton.1 hv; exact hr) s hs).2
 refine walk ?_
 refine jg_loop (ι:=Nat) (fun i=>acc.length-i) (fun i=>[(7,.ptr h1.next 0),(8,pv),(10,w),(11,.int .i64 (i:Nat))]) (fun i h3=>i≤acc.length∧Ext h2 h3) 0 hsub ⟨Nat.zero_le _,.refl _⟩ ?_
 rintro i h3 ⟨hi3,x3⟩ next
 have k3:=x3.ok k2
 by_cases c:i<acc.length
 case neg =>
  have lpo:out.length=acc.length:=by rw [so.1.length_eq,← em,List.length_map]
  refine walk ?_
  refine jo_call (pages_fn_g (n:=n) (by omega) (ls.ext x3) k3 la nd (by omega) lpg) rfl rfl rfl rfl ?_
  rintro u h4 ⟨x4,l',so',lv⟩
  rw [ee] at so'
  obtain rfl:l'=out:=sort_same so' so
  have k4:=x4.ok k3
  refine walk ?_
  have w5:=same32_w (n:=n) (by omega) lv (((lp.ext x12).ext x3).ext x4) k4 (by omega)
  refine jo_w w5 rfl rfl rfl rfl ?_
  have cl:(acc.length:Int)=(l'.length:Int):=by omega
  refine walk ?_
  exact jg_ret1 (by exact hres) ⟨rfl,(x1.trans x12).trans (x3.trans x4)⟩
 obtain ⟨s,hs⟩:∃ s,acc[i]?=some s:=⟨acc[i],List.getElem?_eq_getElem c⟩
 obtain ⟨a0,ab⟩:=al s (List.mem_of_getElem? hs)
 obtain ⟨b,p',e',all,rw',hb,hg,hpl,he,a1⟩:=(ls.ext x3).at Sn.csl hs
 have c3:¬ (s.why:Int)≠0:=fun q=>q a0
 have c4:¬ (dl.length:Int)≤s.visit.bucket:=by omega
 have gd3:=(x3.old _ (by omega)).trans gd
 refine walk ?_
 refine jg_drawn (q:=18) (ms:=[0,0,3,7,15,31,63,127,127,511,1023,2047,4095,127,8319,24703,65535,131071]) (hl:=[[38],[37],[],[],[],[],[],[45,50,51,52],[44,50,51,52],[50,51,52],[50,51,52],[50,51,52],[50,51,52],[44,45,46,47,48,49],[44,45,46,47,48,49],[44,45,46,47,48,49],[],[]]) k3 rfl (by kernel_rfl) (by kernel_rfl) rfl ?_
 refine walk ?_
 exact next (i+1) (by omega) hsub ⟨by omega,by exact hext⟩
end Go.Proofs.YthdlebegkhnbiaaGreat
