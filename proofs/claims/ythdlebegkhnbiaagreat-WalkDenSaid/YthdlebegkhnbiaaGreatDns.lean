/- What the functions of this part answer at any input, told by the rules over the evaluator. Conditions: those that each theorem states. -/
import Derived.Test.YthdlebegkhnbiaaGreatDen
import Derived.Test.YthdlebegkhnbiaaGreatGap
set_option linter.unusedVariables false
set_option linter.unusedSimpArgs false
open Go Ev
namespace Go.Proofs.YthdlebegkhnbiaaGreat
set_option maxRecDepth 10000
set_option maxHeartbeats 4000000
structure Pr where
 key:List UInt8
 val:List UInt8
 deriving DecidableEq
def Pr.cs (p:Pr):List AV:=[.str p.key,.str p.val]
theorem Pr.csl (p:Pr):p.cs.length=2:=rfl
structure Bd where
 low:List UInt8
 less:List UInt8
 high:Bool
def Bd.cs (b:Bd):List AV:=[.str b.low,.str b.less,.bool b.high]
def Bd.all:Bd:=⟨[],[],false⟩
def Bd.inside (b:Bd) (k:List UInt8):Bool := !bytesLess k b.low&&(!b.high||bytesLess k b.less)
noncomputable def chainS (z:Int) (img:List UInt8) (kind:Int):Nat→List Nat→Nat→Option (List Pg)
 |0,_,_=>none
 |k+1,met,n=>if n=0 then some [] else if (readR z img n).2≠0∨n<2∨(readR z img n).1.kind≠kind∨n∈met then none else (chainS z img kind k (met++[n]) (readR z img n).1.link).map ((readR z img n).1 :: ·)
def partO (p:Pg):List UInt8:=p.body.take p.count.toNat
def overV (len:Int) (l:List Pg):Option (List UInt8×List Nat):=if (∀ p∈l,okOf p)∧1≤len∧((l.flatMap partO).length:Int)=len then some (l.flatMap partO,l.map (·.page)) else none
noncomputable def overS (z:Int) (img:List UInt8) (head:Nat) (len:Int):Option (List UInt8×List Nat) :=
 if Good z then (chainS z img 5 (pages z img+2) [] head).bind (overV len) else none
def comeS (pg:List Nat) (n:Nat):Option (List Nat):=if n∈pg then none else some (pg++[n])
def comesS:List Nat→List Nat→Option (List Nat)
 |pg,[]=>some pg
 |pg,n::l=>match comeS pg n with
  |none=>none
  |some q=>comesS q l
structure Rs where
 pg:List Nat
 deep:Nat
 out:List Pr
noncomputable def itemS (z:Int) (img:List UInt8) (b:Bd) (s:Rs) (x:It):Option Rs :=
 if b.inside x.key=true then match x.over with
  |true=>match overS z img x.head x.len with
   |none=>none
   |some (v,ps)=>match comesS s.pg ps with
    |none=>none
    |some q=>some ⟨q,s.deep,s.out++[⟨x.key,v⟩]⟩
  |false=>some ⟨s.pg,s.deep,s.out++[⟨x.key,x.val⟩]⟩
 else none
noncomputable def itemsS (z:Int) (img:List UInt8) (b:Bd):Rs→List It→Option Rs
 |s,[]=>some s
 |s,x::l=>match itemS z img b s x with
  |none=>none
  |some s'=>itemsS z img b s' l
noncomputable def leafS (z:Int) (img:List UInt8) (p:Pg) (d:Nat) (b:Bd) (s:Rs):Option Rs :=
 match ofI p with
 |none=>none
 |some l=>if s.deep=0∨s.deep=d then itemsS z img b ⟨s.pg,d,s.out⟩ l else none
def forkB (b:Bd) (l:List Fk) (i:Nat):Bd:=⟨if 0<i then (l.getD i ⟨[],0⟩).key else b.low,if i+1<l.length then (l.getD (i+1) ⟨[],0⟩).key else b.less,if i+1<l.length then true else b.high⟩
def forksS (go:Nat→Bd→Rs→Option Rs) (b:Bd) (l:List Fk):Nat→Nat→Rs→Option Rs
 |_,0,s=>some s
 |i,k+1,s=>if 0<i∧b.inside (l.getD i ⟨[],0⟩).key=false then none else match go (l.getD i ⟨[],0⟩).child (forkB b l i) s with
  |none=>none
  |some s'=>forksS go b l (i+1) k s'
noncomputable def nodeS (z:Int) (img:List UInt8):Nat→Nat→Bd→Rs→Option Rs
 |0,_,_,_=>none
 |k+1,n,b,s=>match comeS s.pg n with
  |none=>none
  |some q=>if n<2∨(readR z img n).2≠0 then none else if (readR z img n).1.kind=4 then leafS z img (readR z img n).1 (16-k) b ⟨q,s.deep,s.out⟩ else match ofB (readR z img n).1 with
   |none=>none
   |some l=>forksS (nodeS z img k) b l 0 l.length ⟨q,s.deep,s.out⟩
noncomputable def treeS (z:Int) (img:List UInt8) (root:Nat) (pg:List Nat):Option Rs:=if root=0 then some ⟨pg,0,[]⟩ else nodeS z img 16 root .all ⟨pg,0,[]⟩
noncomputable def bucketsS (z:Int) (img:List UInt8):List Nat→List (List UInt8×List Pr)→List Bk→Option (List Nat×List (List UInt8×List Pr))
 |pg,out,[]=>some (pg,out)
 |pg,out,b::l=>match treeS z img b.root pg with
  |none=>none
  |some s=>if (s.out.length:Int)=b.keys then bucketsS z img s.pg (out++[(b.name,s.out)]) l else none
noncomputable def denS (z:Int) (img:List UInt8) (n:Nat):Option (List Nat×List (List UInt8×List Pr)) :=
 if n=0 then some ([],[]) else if n<2∨(rightR z img n 2).2=false then none else match ofC (rightR z img n 2).1 with
  |none=>none
  |some l=>bucketsS z img [n] [] l
set_option maxRecDepth 10000
set_option maxHeartbeats 4000000
theorem nodup_le:∀ (N:Nat) (l:List Nat),l.Nodup→(∀ q∈l,q<N)→l.length≤N
 |0,l,_,h=>by
  cases l with
  |nil=>simp
  |cons a l=>exact absurd (h a (List.mem_cons_self ..)) (by omega)
 |N+1,l,hn,h=>by
  by_cases c:N∈l
  ·have ih:=nodup_le N (l.erase N) (hn.erase N) fun q hq=>by
    have:=hn.mem_erase_iff.1 hq
    have:=h q this.2
    omega
   rw [List.length_erase_of_mem c] at ih
   omega
  ·have:=nodup_le N l hn fun q hq=>by
    have:=h q hq
    have:q≠N:=fun e=>c (e ▸ hq)
    omega
   omega
theorem read_page {z:Int} {img:List UInt8} {p:Nat} (e:(readR z img p).2=0):(readR z img p).1.page=p∧p<pages z img:=by
 unfold readR getR at e ⊢
 by_cases c1:Good z
 case neg=>rw [if_neg c1] at e; cases e
 by_cases c2:p<pages z img
 case neg=>rw [if_pos c1,if_neg c2] at e; cases e
 rw [if_pos c1,if_pos c2,if_pos c1] at e ⊢
 by_cases c3:((atL z img p).length:Int)=z∧getP z p (atL z img p)
 case neg=>rw [if_neg c3] at e; cases e
 rw [if_pos c3]
 exact ⟨c3.2.2.2.1,c2⟩
def Lk.cs (x:Pg×Int):List AV:=x.1.cs++[.int .i64 x.2]
theorem Lk.len (x:Pg×Int):(Lk.cs x).length=7:=rfl
def FollowP (r:Option (List Pg)) (l:List (Pg×Int)):Prop:=match r with
 |some ps=>l=ps.map fun p=>(p,(0:Int))
 |none=>∃ ps:List Pg,l=(ps.map fun p=>(p,(0:Int)))++[(Pg.zero,4)]
theorem rfollow_g {n:Nat} (hn:4<n) {z:Int} {img:List UInt8} {hd:Nat} {kd:Int} {h:Heap} (hk:h.ok) (hi:img.length≤20000) (hh:hd<4294967296):Gives (TV n) 98 [.int .i64 z,.str img,.int .u32 hd,.int .i64 kd] h (fun v h'=>Ext h h'∧∃ l,l.length≤1000∧(∀ x∈l,x.1.body.length≤100000)∧Ls Lk.cs 7 h' v l∧FollowP (chainS z img kd (pages z img+2) [] hd) l):=by
 refine call_j (no_w rfl rfl) rfl rfl ?_
 have pl:=pages_le z img
 have pb:pages z img≤157:=by
  unfold pages
  split
  ·rename_i g
   have:=g.1
   refine Nat.div_le_of_le_mul ?_
   have:128≤z.toNat:=by omega
   have:=Nat.mul_le_mul_right 157 this
   omega
  ·omega
 refine walk ?_
 refine jg_loop (ι:=List Pg×Nat×(Nat→Prop)×AV) (fun a=>pages z img+1-a.1.length) (fun a=>[(0,.int .i64 z),(1,.str img),(2,.int .u32 a.2.1),(3,.int .i64 kd),(9,a.2.2.2)]) (fun a h2=>Ext h h2∧a.2.1<4294967296∧OwnLS Lk.cs 159 7 a.2.2.1 h2 a.2.2.2 (a.1.map fun p=>(p,(0:Int)))∧(∀ c,a.2.2.1 c→h.next≤c∧c<h2.next)∧(a.1.map (·.page)).Nodup∧(∀ p∈a.1,p.page<pages z img∧p.body.length≤100000)∧chainS z img kd (pages z img+2) [] hd=(chainS z img kd (pages z img+2-a.1.length) (a.1.map (·.page)) a.2.1).map (a.1 ++ ·)) ([],hd,(fun _=>False),.nilslice) hsub ⟨.refl _,hh,.nil,fun c q=>q.elim,by simp,by simp,by simp⟩ ?_
 rintro ⟨acc,hd2,S,u⟩ h2 ⟨x2,hh2,ow,kc,nd,inn,eq⟩ next
 dsimp only at hh2 ow kc nd inn eq next ⊢
 have k2:=x2.ok hk
 have nx2:=x2.nx
 have al:acc.length≤pages z img:=by
  have:=nodup_le (pages z img) (acc.map (·.page)) nd fun q hq=>by
   obtain ⟨p,hp,rfl⟩:=List.mem_map.1 hq
   exact (inn p hp).1
  rwa [List.length_map] at this
 have le:(acc.map fun p=>(p,(0:Int))).length=acc.length:=List.length_map ..
 have lu:=ow.ls.len
 have nu:=ow.ls.ns
 rw [le] at lu
 have ek:pages z img+2-acc.length=(pages z img+1-acc.length)+1:=by omega
 by_cases c0:(hd2:Int)=0
 ·have e0:hd2=0:=by omega
  have es:chainS z img kd (pages z img+2) [] hd=some acc:=by
   rw [eq,ek,e0]
   show Option.map _ (if 0=0 then some [] else _)=_
   simp
  rw [es]
  refine walk ?_
  exact jg_ret1 (by exact hres) ⟨x2,_,by rw [le]; omega,fun x hx=>by obtain ⟨p,hp,rfl⟩:=List.mem_map.1 hx; exact (inn p hp).2,ow.ls,rfl⟩
 have c0n:¬ hd2=0:=by omega
 have w1:=rread_w (n:=n) (by omega) z img hd2 (by omega) hh2
 have hm:=pages_len z img hd2
 have hp:=read_page (z:=z) (img:=img) (p:=hd2)
 have step:chainS z img kd (pages z img+1-acc.length+1) (acc.map (·.page)) hd2=if (readR z img hd2).2≠0∨hd2<2∨(readR z img hd2).1.kind≠kd∨hd2∈acc.map (·.page) then none else (chainS z img kd (pages z img+1-acc.length) (acc.map (·.page)++[hd2]) (readR z img hd2).1.link).map ((readR z img hd2).1 :: ·):=by
  show (if hd2=0 then _ else _)=_
  rw [if_neg c0n]
 rw [ek,step] at eq
 generalize readR z img hd2=r at w1 hm hp eq
 obtain ⟨p,e⟩:=r
 dsimp only at w1 hm hp eq
 refine walk ?_
 refine oj_cut0 (ι:=Bool) (fun x=>[(0,.int .i64 z),(1,.str img),(2,.int .u32 hd2),(3,.int .i64 kd),(9,u),(10,.ptr h2.next 0),(12,.bool x)]) (fun x g=>Ext h2 g∧h2.next<g.next∧g.get h2.next=some (.cells 32 p.cs true)∧(x=true↔e≠0∨hd2<2∨p.kind≠kd)) ?_ ?_
 ·intro k' join
  by_cases d1:e=0
  ·by_cases d2:(hd2:Int)<2
   ·refine walk ?_
    exact join true (by exact hsub) ⟨by exact hext,by exact hlt,by exact hget,by simp; omega⟩
   ·by_cases d3:p.kind=kd
    ·refine walk ?_
     exact join false (by exact hsub) ⟨by exact hext,by exact hlt,by exact hget,by simp [d1,d3]; omega⟩
    ·refine walk ?_
     exact join true (by exact hsub) ⟨by exact hext,by exact hlt,by exact hget,by simp [d3]⟩
  ·refine walk ?_
   exact join true (by exact hsub) ⟨by exact hext,by exact hlt,by exact hget,by simp [d1]⟩
 rintro bad g ⟨xg,ng,gp,hb⟩
 have kg:=xg.ok k2
 refine walk ?_
 refine jg_loop (ι:=Nat) (fun j=>acc.length-j) (fun j=>[(0,.int .i64 z),(1,.str img),(2,.int .u32 hd2),(3,.int .i64 kd),(9,u),(10,.ptr h2.next 0),(12,.bool (bad||(acc.take j).any fun q=>decide (q.page=hd2))),(13,.int .i64 (j:Nat))]) (fun j g2=>j≤acc.length∧g=g2) 0 (by simp only [List.take_zero,List.any_nil,Bool.or_false]; exact hsub) ⟨by omega,rfl⟩ ?_
 rintro j g2 ⟨hj,rfl⟩ next'
 by_cases cj:j<acc.length
 ·obtain ⟨y,hy⟩:∃ y,acc[j]?=some y:=⟨acc[j],List.getElem?_eq_getElem cj⟩
  have hy2:(acc.map fun p=>(p,(0:Int)))[j]?=some (y,0):=by rw [List.getElem?_map,hy]; rfl
  obtain ⟨B,q,e',all,rw',hb',hg,hpl,he,a1⟩:=(ow.ls.ext xg).at Lk.len hy2
  have he:(all.drop q).take 7=[.int .i64 y.kind,.int .i64 y.count,.int .u32 y.page,.int .u32 y.link,.int .u64 y.tx,.str y.body,.int .i64 0]:=he
  have et:acc.take (j+1)=acc.take j++[y]:=by rw [List.take_add_one,hy]; rfl
  cases cb:(bad||(acc.take j).any fun q=>decide (q.page=hd2)) with
  |true =>
   have e2:(bad||(acc.take (j+1)).any fun q=>decide (q.page=hd2))=true:=by rw [et,List.any_append,← Bool.or_assoc,cb]; rfl
   refine walk ?_
   refine next' (j+1) (by omega) ?_ ⟨by omega,rfl⟩
   rw [e2]
   exact hsub
  |false =>
   have e2:(bad||(acc.take (j+1)).any fun q=>decide (q.page=hd2))=decide ((y.page:Int)=(hd2:Int)):=by
    rw [et,List.any_append,← Bool.or_assoc,cb,Bool.false_or]
    simp only [List.any_cons,List.any_nil,Bool.or_false,decide_eq_decide]
    omega
   refine walk ?_
   refine next' (j+1) (by omega) ?_ ⟨by omega,rfl⟩
   rw [e2]
   exact hsub
 have ej:acc.take j=acc:=List.take_of_length_le (by omega)
 rw [ej]
 have key:(bad||acc.any fun q=>decide (q.page=hd2))=true↔e≠0∨hd2<2∨p.kind≠kd∨hd2∈acc.map (·.page):=by
  rw [Bool.or_eq_true,hb,List.any_eq_true]
  simp only [decide_eq_true_eq,List.mem_map]
  constructor
  ·rintro ((q|q|q)|q)
   ·exact .inl q
   ·exact .inr (.inl q)
   ·exact .inr (.inr (.inl q))
   ·exact .inr (.inr (.inr q))
  ·rintro (q|q|q|q)
   ·exact .inl (.inl q)
   ·exact .inl (.inr (.inl q))
   ·exact .inl (.inr (.inr q))
   ·exact .inr q
 cases cb:(bad||acc.any fun q=>decide (q.page=hd2)) with
 |true =>
  have ky:=key.1 cb
  rw [if_pos ky] at eq
  rw [eq]
  obtain ⟨v7,h7,e7,o7,t7⟩:=app_row_s (T:=TV n) (st:=156) (rest:=[156]) (h:=g.alloc (.cells 159 (Lk.cs (Pg.zero,(4:Int))) true)) (x:=(Pg.zero,(4:Int))) (ow.keep (h':=g.alloc (.cells 159 (Lk.cs (Pg.zero,(4:Int))) true)) (fun c q hl=>(Heap.ga _ _ _ (by have:=(kc c q).2; omega)).trans (xg.old c hl)) (by have:=xg.nx; show h2.next≤g.next+1; omega)) (get_new _ _) (by show g.next<g.next+1; omega) (by rw [le]; omega) rfl rfl rfl rfl rfl (by exact Nat.le_of_ble_eq_true rfl) rfl (by decide) rfl
  have n7:g.next+1≤h7.next:=t7.nx
  have xgn:=xg.nx
  have y7:∀ c,c<g.next→¬ S c→h7.get c=g.get c:=fun c hc hs=>(t7.old c (by show c<g.next+1; omega) hs).trans (Heap.ga _ _ _ (by omega))
  have x7:Ext h h7:=⟨by omega,fun c hc=>(y7 c (by omega) (fun q=>by have:=(kc c q).1; omega)).trans ((xg.old c (by omega)).trans (x2.old c hc)),fun _=>t7.ok (ok_al kg _)⟩
  refine walk ?_
  refine jg_ret1 (by exact hres) ⟨x7,_,?_,?_,o7.ls,acc,rfl⟩
  ·rw [List.length_append,le]; simp; omega
  ·intro x hx
   rcases List.mem_append.1 hx with q|q
   ·obtain ⟨p,hp,rfl⟩:=List.mem_map.1 q
    exact (inn p hp).2
   ·obtain rfl:=List.mem_singleton.1 q
    exact Nat.zero_le _
 |false =>
  have ky:¬ (e≠0∨hd2<2∨p.kind≠kd∨hd2∈acc.map (·.page)):=fun q=>by rw [key.2 q] at cb; cases cb
  rw [if_neg ky] at eq
  have e0:e=0:=Decidable.byContradiction fun q=>ky (.inl q)
  obtain ⟨pp,plt⟩:=hp e0
  have m:=hm e0
  have bl:p.body.length≤100000:=by
   have:=room_le z
   unfold mayF at m; omega
  have lk:p.link<4294967296:=by unfold mayF at m; omega
  obtain ⟨v7,h7,e7,o7,t7⟩:=app_row_s (T:=TV n) (st:=156) (rest:=[156]) (h:=g.alloc (.cells 159 (Lk.cs (p,(0:Int))) true)) (x:=(p,(0:Int))) (ow.keep (h':=g.alloc (.cells 159 (Lk.cs (p,(0:Int))) true)) (fun c q hl=>(Heap.ga _ _ _ (by have:=(kc c q).2; omega)).trans (xg.old c hl)) (by have:=xg.nx; show h2.next≤g.next+1; omega)) (get_new _ _) (by show g.next<g.next+1; omega) (by rw [le]; omega) rfl rfl rfl rfl rfl (by exact Nat.le_of_ble_eq_true rfl) rfl (by decide) rfl
  have n7:g.next+1≤h7.next:=t7.nx
  have xgn:=xg.nx
  have y7:∀ c,c<g.next→¬ S c→h7.get c=g.get c:=fun c hc hs=>(t7.old c (by show c<g.next+1; omega) hs).trans (Heap.ga _ _ _ (by omega))
  have x7:Ext h h7:=⟨by omega,fun c hc=>(y7 c (by omega) (fun q=>by have:=(kc c q).1; omega)).trans ((xg.old c (by omega)).trans (x2.old c hc)),fun _=>t7.ok (ok_al kg _)⟩
  have gp7:h7.get h2.next=some (.cells 32 p.cs true):=(y7 _ ng (fun q=>by have:=(kc _ q).2; omega)).trans gp
  refine walk ?_
  refine next (acc++[p],p.link,(fun c=>(S c∨g.next+1≤c)∧c<h7.next),v7) ?_ (by exact hsub) ⟨x7,lk,?_,?_,?_,?_,?_⟩
  ·simp only [List.length_append,List.length_cons,List.length_nil]; omega
  ·simp only [List.map_append,List.map_cons,List.map_nil]; exact o7.mono fun c q r=>⟨q,r⟩
  ·rintro c ⟨q,r⟩
   refine ⟨?_,r⟩
   rcases q with q|q
   ·exact (kc c q).1
   ·omega
  ·simp only [List.map_append,List.map_cons,List.map_nil]
   rw [List.nodup_append]
   exact ⟨nd,by simp,fun a ha b hb'=>by
    obtain rfl:=List.mem_singleton.1 hb'
    exact fun q=>ky (.inr (.inr (.inr (by rw [← pp,← q]; exact ha))))⟩
  ·intro x hx
   rcases List.mem_append.1 hx with q|q
   ·exact inn x q
   ·obtain rfl:=List.mem_singleton.1 q
    exact ⟨by omega,bl⟩
  ·simp only
   rw [eq,List.map_append,show pages z img+2-(acc++[p]).length=pages z img+1-acc.length by rw [List.length_append]; show pages z img+2-(acc.length+1)=_; omega]
   simp only [List.map_cons,List.map_nil,pp,Option.map_map]
   congr 1
   funext x
   simp
set_option maxRecDepth 10000
set_option maxHeartbeats 4000000
theorem follow_ok {r:Option (List Pg)} {l:List (Pg×Int)} (f:FollowP r l) (h:∀ x∈l,x.2=0):∃ ps,r=some ps∧l=ps.map fun p=>(p,(0:Int)):=by
 cases r with
 |some ps=>exact ⟨ps,rfl,f⟩
 |none =>
  obtain ⟨ps,rfl⟩:=f
  have:=h (Pg.zero,4) (by simp)
  cases this
theorem follow_bad {r:Option (List Pg)} {l:List (Pg×Int)} (f:FollowP r l) {x:Pg×Int} (hx:x∈l) (h:x.2≠0∨¬ okOf x.1):r=none∨∃ ps,r=some ps∧¬ ∀ p∈ps,okOf p:=by
 cases r with
 |none=>exact .inl rfl
 |some ps =>
  obtain rfl:l=ps.map fun p=>(p,(0:Int)):=f
  obtain ⟨p,hp,rfl⟩:=List.mem_map.1 hx
  refine .inr ⟨ps,rfl,fun q=>?_⟩
  rcases h with h|h
  ·exact h rfl
  ·exact h (q p hp)
theorem rover_g {n:Nat} (hn:5<n) {z:Int} {img:List UInt8} {hd:Nat} {ln:Int} {h:Heap} (hk:h.ok) (hi:img.length≤20000) (hh:hd<4294967296):Gives (TV n) 71 [.int .i64 z,.str img,.int .u32 hd,.int .i64 ln] h (fun v h'=>Ext h h'∧match overS z img hd ln with
  |none=>∃ e:Int,e≠0∧v=.tuple [.str [],.nilslice,.int .i64 e]
  |some (s,ps)=>∃ u,v=.tuple [.str s,u,.int .i64 0]∧OwnLN h.next h' u ps):=by
 refine call_j (no_w rfl rfl) rfl rfl ?_
 have w1:=rgood_w (n:=n) (by omega) z
 by_cases g:Good z
 case neg =>
  rw [decide_eq_false g] at w1
  have e:overS z img hd ln=none:=by unfold overS; rw [if_neg g]
  rw [e]
  refine walk ?_
  exact jg_ret2 (by exact hres) ⟨by exact hext,2,by decide,rfl⟩
 rw [decide_eq_true g] at w1
 have es:overS z img hd ln=(chainS z img 5 (pages z img+2) [] hd).bind (overV ln):=by unfold overS; rw [if_pos g]
 rw [es]
 refine walk ?_
 refine jo_call (rfollow_g (n:=n) (by omega) hk hi hh) rfl rfl rfl rfl ?_
 rintro w h1 ⟨x1,l,ll,lb,ls,fp⟩
 generalize chainS z img 5 (pages z img+2) [] hd=r at fp ⊢
 have k1:=x1.ok hk
 have lw:=ls.len
 have nw:=ls.ns
 refine walk ?_
 refine jg_loop (ι:=Nat×AV) (fun a=>l.length-a.1) (fun a=>[(0,.int .i64 z),(1,.str img),(3,.int .i64 ln),(11,w),(12,.str ((l.take a.1).flatMap fun x=>partO x.1)),(13,a.2),(14,.int .i64 (a.1:Nat))]) (fun a h2=>a.1≤l.length∧Ext h1 h2∧OwnLN h1.next h2 a.2 ((l.take a.1).map fun x=>x.1.page)∧(∀ x∈l.take a.1,x.2=0∧okOf x.1)∧((l.take a.1).flatMap fun x=>partO x.1).length≤a.1*100000) (0,.nilslice) hsub ⟨Nat.zero_le _,.refl _,OwnL.nil,by simp,by simp⟩ ?_
 rintro ⟨i,u⟩ h2 ⟨hi2,x2,ow,good,vl⟩ next
 dsimp only at hi2 ow good vl next ⊢
 have k2:=x2.ok k1
 have nx2:=x2.nx
 by_cases c:i<l.length
 case neg =>
  have ei:l.take i=l:=List.take_of_length_le (by omega)
  rw [ei] at ow good vl ⊢
  obtain ⟨ps,rfl,rfl⟩:=follow_ok fp fun x hx=>(good x hx).1
  have e1:(ps.map fun p=>(p,(0:Int))).flatMap (fun x=>partO x.1)=ps.flatMap partO:=by rw [List.flatMap_map]
  have e2:(ps.map fun p=>(p,(0:Int))).map (fun x=>x.1.page)=ps.map (·.page):=by rw [List.map_map]; rfl
  have e3:∀ p∈ps,okOf p:=fun p hp=>(good (p,0) (List.mem_map.2 ⟨p,hp,rfl⟩)).2
  rw [e2] at ow
  rw [e1]
  rw [show (some ps).bind (overV ln)=overV ln ps from rfl]
  unfold overV
  by_cases d1:ln<1
  ·rw [if_neg fun q=>by omega]
   refine walk ?_
   exact jg_ret2 (by exact hres) ⟨by exact hext,4,by decide,rfl⟩
  by_cases d2:((ps.flatMap partO).length:Int)=ln
  ·rw [if_pos ⟨e3,by omega,d2⟩]
   refine walk ?_
   exact jg_ret2 (by exact hres) ⟨by exact hext,u,rfl,Own.lo ow x1.nx⟩
  ·rw [if_neg fun q=>d2 q.2.2]
   refine walk ?_
   exact jg_ret2 (by exact hres) ⟨by exact hext,4,by decide,rfl⟩
 obtain ⟨⟨y,e⟩,hy⟩:∃ y,l[i]?=some y:=⟨l[i],List.getElem?_eq_getElem c⟩
 have hmem:=List.mem_of_getElem? hy
 obtain ⟨B,q,e',all,rw',hb',hg,hpl,he,a1⟩:=(ls.ext x2).at Lk.len hy
 have he:(all.drop q).take 7=[.int .i64 y.kind,.int .i64 y.count,.int .u32 y.page,.int .u32 y.link,.int .u64 y.tx,.str y.body,.int .i64 e]:=he
 have he6:(all.drop q).take 6=y.cs:=by
  have:=congrArg (List.take 6) he
  rw [List.take_take] at this
  exact this
 have hp6:q+6≤all.length:=by omega
 have he7:=he
 have w2:=rovrOf_w (n:=n) (by omega) (p:=y) (by have:=lb _ hmem; simp only at this; omega)
 have bad:e≠0∨¬ okOf y→r.bind (overV ln)=none:=fun q=>by
  rcases follow_bad fp hmem q with rfl|⟨ps,rfl,q⟩
  ·rfl
  ·exact if_neg fun d=>q d.1
 have et:l.take (i+1)=l.take i++[(y,e)]:=by rw [List.take_add_one,hy]; rfl
 unfold ofO at w2
 by_cases d1:okOf y
 case neg =>
  rw [if_neg d1] at w2
  rw [bad (.inr d1)]
  by_cases d2:e=0
  ·refine walk ?_
   exact jg_ret2 (by exact hres) ⟨by exact hext,4,by decide,rfl⟩
  ·refine walk ?_
   exact jg_ret2 (by exact hres) ⟨by exact hext,4,by decide,rfl⟩
 rw [if_pos d1] at w2
 by_cases d2:e=0
 case neg =>
  rw [bad (.inl d2)]
  refine walk ?_
  exact jg_ret2 (by exact hres) ⟨by exact hext,4,by decide,rfl⟩
 subst d2
 have pl:(partO y).length≤100000:=by
  have:=lb _ hmem
  unfold partO; rw [List.length_take]; simp only at this; omega
 have vm:i*100000≤100000000:=by have:=Nat.mul_le_mul_right 100000 (show i≤1000 by omega); omega
 obtain ⟨v7,h7,e7,o7,k7⟩:=app_row (T:=TV n) (st:=36) (rest:=[36]) (h:=h2.alloc (.cells 22 (u32c y.page) true)) (x:=y.page) (ow.ext (Ext.alloc _ _)) (get_new _ _) (by show h2.next<h2.next+1; omega) (by show h1.next≤h2.next+1; omega) (by rw [List.length_map,List.length_take]; omega) rfl rfl rfl rfl rfl (by exact Nat.le_of_ble_eq_true rfl) rfl (by decide) rfl
 have n7:h2.next+1≤h7.next:=k7.nx
 have e7:appendA (TV n) [u,.slice h2.next 0 1 1] [36,36] (h2.alloc (.cells 22 [.int .u32 y.page] true))=.val v7 h7:=e7
 refine walk ?_
 refine jo_val rfl rfl rfl (k_bin rfl rfl rfl (b_cat (by show ((l.take i).flatMap fun x=>partO x.1).length+(partO y).length≤_; omega)) rfl) ?_
 refine walk ?_
 have ev:(l.take (i+1)).flatMap (fun x=>partO x.1)=(l.take i).flatMap (fun x=>partO x.1)++y.body.take y.count.toNat:=by rw [et,List.flatMap_append]; simp [partO]
 refine next (i+1,v7) (by simp only; omega) ?_ ⟨by simp only; omega,by exact hext,?_,?_,?_⟩
 ·simp only
  rw [ev]
  exact hsub
 ·simp only
  rw [et,List.map_append]
  exact o7
 ·simp only
  rw [et]
  intro x hx
  rcases List.mem_append.1 hx with q|q
  ·exact good x q
  ·obtain rfl:=List.mem_singleton.1 q
   exact ⟨rfl,d1⟩
 ·simp only
  rw [ev,List.length_append]
  have:(y.body.take y.count.toNat).length≤100000:=pl
  omega
end Go.Proofs.YthdlebegkhnbiaaGreat
