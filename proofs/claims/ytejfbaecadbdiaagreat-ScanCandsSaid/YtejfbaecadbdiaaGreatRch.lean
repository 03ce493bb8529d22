/- What the functions of this part answer at any input, told by the rules over the evaluator. Conditions: those that each theorem states. -/
import Derived.Test.YtejfbaecadbdiaaGreatGaq
import Derived.Test.YtejfbaecadbdiaaGreatDns
import Derived.Test.YtejfbaecadbdiaaGreatDen
set_option linter.unusedVariables false
set_option linter.unusedSimpArgs false
open Go Ev
namespace Go.Proofs.YtejfbaecadbdiaaGreat
set_option maxRecDepth 10000
set_option maxHeartbeats 4000000
def Lk.cs (x:Pg×Int):List AV:=x.1.cs++[.int .i64 x.2]
theorem Lk.len (x:Pg×Int):(Lk.cs x).length=7:=rfl
theorem d7h {n:Nat}(hn:4<n){z:Int}{img:List UInt8}{hd:Nat}{kd:Int}{h:a0a}(hk:h.ok) (hi:img.length≤20000) (hh:hd<4294967296):a0l (TV n) 136 [.int .i64 z,.str img,.int .u32 hd,.int .i64 kd] h (fun v h'=>Ext h h'∧∃ l,l.length≤1000∧(∀ x∈l,x.1.body.length≤100000)∧Ls Lk.cs 7 h' v l∧a8c (a2h z img kd (pages z img+2) [] hd) l):=by
 refine a0r (a1x rfl rfl) rfl rfl ?_
 have pl:=b3s z img
 have pb:pages z img≤157:=by
  unfold pages
  split
  ·rename_i g
   have:=g.1
   refine Nat.div_le_of_le_mul ?_
   have:128≤z.toNat:=by omega
   have:=Nat.mul_le_mul_right 157 this
   omega
  ·omega
 refine walk ?_
 refine a0n (ι:=List Pg×Nat×(Nat→Prop)×AV) (fun a=>pages z img+1-a.1.length) (fun a=>[(0,.int .i64 z),(1,.str img),(2,.int .u32 a.2.1),(3,.int .i64 kd),(9,a.2.2.2)]) (fun a h2=>Ext h h2∧a.2.1<4294967296∧a1a Lk.cs 211 7 a.2.2.1 h2 a.2.2.2 (a.1.map fun p=>(p,(0:Int)))∧(∀ c,a.2.2.1 c→h.next≤c∧c<h2.next)∧(a.1.map (·.page)).Nodup∧(∀ p∈a.1,p.page<pages z img∧p.body.length≤100000)∧a2h z img kd (pages z img+2) [] hd=(a2h z img kd (pages z img+2-a.1.length) (a.1.map (·.page)) a.2.1).map (a.1 ++ ·)) ([],hd,(fun _=>False),.nilslice) hsub ⟨.refl _,hh,.nil,fun c q=>q.elim,by simp,by simp,by simp⟩ ?_
 rintro⟨acc,hd2,S,u⟩ h2 ⟨x2,hh2,ow,kc,nd,inn,eq⟩ next
 dsimp only at hh2 ow kc nd inn eq next ⊢
 have k2:=x2.ok hk
 have nx2:=x2.nx
 have al:acc.length≤pages z img:=by
  have:=b0g (pages z img) (acc.map (·.page)) nd fun q hq=>by
   obtain⟨p,hp,rfl⟩:=List.mem_map.1 hq
   exact(inn p hp).1
  rwa [List.length_map] at this
 have le:(acc.map fun p=>(p,(0:Int))).length=acc.length:=List.length_map ..
 have lu:=ow.ls.len
 have nu:=ow.ls.ns
 rw[le] at lu
 have ek:pages z img+2-acc.length=(pages z img+1-acc.length)+1:=by omega
 by_cases c0:(hd2:Int)=0
 ·have e0:hd2=0:=by omega
  have es:a2h z img kd (pages z img+2) [] hd=some acc:=by
   rw[eq,ek,e0]
   show Option.map _ (if 0=0 then some [] else _)=_
   simp
  rw[es]
  refine walk ?_
  exact a0e (by exact hres) ⟨x2,_,by rw[le]; omega,fun x hx=>by obtain⟨p,hp,rfl⟩:=List.mem_map.1 hx; exact(inn p hp).2,ow.ls,rfl⟩
 have c0n:¬ hd2=0:=by omega
 have w1:=c0w (n:=n) (by omega) z img hd2 (by omega) hh2
 have hm:=a4t z img hd2
 have hp:=a5l (z:=z) (img:=img) (p:=hd2)
 have step:a2h z img kd (pages z img+1-acc.length+1) (acc.map (·.page)) hd2=if(a0u z img hd2).2≠0∨hd2<2∨(a0u z img hd2).1.kind≠kd∨hd2∈acc.map (·.page) then none else(a2h z img kd (pages z img+1-acc.length) (acc.map (·.page)++[hd2]) (a0u z img hd2).1.link).map ((a0u z img hd2).1 :: ·):=by
  show(if hd2=0 then _ else _)=_
  rw[if_neg c0n]
 rw[ek,step] at eq
 generalize a0u z img hd2=r at w1 hm hp eq
 obtain⟨p,e⟩:=r
 dsimp only at w1 hm hp eq
 refine walk ?_
 refine b5b (ι:=Bool) (fun x=>[(0,.int .i64 z),(1,.str img),(2,.int .u32 hd2),(3,.int .i64 kd),(9,u),(10,.ptr h2.next 0),(12,.bool x)]) (fun x g=>Ext h2 g∧h2.next<g.next∧g.get h2.next=some (.cells 64 p.cs true)∧(x=true↔e≠0∨hd2<2∨p.kind≠kd)) ?_ ?_
 ·intro k' join
  by_cases d1:e=0
  ·by_cases d2:(hd2:Int)<2
   ·refine walk ?_
    exact join true (by exact hsub) ⟨by exact a0j,by exact hlt,by exact a0g,by simp; omega⟩
   ·by_cases d3:p.kind=kd
    ·refine walk ?_
     exact join false (by exact hsub) ⟨by exact a0j,by exact hlt,by exact a0g,by simp[d1,d3]; omega⟩
    ·refine walk ?_
     exact join true (by exact hsub) ⟨by exact a0j,by exact hlt,by exact a0g,by simp[d3]⟩
  ·refine walk ?_
   exact join true (by exact hsub) ⟨by exact a0j,by exact hlt,by exact a0g,by simp[d1]⟩
 rintro bad g ⟨xg,ng,gp,hb⟩
 have kg:=xg.ok k2
 refine walk ?_
 refine a0n (ι:=Nat) (fun j=>acc.length-j) (fun j=>[(0,.int .i64 z),(1,.str img),(2,.int .u32 hd2),(3,.int .i64 kd),(9,u),(10,.ptr h2.next 0),(12,.bool (bad||(acc.take j).any fun q=>decide (q.page=hd2))),(13,.int .i64 (j:Nat))]) (fun j g2=>j≤acc.length∧g=g2) 0 (by simp only[List.take_zero,List.any_nil,Bool.or_false]; exact hsub) ⟨by omega,rfl⟩ ?_
 rintro j g2 ⟨hj,rfl⟩ next'
 by_cases cj:j<acc.length
 ·obtain⟨y,hy⟩:∃ y,acc[j]?=some y:=⟨acc[j],List.getElem?_eq_getElem cj⟩
  have hy2:(acc.map fun p=>(p,(0:Int)))[j]?=some (y,0):=by rw[List.getElem?_map,hy]; rfl
  obtain⟨B,q,e',all,rw',hb',hg,hpl,he,a1⟩:=(ow.ls.ext xg).at Lk.len hy2
  have he:(all.drop q).take 7=[.int .i64 y.kind,.int .i64 y.count,.int .u32 y.page,.int .u32 y.link,.int .u64 y.tx,.str y.body,.int .i64 0]:=he
  have et:acc.take (j+1)=acc.take j++[y]:=by rw[List.take_add_one,hy]; rfl
  cases cb:(bad||(acc.take j).any fun q=>decide (q.page=hd2)) with
  |true =>
   have e2:(bad||(acc.take (j+1)).any fun q=>decide (q.page=hd2))=true:=by rw[et,List.any_append,← Bool.or_assoc,cb]; rfl
   refine walk ?_
   refine next' (j+1) (by omega) ?_ ⟨by omega,rfl⟩
   rw[e2]
   exact hsub
  |false =>
   have e2:(bad||(acc.take (j+1)).any fun q=>decide (q.page=hd2))=decide ((y.page:Int)=(hd2:Int)):=by
    rw[et,List.any_append,← Bool.or_assoc,cb,Bool.false_or]
    simp only[List.any_cons,List.any_nil,Bool.or_false,decide_eq_decide]
    omega
   refine walk ?_
   refine next' (j+1) (by omega) ?_ ⟨by omega,rfl⟩
   rw[e2]
   exact hsub
 have ej:acc.take j=acc:=List.take_of_length_le (by omega)
 rw[ej]
 have key:(bad||acc.any fun q=>decide (q.page=hd2))=true↔e≠0∨hd2<2∨p.kind≠kd∨hd2∈acc.map (·.page):=by
  rw[Bool.or_eq_true,hb,List.any_eq_true]
  simp only[decide_eq_true_eq,List.mem_map]
  constructor
  ·rintro((q|q|q)|q)
   ·exact .inl q
   ·exact .inr (.inl q)
   ·exact .inr (.inr (.inl q))
   ·exact .inr (.inr (.inr q))
  ·rintro(q|q|q|q)
   ·exact .inl (.inl q)
   ·exact .inl (.inr (.inl q))
   ·exact .inl (.inr (.inr q))
   ·exact .inr q
 cases cb:(bad||acc.any fun q=>decide (q.page=hd2)) with
 |true =>
  have ky:=key.1 cb
  rw[if_pos ky] at eq
  rw[eq]
  obtain⟨v7,h7,e7,o7,t7⟩:=a4e (T:=TV n) (st:=208) (rest:=[208]) (h:=g.alloc (.cells 211 (Lk.cs (Pg.zero,(4:Int))) true)) (x:=(Pg.zero,(4:Int))) (ow.keep (h':=g.alloc (.cells 211 (Lk.cs (Pg.zero,(4:Int))) true)) (fun c q hl=>(a0a.ga _ _ _ (by have:=(kc c q).2; omega)).trans (xg.old c hl)) (by have:=xg.nx; show h2.next≤g.next+1; omega)) (a0t _ _) (by show g.next<g.next+1; omega) (by rw[le]; omega) rfl rfl rfl rfl rfl (by exact Nat.le_of_ble_eq_true rfl) rfl (by decide) rfl
  have n7:g.next+1≤h7.next:=t7.nx
  have xgn:=xg.nx
  have y7:∀ c,c<g.next→¬ S c→h7.get c=g.get c:=fun c hc hs=>(t7.old c (by show c<g.next+1; omega) hs).trans (a0a.ga _ _ _ (by omega))
  have x7:Ext h h7:=⟨by omega,fun c hc=>(y7 c (by omega) (fun q=>by have:=(kc c q).1; omega)).trans ((xg.old c (by omega)).trans (x2.old c hc)),fun _=>t7.ok (a4n kg _)⟩
  refine walk ?_
  refine a0e (by exact hres) ⟨x7,_,?_,?_,o7.ls,acc,rfl⟩
  ·rw[List.length_append,le]; simp; omega
  ·intro x hx
   rcases List.mem_append.1 hx with q|q
   ·obtain⟨p,hp,rfl⟩:=List.mem_map.1 q
    exact(inn p hp).2
   ·obtain rfl:=List.mem_singleton.1 q
    exact Nat.zero_le _
 |false =>
  have ky:¬ (e≠0∨hd2<2∨p.kind≠kd∨hd2∈acc.map (·.page)):=fun q=>by rw[key.2 q] at cb; cases cb
  rw[if_neg ky] at eq
  have e0:e=0:=Decidable.byContradiction fun q=>ky (.inl q)
  obtain⟨pp,plt⟩:=hp e0
  have m:=hm e0
  have bl:p.body.length≤100000:=by
   have:=room_le z
   unfold a7a at m; omega
  have lk:p.link<4294967296:=by unfold a7a at m; omega
  obtain⟨v7,h7,e7,o7,t7⟩:=a4e (T:=TV n) (st:=208) (rest:=[208]) (h:=g.alloc (.cells 211 (Lk.cs (p,(0:Int))) true)) (x:=(p,(0:Int))) (ow.keep (h':=g.alloc (.cells 211 (Lk.cs (p,(0:Int))) true)) (fun c q hl=>(a0a.ga _ _ _ (by have:=(kc c q).2; omega)).trans (xg.old c hl)) (by have:=xg.nx; show h2.next≤g.next+1; omega)) (a0t _ _) (by show g.next<g.next+1; omega) (by rw[le]; omega) rfl rfl rfl rfl rfl (by exact Nat.le_of_ble_eq_true rfl) rfl (by decide) rfl
  have n7:g.next+1≤h7.next:=t7.nx
  have xgn:=xg.nx
  have y7:∀ c,c<g.next→¬ S c→h7.get c=g.get c:=fun c hc hs=>(t7.old c (by show c<g.next+1; omega) hs).trans (a0a.ga _ _ _ (by omega))
  have x7:Ext h h7:=⟨by omega,fun c hc=>(y7 c (by omega) (fun q=>by have:=(kc c q).1; omega)).trans ((xg.old c (by omega)).trans (x2.old c hc)),fun _=>t7.ok (a4n kg _)⟩
  have gp7:h7.get h2.next=some (.cells 64 p.cs true):=(y7 _ ng (fun q=>by have:=(kc _ q).2; omega)).trans gp
  refine walk ?_
  refine next (acc++[p],p.link,(fun c=>(S c∨g.next+1≤c)∧c<h7.next),v7) ?_ (by exact hsub) ⟨x7,lk,?_,?_,?_,?_,?_⟩
  ·simp only[List.length_append,List.length_cons,List.length_nil]; omega
  ·simp only[List.map_append,List.map_cons,List.map_nil]; exact o7.mono fun c q r=>⟨q,r⟩
  ·rintro c ⟨q,r⟩
   refine⟨?_,r⟩
   rcases q with q|q
   ·exact(kc c q).1
   ·omega
  ·simp only[List.map_append,List.map_cons,List.map_nil]
   rw[List.nodup_append]
   exact⟨nd,by simp,fun a ha b hb'=>by
    obtain rfl:=List.mem_singleton.1 hb'
    exact fun q=>ky (.inr (.inr (.inr (by rw[← pp,← q]; exact ha))))⟩
  ·intro x hx
   rcases List.mem_append.1 hx with q|q
   ·exact inn x q
   ·obtain rfl:=List.mem_singleton.1 q
    exact⟨by omega,bl⟩
  ·simp only
   rw[eq,List.map_append,show pages z img+2-(acc++[p]).length=pages z img+1-acc.length by rw[List.length_append]; show pages z img+2-(acc.length+1)=_; omega]
   simp only[List.map_cons,List.map_nil,pp,Option.map_map]
   congr 1
   funext x
   simp
set_option maxRecDepth 10000
set_option maxHeartbeats 4000000
theorem e7d {n:Nat}(hn:5<n){z:Int}{img:List UInt8}{hd:Nat}{ln:Int}{h:a0a}(hk:h.ok) (hi:img.length≤20000) (hh:hd<4294967296):a0l (TV n) 108 [.int .i64 z,.str img,.int .u32 hd,.int .i64 ln] h (fun v h'=>Ext h h'∧match a8w z img hd ln with
  |none=>∃ e:Int,e≠0∧v=.tuple [.str [],.nilslice,.int .i64 e]
  |some (s,ps)=>∃ u,v=.tuple [.str s,u,.int .i64 0]∧c5l h.next h' u ps):=by
 refine a0r (a1x rfl rfl) rfl rfl ?_
 have w1:=a6p (n:=n) (by omega) z
 by_cases g:Good z
 case neg =>
  rw[decide_eq_false g] at w1
  have e:a8w z img hd ln=none:=by unfold a8w; rw[if_neg g]
  rw[e]
  refine walk ?_
  exact a0d (by exact hres) ⟨by exact a0j,2,by decide,rfl⟩
 rw[decide_eq_true g] at w1
 have es:a8w z img hd ln=(a2h z img 5 (pages z img+2) [] hd).bind (b7e ln):=by unfold a8w; rw[if_pos g]
 rw[es]
 refine walk ?_
 refine a0b (d7h (n:=n) (by omega) hk hi hh) rfl rfl rfl rfl ?_
 rintro w h1 ⟨x1,l,ll,lb,ls,fp⟩
 generalize a2h z img 5 (pages z img+2) [] hd=r at fp ⊢
 have k1:=x1.ok hk
 have lw:=ls.len
 have nw:=ls.ns
 refine walk ?_
 refine a0n (ι:=Nat×AV) (fun a=>l.length-a.1) (fun a=>[(0,.int .i64 z),(1,.str img),(3,.int .i64 ln),(11,w),(12,.str ((l.take a.1).flatMap fun x=>a2v x.1)),(13,a.2),(14,.int .i64 (a.1:Nat))]) (fun a h2=>a.1≤l.length∧Ext h1 h2∧c5l h1.next h2 a.2 ((l.take a.1).map fun x=>x.1.page)∧(∀ x∈l.take a.1,x.2=0∧a6z x.1)∧((l.take a.1).flatMap fun x=>a2v x.1).length≤a.1*100000) (0,.nilslice) hsub ⟨Nat.zero_le _,.refl _,a9g.nil,by simp,by simp⟩ ?_
 rintro⟨i,u⟩ h2 ⟨hi2,x2,ow,good,vl⟩ next
 dsimp only at hi2 ow good vl next ⊢
 have k2:=x2.ok k1
 have nx2:=x2.nx
 by_cases c:i<l.length
 case neg =>
  have ei:l.take i=l:=List.take_of_length_le (by omega)
  rw[ei] at ow good vl ⊢
  obtain⟨ps,rfl,rfl⟩:=c6e fp fun x hx=>(good x hx).1
  have e1:(ps.map fun p=>(p,(0:Int))).flatMap (fun x=>a2v x.1)=ps.flatMap a2v:=by rw[List.flatMap_map]
  have e2:(ps.map fun p=>(p,(0:Int))).map (fun x=>x.1.page)=ps.map (·.page):=by rw[List.map_map]; rfl
  have e3:∀ p∈ps,a6z p:=fun p hp=>(good (p,0) (List.mem_map.2 ⟨p,hp,rfl⟩)).2
  rw[e2] at ow
  rw[e1]
  rw[show(some ps).bind (b7e ln)=b7e ln ps from rfl]
  unfold b7e
  by_cases d1:ln<1
  ·rw[if_neg fun q=>by omega]
   refine walk ?_
   exact a0d (by exact hres) ⟨by exact a0j,4,by decide,rfl⟩
  by_cases d2:((ps.flatMap a2v).length:Int)=ln
  ·rw[if_pos ⟨e3,by omega,d2⟩]
   refine walk ?_
   exact a0d (by exact hres) ⟨by exact a0j,u,rfl,Own.lo ow x1.nx⟩
  ·rw[if_neg fun q=>d2 q.2.2]
   refine walk ?_
   exact a0d (by exact hres) ⟨by exact a0j,4,by decide,rfl⟩
 obtain⟨⟨y,e⟩,hy⟩:∃ y,l[i]?=some y:=⟨l[i],List.getElem?_eq_getElem c⟩
 have hmem:=List.mem_of_getElem? hy
 obtain⟨B,q,e',all,rw',hb',hg,hpl,he,a1⟩:=(ls.ext x2).at Lk.len hy
 have he:(all.drop q).take 7=[.int .i64 y.kind,.int .i64 y.count,.int .u32 y.page,.int .u32 y.link,.int .u64 y.tx,.str y.body,.int .i64 e]:=he
 have he6:(all.drop q).take 6=y.cs:=by
  have:=congrArg (List.take 6) he
  rw[List.take_take] at this
  exact this
 have hp6:q+6≤all.length:=by omega
 have he7:=he
 have w2:=c9s (n:=n) (by omega) (p:=y) (by have:=lb _ hmem; simp only at this; omega)
 have bad:e≠0∨¬ a6z y→r.bind (b7e ln)=none:=fun q=>by
  rcases c3i fp hmem q with rfl|⟨ps,rfl,q⟩
  ·rfl
  ·exact if_neg fun d=>q d.1
 have et:l.take (i+1)=l.take i++[(y,e)]:=by rw[List.take_add_one,hy]; rfl
 unfold ofO at w2
 by_cases d1:a6z y
 case neg =>
  rw[if_neg d1] at w2
  rw[bad (.inr d1)]
  by_cases d2:e=0
  ·refine walk ?_
   exact a0d (by exact hres) ⟨by exact a0j,4,by decide,rfl⟩
  ·refine walk ?_
   exact a0d (by exact hres) ⟨by exact a0j,4,by decide,rfl⟩
 rw[if_pos d1] at w2
 by_cases d2:e=0
 case neg =>
  rw[bad (.inl d2)]
  refine walk ?_
  exact a0d (by exact hres) ⟨by exact a0j,4,by decide,rfl⟩
 subst d2
 have pl:(a2v y).length≤100000:=by
  have:=lb _ hmem
  unfold a2v; rw[List.length_take]; simp only at this; omega
 have vm:i*100000≤100000000:=by have:=Nat.mul_le_mul_right 100000 (show i≤1000 by omega); omega
 obtain⟨v7,h7,e7,o7,k7⟩:=a8g (T:=TV n) (st:=42) (rest:=[42]) (h:=h2.alloc (.cells 29 (a3a y.page) true)) (x:=y.page) (ow.ext (Ext.alloc _ _)) (a0t _ _) (by show h2.next<h2.next+1; omega) (by show h1.next≤h2.next+1; omega) (by rw[List.length_map,List.length_take]; omega) rfl rfl rfl rfl rfl (by exact Nat.le_of_ble_eq_true rfl) rfl (by decide) rfl
 have n7:h2.next+1≤h7.next:=k7.nx
 have e7:a1h (TV n) [u,.slice h2.next 0 1 1] [42,42] (h2.alloc (.cells 29 [.int .u32 y.page] true))=.val v7 h7:=e7
 refine walk ?_
 refine a1k rfl rfl rfl (a3n rfl rfl rfl (d6i (by show((l.take i).flatMap fun x=>a2v x.1).length+(a2v y).length≤_; omega)) rfl) ?_
 refine walk ?_
 have ev:(l.take (i+1)).flatMap (fun x=>a2v x.1)=(l.take i).flatMap (fun x=>a2v x.1)++y.body.take y.count.toNat:=by rw[et,List.flatMap_append]; simp[a2v]
 refine next (i+1,v7) (by simp only; omega) ?_ ⟨by simp only; omega,by exact a0j,?_,?_,?_⟩
 ·simp only
  rw[ev]
  exact hsub
 ·simp only
  rw[et,List.map_append]
  exact o7
 ·simp only
  rw[et]
  intro x hx
  rcases List.mem_append.1 hx with q|q
  ·exact good x q
  ·obtain rfl:=List.mem_singleton.1 q
   exact⟨rfl,d1⟩
 ·simp only
  rw[ev,List.length_append]
  have:(y.body.take y.count.toNat).length≤100000:=pl
  omega
end Go.Proofs.YtejfbaecadbdiaaGreat
