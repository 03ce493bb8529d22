/- What the functions of this part answer at any input, told by the rules over the evaluator. Conditions: those that each theorem states. -/
import Derived.Test.YtejfbaecadbdiaaGreatGar
import Derived.Test.YtejfbaecadbdiaaGreatGap
import Derived.Test.YtejfbaecadbdiaaGreatDns
set_option linter.unusedVariables false
set_option linter.unusedSimpArgs false
open Go Ev
namespace Go.Proofs.YtejfbaecadbdiaaGreat
set_option maxRecDepth 10000
set_option maxHeartbeats 4000000
def flA (x:Pg×Int):List AV:=[x.1.av,.int .i64 x.2]
theorem c8u {κ:Type} [DecidableEq κ] {ek:κ→AV}{T:Ev.a0k}{ρ:Operand→Option AV}{o:Oper}{h:a0a}{t kt et:TypeId}{x ix:Operand}{M n:Nat}{σ:κ→Option AV}{k:κ}{z v:AV}{b:Bool}(ok:c5c ek) (m:b9a ek h M σ n) (e:(σ k).getD z=v) (e':(σ k).isSome=b) (ho:o.op=.lookup t x ix true) (ht:T.und t=some (.map kt et)) (hk:b5x T kt (ek k)=true) (hx:ρ x=some (.map M)) (hi:ρ ix=some (ek k)) (hz:T.zero et=some z):opA T ρ o h=.val (.tuple [v,.bool b]) h:=by
 rw[← e,← e']; exact d9n ok m ho ht hk hx hi hz
structure f5t (z:Int) (img:List UInt8) (kd:Int) (hd b1 b2 b3 b4 M:Nat) (I:(Nat→Prop)→List (Pg×Int)→Bool→a0a→Prop) (S0:Nat→Prop) (h0:a0a) (acc:List Pg) (hd2:Nat) (S:Nat→Prop) (h:a0a):Prop where
 t:Ev.Touch (fun c=>S0 c∨c=b1) h0 h
 k:h.ok
 i:I S (acc.map fun p=>(p,(0:Int))) true h
 s:∀ c,S c→S0 c∨h0.next≤c
 m:b9a k32 h M (fun q=>if q∈acc.map (·.page) then some (.agg []) else none) acc.length
 ml:h0.next≤M∧¬ S M
 g1:h.get b1=some (.cells 29 [.int .u32 hd2] true)
 hh:hd2<4294967296
 nd:(acc.map (·.page)).Nodup
 inn:∀ p∈acc,p.page<pages z img∧p.body.length≤100000
 eq:a2h z img kd (pages z img+2) [] hd=(a2h z img kd (pages z img+2-acc.length) (acc.map (·.page)) hd2).map (acc ++ ·)
theorem d7i {n:Nat}(hn:4<n){z:Int}{img:List UInt8}{hd l b1 b2 b3 b4:Nat}{kd:Int}{I:(Nat→Prop)→List (Pg×Int)→Bool→a0a→Prop}{S0:Nat→Prop}{h0:a0a}(yl:f1c (TV n) l flA (fun _ x=>x.1.body.length≤100000) I) (hk:h0.ok) (hi:img.length≤20000) (hh:hd<4294967296) (i0:I S0 [] true h0)
  (g1:h0.get b1=some (.cells 29 [.int .u32 hd] true)) (g2:h0.get b2=some (.cells 3 [.int .i64 z] true)) (g3:h0.get b3=some (.cells 9 [.str img] true)) (g4:h0.get b4=some (.cells 3 [.int .i64 kd] true)) (n1:¬ S0 b1) (n2:¬ S0 b2) (n3:¬ S0 b3) (n4:¬ S0 b4) (d2:b2≠b1) (d3:b3≠b1) (d4:b4≠b1) (l1:b1<h0.next) (l2:b2<h0.next) (l3:b3<h0.next) (l4:b4<h0.next) :
  a0l (TV n) 224 [.func (.yield l) [] [],.ptr b1 0,.ptr b2 0,.ptr b3 0,.ptr b4 0] h0 (fun v h'=>v=.tuple []∧∃ S acc b,Ev.Touch (fun c=>S0 c∨c=b1) h0 h'∧h'.ok∧I S acc b h'∧(∀ c,S c→S0 c∨h0.next≤c)∧(b=true→a8c (a2h z img kd (pages z img+2) [] hd) acc)∧∃ l,a8c (a2h z img kd (pages z img+2) [] hd) l∧acc <+: l):=by
 refine a0r (a1x rfl rfl) rfl rfl ?_
 refine walk ?_
 refine a0n (ι:=List Pg×Nat×(Nat→Prop)) (fun a=>pages z img+1-a.1.length) (fun a=>[(0,.func (.yield l) [] []),(1,.ptr b1 0),(2,.ptr b2 0),(3,.ptr b3 0),(4,.ptr b4 0),(6,.map h0.next)]) (fun a h2=>f5t z img kd hd b1 b2 b3 b4 h0.next I S0 h0 a.1 a.2.1 a.2.2 h2) ([],hd,S0) (by exact hsub) ?_ ?_
 ·exact {
   t:=.al _
   k:=by exact hok
   i:=yl.a2l S0 [] true h0 _ i0 (by show h0.next≤h0.next+1; omega) (fun c _ hc=>a0a.ga _ _ _ (by omega)) (fun k=>a4n k _)
   s:=fun c q=>.inl q
   m:=by simpa using b9a.new h0
   ml:=⟨Nat.le_refl _,fun q=>by have:=yl.low S0 [] true h0 i0 _ q; omega⟩
   g1:=by exact a0g
   hh:=hh
   nd:=by simp
   inn:=fun p hp=>(by cases hp)
   eq:=by simp }
 rintro⟨acc,hd2,S⟩ h2 e2 next
 dsimp only at e2 next ⊢
 have tt:=e2.t
 have nx2:=tt.nx
 have gb1:=e2.g1
 have gb2:=(tt.old b2 l2 (fun q=>by rcases q with q|q; exact n2 q; exact d2 q)).trans g2
 have gb3:=(tt.old b3 l3 (fun q=>by rcases q with q|q; exact n3 q; exact d3 q)).trans g3
 have gb4:=(tt.old b4 l4 (fun q=>by rcases q with q|q; exact n4 q; exact d4 q)).trans g4
 have pb:pages z img≤157:=by
  unfold pages
  split
  ·rename_i g
   have:=g.1
   refine Nat.div_le_of_le_mul ?_
   have:128≤z.toNat:=by omega
   have:=Nat.mul_le_mul_right 157 this
   omega
  ·omega
 have al:acc.length≤pages z img:=by
  have:=b0g (pages z img) (acc.map (·.page)) e2.nd fun q hq=>by
   obtain⟨p,hp,rfl⟩:=List.mem_map.1 hq
   exact(e2.inn p hp).1
  rwa [List.length_map] at this
 have ek:pages z img+2-acc.length=(pages z img+1-acc.length)+1:=by omega
 have eq:=e2.eq
 by_cases c0:(hd2:Int)=0
 ·have e0:hd2=0:=by omega
  have es:a2h z img kd (pages z img+2) [] hd=some acc:=by
   rw[eq,ek,e0]
   show Option.map _ (if 0=0 then some [] else _)=_
   simp
  rw[es]
  refine walk ?_
  exact a2e fun tm hs=>a2b hs rfl ⟨rfl,S,_,true,tt,e2.k,e2.i,e2.s,fun _=>rfl,_,rfl,List.prefix_refl _⟩
 have c0n:¬ hd2=0:=by omega
 have w1:=c8b (n:=n) (by omega) z img hd2 (by omega) e2.hh
 have hm:=a4t z img hd2
 have hp:=a5l (z:=z) (img:=img) (p:=hd2)
 have step:a2h z img kd (pages z img+1-acc.length+1) (acc.map (·.page)) hd2=if(a0u z img hd2).2≠0∨hd2<2∨(a0u z img hd2).1.kind≠kd∨hd2∈acc.map (·.page) then none else(a2h z img kd (pages z img+1-acc.length) (acc.map (·.page)++[hd2]) (a0u z img hd2).1.link).map ((a0u z img hd2).1 :: ·):=by
  show(if hd2=0 then _ else _)=_
  rw[if_neg c0n]
 rw[ek,step] at eq
 generalize a0u z img hd2=r at w1 hm hp eq
 obtain⟨p,e⟩:=r
 dsimp only at w1 hm hp eq
 have k2:=e2.k
 refine walk ?_
 refine a1k rfl rfl rfl (c8u c7z (e2.m.keep (Ext.old (by exact a0j) _ e2.m.1) (by exact hle)) (v:=.agg []) (b:=decide (hd2∈acc.map (·.page))) (by split<;>rfl) (by split<;>simp_all) rfl rfl rfl rfl rfl rfl) ?_
 refine walk ?_
 refine b5b (ι:=Bool) (fun x=>[(0,.func (.yield l) [] []),(1,.ptr b1 0),(2,.ptr b2 0),(3,.ptr b3 0),(4,.ptr b4 0),(6,.map h0.next),(7,.ptr h2.next 0),(41,.bool x)]) (fun x g=>Ext h2 g∧h2.next<g.next∧g.get h2.next=some (.cells 64 p.cs true)∧(x=true↔e≠0∨hd2<2∨p.kind≠kd∨hd2∈acc.map (·.page))) ?_ ?_
 ·intro k' join
  by_cases d0:hd2∈acc.map (·.page)
  ·refine walk ?_
   exact join true (by exact hsub) ⟨by exact a0j,by exact hlt,by exact a0g,by simp[d0]⟩
  by_cases d1:e=0
  ·by_cases d2:(hd2:Int)<2
   ·refine walk ?_
    exact join true (by exact hsub) ⟨by exact a0j,by exact hlt,by exact a0g,by simp; omega⟩
   ·by_cases d3:p.kind=kd
    ·refine walk ?_
     exact join false (by exact hsub) ⟨by exact a0j,by exact hlt,by exact a0g,by simp[d0,d1,d3]; omega⟩
    ·refine walk ?_
     exact join true (by exact hsub) ⟨by exact a0j,by exact hlt,by exact a0g,by simp[d3]⟩
  ·refine walk ?_
   exact join true (by exact hsub) ⟨by exact a0j,by exact hlt,by exact a0g,by simp[d1]⟩
 rintro bad g ⟨xg,ng,gp,hb⟩
 have kg:=xg.ok k2
 have la:(acc.map fun p=>(p,(0:Int))).length≤500000:=by rw[List.length_map]; omega
 have ig:=yl.a2l S _ true h2 g e2.i xg.nx (fun c _ hc=>xg.old c hc) (fun _=>kg)
 cases bad with
 |true =>
  rw[if_pos (hb.1 rfl)] at eq
  rw[eq]
  obtain⟨fn,tm,nt,asg,bd,einv,rg⟩:=yl.call S _ (Pg.zero,(4:Int)) g la (Nat.zero_le _) ig
  refine walk ?_
  refine b4l rg rfl rfl rfl (b7l einv rfl rfl rfl) ?_
  rintro _ h3 ⟨b,rfl,t3,S',s',i3⟩
  have n3:=t3.nx
  have ngx:=xg.nx
  refine walk ?_
  exact a2x fun tm hs=>a3o hs rfl ⟨rfl,S',_,b,⟨by omega,fun c hc hs=>(t3.old c (by omega) (fun q=>by rcases e2.s c q with r|r; exact hs (.inl r); omega)).trans ((xg.old c (by omega)).trans (tt.old c hc hs)),fun k=>t3.ok (xg.ok (tt.ok k))⟩,t3.ok kg,i3,fun c q=>by
   rcases s' c q with r|r
   ·exact e2.s c r
   ·exact .inr (by omega),fun _=>Exists.intro acc rfl,_,Exists.intro acc rfl,List.prefix_refl _⟩
 |false =>
  have ky:¬ (e≠0∨hd2<2∨p.kind≠kd∨hd2∈acc.map (·.page)):=fun q=>by have:=hb.2 q; cases this
  rw[if_neg ky] at eq
  have e0:e=0:=Decidable.byContradiction fun q=>ky (.inl q)
  obtain⟨pp,plt⟩:=hp e0
  have m:=hm e0
  have bl:p.body.length≤100000:=by
   have:=room_le z
   unfold a7a at m; omega
  have lk:p.link<4294967296:=by unfold a7a at m; omega
  have mg:=e2.m.keep (xg.old _ e2.m.1) xg.nx
  obtain⟨ob,eb,mb⟩:=d5a (T:=TV n) (t:=150) (k:=hd2) (v:=.agg []) (h:=g) c7z mg rfl rfl
  have gpM:(g.set h0.next ob).get h2.next=some (.cells 64 p.cs true):=(a0a.gn _ _ _ _ (by have:=e2.m.1; omega)).trans gp
  have gb1M:(g.set h0.next ob).get b1=some (.cells 29 [.int .u32 hd2] true):=(a0a.gn _ _ _ _ (by omega)).trans ((xg.old _ (by omega)).trans gb1)
  have gb1g:=(xg.old b1 (by omega)).trans gb1
  refine walk ?_
  refine b0q rfl rfl (d0s eb rfl rfl rfl rfl) ?_
  refine walk ?_
  obtain⟨H,hH⟩:∃ H,H=(g.set h0.next ob).set b1 (.cells 29 [.int .u32 p.link] true):=⟨_,rfl⟩
  have ngx:=xg.nx
  have nS1:¬ S b1:=fun q=>by rcases e2.s _ q with r|r; exact n1 r; omega
  have mlt:=e2.m.1
  have nH:H.next=g.next:=by rw[hH]; rfl
  have oH:∀ c,c≠h0.next→c≠b1→H.get c=g.get c:=fun c q r=>by rw[hH]; exact(a0a.gn _ _ _ _ r).trans (a0a.gn _ _ _ _ q)
  have kH:H.ok:=by rw[hH]; exact a0w (a0w kg _ _ (by omega)) _ _ (by show b1<g.next; omega)
  have iH:=yl.a2l S _ true g H ig (by omega) (fun c q _=>oH c (fun e=>e2.ml.2 (e ▸ q)) (fun e=>nS1 (e ▸ q))) (fun _=>kH)
  have gH:H.get b1=some (.cells 29 [.int .u32 p.link] true):=by rw[hH]; exact a0a.gs _ _ _
  have mH:b9a k32 H h0.next _ _:=mb.keep (by rw[hH]; exact a0a.gn _ _ _ _ (by omega)) (by rw[nH]; exact Nat.le_refl _)
  obtain⟨fn,tm,nt,asg,bd,einv,rg⟩:=yl.call S _ (p,(0:Int)) H la bl iH
  rw[hH] at einv rg
  refine b4l rg rfl rfl rfl (b7l einv rfl rfl rfl) ?_
  rw[← hH]
  rintro _ h3 ⟨b,rfl,t3,S',s',i3⟩
  have n3:=t3.nx
  have k3:=t3.ok kH
  have y3:∀ c,c<g.next→¬ S c→h3.get c=H.get c:=fun c hc q=>t3.old c (by omega) q
  have tt3:Ev.Touch (fun c=>S0 c∨c=b1) h0 h3:=⟨by omega,fun c hc hs=>(y3 c (by omega) (fun q=>by rcases e2.s c q with r|r; exact hs (.inl r); omega)).trans ((oH c (by omega) (fun q=>hs (.inr q))).trans ((xg.old c (by omega)).trans (tt.old c hc hs))),fun _=>k3⟩
  have S3:∀ c,S' c→S0 c∨h0.next≤c:=fun c q=>by
   rcases s' c q with r|r
   ·exact e2.s c r
   ·exact .inr (by omega)
  have ea:(acc.map fun p=>(p,(0:Int)))++[(p,0)]=(acc++[p]).map fun p=>(p,(0:Int)):=by simp
  cases b with
  |false =>
   have fp:∃ l,a8c (a2h z img kd (pages z img+2) [] hd) l∧((acc.map fun p=>(p,(0:Int)))++[(p,0)]) <+: l:=by
    rw[eq,ea]
    cases a2h z img kd (pages z img+1-acc.length) (acc.map (·.page)++[hd2]) p.link with
    |none=>exact⟨((acc++[p]).map fun p=>(p,(0:Int)))++[(Pg.zero,4)],Exists.intro (acc++[p]) rfl,List.prefix_append _ _⟩
    |some ps=>exact⟨(acc++p::ps).map fun p=>(p,(0:Int)),rfl,ps.map fun p=>(p,(0:Int)),by simp⟩
   refine walk ?_
   exact a2x fun tm hs=>a3o hs rfl ⟨rfl,S',_,false,tt3,k3,i3,S3,fun q=>(by cases q),fp⟩
  |true =>
   refine walk ?_
   refine next (acc++[p],p.link,S') ?_ (by exact hsub) ?_
   ·simp only[List.length_append,List.length_cons,List.length_nil]; omega
   have e1:pages z img+2-(acc++[p]).length=pages z img+1-acc.length:=by simp only[List.length_append,List.length_cons,List.length_nil]; omega
   have nM:∀ c,c=h0.next∨c=b1→¬ S c:=fun c q=>by rcases q with rfl|rfl; exact e2.ml.2; exact nS1
   exact {
    t:=tt3
    k:=k3
    i:=by simp only; rw[← ea]; exact i3
    s:=S3
    m:=by
     have nm:hd2 ∉ acc.map (·.page):=fun q=>ky (.inr (.inr (.inr q)))
     have m3:=mH.keep (y3 _ (by omega) e2.ml.2) (by omega)
     simp only[if_neg nm] at m3
     have ef:(fun q=>if q=hd2 then some (AV.agg []) else if q∈acc.map (·.page) then some (AV.agg []) else none)=fun q=>if q∈(acc++[p]).map (·.page) then some (AV.agg []) else none:=by
      funext q
      simp only[List.map_append,List.map_cons,List.map_nil,List.mem_append,List.mem_singleton,pp]
      by_cases c1:q=hd2<;>by_cases c2:q∈acc.map (·.page)<;>simp[c1,c2]
     rw[ef] at m3
     simpa using m3
    ml:=⟨Nat.le_refl _,fun q=>by rcases s' _ q with r|r; exact e2.ml.2 r; omega⟩
    g1:=(y3 b1 (by omega) nS1).trans gH
    hh:=lk
    nd:=by
     simp only[List.map_append,List.map_cons,List.map_nil]
     rw[List.nodup_append]
     exact⟨e2.nd,by simp,fun a ha b hb'=>by
      obtain rfl:=List.mem_singleton.1 hb'
      exact fun q=>ky (.inr (.inr (.inr (by rw[← pp,← q]; exact ha))))⟩
    inn:=fun x hx=>by
     rcases List.mem_append.1 hx with q|q
     ·exact e2.inn x q
     ·obtain rfl:=List.mem_singleton.1 q
      exact⟨by rw[pp]; exact plt,bl⟩
    eq:=by
     simp only
     rw[e1,eq,List.map_append,List.map_cons,List.map_nil,pp]
     cases a2h z img kd (pages z img+1-acc.length) (acc.map (·.page)++[hd2]) p.link with
     |none=>rfl
     |some ps=>simp }
end Go.Proofs.YtejfbaecadbdiaaGreat
