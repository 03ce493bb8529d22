/- What the functions of this part answer at any input, told by the rules over the evaluator. Conditions: those that each theorem states. -/
import Derived.Test.YtejfbaecadbdiaaGreatDen
import Derived.Test.YtejfbaecadbdiaaGreatDnb
import Derived.Test.YtejfbaecadbdiaaGreatGar
set_option linter.unusedVariables false
set_option linter.unusedSimpArgs false
open Go Ev
namespace Go.Proofs.YtejfbaecadbdiaaGreat
set_option maxRecDepth 10000
set_option maxHeartbeats 4000000
structure Bd where
 low:List UInt8
 less:List UInt8
 high:Bool
def Bd.cs (b:Bd):List AV:=[.str b.low,.str b.less,.bool b.high]
def Bd.all:Bd:=⟨[],[],false⟩
def Bd.inside (b:Bd) (k:List UInt8):Bool := !bytesLess k b.low&&(!b.high||bytesLess k b.less)
noncomputable def a2h (z:Int) (img:List UInt8) (kind:Int):Nat→List Nat→Nat→Option (List Pg)
 |0,_,_=>none
 |k+1,met,n=>if n=0 then some [] else if(a0u z img n).2≠0∨n<2∨(a0u z img n).1.kind≠kind∨n∈met then none else(a2h z img kind k (met++[n]) (a0u z img n).1.link).map ((a0u z img n).1 :: ·)
def a2v (p:Pg):List UInt8:=p.body.take p.count.toNat
def b7e (len:Int) (l:List Pg):Option (List UInt8×List Nat):=if(∀ p∈l,a6z p)∧1≤len∧((l.flatMap a2v).length:Int)=len then some (l.flatMap a2v,l.map (·.page)) else none
noncomputable def a8w (z:Int) (img:List UInt8) (head:Nat) (len:Int):Option (List UInt8×List Nat) :=
 if Good z then(a2h z img 5 (pages z img+2) [] head).bind (b7e len) else none
def a3h (pg:List Nat) (n:Nat):Option (List Nat):=if n∈pg then none else some (pg++[n])
def a3i:List Nat→List Nat→Option (List Nat)
 |pg,[]=>some pg
 |pg,n::l=>match a3h pg n with
  |none=>none
  |some q=>a3i q l
structure Rs where
 pg:List Nat
 deep:Nat
 out:List Pr
noncomputable def a7t (z:Int) (img:List UInt8) (b:Bd) (s:Rs) (x:It):Option Rs :=
 if b.inside x.key=true then match x.over with
  |true=>match a8w z img x.head x.len with
   |none=>none
   |some (v,ps)=>match a3i s.pg ps with
    |none=>none
    |some q=>some ⟨q,s.deep,s.out++[⟨x.key,v⟩]⟩
  |false=>some ⟨s.pg,s.deep,s.out++[⟨x.key,x.val⟩]⟩
 else none
noncomputable def a5r (z:Int) (img:List UInt8) (b:Bd):Rs→List It→Option Rs
 |s,[]=>some s
 |s,x::l=>match a7t z img b s x with
  |none=>none
  |some s'=>a5r z img b s' l
noncomputable def b1n (z:Int) (img:List UInt8) (p:Pg) (d:Nat) (b:Bd) (s:Rs):Option Rs :=
 match ofI p with
 |none=>none
 |some l=>if s.deep=0∨s.deep=d then a5r z img b ⟨s.pg,d,s.out⟩ l else none
def a9a (b:Bd) (l:List Fk) (i:Nat):Bd:=⟨if 0<i then(l.getD i ⟨[],0⟩).key else b.low,if i+1<l.length then(l.getD (i+1) ⟨[],0⟩).key else b.less,if i+1<l.length then true else b.high⟩
def a4m (go:Nat→Bd→Rs→Option Rs) (b:Bd) (l:List Fk):Nat→Nat→Rs→Option Rs
 |_,0,s=>some s
 |i,k+1,s=>if 0<i∧b.inside (l.getD i ⟨[],0⟩).key=false then none else match go (l.getD i ⟨[],0⟩).child (a9a b l i) s with
  |none=>none
  |some s'=>a4m go b l (i+1) k s'
noncomputable def a7h (z:Int) (img:List UInt8):Nat→Nat→Bd→Rs→Option Rs
 |0,_,_,_=>none
 |k+1,n,b,s=>match a3h s.pg n with
  |none=>none
  |some q=>if n<2∨(a0u z img n).2≠0 then none else if(a0u z img n).1.kind=4 then b1n z img (a0u z img n).1 (16-k) b ⟨q,s.deep,s.out⟩ else match ofB (a0u z img n).1 with
   |none=>none
   |some l=>a4m (a7h z img k) b l 0 l.length ⟨q,s.deep,s.out⟩
noncomputable def a6x (z:Int) (img:List UInt8) (root:Nat) (pg:List Nat):Option Rs:=if root=0 then some ⟨pg,0,[]⟩ else a7h z img 16 root .all ⟨pg,0,[]⟩
noncomputable def a5h (z:Int) (img:List UInt8):List Nat→List (List UInt8×List Pr)→List Bk→Option (List Nat×List (List UInt8×List Pr))
 |pg,out,[]=>some (pg,out)
 |pg,out,b::l=>match a6x z img b.root pg with
  |none=>none
  |some s=>if(s.out.length:Int)=b.keys then a5h z img s.pg (out++[(b.name,s.out)]) l else none
noncomputable def b0l (z:Int) (img:List UInt8) (n:Nat):Option (List Nat×List (List UInt8×List Pr)) :=
 if n=0 then some ([],[]) else if n<2∨(a1v z img n 2).2=false then none else match ofC (a1v z img n 2).1 with
  |none=>none
  |some l=>a5h z img [n] [] l
set_option maxRecDepth 10000
set_option maxHeartbeats 4000000
theorem a5l {z:Int}{img:List UInt8}{p:Nat}(e:(a0u z img p).2=0):(a0u z img p).1.page=p∧p<pages z img:=by
 unfold a0u b1a at e ⊢
 by_cases c1:Good z
 case neg=>rw[if_neg c1] at e; cases e
 by_cases c2:p<pages z img
 case neg=>rw[if_pos c1,if_neg c2] at e; cases e
 rw[if_pos c1,if_pos c2,if_pos c1] at e ⊢
 by_cases c3:((atL z img p).length:Int)=z∧c7u z p (atL z img p)
 case neg=>rw[if_neg c3] at e; cases e
 rw[if_pos c3]
 exact⟨c3.2.2.2.1,c2⟩
def a8c (r:Option (List Pg)) (l:List (Pg×Int)):Prop:=match r with
 |some ps=>l=ps.map fun p=>(p,(0:Int))
 |none=>∃ ps:List Pg,l=(ps.map fun p=>(p,(0:Int)))++[(Pg.zero,4)]
theorem c6e {r:Option (List Pg)}{l:List (Pg×Int)}(f:a8c r l) (h:∀ x∈l,x.2=0):∃ ps,r=some ps∧l=ps.map fun p=>(p,(0:Int)):=by
 cases r with
 |some ps=>exact⟨ps,rfl,f⟩
 |none =>
  obtain⟨ps,rfl⟩:=f
  have:=h (Pg.zero,4) (by simp)
  cases this
theorem c3i {r:Option (List Pg)}{l:List (Pg×Int)}(f:a8c r l){x:Pg×Int}(hx:x∈l) (h:x.2≠0∨¬ a6z x.1):r=none∨∃ ps,r=some ps∧¬ ∀ p∈ps,a6z p:=by
 cases r with
 |none=>exact .inl rfl
 |some ps =>
  obtain rfl:l=ps.map fun p=>(p,(0:Int)):=f
  obtain⟨p,hp,rfl⟩:=List.mem_map.1 hx
  refine .inr ⟨ps,rfl,fun q=>?_⟩
  rcases h with h|h
  ·exact h rfl
  ·exact h (q p hp)
theorem c0h (pg:List Nat) (l:List Nat) (n:Nat):a3i pg (l++[n])=(a3i pg l).bind (a3h · n):=by
 induction l generalizing pg with
 |nil =>
  simp only[List.nil_append,a3i,Option.bind_some]
  cases a3h pg n<;>rfl
 |cons a l ih =>
  simp only[List.cons_append,a3i]
  cases a3h pg a with
  |none=>rfl
  |some q=>exact ih q
theorem c0f (pg:List Nat) (l r:List Nat) (h:a3i pg l=none):a3i pg (l++r)=none:=by
 induction l generalizing pg with
 |nil=>cases h
 |cons a l ih =>
  simp only[List.cons_append,a3i] at h ⊢
  cases e:a3h pg a with
  |none=>rfl
  |some q=>rw[e] at h; exact ih q h
structure a5n (N:Nat) (pg:List Nat):Prop where
 nd:pg.Nodup
 lt:∀ n∈pg,n<N
theorem a5n.len {N:Nat}{pg:List Nat}(f:a5n N pg):pg.length≤N:=b0g N pg f.nd f.lt
theorem a5n.d9d {N n:Nat}{pg q:List Nat}(f:a5n N pg) (e:a3h pg n=some q) (h:n<N):a5n N q:=by
 unfold a3h at e
 split at e
 ·cases e
 ·rename_i c
  cases e
  refine⟨?_,fun m hm=>?_⟩
  ·rw[List.nodup_append]
   exact⟨f.nd,by simp,fun a ha b hb=>by
    obtain rfl:=List.mem_singleton.1 hb
    exact fun e=>c (e ▸ ha)⟩
  ·rcases List.mem_append.1 hm with q|q
   ·exact f.lt m q
   ·obtain rfl:=List.mem_singleton.1 q
    exact h
theorem a5n.comes {N:Nat}{pg q l:List Nat}(f:a5n N pg) (e:a3i pg l=some q) (h:∀ n∈l,n<N):a5n N q:=by
 induction l generalizing pg with
 |nil=>cases e; exact f
 |cons a l ih =>
  simp only[a3i] at e
  cases ea:a3h pg a with
  |none=>rw[ea] at e; cases e
  |some p =>
   rw[ea] at e
   exact ih (f.d9d ea (h a (List.mem_cons_self ..))) e fun n hn=>h n (List.mem_cons_of_mem _ hn)
theorem b8x {pg q:List Nat}{n:Nat}(e:a3h pg n=some q):q=pg++[n]:=by
 unfold a3h at e
 split at e
 ·cases e
 ·cases e; rfl
theorem d3p {pg q l:List Nat}(e:a3i pg l=some q):q=pg++l:=by
 induction l generalizing pg with
 |nil=>cases e; simp
 |cons a l ih =>
  simp only[a3i] at e
  cases ea:a3h pg a with
  |none=>rw[ea] at e; cases e
  |some p =>
   rw[ea] at e
   rw[ih e,b8x ea,List.append_assoc]; rfl
theorem c2x {z:Int}{img:List UInt8}{kd:Int}:∀ (k:Nat) (met:List Nat) (n:Nat) (l:List Pg),a2h z img kd k met n=some l→l.length<k∧∀ p∈l,p.page<pages z img∧2≤p.page∧p.kind=kd∧a0u z img p.page=(p,0)
 |0,_,_,_,e=>by cases e
 |k+1,met,n,l,e=>by
  unfold a2h at e
  split at e
  ·cases e; exact⟨Nat.succ_pos _,fun p hp=>by cases hp⟩
  ·split at e
   ·cases e
   ·rename_i c
    cases er:a2h z img kd k (met++[n]) (a0u z img n).1.link with
    |none=>rw[er] at e; cases e
    |some r =>
     rw[er] at e
     cases e
     obtain⟨h1,h2⟩:=c2x k _ _ _ er
     have e0:(a0u z img n).2=0:=Decidable.byContradiction fun q=>c (.inl q)
     obtain⟨p1,p2⟩:=a5l e0
     refine⟨by rw[List.length_cons]; omega,fun p hp=>?_⟩
     rcases List.mem_cons.1 hp with rfl|hp
     ·refine⟨by omega,?_,Decidable.byContradiction fun q=>c (.inr (.inr (.inl q))),?_⟩
      ·have:¬ n<2:=fun q=>c (.inr (.inl q))
       omega
      ·rw[p1]; exact Prod.ext rfl e0
     ·exact h2 p hp
theorem c8d {z:Int}{img:List UInt8}{hd:Nat}{ln:Int}{v:List UInt8}{ps:List Nat}(e:a8w z img hd ln=some (v,ps)):(∀ n∈ps,n<pages z img∧2≤n)∧ps.length≤pages z img+1∧(v.length:Int)=ln∧1≤ln:=by
 unfold a8w at e
 split at e
 ·cases ec:a2h z img 5 (pages z img+2) [] hd with
  |none=>rw[ec] at e; cases e
  |some l =>
   rw[ec] at e
   have e:b7e ln l=some (v,ps):=e
   unfold b7e at e
   split at e
   ·rename_i c
    cases e
    obtain⟨h1,h2⟩:=c2x _ _ _ _ ec
    refine⟨fun n hn=>?_,by rw[List.length_map]; omega,c.2.2,c.2.1⟩
    obtain⟨p,hp,rfl⟩:=List.mem_map.1 hn
    exact⟨(h2 p hp).1,(h2 p hp).2.1⟩
   ·cases e
 ·cases e
theorem e4v (l:List It):3*l.length≤a3t l:=by
 induction l with
 |nil=>simp[a3t]
 |cons a r ih =>
  simp only[a3t,List.map_cons,List.sum_cons,List.length_cons] at ih ⊢
  have:3≤szI a:=by unfold szI; split<;>omega
  omega
theorem c8e {p:Pg}{l:List It}(e:ofI p=some l):l.length≤1400∧b3y l:=by
 unfold ofI at e
 cases ep:a4v p.count.toNat p.body with
 |none=>rw[ep] at e; cases e
 |some r =>
  rw[ep] at e
  have e:(if a8y (p.body.length+24) p.page p.tx r=(p,0) then some r else none)=some l:=e
  split at e
  ·rename_i c
   cases e
   unfold a8y at c
   split at c
   ·rename_i d
    have:=room_le ((p.body.length:Int)+24)
    have hs:=e4v l
    exact⟨by omega,d.1⟩
   ·cases congrArg Prod.snd c
  ·cases e
theorem b1u {z:Int}{img:List UInt8}(hi:img.length≤20000):pages z img≤157:=by
 unfold pages
 split
 ·rename_i g
  have:=g.1
  refine Nat.div_le_of_le_mul ?_
  have:128≤z.toNat:=by omega
  have:=Nat.mul_le_mul_right 157 this
  omega
 ·omega
structure RdT (R:Nat) (S S':Nat→Prop) (h h':a0a):Prop where
 nx:h.next≤h'.next
 old:∀ c,c<h.next→c≠R→¬ S c→h'.get c=h.get c
 ok:h.ok→h'.ok
 grow:∀ c,S' c→S c∨h.next≤c
theorem RdT.refl {R:Nat}{S:Nat→Prop}(h:a0a):RdT R S S h h:=⟨Nat.le_refl _,fun _ _ _ _=>rfl,fun k=>k,fun c q=>.inl q⟩
theorem RdT.trans {R:Nat}{S S1 S2:Nat→Prop}{h h1 h2:a0a}(a:RdT R S S1 h h1) (b:RdT R S1 S2 h1 h2):RdT R S S2 h h2:=by
 have n1:=a.nx
 refine⟨Nat.le_trans a.nx b.nx,fun c hc hr hs=>?_,fun k=>b.ok (a.ok k),fun c q=>?_⟩
 ·refine(b.old c (by omega) hr fun q=>?_).trans (a.old c hc hr hs)
  rcases a.grow c q with q|q
  ·exact hs q
  ·omega
 ·rcases b.grow c q with q|q
  ·exact a.grow c q
  ·exact .inr (by omega)
theorem RdT.ext {R:Nat}{S:Nat→Prop}{h h':a0a}(x:Ext h h'):RdT R S S h h':=⟨x.nx,fun c hc _ _=>x.old c hc,x.ok,fun c q=>.inl q⟩
theorem RdT.Ls {α:Type}{enc:α→List AV}{sz:Nat}{R:Nat}{S S' S0:Nat→Prop}{h h':a0a}{v:AV}{l:List α}{e:TypeId}(t:RdT R S S' h h') (o:a1a enc e sz S0 h v l) (d:∀ c,S0 c→c≠R∧¬ S c):a1a enc e sz S0 h' v l:=o.keep (fun c q hl=>t.old c hl (d c q).1 (d c q).2) t.nx
theorem RdT.put {R:Nat}{S:Nat→Prop}{h:a0a}(rl:R<h.next) (o:a1t):RdT R S S h (h.set R o):=⟨Nat.le_refl _,fun c _ hr _=>a0a.gn _ _ _ _ hr,fun k=>a0w k _ _ rl,fun c q=>.inl q⟩
structure b9f (N:Nat) (s t:Rs):Prop where
 f:a5n N t.pg
 le:s.pg.length≤t.pg.length
theorem d2o {z:Int}{img:List UInt8}{b:Bd}{s t:Rs}{x:It}(f:a5n (pages z img) s.pg) (e:a7t z img b s x=some t):b9f (pages z img) s t∧t.out.length=s.out.length+1:=by
 unfold a7t at e
 split at e
 ·cases ov:x.over with
  |false=>rw[ov] at e; cases e; exact⟨⟨f,Nat.le_refl _⟩,by simp⟩
  |true =>
   rw[ov] at e
   cases e7:a8w z img x.head x.len with
   |none=>rw[e7] at e; cases e
   |some r =>
    obtain⟨v,ps⟩:=r
    rw[e7] at e
    have e:(match a3i s.pg ps with
     |none=>none
     |some q=>some (⟨q,s.deep,s.out++[⟨x.key,v⟩]⟩:Rs))=some t:=e
    cases e8:a3i s.pg ps with
    |none=>rw[e8] at e; cases e
    |some q =>
     rw[e8] at e
     cases e
     have:=d3p e8
     exact⟨⟨f.comes e8 fun n hn=>((c8d e7).1 n hn).1,by rw[this]; simp⟩,by simp⟩
 ·cases e
theorem b9q {z:Int}{img:List UInt8}{b:Bd}:∀ {l:List It}{s t:Rs},a5n (pages z img) s.pg→a5r z img b s l=some t→b9f (pages z img) s t∧t.out.length=s.out.length+l.length
 |[],s,t,f,e=>by cases e; exact⟨⟨f,Nat.le_refl _⟩,rfl⟩
 |x::l,s,t,f,e=>by
  unfold a5r at e
  cases e1:a7t z img b s x with
  |none=>rw[e1] at e; cases e
  |some s' =>
   rw[e1] at e
   obtain⟨g1,o1⟩:=d2o f e1
   obtain⟨g2,o2⟩:=b9q g1.f e
   exact⟨⟨g2.f,Nat.le_trans g1.le g2.le⟩,by rw[o2,o1,List.length_cons]; omega⟩
theorem d3m {z:Int}{img:List UInt8}{p:Pg}{d:Nat}{b:Bd}{s t:Rs}(f:a5n (pages z img) s.pg) (ho:s.out.length+1400≤1400*s.pg.length) (e:b1n z img p d b s=some t):b9f (pages z img) s t∧t.out.length≤1400*t.pg.length:=by
 unfold b1n at e
 cases el:ofI p with
 |none=>rw[el] at e; cases e
 |some l =>
  rw[el] at e
  have e:(if s.deep=0∨s.deep=d then a5r z img b ⟨s.pg,d,s.out⟩ l else none)=some t:=e
  split at e
  ·obtain⟨g,o⟩:=b9q (s:=⟨s.pg,d,s.out⟩) f e
   have:=(c8e el).1
   have gl:=g.le
   dsimp only at o gl
   exact⟨⟨g.f,gl⟩,by omega⟩
  ·cases e
theorem b9p {N:Nat}{go:Nat→Bd→Rs→Option Rs}{b:Bd}{l:List Fk}(hg:∀ n c s t,a5n N s.pg→s.out.length≤1400*s.pg.length→go n c s=some t→b9f N s t∧t.out.length≤1400*t.pg.length):∀ (k i:Nat) (s t:Rs),a5n N s.pg→s.out.length≤1400*s.pg.length→a4m go b l i k s=some t→b9f N s t∧t.out.length≤1400*t.pg.length
 |0,i,s,t,f,ho,e=>by cases e; exact⟨⟨f,Nat.le_refl _⟩,ho⟩
 |k+1,i,s,t,f,ho,e=>by
  unfold a4m at e
  split at e
  ·cases e
  ·cases e1:go (l.getD i ⟨[],0⟩).child (a9a b l i) s with
   |none=>rw[e1] at e; cases e
   |some s' =>
    rw[e1] at e
    obtain⟨g1,o1⟩:=hg _ _ _ _ f ho e1
    obtain⟨g2,o2⟩:=b9p hg k (i+1) s' t g1.f o1 e
    exact⟨⟨g2.f,Nat.le_trans g1.le g2.le⟩,o2⟩
theorem b2n {z:Int}{img:List UInt8}:∀ (k:Nat) (n:Nat) (b:Bd) (s t:Rs),a5n (pages z img) s.pg→s.out.length≤1400*s.pg.length→a7h z img k n b s=some t→b9f (pages z img) s t∧t.out.length≤1400*t.pg.length
 |0,n,b,s,t,f,ho,e=>by cases e
 |k+1,n,b,s,t,f,ho,e=>by
  unfold a7h at e
  cases e1:a3h s.pg n with
  |none=>rw[e1] at e; cases e
  |some q =>
   rw[e1] at e
   have e:(if n<2∨(a0u z img n).2≠0 then none else if(a0u z img n).1.kind=4 then b1n z img (a0u z img n).1 (16-k) b ⟨q,s.deep,s.out⟩ else match ofB (a0u z img n).1 with
    |none=>none
    |some l=>a4m (a7h z img k) b l 0 l.length ⟨q,s.deep,s.out⟩)=some t:=e
   split at e
   ·cases e
   ·rename_i c
    have e0:(a0u z img n).2=0:=Decidable.byContradiction fun q=>c (.inr q)
    have fq:=f.d9d e1 (a5l e0).2
    have lq:=b8x e1
    have lq:q.length=s.pg.length+1:=by rw[lq]; simp
    split at e
    ·obtain⟨g,o⟩:=d3m (s:=⟨q,s.deep,s.out⟩) fq (by simp only; omega) e
     have gl:=g.le
     dsimp only at gl
     exact⟨⟨g.f,by omega⟩,o⟩
    ·cases el:ofB (a0u z img n).1 with
     |none=>rw[el] at e; cases e
     |some l =>
      rw[el] at e
      obtain⟨g,o⟩:=b9p (b2n k) _ _ ⟨q,s.deep,s.out⟩ t fq (by simp only; omega) e
      have gl:=g.le
      dsimp only at gl
      exact⟨⟨g.f,by omega⟩,o⟩
theorem e1y (l:List Fk):5*l.length≤a3u l:=by
 induction l with
 |nil=>simp[a3u]
 |cons a r ih =>
  simp only[a3u,List.map_cons,List.sum_cons,List.length_cons] at ih ⊢
  omega
theorem d5w {p:Pg}{l:List Fk}(e:ofB p=some l):l.length≤1000∧b3q l:=by
 unfold ofB at e
 cases ep:a5x p.count.toNat p.body with
 |none=>rw[ep] at e; cases e
 |some r =>
  rw[ep] at e
  have e:(if b1t (p.body.length+24) p.page p.tx r=(p,0) then some r else none)=some l:=e
  split at e
  ·rename_i c
   cases e
   unfold b1t at c
   split at c
   ·rename_i d
    have:=room_le ((p.body.length:Int)+24)
    have hs:=e1y l
    exact⟨by omega,d.1⟩
   ·cases congrArg Prod.snd c
  ·cases e
theorem c3t {z:Int}{img:List UInt8}{root:Nat}{pg:List Nat}{t:Rs}(f:a5n (pages z img) pg) (e:a6x z img root pg=some t):a5n (pages z img) t.pg∧pg.length≤t.pg.length∧t.out.length≤1400*t.pg.length:=by
 unfold a6x at e
 split at e
 ·cases e; exact⟨f,Nat.le_refl _,Nat.zero_le _⟩
 ·obtain⟨g,o⟩:=b2n 16 root .all ⟨pg,0,[]⟩ t f (Nat.zero_le _) e
  exact⟨g.f,g.le,o⟩
theorem d5v {p:Pg}{l:List Bk}(e:ofC p=some l):l.length≤500∧okC l:=by
 unfold ofC at e
 cases ep:a5o p.count.toNat p.body with
 |none=>rw[ep] at e; cases e
 |some r =>
  rw[ep] at e
  have e:(if a8z (p.body.length+24) p.page p.tx r=(p,0) then some r else none)=some l:=e
  split at e
  ·rename_i c
   cases e
   unfold a8z at c
   split at c
   ·rename_i d
    exact⟨c9p d.1,d.1.1⟩
   ·cases congrArg Prod.snd c
  ·cases e
end Go.Proofs.YtejfbaecadbdiaaGreat
