/- What the functions of this part answer at any input, told by the rules over the evaluator. Conditions: those that each theorem states. -/
import Derived.Test.YtmnhbehmjaibgaaGreatLof
import Derived.Test.YtmnhbehmjaibgaaGreatGar
set_option linter.unusedVariables false
set_option linter.unusedSimpArgs false
open Go Ev
namespace Go.Proofs.YtmnhbehmjaibgaaGreat
set_option maxRecDepth 10000
set_option maxHeartbeats 4000000
def rightP (p:Pg):Prop:=p.kind=2∧ofC p≠none∨p.kind=3∧ofB p≠none∨p.kind=4∧ofI p≠none∨p.kind=5∧okOf p∨p.kind=6∧ofR p≠none
noncomputable instance (p:Pg):Decidable (rightP p):=Classical.propDecidable _
theorem right_w {n:Nat} (hn:7<n) {p:Pg} (hl:p.body.length≤100000) (hc:p.count<1000000000) (h:Heap):(TV n).sm 41 [p.av] h=some (.bool (decide (rightP p)),h):=by
 refine w_of hn rfl rfl rfl fun n hn=>body_j rfl rfl ?_
 have ok0:Heap.ok ⟨.nil,0⟩:=ok_nil
 generalize (⟨.nil,0⟩:Heap)=h at ok0 ⊢
 by_cases k2:p.kind=2
 case pos =>
  have key:rightP p↔ofC p≠none:=by unfold rightP; simp [k2]
  refine walk ?_
  refine jo_call (catOf_g (n:=n) (by omega) (p:=p) (by exact hok) hl hc) rfl rfl rfl rfl ?_
  rintro v h3 ⟨x3,c3⟩
  cases e:ofC p with
  |none =>
   rw [e] at c3 key
   subst c3
   refine walk ?_
   exact jg_ret1 (by exact hres) (av_f (by simp [key]))
  |some l =>
   rw [e] at c3 key
   obtain ⟨u,rfl,ls⟩:=c3
   refine walk ?_
   exact jg_ret1 (by exact hres) (av_t (by simp [key]))
 by_cases k3:p.kind=3
 case pos =>
  have key:rightP p↔ofB p≠none:=by unfold rightP; simp [k3]
  refine walk ?_
  refine jo_call (braOf_g (n:=n) (by omega) (p:=p) (by exact hok) hl hc) rfl rfl rfl rfl ?_
  rintro v h3 ⟨x3,c3⟩
  cases e:ofB p with
  |none =>
   rw [e] at c3 key
   subst c3
   refine walk ?_
   exact jg_ret1 (by exact hres) (av_f (by simp [key]))
  |some l =>
   rw [e] at c3 key
   obtain ⟨u,rfl,ls⟩:=c3
   refine walk ?_
   exact jg_ret1 (by exact hres) (av_t (by simp [key]))
 by_cases k4:p.kind=4
 case pos =>
  have key:rightP p↔ofI p≠none:=by unfold rightP; simp [k4]
  refine walk ?_
  refine jo_call (leaOf_g (n:=n) (by omega) (p:=p) (by exact hok) hl hc) rfl rfl rfl rfl ?_
  rintro v h3 ⟨x3,c3⟩
  cases e:ofI p with
  |none =>
   rw [e] at c3 key
   subst c3
   refine walk ?_
   exact jg_ret1 (by exact hres) (av_f (by simp [key]))
  |some l =>
   rw [e] at c3 key
   obtain ⟨u,rfl,ls⟩:=c3
   refine walk ?_
   exact jg_ret1 (by exact hres) (av_t (by simp [key]))
 by_cases k5:p.kind=5
 case pos =>
  have key:rightP p↔okOf p:=by unfold rightP; simp [k5]
  refine walk ?_
  refine jo_w (ovrOf_w (n:=n) (by omega) (p:=p) (by omega) _) rfl rfl rfl rfl ?_
  unfold ofO
  by_cases c:okOf p
  ·rw [if_pos c]
   refine walk ?_
   exact jg_ret1 (by exact hres) (av_t (by simpa [key] using c))
  ·rw [if_neg c]
   refine walk ?_
   exact jg_ret1 (by exact hres) (av_f (by simpa [key] using c))
 by_cases k6:p.kind=6
 case pos =>
  have key:rightP p↔ofR p≠none:=by unfold rightP; simp [k6]
  refine walk ?_
  refine jo_call (freOf_g (n:=n) (by omega) (p:=p) (by exact hok) hl hc) rfl rfl rfl rfl ?_
  rintro v h3 ⟨x3,c3⟩
  cases e:ofR p with
  |none =>
   rw [e] at c3 key
   subst c3
   refine walk ?_
   exact jg_ret1 (by exact hres) (av_f (by simp [key]))
  |some l =>
   rw [e] at c3 key
   obtain ⟨u,rfl,ls⟩:=c3
   refine walk ?_
   exact jg_ret1 (by exact hres) (av_t (by simp [key]))
 have key:¬ rightP p:=by unfold rightP; simp [k2,k3,k4,k5,k6]
 refine walk ?_
 exact jg_ret1 (by exact hres) (av_f key)
theorem pages_len (z:Int) (img:List UInt8) (p:Nat):((readR z img p).2=0→mayF z (readR z img p).1):=by
 unfold readR getR
 split
 ·split
  ·split
   ·rename_i _ _ c
    exact fun _=>c.2.1
   ·intro h; cases h
  ·intro h; cases h
 ·intro h; cases h
noncomputable def rightR (z:Int) (img:List UInt8) (p:Nat) (k:Int):Pg×Bool:=if (readR z img p).2=0∧(readR z img p).1.kind=k∧rightP (readR z img p).1 then ((readR z img p).1,true) else (Pg.zero,false)
theorem Right_w {n:Nat} (hn:8<n) (z:Int) (img:List UInt8) (p:Nat) (k:Int) (hi:img.length<1000000) (hp:p<4294967296) (h:Heap):(TV n).sm 18 [.int .i64 z,.str img,.int .u32 p,.int .i64 k] h=some (.tuple [(rightR z img p k).1.av,.bool (rightR z img p k).2],h):=by
 refine w_of hn rfl rfl rfl fun n hn=>body_j rfl rfl ?_
 have w1:=read_w (n:=n) (by omega) z img p hi hp
 have hm:=pages_len z img p
 unfold rightR
 generalize readR z img p=r at w1 hm ⊢
 obtain ⟨g,e⟩:=r
 dsimp only at w1 hm ⊢
 by_cases c1:e=0
 case neg =>
  rw [if_neg fun c=>c1 c.1]
  exact auto
 by_cases c2:g.kind=k
 case neg =>
  rw [if_neg fun c=>c2 c.2.1]
  exact auto
 have m:=hm c1
 have rl:=room_le z
 have w2:=right_w (n:=n) (by omega) (p:=g) (by unfold mayF at m; omega) (by unfold mayF at m; omega)
 by_cases c3:rightP g
 ·rw [if_pos ⟨c1,c2,c3⟩]
  rw [decide_eq_true c3] at w2
  exact auto
 ·rw [if_neg fun c=>c3 c.2.2]
  rw [decide_eq_false c3] at w2
  exact auto
set_option maxRecDepth 10000
set_option maxHeartbeats 4000000
structure Pr where
 key:List UInt8
 val:List UInt8
 deriving DecidableEq
def Pr.cs (p:Pr):List AV:=[.str p.key,.str p.val]
theorem Pr.csl (p:Pr):p.cs.length=2:=rfl
structure Bd where
 low:List UInt8
 less:List UInt8
 high:Bool
def Bd.cs (b:Bd):List AV:=[.str b.low,.str b.less,.bool b.high]
def Bd.all:Bd:=⟨[],[],false⟩
def Bd.inside (b:Bd) (k:List UInt8):Bool := !bytesLess k b.low&&(!b.high||bytesLess k b.less)
noncomputable def chainS (z:Int) (img:List UInt8) (kind:Int):Nat→List Nat→Nat→Option (List Pg)
 |0,_,_=>none
 |k+1,met,n=>if n=0 then some [] else if (readR z img n).2≠0∨n<2∨(readR z img n).1.kind≠kind∨n∈met then none else (chainS z img kind k (met++[n]) (readR z img n).1.link).map ((readR z img n).1 :: ·)
def partO (p:Pg):List UInt8:=p.body.take p.count.toNat
def overV (len:Int) (l:List Pg):Option (List UInt8×List Nat):=if (∀ p∈l,okOf p)∧1≤len∧((l.flatMap partO).length:Int)=len then some (l.flatMap partO,l.map (·.page)) else none
noncomputable def overS (z:Int) (img:List UInt8) (head:Nat) (len:Int):Option (List UInt8×List Nat) :=
 if Good z then (chainS z img 5 (pages z img+2) [] head).bind (overV len) else none
def comeS (pg:List Nat) (n:Nat):Option (List Nat):=if n∈pg then none else some (pg++[n])
def comesS:List Nat→List Nat→Option (List Nat)
 |pg,[]=>some pg
 |pg,n::l=>match comeS pg n with
  |none=>none
  |some q=>comesS q l
structure Rs where
 pg:List Nat
 deep:Nat
 out:List Pr
noncomputable def itemS (z:Int) (img:List UInt8) (b:Bd) (s:Rs) (x:It):Option Rs :=
 if b.inside x.key=true then match x.over with
  |true=>match overS z img x.head x.len with
   |none=>none
   |some (v,ps)=>match comesS s.pg ps with
    |none=>none
    |some q=>some ⟨q,s.deep,s.out++[⟨x.key,v⟩]⟩
  |false=>some ⟨s.pg,s.deep,s.out++[⟨x.key,x.val⟩]⟩
 else none
noncomputable def itemsS (z:Int) (img:List UInt8) (b:Bd):Rs→List It→Option Rs
 |s,[]=>some s
 |s,x::l=>match itemS z img b s x with
  |none=>none
  |some s'=>itemsS z img b s' l
noncomputable def leafS (z:Int) (img:List UInt8) (p:Pg) (d:Nat) (b:Bd) (s:Rs):Option Rs :=
 match ofI p with
 |none=>none
 |some l=>if s.deep=0∨s.deep=d then itemsS z img b ⟨s.pg,d,s.out⟩ l else none
def forkB (b:Bd) (l:List Fk) (i:Nat):Bd:=⟨if 0<i then (l.getD i ⟨[],0⟩).key else b.low,if i+1<l.length then (l.getD (i+1) ⟨[],0⟩).key else b.less,if i+1<l.length then true else b.high⟩
def forksS (go:Nat→Bd→Rs→Option Rs) (b:Bd) (l:List Fk):Nat→Nat→Rs→Option Rs
 |_,0,s=>some s
 |i,k+1,s=>if 0<i∧b.inside (l.getD i ⟨[],0⟩).key=false then none else match go (l.getD i ⟨[],0⟩).child (forkB b l i) s with
  |none=>none
  |some s'=>forksS go b l (i+1) k s'
noncomputable def nodeS (z:Int) (img:List UInt8):Nat→Nat→Bd→Rs→Option Rs
 |0,_,_,_=>none
 |k+1,n,b,s=>match comeS s.pg n with
  |none=>none
  |some q=>if n<2∨(readR z img n).2≠0 then none else if (readR z img n).1.kind=4 then leafS z img (readR z img n).1 (16-k) b ⟨q,s.deep,s.out⟩ else match ofB (readR z img n).1 with
   |none=>none
   |some l=>forksS (nodeS z img k) b l 0 l.length ⟨q,s.deep,s.out⟩
noncomputable def treeS (z:Int) (img:List UInt8) (root:Nat) (pg:List Nat):Option Rs:=if root=0 then some ⟨pg,0,[]⟩ else nodeS z img 16 root .all ⟨pg,0,[]⟩
noncomputable def bucketsS (z:Int) (img:List UInt8):List Nat→List (List UInt8×List Pr)→List Bk→Option (List Nat×List (List UInt8×List Pr))
 |pg,out,[]=>some (pg,out)
 |pg,out,b::l=>match treeS z img b.root pg with
  |none=>none
  |some s=>if (s.out.length:Int)=b.keys then bucketsS z img s.pg (out++[(b.name,s.out)]) l else none
noncomputable def denS (z:Int) (img:List UInt8) (n:Nat):Option (List Nat×List (List UInt8×List Pr)) :=
 if n=0 then some ([],[]) else if n<2∨(rightR z img n 2).2=false then none else match ofC (rightR z img n 2).1 with
  |none=>none
  |some l=>bucketsS z img [n] [] l
set_option maxRecDepth 10000
set_option maxHeartbeats 4000000
theorem read_page {z:Int} {img:List UInt8} {p:Nat} (e:(readR z img p).2=0):(readR z img p).1.page=p∧p<pages z img:=by
 unfold readR getR at e ⊢
 by_cases c1:Good z
 case neg=>rw [if_neg c1] at e; cases e
 by_cases c2:p<pages z img
 case neg=>rw [if_pos c1,if_neg c2] at e; cases e
 rw [if_pos c1,if_pos c2,if_pos c1] at e ⊢
 by_cases c3:((atL z img p).length:Int)=z∧getP z p (atL z img p)
 case neg=>rw [if_neg c3] at e; cases e
 rw [if_pos c3]
 exact ⟨c3.2.2.2.1,c2⟩
def FollowP (r:Option (List Pg)) (l:List (Pg×Int)):Prop:=match r with
 |some ps=>l=ps.map fun p=>(p,(0:Int))
 |none=>∃ ps:List Pg,l=(ps.map fun p=>(p,(0:Int)))++[(Pg.zero,4)]
theorem follow_ok {r:Option (List Pg)} {l:List (Pg×Int)} (f:FollowP r l) (h:∀ x∈l,x.2=0):∃ ps,r=some ps∧l=ps.map fun p=>(p,(0:Int)):=by
 cases r with
 |some ps=>exact ⟨ps,rfl,f⟩
 |none =>
  obtain ⟨ps,rfl⟩:=f
  have:=h (Pg.zero,4) (by simp)
  cases this
theorem follow_bad {r:Option (List Pg)} {l:List (Pg×Int)} (f:FollowP r l) {x:Pg×Int} (hx:x∈l) (h:x.2≠0∨¬ okOf x.1):r=none∨∃ ps,r=some ps∧¬ ∀ p∈ps,okOf p:=by
 cases r with
 |none=>exact .inl rfl
 |some ps =>
  obtain rfl:l=ps.map fun p=>(p,(0:Int)):=f
  obtain ⟨p,hp,rfl⟩:=List.mem_map.1 hx
  refine .inr ⟨ps,rfl,fun q=>?_⟩
  rcases h with h|h
  ·exact h rfl
  ·exact h (q p hp)
theorem comesS_snoc (pg:List Nat) (l:List Nat) (n:Nat):comesS pg (l++[n])=(comesS pg l).bind (comeS · n):=by
 induction l generalizing pg with
 |nil =>
  simp only [List.nil_append,comesS,Option.bind_some]
  cases comeS pg n<;>rfl
 |cons a l ih =>
  simp only [List.cons_append,comesS]
  cases comeS pg a with
  |none=>rfl
  |some q=>exact ih q
theorem comesS_none (pg:List Nat) (l r:List Nat) (h:comesS pg l=none):comesS pg (l++r)=none:=by
 induction l generalizing pg with
 |nil=>cases h
 |cons a l ih =>
  simp only [List.cons_append,comesS] at h ⊢
  cases e:comeS pg a with
  |none=>rfl
  |some q=>rw [e] at h; exact ih q h
structure Fine (N:Nat) (pg:List Nat):Prop where
 nd:pg.Nodup
 lt:∀ n∈pg,n<N
theorem Fine.len {N:Nat} {pg:List Nat} (f:Fine N pg):pg.length≤N:=nodup_le N pg f.nd f.lt
theorem Fine.come {N n:Nat} {pg q:List Nat} (f:Fine N pg) (e:comeS pg n=some q) (h:n<N):Fine N q:=by
 unfold comeS at e
 split at e
 ·cases e
 ·rename_i c
  cases e
  refine ⟨?_,fun m hm=>?_⟩
  ·rw [List.nodup_append]
   exact ⟨f.nd,by simp,fun a ha b hb=>by
    obtain rfl:=List.mem_singleton.1 hb
    exact fun e=>c (e ▸ ha)⟩
  ·rcases List.mem_append.1 hm with q|q
   ·exact f.lt m q
   ·obtain rfl:=List.mem_singleton.1 q
    exact h
theorem Fine.comes {N:Nat} {pg q l:List Nat} (f:Fine N pg) (e:comesS pg l=some q) (h:∀ n∈l,n<N):Fine N q:=by
 induction l generalizing pg with
 |nil=>cases e; exact f
 |cons a l ih =>
  simp only [comesS] at e
  cases ea:comeS pg a with
  |none=>rw [ea] at e; cases e
  |some p =>
   rw [ea] at e
   exact ih (f.come ea (h a (List.mem_cons_self ..))) e fun n hn=>h n (List.mem_cons_of_mem _ hn)
theorem comeS_len {pg q:List Nat} {n:Nat} (e:comeS pg n=some q):q=pg++[n]:=by
 unfold comeS at e
 split at e
 ·cases e
 ·cases e; rfl
theorem comesS_app {pg q l:List Nat} (e:comesS pg l=some q):q=pg++l:=by
 induction l generalizing pg with
 |nil=>cases e; simp
 |cons a l ih =>
  simp only [comesS] at e
  cases ea:comeS pg a with
  |none=>rw [ea] at e; cases e
  |some p =>
   rw [ea] at e
   rw [ih e,comeS_len ea,List.append_assoc]; rfl
theorem chain_lt {z:Int} {img:List UInt8} {kd:Int}:∀ (k:Nat) (met:List Nat) (n:Nat) (l:List Pg),chainS z img kd k met n=some l→l.length<k∧∀ p∈l,p.page<pages z img∧2≤p.page∧p.kind=kd∧readR z img p.page=(p,0)
 |0,_,_,_,e=>by cases e
 |k+1,met,n,l,e=>by
  unfold chainS at e
  split at e
  ·cases e; exact ⟨Nat.succ_pos _,fun p hp=>by cases hp⟩
  ·split at e
   ·cases e
   ·rename_i c
    cases er:chainS z img kd k (met++[n]) (readR z img n).1.link with
    |none=>rw [er] at e; cases e
    |some r =>
     rw [er] at e
     cases e
     obtain ⟨h1,h2⟩:=chain_lt k _ _ _ er
     have e0:(readR z img n).2=0:=Decidable.byContradiction fun q=>c (.inl q)
     obtain ⟨p1,p2⟩:=read_page e0
     refine ⟨by rw [List.length_cons]; omega,fun p hp=>?_⟩
     rcases List.mem_cons.1 hp with rfl|hp
     ·refine ⟨by omega,?_,Decidable.byContradiction fun q=>c (.inr (.inr (.inl q))),?_⟩
      ·have:¬ n<2:=fun q=>c (.inr (.inl q))
       omega
      ·rw [p1]; exact Prod.ext rfl e0
     ·exact h2 p hp
theorem over_lt {z:Int} {img:List UInt8} {hd:Nat} {ln:Int} {v:List UInt8} {ps:List Nat} (e:overS z img hd ln=some (v,ps)):(∀ n∈ps,n<pages z img∧2≤n)∧ps.length≤pages z img+1∧(v.length:Int)=ln∧1≤ln:=by
 unfold overS at e
 split at e
 ·cases ec:chainS z img 5 (pages z img+2) [] hd with
  |none=>rw [ec] at e; cases e
  |some l =>
   rw [ec] at e
   have e:overV ln l=some (v,ps):=e
   unfold overV at e
   split at e
   ·rename_i c
    cases e
    obtain ⟨h1,h2⟩:=chain_lt _ _ _ _ ec
    refine ⟨fun n hn=>?_,by rw [List.length_map]; omega,c.2.2,c.2.1⟩
    obtain ⟨p,hp,rfl⟩:=List.mem_map.1 hn
    exact ⟨(h2 p hp).1,(h2 p hp).2.1⟩
   ·cases e
 ·cases e
theorem sizeI_ge (l:List It):3*l.length≤sizeI l:=by
 induction l with
 |nil=>simp [sizeI]
 |cons a r ih =>
  simp only [sizeI,List.map_cons,List.sum_cons,List.length_cons] at ih ⊢
  have:3≤szI a:=by unfold szI; split<;>omega
  omega
theorem ofI_len {p:Pg} {l:List It} (e:ofI p=some l):l.length≤1400∧mayI l:=by
 unfold ofI at e
 cases ep:parseI p.count.toNat p.body with
 |none=>rw [ep] at e; cases e
 |some r =>
  rw [ep] at e
  have e:(if pageI (p.body.length+24) p.page p.tx r=(p,0) then some r else none)=some l:=e
  split at e
  ·rename_i c
   cases e
   unfold pageI at c
   split at c
   ·rename_i d
    have:=room_le ((p.body.length:Int)+24)
    have hs:=sizeI_ge l
    exact ⟨by omega,d.1⟩
   ·cases congrArg Prod.snd c
  ·cases e
theorem pages_157 {z:Int} {img:List UInt8} (hi:img.length≤20000):pages z img≤157:=by
 unfold pages
 split
 ·rename_i g
  have:=g.1
  refine Nat.div_le_of_le_mul ?_
  have:128≤z.toNat:=by omega
  have:=Nat.mul_le_mul_right 157 this
  omega
 ·omega
structure RdT (R:Nat) (S S':Nat→Prop) (h h':Heap):Prop where
 nx:h.next≤h'.next
 old:∀ c,c<h.next→c≠R→¬ S c→h'.get c=h.get c
 ok:h.ok→h'.ok
 grow:∀ c,S' c→S c∨h.next≤c
theorem RdT.refl {R:Nat} {S:Nat→Prop} (h:Heap):RdT R S S h h:=⟨Nat.le_refl _,fun _ _ _ _=>rfl,fun k=>k,fun c q=>.inl q⟩
theorem RdT.trans {R:Nat} {S S1 S2:Nat→Prop} {h h1 h2:Heap} (a:RdT R S S1 h h1) (b:RdT R S1 S2 h1 h2):RdT R S S2 h h2:=by
 have n1:=a.nx
 refine ⟨Nat.le_trans a.nx b.nx,fun c hc hr hs=>?_,fun k=>b.ok (a.ok k),fun c q=>?_⟩
 ·refine (b.old c (by omega) hr fun q=>?_).trans (a.old c hc hr hs)
  rcases a.grow c q with q|q
  ·exact hs q
  ·omega
 ·rcases b.grow c q with q|q
  ·exact a.grow c q
  ·exact .inr (by omega)
theorem RdT.ext {R:Nat} {S:Nat→Prop} {h h':Heap} (x:Ext h h'):RdT R S S h h':=⟨x.nx,fun c hc _ _=>x.old c hc,x.ok,fun c q=>.inl q⟩
theorem RdT.Ls {α:Type} {enc:α→List AV} {sz:Nat} {R:Nat} {S S' S0:Nat→Prop} {h h':Heap} {v:AV} {l:List α} {e:TypeId} (t:RdT R S S' h h') (o:OwnLS enc e sz S0 h v l) (d:∀ c,S0 c→c≠R∧¬ S c):OwnLS enc e sz S0 h' v l:=o.keep (fun c q hl=>t.old c hl (d c q).1 (d c q).2) t.nx
theorem RdT.put {R:Nat} {S:Nat→Prop} {h:Heap} (rl:R<h.next) (o:AObj):RdT R S S h (h.set R o):=⟨Nat.le_refl _,fun c _ hr _=>Heap.gn _ _ _ _ hr,fun k=>ok_st k _ _ rl,fun c q=>.inl q⟩
structure Grown2 (N:Nat) (s t:Rs):Prop where
 f:Fine N t.pg
 le:s.pg.length≤t.pg.length
theorem itemS_grow {z:Int} {img:List UInt8} {b:Bd} {s t:Rs} {x:It} (f:Fine (pages z img) s.pg) (e:itemS z img b s x=some t):Grown2 (pages z img) s t∧t.out.length=s.out.length+1:=by
 unfold itemS at e
 split at e
 ·cases ov:x.over with
  |false=>rw [ov] at e; cases e; exact ⟨⟨f,Nat.le_refl _⟩,by simp⟩
  |true =>
   rw [ov] at e
   cases e7:overS z img x.head x.len with
   |none=>rw [e7] at e; cases e
   |some r =>
    obtain ⟨v,ps⟩:=r
    rw [e7] at e
    have e:(match comesS s.pg ps with
     |none=>none
     |some q=>some (⟨q,s.deep,s.out++[⟨x.key,v⟩]⟩:Rs))=some t:=e
    cases e8:comesS s.pg ps with
    |none=>rw [e8] at e; cases e
    |some q =>
     rw [e8] at e
     cases e
     have:=comesS_app e8
     exact ⟨⟨f.comes e8 fun n hn=>((over_lt e7).1 n hn).1,by rw [this]; simp⟩,by simp⟩
 ·cases e
theorem itemsS_grow {z:Int} {img:List UInt8} {b:Bd}:∀ {l:List It} {s t:Rs},Fine (pages z img) s.pg→itemsS z img b s l=some t→Grown2 (pages z img) s t∧t.out.length=s.out.length+l.length
 |[],s,t,f,e=>by cases e; exact ⟨⟨f,Nat.le_refl _⟩,rfl⟩
 |x::l,s,t,f,e=>by
  unfold itemsS at e
  cases e1:itemS z img b s x with
  |none=>rw [e1] at e; cases e
  |some s' =>
   rw [e1] at e
   obtain ⟨g1,o1⟩:=itemS_grow f e1
   obtain ⟨g2,o2⟩:=itemsS_grow g1.f e
   exact ⟨⟨g2.f,Nat.le_trans g1.le g2.le⟩,by rw [o2,o1,List.length_cons]; omega⟩
theorem leafS_grow {z:Int} {img:List UInt8} {p:Pg} {d:Nat} {b:Bd} {s t:Rs} (f:Fine (pages z img) s.pg) (ho:s.out.length+1400≤1400*s.pg.length) (e:leafS z img p d b s=some t):Grown2 (pages z img) s t∧t.out.length≤1400*t.pg.length:=by
 unfold leafS at e
 cases el:ofI p with
 |none=>rw [el] at e; cases e
 |some l =>
  rw [el] at e
  have e:(if s.deep=0∨s.deep=d then itemsS z img b ⟨s.pg,d,s.out⟩ l else none)=some t:=e
  split at e
  ·obtain ⟨g,o⟩:=itemsS_grow (s:=⟨s.pg,d,s.out⟩) f e
   have:=(ofI_len el).1
   have gl:=g.le
   dsimp only at o gl
   exact ⟨⟨g.f,gl⟩,by omega⟩
  ·cases e
theorem forksS_grow {N:Nat} {go:Nat→Bd→Rs→Option Rs} {b:Bd} {l:List Fk} (hg:∀ n c s t,Fine N s.pg→s.out.length≤1400*s.pg.length→go n c s=some t→Grown2 N s t∧t.out.length≤1400*t.pg.length):∀ (k i:Nat) (s t:Rs),Fine N s.pg→s.out.length≤1400*s.pg.length→forksS go b l i k s=some t→Grown2 N s t∧t.out.length≤1400*t.pg.length
 |0,i,s,t,f,ho,e=>by cases e; exact ⟨⟨f,Nat.le_refl _⟩,ho⟩
 |k+1,i,s,t,f,ho,e=>by
  unfold forksS at e
  split at e
  ·cases e
  ·cases e1:go (l.getD i ⟨[],0⟩).child (forkB b l i) s with
   |none=>rw [e1] at e; cases e
   |some s' =>
    rw [e1] at e
    obtain ⟨g1,o1⟩:=hg _ _ _ _ f ho e1
    obtain ⟨g2,o2⟩:=forksS_grow hg k (i+1) s' t g1.f o1 e
    exact ⟨⟨g2.f,Nat.le_trans g1.le g2.le⟩,o2⟩
theorem nodeS_grow {z:Int} {img:List UInt8}:∀ (k:Nat) (n:Nat) (b:Bd) (s t:Rs),Fine (pages z img) s.pg→s.out.length≤1400*s.pg.length→nodeS z img k n b s=some t→Grown2 (pages z img) s t∧t.out.length≤1400*t.pg.length
 |0,n,b,s,t,f,ho,e=>by cases e
 |k+1,n,b,s,t,f,ho,e=>by
  unfold nodeS at e
  cases e1:comeS s.pg n with
  |none=>rw [e1] at e; cases e
  |some q =>
   rw [e1] at e
   have e:(if n<2∨(readR z img n).2≠0 then none else if (readR z img n).1.kind=4 then leafS z img (readR z img n).1 (16-k) b ⟨q,s.deep,s.out⟩ else match ofB (readR z img n).1 with
    |none=>none
    |some l=>forksS (nodeS z img k) b l 0 l.length ⟨q,s.deep,s.out⟩)=some t:=e
   split at e
   ·cases e
   ·rename_i c
    have e0:(readR z img n).2=0:=Decidable.byContradiction fun q=>c (.inr q)
    have fq:=f.come e1 (read_page e0).2
    have lq:=comeS_len e1
    have lq:q.length=s.pg.length+1:=by rw [lq]; simp
    split at e
    ·obtain ⟨g,o⟩:=leafS_grow (s:=⟨q,s.deep,s.out⟩) fq (by simp only; omega) e
     have gl:=g.le
     dsimp only at gl
     exact ⟨⟨g.f,by omega⟩,o⟩
    ·cases el:ofB (readR z img n).1 with
     |none=>rw [el] at e; cases e
     |some l =>
      rw [el] at e
      obtain ⟨g,o⟩:=forksS_grow (nodeS_grow k) _ _ ⟨q,s.deep,s.out⟩ t fq (by simp only; omega) e
      have gl:=g.le
      dsimp only at gl
      exact ⟨⟨g.f,by omega⟩,o⟩
theorem sizeB_ge (l:List Fk):5*l.length≤sizeB l:=by
 induction l with
 |nil=>simp [sizeB]
 |cons a r ih =>
  simp only [sizeB,List.map_cons,List.sum_cons,List.length_cons] at ih ⊢
  omega
theorem ofB_500 {p:Pg} {l:List Fk} (e:ofB p=some l):l.length≤1000∧mayB l:=by
 unfold ofB at e
 cases ep:parseF p.count.toNat p.body with
 |none=>rw [ep] at e; cases e
 |some r =>
  rw [ep] at e
  have e:(if pageB (p.body.length+24) p.page p.tx r=(p,0) then some r else none)=some l:=e
  split at e
  ·rename_i c
   cases e
   unfold pageB at c
   split at c
   ·rename_i d
    have:=room_le ((p.body.length:Int)+24)
    have hs:=sizeB_ge l
    exact ⟨by omega,d.1⟩
   ·cases congrArg Prod.snd c
  ·cases e
theorem treeS_grow {z:Int} {img:List UInt8} {root:Nat} {pg:List Nat} {t:Rs} (f:Fine (pages z img) pg) (e:treeS z img root pg=some t):Fine (pages z img) t.pg∧pg.length≤t.pg.length∧t.out.length≤1400*t.pg.length:=by
 unfold treeS at e
 split at e
 ·cases e; exact ⟨f,Nat.le_refl _,Nat.zero_le _⟩
 ·obtain ⟨g,o⟩:=nodeS_grow 16 root .all ⟨pg,0,[]⟩ t f (Nat.zero_le _) e
  exact ⟨g.f,g.le,o⟩
theorem ofC_500 {p:Pg} {l:List Bk} (e:ofC p=some l):l.length≤500∧okC l:=by
 unfold ofC at e
 cases ep:parseC p.count.toNat p.body with
 |none=>rw [ep] at e; cases e
 |some r =>
  rw [ep] at e
  have e:(if pageC (p.body.length+24) p.page p.tx r=(p,0) then some r else none)=some l:=e
  split at e
  ·rename_i c
   cases e
   unfold pageC at c
   split at c
   ·rename_i d
    exact ⟨mayC_len d.1,d.1.1⟩
   ·cases congrArg Prod.snd c
  ·cases e
theorem OwnS.form {e:TypeId} {sz n:Nat} {S:Nat→Prop} {h:Heap} {v:AV} {cs:List AV} (w:OwnS e sz S h v n cs):v=.nilslice∨(∃ B n c,v=.slice B 0 n c)∨∃ B n c,v=.oslice B 0 n c:=by
 cases w with
 |nil=>exact .inl rfl
 |sl=>exact .inr (.inl ⟨_,_,_,rfl⟩)
 |os=>exact .inr (.inr ⟨_,_,_,rfl⟩)
def Nm.cs (x:List UInt8×AV):List AV:=[.str x.1,x.2]
theorem Nm.len (x:List UInt8×AV):(Nm.cs x).length=2:=rfl
def DenL (h:Heap) (v:AV) (bs:List (List UInt8×List Pr)):Prop:=∃ l,Ls Nm.cs 2 h v l∧l.length=bs.length∧∀ (j:Nat) (x:List UInt8×AV) (b:List UInt8×List Pr),l[j]?=some x→bs[j]?=some b→x.1=b.1∧Ls Pr.cs 2 h x.2 b.2
theorem DenL.ext {h h':Heap} {v:AV} {bs:List (List UInt8×List Pr)} (d:DenL h v bs) (x:Ext h h'):DenL h' v bs:=by
 obtain ⟨l,a,b,c⟩:=d
 exact ⟨l,a.ext x,b,fun j y b h1 h2=>⟨(c j y b h1 h2).1,(c j y b h1 h2).2.ext x⟩⟩
end Go.Proofs.YtmnhbehmjaibgaaGreat
