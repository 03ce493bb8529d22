/- What the functions of this part answer at any input, told by the rules over the evaluator. Conditions: those that each theorem states. -/
import Derived.Test.YtmnhbehmjaibgaaGreatDen
import Derived.Test.YtmnhbehmjaibgaaGreatRf1
import Derived.Test.YtmnhbehmjaibgaaGreatGof
set_option linter.unusedVariables false
set_option linter.unusedSimpArgs false
open Go Ev
namespace Go.Proofs.YtmnhbehmjaibgaaGreat
set_option maxRecDepth 10000
set_option maxHeartbeats 4000000
section
variable {z:Int} {img img2:List UInt8} {Q:Nat→Prop}
structure Alike (z:Int) (img img2:List UInt8) (Q:Nat→Prop):Prop where
 r:∀ p,Q p→readR z img2 p=readR z img p
 n:pages z img2=pages z img
theorem chain_alike (a:Alike z img img2 Q) {kd:Int}:∀ (k:Nat) (met:List Nat) (n:Nat) (l:List Pg),chainS z img kd k met n=some l→(∀ p∈l,Q p.page)→chainS z img2 kd k met n=some l
 |0,_,_,_,e,_=>by cases e
 |k+1,met,n,l,e,h=>by
  have hl:=chain_lt _ _ _ _ e
  unfold chainS at e ⊢
  split at e
  ·rename_i c
   rw [if_pos c]
   exact e
  ·rename_i c0
   rw [if_neg c0]
   split at e
   ·cases e
   ·rename_i c
    cases er:chainS z img kd k (met++[n]) (readR z img n).1.link with
    |none=>rw [er] at e; cases e
    |some r =>
     rw [er] at e
     cases e
     have e0:(readR z img n).2=0:=Decidable.byContradiction fun q=>c (.inl q)
     have hq:Q n:=by
      have:=h (readR z img n).1 (List.mem_cons_self ..)
      rwa [(read_page e0).1] at this
     rw [a.r n hq,if_neg c,chain_alike a k _ _ r er fun p hp=>h p (List.mem_cons_of_mem _ hp)]
     rfl
theorem over_alike (a:Alike z img img2 Q) {hd:Nat} {ln:Int} {v:List UInt8} {ps:List Nat} (e:overS z img hd ln=some (v,ps)) (h:∀ p∈ps,Q p):overS z img2 hd ln=some (v,ps):=by
 unfold overS at e ⊢
 split at e
 ·rename_i g
  rw [if_pos g]
  cases ec:chainS z img 5 (pages z img+2) [] hd with
  |none=>rw [ec] at e; cases e
  |some l =>
   rw [ec] at e
   have e1:overV ln l=some (v,ps):=e
   unfold overV at e1
   split at e1
   ·rename_i c
    have e2:ps=l.map (·.page):=by cases e1; rfl
    rw [a.n,chain_alike a _ _ _ l ec fun p hp=>h _ (by rw [e2]; exact List.mem_map.2 ⟨p,hp,rfl⟩)]
    exact e
   ·cases e1
 ·cases e
theorem item_alike (a:Alike z img img2 Q) {b:Bd} {s t:Rs} {x:It} (e:itemS z img b s x=some t) (h:∀ p∈t.pg,Q p):itemS z img2 b s x=some t:=by
 unfold itemS at e ⊢
 split at e
 ·rename_i c
  rw [if_pos c]
  cases ov:x.over with
  |false=>rw [ov] at e; exact e
  |true =>
   rw [ov] at e
   cases e7:overS z img x.head x.len with
   |none=>rw [e7] at e; cases e
   |some r =>
    obtain ⟨v,ps⟩:=r
    rw [e7] at e
    have e:(match comesS s.pg ps with
     |none=>none
     |some q=>some (⟨q,s.deep,s.out++[⟨x.key,v⟩]⟩:Rs))=some t:=e
    cases e8:comesS s.pg ps with
    |none=>rw [e8] at e; cases e
    |some q =>
     have eq:=comesS_app e8
     rw [e8] at e
     cases e
     have e9:=over_alike a e7 fun p hp=>h p (by show p∈q; rw [eq]; exact List.mem_append_right _ hp)
     simp only [e9,e8]
 ·cases e
theorem comesS_mono {pg q l:List Nat} (e:comesS pg l=some q):∀ p∈pg,p∈q:=fun p hp=>by rw [comesS_app e]; exact List.mem_append_left _ hp
theorem item_mono {b:Bd} {s t:Rs} {x:It} (e:itemS z img b s x=some t):∀ p∈s.pg,p∈t.pg:=by
 unfold itemS at e
 split at e
 ·cases ov:x.over with
  |false=>rw [ov] at e; cases e; exact fun p hp=>hp
  |true =>
   rw [ov] at e
   cases e7:overS z img x.head x.len with
   |none=>rw [e7] at e; cases e
   |some r =>
    obtain ⟨v,ps⟩:=r
    rw [e7] at e
    have e:(match comesS s.pg ps with
     |none=>none
     |some q=>some (⟨q,s.deep,s.out++[⟨x.key,v⟩]⟩:Rs))=some t:=e
    cases e8:comesS s.pg ps with
    |none=>rw [e8] at e; cases e
    |some q=>rw [e8] at e; cases e; exact comesS_mono e8
 ·cases e
theorem items_mono {b:Bd}:∀ {l:List It} {s t:Rs},itemsS z img b s l=some t→∀ p∈s.pg,p∈t.pg
 |[],s,t,e=>by cases e; exact fun p hp=>hp
 |x::l,s,t,e=>by
  unfold itemsS at e
  cases e1:itemS z img b s x with
  |none=>rw [e1] at e; cases e
  |some s'=>rw [e1] at e; exact fun p hp=>items_mono e p (item_mono e1 p hp)
theorem items_alike (a:Alike z img img2 Q) {b:Bd}:∀ {l:List It} {s t:Rs},itemsS z img b s l=some t→(∀ p∈t.pg,Q p)→itemsS z img2 b s l=some t
 |[],s,t,e,_=>e
 |x::l,s,t,e,h=>by
  unfold itemsS at e ⊢
  cases e1:itemS z img b s x with
  |none=>rw [e1] at e; cases e
  |some s' =>
   rw [e1] at e
   rw [item_alike a e1 fun p hp=>h p (items_mono e p hp)]
   exact items_alike a e h
theorem leaf_mono {p:Pg} {d:Nat} {b:Bd} {s t:Rs} (e:leafS z img p d b s=some t):∀ p∈s.pg,p∈t.pg:=by
 unfold leafS at e
 cases el:ofI p with
 |none=>rw [el] at e; cases e
 |some l =>
  rw [el] at e
  have e:(if s.deep=0∨s.deep=d then itemsS z img b ⟨s.pg,d,s.out⟩ l else none)=some t:=e
  split at e
  ·exact items_mono (s:=⟨s.pg,d,s.out⟩) e
  ·cases e
theorem leaf_alike (a:Alike z img img2 Q) {p:Pg} {d:Nat} {b:Bd} {s t:Rs} (e:leafS z img p d b s=some t) (h:∀ p∈t.pg,Q p):leafS z img2 p d b s=some t:=by
 unfold leafS at e ⊢
 cases el:ofI p with
 |none=>rw [el] at e; cases e
 |some l =>
  rw [el] at e
  have e:(if s.deep=0∨s.deep=d then itemsS z img b ⟨s.pg,d,s.out⟩ l else none)=some t:=e
  split at e
  ·rename_i c
   show (if s.deep=0∨s.deep=d then itemsS z img2 b ⟨s.pg,d,s.out⟩ l else none)=some t
   rw [if_pos c]
   exact items_alike a e h
  ·cases e
theorem forks_mono {go:Nat→Bd→Rs→Option Rs} {b:Bd} {l:List Fk} (hg:∀ n c s t,go n c s=some t→∀ p∈s.pg,p∈t.pg):∀ (k i:Nat) (s t:Rs),forksS go b l i k s=some t→∀ p∈s.pg,p∈t.pg
 |0,i,s,t,e=>by cases e; exact fun p hp=>hp
 |k+1,i,s,t,e=>by
  unfold forksS at e
  split at e
  ·cases e
  ·cases e1:go (l.getD i ⟨[],0⟩).child (forkB b l i) s with
   |none=>rw [e1] at e; cases e
   |some s'=>rw [e1] at e; exact fun p hp=>forks_mono hg k (i+1) s' t e p (hg _ _ _ _ e1 p hp)
theorem forks_alike {go go2:Nat→Bd→Rs→Option Rs} {b:Bd} {l:List Fk} (hm:∀ n c s t,go n c s=some t→∀ p∈s.pg,p∈t.pg) (hg:∀ n c s t,go n c s=some t→(∀ p∈t.pg,Q p)→go2 n c s=some t):∀ (k i:Nat) (s t:Rs),forksS go b l i k s=some t→(∀ p∈t.pg,Q p)→forksS go2 b l i k s=some t
 |0,i,s,t,e,_=>e
 |k+1,i,s,t,e,h=>by
  unfold forksS at e ⊢
  split at e
  ·cases e
  ·rename_i c
   rw [if_neg c]
   cases e1:go (l.getD i ⟨[],0⟩).child (forkB b l i) s with
   |none=>rw [e1] at e; cases e
   |some s' =>
    rw [e1] at e
    rw [hg _ _ _ _ e1 fun p hp=>h p (forks_mono hm k (i+1) s' t e p hp)]
    exact forks_alike hm hg k (i+1) s' t e h
theorem come_mono {pg q:List Nat} {n:Nat} (e:comeS pg n=some q):(∀ p∈pg,p∈q)∧n∈q:=by
 rw [comeS_len e]
 exact ⟨fun p hp=>List.mem_append_left _ hp,List.mem_append_right _ (by simp)⟩
theorem node_in:∀ (k n:Nat) (b:Bd) (s t:Rs),nodeS z img k n b s=some t→(∀ p∈s.pg,p∈t.pg)∧n∈t.pg
 |0,n,b,s,t,e=>by cases e
 |k+1,n,b,s,t,e=>by
  unfold nodeS at e
  cases e1:comeS s.pg n with
  |none=>rw [e1] at e; cases e
  |some q =>
   rw [e1] at e
   have e:(if n<2∨(readR z img n).2≠0 then none else if (readR z img n).1.kind=4 then leafS z img (readR z img n).1 (16-k) b ⟨q,s.deep,s.out⟩ else match ofB (readR z img n).1 with
    |none=>none
    |some l=>forksS (nodeS z img k) b l 0 l.length ⟨q,s.deep,s.out⟩)=some t:=e
   obtain ⟨c1,c2⟩:=come_mono e1
   have key:∀ p∈q,p∈t.pg:=by
    split at e
    ·cases e
    ·split at e
     ·exact leaf_mono e
     ·cases el:ofB (readR z img n).1 with
      |none=>rw [el] at e; cases e
      |some l =>
       rw [el] at e
       exact forks_mono (fun n c s t e=>(node_in k n c s t e).1) _ _ ⟨q,s.deep,s.out⟩ t e
   exact ⟨fun p hp=>key p (c1 p hp),key n c2⟩
theorem node_alike (a:Alike z img img2 Q):∀ (k n:Nat) (b:Bd) (s t:Rs),nodeS z img k n b s=some t→(∀ p∈t.pg,Q p)→nodeS z img2 k n b s=some t
 |0,n,b,s,t,e,_=>by cases e
 |k+1,n,b,s,t,e,h=>by
  have hq:=h n (node_in _ _ _ _ _ e).2
  unfold nodeS at e ⊢
  rw [a.r n hq]
  cases e1:comeS s.pg n with
  |none=>rw [e1] at e; cases e
  |some q =>
   rw [e1] at e
   have e:(if n<2∨(readR z img n).2≠0 then none else if (readR z img n).1.kind=4 then leafS z img (readR z img n).1 (16-k) b ⟨q,s.deep,s.out⟩ else match ofB (readR z img n).1 with
    |none=>none
    |some l=>forksS (nodeS z img k) b l 0 l.length ⟨q,s.deep,s.out⟩)=some t:=e
   show (if n<2∨(readR z img n).2≠0 then none else if (readR z img n).1.kind=4 then leafS z img2 (readR z img n).1 (16-k) b ⟨q,s.deep,s.out⟩ else match ofB (readR z img n).1 with
    |none=>none
    |some l=>forksS (nodeS z img2 k) b l 0 l.length ⟨q,s.deep,s.out⟩)=some t
   split at e
   ·cases e
   ·rename_i c
    rw [if_neg c]
    split at e
    ·rename_i c4
     rw [if_pos c4]
     exact leaf_alike a e h
    ·rename_i c4
     rw [if_neg c4]
     cases el:ofB (readR z img n).1 with
     |none=>rw [el] at e; cases e
     |some l =>
      rw [el] at e
      exact forks_alike (fun n c s t e=>(node_in k n c s t e).1) (node_alike a k) _ _ _ _ e h
theorem tree_in {root:Nat} {pg:List Nat} {t:Rs} (e:treeS z img root pg=some t):∀ p∈pg,p∈t.pg:=by
 unfold treeS at e
 split at e
 ·cases e; exact fun p hp=>hp
 ·exact (node_in _ _ _ ⟨pg,0,[]⟩ _ e).1
theorem tree_alike (a:Alike z img img2 Q) {root:Nat} {pg:List Nat} {t:Rs} (e:treeS z img root pg=some t) (h:∀ p∈t.pg,Q p):treeS z img2 root pg=some t:=by
 unfold treeS at e ⊢
 split at e
 ·rename_i c; rw [if_pos c]; exact e
 ·rename_i c; rw [if_neg c]; exact node_alike a _ _ _ _ _ e h
theorem buckets_alike (a:Alike z img img2 Q):∀ (l:List Bk) (pg:List Nat) (out:List (List UInt8×List Pr)) (pg2:List Nat) (bs:List (List UInt8×List Pr)),bucketsS z img pg out l=some (pg2,bs)→(∀ p∈pg2,Q p)→(∀ p∈pg,p∈pg2)∧bucketsS z img2 pg out l=some (pg2,bs)
 |[],pg,out,pg2,bs,e,_=>by cases e; exact ⟨fun p hp=>hp,rfl⟩
 |b::l,pg,out,pg2,bs,e,h=>by
  unfold bucketsS at e ⊢
  cases e1:treeS z img b.root pg with
  |none=>rw [e1] at e; cases e
  |some s =>
   rw [e1] at e
   have e:(if (s.out.length:Int)=b.keys then bucketsS z img s.pg (out++[(b.name,s.out)]) l else none)=some (pg2,bs):=e
   split at e
   ·rename_i c
    obtain ⟨m,r⟩:=buckets_alike a l s.pg _ pg2 bs e h
    refine ⟨fun p hp=>m p (tree_in e1 p hp),?_⟩
    rw [tree_alike a e1 fun p hp=>h p (m p hp)]
    show (if (s.out.length:Int)=b.keys then bucketsS z img2 s.pg (out++[(b.name,s.out)]) l else none)=_
    rw [if_pos c]
    exact r
   ·cases e
theorem den_alike (a:Alike z img img2 Q) {n:Nat} {pg:List Nat} {bs:List (List UInt8×List Pr)} (e:denS z img n=some (pg,bs)) (h:∀ p∈pg,Q p):denS z img2 n=some (pg,bs):=by
 unfold denS at e ⊢
 split at e
 ·rename_i c; rw [if_pos c]; exact e
 ·rename_i c
  rw [if_neg c]
  split at e
  ·cases e
  ·rename_i c2
   cases el:ofC (rightR z img n 2).1 with
   |none=>rw [el] at e; cases e
   |some l =>
    rw [el] at e
    have hn:=(buckets_alike (img2:=img2) (Q:=fun p=>p∈pg) ⟨fun p hp=>a.r p (h p hp),a.n⟩ l [n] [] pg bs e fun p hp=>hp).1 n (by simp)
    have er:rightR z img2 n 2=rightR z img n 2:=by unfold rightR; rw [a.r n (h n hn)]
    rw [er,if_neg c2,el]
    exact (buckets_alike a l [n] [] pg bs e h).2
end
theorem den_apart {z:Int} {img block:List UInt8} {k n:Nat} {pg:List Nat} {bs:List (List UInt8×List Pr)} (hb:block.length=z.toNat) (hk:k<pages z img) (e:denS z img n=some (pg,bs)) (h:k ∉ pg):denS z (img.take (k*z.toNat)++block++img.drop (k*z.toNat+z.toNat)) n=some (pg,bs):=by
 have hkl:=(at_in hk).2
 have hl:(img.take (k*z.toNat)++block++img.drop (k*z.toNat+z.toNat)).length=img.length:=by simp; omega
 refine den_alike (Q:=fun p=>p≠k) ⟨fun p hp=>?_,apart_pages hl⟩ e fun p hp e=>h (e ▸ hp)
 unfold readR
 rw [apart_pages hl,apart_at hb hkl hp]
set_option maxRecDepth 10000
set_option maxHeartbeats 4000000
theorem bl_op:∀ (x y:List UInt8),Op.bytesLess x y=decide (x<y)
 |[],[]=>by simp [Op.bytesLess]
 |_::_,[]=>by simp [Op.bytesLess]
 |[],_::_=>by simp [Op.bytesLess]
 |a::x,b::y=>by
  rw [Op.bytesLess,bl_op x y]
  simp only [List.cons_lt_cons_iff]
  by_cases h1:a<b<;>by_cases h2:a=b<;>by_cases h3:x<y<;>simp [h1,h2,h3]
theorem bl_eq (a b:List UInt8):bytesLess a b=decide (a<b):=(Ev.bytesLess_eq a b).trans (bl_op a b)
theorem bl_trans {a b c:List UInt8} (h1:bytesLess a b=true) (h2:bytesLess b c=true):bytesLess a c=true:=by
 rw [bl_eq,decide_eq_true_eq] at *
 exact List.lt_trans h1 h2
theorem bl_irr (a:List UInt8):bytesLess a a=false:=by
 rw [bl_eq,decide_eq_false_iff_not]
 exact List.lt_irrefl a
theorem bl_ge_trans {a b c:List UInt8} (h1:bytesLess b a=false) (h2:bytesLess c b=false):bytesLess c a=false:=by
 rw [bl_eq,decide_eq_false_iff_not] at *
 exact List.not_lt.2 (List.le_trans (List.not_lt.1 h1) (List.not_lt.1 h2))
theorem bl_lt_ge {a b c:List UInt8} (h1:bytesLess a b=true) (h2:bytesLess c b=false):bytesLess a c=true:=by
 rw [bl_eq,decide_eq_true_eq] at h1 ⊢
 rw [bl_eq,decide_eq_false_iff_not] at h2
 exact Decidable.byContradiction fun q=>h2 (List.lt_of_le_of_lt (List.not_lt.1 q) h1)
def Rise (l:List Pr):Prop:=l.Pairwise fun a b=>bytesLess a.key b.key=true
theorem adj_pair {α:Type} {R:α→α→Prop} (tr:∀ a b c,R a b→R b c→R a c):∀ (l:List α),(∀ i a b,l[i]?=some a→l[i+1]?=some b→R a b)→l.Pairwise R
 |[],_=>.nil
 |[x],_=>by simp
 |x::y::l,h=>by
  have ih:=adj_pair tr (y::l) fun i a b h1 h2=>h (i+1) a b (by simpa using h1) (by simpa using h2)
  have hxy:=h 0 x y rfl rfl
  refine List.pairwise_cons.2 ⟨fun a ha=>?_,ih⟩
  rcases List.mem_cons.1 ha with rfl|ha
  ·exact hxy
  ·exact tr _ _ _ hxy ((List.pairwise_cons.1 ih).1 a ha)
section
variable {z:Int} {img:List UInt8}
theorem item_out {b:Bd} {s t:Rs} {x:It} (e:itemS z img b s x=some t):b.inside x.key=true∧∃ v,t.out=s.out++[⟨x.key,v⟩]:=by
 unfold itemS at e
 split at e
 ·rename_i c
  refine ⟨c,?_⟩
  cases ov:x.over with
  |false=>rw [ov] at e; cases e; exact ⟨_,rfl⟩
  |true =>
   rw [ov] at e
   cases e7:overS z img x.head x.len with
   |none=>rw [e7] at e; cases e
   |some r =>
    obtain ⟨v,ps⟩:=r
    rw [e7] at e
    have e:(match comesS s.pg ps with
     |none=>none
     |some q=>some (⟨q,s.deep,s.out++[⟨x.key,v⟩]⟩:Rs))=some t:=e
    cases e8:comesS s.pg ps with
    |none=>rw [e8] at e; cases e
    |some q=>rw [e8] at e; cases e; exact ⟨_,rfl⟩
 ·cases e
theorem items_out {b:Bd}:∀ {l:List It} {s t:Rs},itemsS z img b s l=some t→∃ new,t.out=s.out++new∧new.map (·.key)=l.map (·.key)∧∀ x∈new,b.inside x.key=true
 |[],s,t,e=>by cases e; exact ⟨[],by simp,rfl,fun x hx=>by cases hx⟩
 |y::l,s,t,e=>by
  unfold itemsS at e
  cases e1:itemS z img b s y with
  |none=>rw [e1] at e; cases e
  |some s' =>
   rw [e1] at e
   obtain ⟨c,v,o⟩:=item_out e1
   obtain ⟨new,o2,m,i⟩:=items_out e
   refine ⟨⟨y.key,v⟩::new,by rw [o2,o]; simp,by simp [m],fun x hx=>?_⟩
   rcases List.mem_cons.1 hx with rfl|hx
   ·exact c
   ·exact i x hx
theorem leaf_out {p:Pg} {d:Nat} {b:Bd} {s t:Rs} (e:leafS z img p d b s=some t):∃ new,t.out=s.out++new∧Rise new∧∀ x∈new,b.inside x.key=true:=by
 unfold leafS at e
 cases el:ofI p with
 |none=>rw [el] at e; cases e
 |some l =>
  rw [el] at e
  have e:(if s.deep=0∨s.deep=d then itemsS z img b ⟨s.pg,d,s.out⟩ l else none)=some t:=e
  split at e
  ·obtain ⟨new,o,m,i⟩:=items_out e
   refine ⟨new,o,?_,i⟩
   have ok:=(ofI_len el).2.1
   have pw:(l.map (·.key)).Pairwise (fun a b=>bytesLess a b=true):=by
    rw [List.pairwise_map]
    refine adj_pair (R:=fun a b:It=>bytesLess a.key b.key=true) (fun a b c=>bl_trans) l fun i a b h1 h2=>?_
    exact (ok (i+1) b h2).2 (by omega) a (by simpa using h1)
   rw [← m,List.pairwise_map] at pw
   exact pw
  ·cases e
theorem inside_iff {b:Bd} {k:List UInt8}:b.inside k=true↔bytesLess k b.low=false∧(b.high=true→bytesLess k b.less=true):=by
 unfold Bd.inside
 cases bytesLess k b.low<;>cases b.high<;>simp
theorem forks_out {go:Nat→Bd→Rs→Option Rs} {b:Bd} {l:List Fk} (ok:okB l) (hg:∀ n c s t,go n c s=some t→∃ new,t.out=s.out++new∧Rise new∧∀ x∈new,c.inside x.key=true):∀ (k i:Nat) (s t:Rs),i+k=l.length→forksS go b l i k s=some t→∃ new,t.out=s.out++new∧Rise new∧∀ x∈new,b.inside x.key=true∧(0<i→bytesLess x.key (l.getD i ⟨[],0⟩).key=false)
 |0,i,s,t,hk,e=>by cases e; exact ⟨[],by simp,.nil,fun x hx=>by cases hx⟩
 |k+1,i,s,t,hk,e=>by
  unfold forksS at e
  split at e
  ·cases e
  ·rename_i c
   cases e1:go (l.getD i ⟨[],0⟩).child (forkB b l i) s with
   |none=>rw [e1] at e; cases e
   |some s' =>
    rw [e1] at e
    have e:forksS go b l (i+1) k s'=some t:=e
    obtain ⟨n1,o1,r1,i1⟩:=hg _ _ _ _ e1
    obtain ⟨n2,o2,r2,i2⟩:=forks_out ok hg k (i+1) s' t (by omega) e
    have nx:i+1<l.length→b.inside (l.getD (i+1) ⟨[],0⟩).key=true:=fun h=>by
     obtain ⟨k',rfl⟩:∃ k',k=k'+1:=⟨k-1,by omega⟩
     unfold forksS at e
     split at e
     ·cases e
     ·rename_i c'
      cases q:b.inside (l.getD (i+1) ⟨[],0⟩).key with
      |true=>rfl
      |false=>exact absurd ⟨by omega,q⟩ c'
    have one:∀ x∈n1,b.inside x.key=true∧(0<i→bytesLess x.key (l.getD i ⟨[],0⟩).key=false)∧(i+1<l.length→bytesLess x.key (l.getD (i+1) ⟨[],0⟩).key=true):=fun x hx=>by
     have h:=inside_iff.1 (i1 x hx)
     unfold forkB at h
     dsimp only at h
     obtain ⟨h1,h2⟩:=h
     refine ⟨inside_iff.2 ⟨?_,fun hb=>?_⟩,fun h0=>by rw [if_pos h0] at h1; exact h1,fun hl=>by rw [if_pos hl,if_pos hl] at h2; exact h2 rfl⟩
     ·by_cases h0:0<i
      ·rw [if_pos h0] at h1
       have hi:b.inside (l.getD i ⟨[],0⟩).key=true:=by
        cases q:b.inside (l.getD i ⟨[],0⟩).key with
        |true=>rfl
        |false=>exact absurd ⟨h0,q⟩ c
       exact bl_ge_trans (inside_iff.1 hi).1 h1
      ·rw [if_neg h0] at h1; exact h1
     ·by_cases hl:i+1<l.length
      ·rw [if_pos hl,if_pos hl] at h2
       exact bl_trans (h2 rfl) ((inside_iff.1 (nx hl)).2 hb)
      ·rw [if_neg hl,if_neg hl] at h2
       exact h2 hb
    refine ⟨n1++n2,by rw [o2,o1,List.append_assoc],?_,fun x hx=>?_⟩
    ·refine List.pairwise_append.2 ⟨r1,r2,fun x hx y hy=>?_⟩
     have hl:i+1<l.length:=by
      rcases Nat.lt_or_ge (i+1) l.length with q|q
      ·exact q
      ·have:k=0:=by omega
       subst this
       have e:some s'=some t:=e
       cases e
       have:n2=[]:=by simpa using o2
       rw [this] at hy; cases hy
     exact bl_lt_ge ((one x hx).2.2 hl) ((i2 y hy).2 (by omega))
    ·rcases List.mem_append.1 hx with h|h
     ·exact ⟨(one x h).1,(one x h).2.1⟩
     ·refine ⟨(i2 x h).1,fun h0=>?_⟩
      have hl:i+1<l.length:=by
       rcases Nat.lt_or_ge (i+1) l.length with q|q
       ·exact q
       ·have:k=0:=by omega
        subst this
        have e:some s'=some t:=e
        cases e
        have:n2=[]:=by simpa using o2
        rw [this] at h; cases h
      obtain ⟨a,ha⟩:∃ a,l[i]?=some a:=⟨l[i],List.getElem?_eq_getElem (by omega)⟩
      obtain ⟨a',ha'⟩:∃ a',l[i+1]?=some a':=⟨l[i+1],List.getElem?_eq_getElem hl⟩
      have lt:=(ok (i+1) a' ha').2.2 (by omega) a (by simpa using ha)
      have g1:l.getD i ⟨[],0⟩=a:=by rw [List.getD_eq_getElem?_getD,ha]; rfl
      have g2:l.getD (i+1) ⟨[],0⟩=a':=by rw [List.getD_eq_getElem?_getD,ha']; rfl
      have q:=(i2 x h).2 (by omega)
      rw [g2] at q
      rw [g1]
      have:bytesLess a'.key a.key=false:=by
       cases w:bytesLess a'.key a.key with
       |false=>rfl
       |true=>have:=bl_trans lt w; rw [bl_irr] at this; cases this
      exact bl_ge_trans this q
theorem node_out:∀ (k n:Nat) (b:Bd) (s t:Rs),nodeS z img k n b s=some t→∃ new,t.out=s.out++new∧Rise new∧∀ x∈new,b.inside x.key=true
 |0,n,b,s,t,e=>by cases e
 |k+1,n,b,s,t,e=>by
  unfold nodeS at e
  cases e1:comeS s.pg n with
  |none=>rw [e1] at e; cases e
  |some q =>
   rw [e1] at e
   have e:(if n<2∨(readR z img n).2≠0 then none else if (readR z img n).1.kind=4 then leafS z img (readR z img n).1 (16-k) b ⟨q,s.deep,s.out⟩ else match ofB (readR z img n).1 with
    |none=>none
    |some l=>forksS (nodeS z img k) b l 0 l.length ⟨q,s.deep,s.out⟩)=some t:=e
   split at e
   ·cases e
   ·split at e
    ·exact leaf_out (s:=⟨q,s.deep,s.out⟩) e
    ·cases el:ofB (readR z img n).1 with
     |none=>rw [el] at e; cases e
     |some l =>
      rw [el] at e
      obtain ⟨new,o,r,i⟩:=forks_out (ofB_500 el).2.1 (node_out k) l.length 0 ⟨q,s.deep,s.out⟩ t (by omega) e
      exact ⟨new,o,r,fun x hx=>(i x hx).1⟩
theorem tree_out {root:Nat} {pg:List Nat} {t:Rs} (e:treeS z img root pg=some t):Rise t.out:=by
 unfold treeS at e
 split at e
 ·cases e; exact .nil
 ·obtain ⟨new,o,r,_⟩:=node_out _ _ _ _ _ e
  have o:t.out=[]++new:=o
  rw [o,List.nil_append]
  exact r
def Two (pg:List Nat):Prop:=∀ p∈pg,2≤p
theorem comes_two {pg q l:List Nat} (e:comesS pg l=some q) (h:Two pg) (hl:Two l):Two q:=by
 rw [comesS_app e]
 exact fun p hp=>by rcases List.mem_append.1 hp with r|r; exact h p r; exact hl p r
theorem item_two {b:Bd} {s t:Rs} {x:It} (e:itemS z img b s x=some t) (h:Two s.pg):Two t.pg:=by
 unfold itemS at e
 split at e
 ·cases ov:x.over with
  |false=>rw [ov] at e; cases e; exact h
  |true =>
   rw [ov] at e
   cases e7:overS z img x.head x.len with
   |none=>rw [e7] at e; cases e
   |some r =>
    obtain ⟨v,ps⟩:=r
    rw [e7] at e
    have e:(match comesS s.pg ps with
     |none=>none
     |some q=>some (⟨q,s.deep,s.out++[⟨x.key,v⟩]⟩:Rs))=some t:=e
    cases e8:comesS s.pg ps with
    |none=>rw [e8] at e; cases e
    |some q=>rw [e8] at e; cases e; exact comes_two e8 h fun p hp=>((over_lt e7).1 p hp).2
 ·cases e
theorem items_two {b:Bd}:∀ {l:List It} {s t:Rs},itemsS z img b s l=some t→Two s.pg→Two t.pg
 |[],s,t,e,h=>by cases e; exact h
 |x::l,s,t,e,h=>by
  unfold itemsS at e
  cases e1:itemS z img b s x with
  |none=>rw [e1] at e; cases e
  |some s'=>rw [e1] at e; exact items_two e (item_two e1 h)
theorem leaf_two {p:Pg} {d:Nat} {b:Bd} {s t:Rs} (e:leafS z img p d b s=some t) (h:Two s.pg):Two t.pg:=by
 unfold leafS at e
 cases el:ofI p with
 |none=>rw [el] at e; cases e
 |some l =>
  rw [el] at e
  have e:(if s.deep=0∨s.deep=d then itemsS z img b ⟨s.pg,d,s.out⟩ l else none)=some t:=e
  split at e
  ·exact items_two (s:=⟨s.pg,d,s.out⟩) e h
  ·cases e
theorem forks_two {go:Nat→Bd→Rs→Option Rs} {b:Bd} {l:List Fk} (hg:∀ n c s t,go n c s=some t→Two s.pg→Two t.pg):∀ (k i:Nat) (s t:Rs),forksS go b l i k s=some t→Two s.pg→Two t.pg
 |0,i,s,t,e,h=>by cases e; exact h
 |k+1,i,s,t,e,h=>by
  unfold forksS at e
  split at e
  ·cases e
  ·cases e1:go (l.getD i ⟨[],0⟩).child (forkB b l i) s with
   |none=>rw [e1] at e; cases e
   |some s'=>rw [e1] at e; exact forks_two hg k (i+1) s' t e (hg _ _ _ _ e1 h)
theorem node_two:∀ (k n:Nat) (b:Bd) (s t:Rs),nodeS z img k n b s=some t→Two s.pg→Two t.pg
 |0,n,b,s,t,e,_=>by cases e
 |k+1,n,b,s,t,e,h=>by
  unfold nodeS at e
  cases e1:comeS s.pg n with
  |none=>rw [e1] at e; cases e
  |some q =>
   rw [e1] at e
   have e:(if n<2∨(readR z img n).2≠0 then none else if (readR z img n).1.kind=4 then leafS z img (readR z img n).1 (16-k) b ⟨q,s.deep,s.out⟩ else match ofB (readR z img n).1 with
    |none=>none
    |some l=>forksS (nodeS z img k) b l 0 l.length ⟨q,s.deep,s.out⟩)=some t:=e
   split at e
   ·cases e
   ·rename_i c
    have hq:Two q:=by
     rw [comeS_len e1]
     exact fun p hp=>by
      rcases List.mem_append.1 hp with r|r
      ·exact h p r
      ·obtain rfl:=List.mem_singleton.1 r
       have:¬ p<2:=fun q=>c (.inl q)
       omega
    split at e
    ·exact leaf_two (s:=⟨q,s.deep,s.out⟩) e hq
    ·cases el:ofB (readR z img n).1 with
     |none=>rw [el] at e; cases e
     |some l=>rw [el] at e; exact forks_two (node_two k) _ _ ⟨q,s.deep,s.out⟩ t e hq
theorem tree_two {root:Nat} {pg:List Nat} {t:Rs} (e:treeS z img root pg=some t) (h:Two pg):Two t.pg:=by
 unfold treeS at e
 split at e
 ·cases e; exact h
 ·exact node_two _ _ _ ⟨pg,0,[]⟩ _ e h
theorem buckets_out:∀ (l:List Bk) (pg:List Nat) (out:List (List UInt8×List Pr)) (pg2:List Nat) (bs:List (List UInt8×List Pr)),bucketsS z img pg out l=some (pg2,bs)→Two pg→Fine (pages z img) pg→Two pg2∧Fine (pages z img) pg2∧∃ new,bs=out++new∧new.map (·.1)=l.map (·.name)∧∀ b∈new,Rise b.2∧b.2.length≤1400*pages z img
 |[],pg,out,pg2,bs,e,h,f=>by cases e; exact ⟨h,f,[],by simp,rfl,fun x hx=>by cases hx⟩
 |b::l,pg,out,pg2,bs,e,h,f=>by
  unfold bucketsS at e
  cases e1:treeS z img b.root pg with
  |none=>rw [e1] at e; cases e
  |some s =>
   rw [e1] at e
   have e:(if (s.out.length:Int)=b.keys then bucketsS z img s.pg (out++[(b.name,s.out)]) l else none)=some (pg2,bs):=e
   split at e
   ·obtain ⟨f2,_,ol⟩:=treeS_grow f e1
    obtain ⟨a,ff,new,o,m,r⟩:=buckets_out l s.pg _ pg2 bs e (tree_two e1 h) f2
    refine ⟨a,ff,(b.name,s.out)::new,by rw [o]; simp,by simp [m],fun x hx=>?_⟩
    rcases List.mem_cons.1 hx with rfl|hx
    ·exact ⟨tree_out e1,by have:=f2.len; have:=Nat.mul_le_mul_left 1400 this; simp only; omega⟩
    ·exact r x hx
   ·cases e
theorem den_out {n:Nat} {pg:List Nat} {bs:List (List UInt8×List Pr)} (e:denS z img n=some (pg,bs)):Two pg∧Fine (pages z img) pg∧(n=0∨n∈pg)∧(bs.map (·.1)).Pairwise (fun a b=>bytesLess a b=true)∧(∀ b∈bs,Rise b.2∧b.2.length≤1400*pages z img)∧bs.length≤500:=by
 unfold denS at e
 split at e
 ·rename_i c
  cases e
  exact ⟨fun p hp=>(by cases hp),⟨.nil,fun p hp=>(by cases hp)⟩,.inl c,.nil,fun b hb=>(by cases hb),Nat.zero_le _⟩
 ·rename_i c
  split at e
  ·cases e
  ·rename_i c2
   cases el:ofC (rightR z img n 2).1 with
   |none=>rw [el] at e; cases e
   |some l =>
    rw [el] at e
    have n2:¬ n<2:=fun q=>c2 (.inl q)
    have r1:(readR z img n).2=0:=by
     have c3:(rightR z img n 2).2≠false:=fun q=>c2 (.inr q)
     unfold rightR at c3
     by_cases q:(readR z img n).2=0∧(readR z img n).1.kind=2∧rightP (readR z img n).1
     ·exact q.1
     ·rw [if_neg q] at c3; exact absurd rfl c3
    have lt:=(read_page r1).2
    have t0:Two [n]:=fun p hp=>by obtain rfl:=List.mem_singleton.1 hp; omega
    have f0:Fine (pages z img) [n]:=⟨by simp,fun q hq=>by obtain rfl:=List.mem_singleton.1 hq; exact lt⟩
    obtain ⟨a,ff,new,o,m,r⟩:=buckets_out l [n] [] pg bs e t0 f0
    have o:bs=new:=by rw [o]; rfl
    subst o
    obtain ⟨ll,lok⟩:=ofC_500 el
    refine ⟨a,ff,.inr ((buckets_alike (img2:=img) (Q:=fun p=>True) ⟨fun p _=>rfl,rfl⟩ l [n] [] pg bs e fun p hp=>trivial).1 n (by simp)),?_,r,?_⟩
    ·rw [m,List.pairwise_map]
     refine adj_pair (R:=fun a b:Bk=>bytesLess a.name b.name=true) (fun a b c=>bl_trans) l fun i a b h1 h2=>?_
     exact (lok (i+1) b h2).2 (by omega) a (by simpa using h1)
    ·have:=congrArg List.length m
     simp only [List.length_map] at this
     omega
end
set_option maxRecDepth 10000
set_option maxHeartbeats 4000000
theorem pr_eqv {q:Nat} (p r:Pr):eqv (TV q) 100 37 (.agg p.cs) (.agg r.cs)=some (decide (p=r)):=by
 refine (eqv_agg rfl rfl (eqF_cons rfl rfl rfl (eqv_str rfl) (eqF_cons rfl rfl rfl (eqv_str rfl) eqF_nil))).trans ?_
 congr 1
 rw [decide_eq_decide]
 cases p; cases r
 simp only [Pr.mk.injEq]
 constructor
 ·rintro ⟨a,b,_⟩
  exact ⟨a,b⟩
 ·rintro ⟨a,b⟩
  exact ⟨a,b,trivial⟩
theorem samePr_w {n:Nat} (hn:0<n) {h:Heap} {u v:AV} {l:List Pr} (hk:h.ok) (lu:Ls Pr.cs 2 h u l) (lv:Ls Pr.cs 2 h v l) (hl:l.length≤1000000):(TV n).sm 24 [u,v] h=some (.bool true,h):=by
 refine w_in hn (fun h=>Ls Pr.cs 2 h u l∧Ls Pr.cs 2 h v l∧h.ok) rfl rfl ⟨lu,lv,hk⟩ (fun hp=>⟨lu.any (by simp [AV.plains] at hp; exact hp.1),lv.any (by simp [AV.plains] at hp; exact hp.2),ok_nil⟩) ?_
 clear lu lv hk h
 rintro n hn h ⟨lu,lv,hk⟩
 refine body_j rfl rfl ?_
 have e1:=lu.len
 have e2:=lv.len
 have n1:=lu.ns
 have n2:=lv.ns
 refine walk ?_
 rw [show decide ((l.length:Int)≠(l.length:Int))=false from decide_eq_false (fun c=>c rfl)]
 refine walk ?_
 refine jg_loop (ι:=Nat) (fun i=>l.length-i) (fun i=>[(0,u),(1,v),(5,.int .i64 i)]) (fun i h2=>i≤l.length∧Ext h h2) 0 hsub ⟨Nat.zero_le _,.refl _⟩ ?_
 rintro i h2 ⟨hi,x2⟩ next
 have k2:=x2.ok hk
 by_cases c:i<l.length
 case neg =>
  refine walk ?_
  exact jg_ret1 (by exact hres) ⟨rfl,x2⟩
 obtain ⟨y,hy⟩:∃ y,l[i]?=some y:=⟨_,List.getElem?_eq_getElem c⟩
 obtain ⟨B,p,e,all,rw',hb,hg,hpl,he,a1⟩:=(lu.ext x2).at Pr.csl hy
 obtain ⟨B2,p2,e2',all2,rw2,hb2,hg2,hpl2,he2,a2⟩:=(lv.ext x2).at Pr.csl hy
 refine walk ?_
 refine jg_drawn (q:=9) (ms:=[0,0,3,7,0,0,48,112,255]) (hl:=[[18,21,22,23,24],[17,21,22,23,24],[21,22,23,24],[21,22,23,24],[17,18,19,20,22],[17,18,19,20,21],[17,18,19,20],[17,18,19,20],[]]) hok rfl (by kernel_rfl) (by kernel_rfl) rfl ?_
 refine walk ?_
 refine jd_val rfl rfl rfl rfl (k_bin rfl rfl rfl (bin_ne (pr_eqv y y) rfl) rfl) ?_
 rw [show decide (¬ y=y)=false from decide_eq_false (fun c=>c rfl)]
 refine walk ?_
 exact next (i+1) (by omega) (by exact hsub) ⟨by omega,by exact hext⟩
theorem DenL.any {h h':Heap} {v:AV} {bs:List (List UInt8×List Pr)} (d:DenL h v bs) (p:v.plain=true):DenL h' v bs:=by
 obtain ⟨l,a,b,c⟩:=d
 have hl:l=[]:=by
  have a':Sl h 2 v l.length (l.flatMap Nm.cs):=a
  cases v<;>first|(simp [AV.plain] at p; done)|exact a'.elim|exact List.length_eq_zero_iff.1 a'.1
 subst hl
 exact ⟨[],a.any p,b,fun j x y q=>by simp at q⟩
theorem sameDen_w {n:Nat} (hn:1<n) {h:Heap} {u v:AV} {bs:List (List UInt8×List Pr)} (hk:h.ok) (du:DenL h u bs) (dv:DenL h v bs) (hl:bs.length≤1000) (hp:∀ b∈bs,b.2.length≤1000000):(TV n).sm 15 [.agg [u],.agg [v]] h=some (.bool true,h):=by
 refine w_in hn (fun h=>DenL h u bs∧DenL h v bs∧h.ok) rfl rfl ⟨du,dv,hk⟩ (fun hp=>⟨du.any (by simp [AV.plains,AV.plain] at hp; exact hp.1),dv.any (by simp [AV.plains,AV.plain] at hp; exact hp.2),ok_nil⟩) ?_
 clear du dv hk h
 rintro n hn h ⟨du,dv,hk⟩
 obtain ⟨lu,du1,du2,du3⟩:=du
 obtain ⟨lv,dv1,dv2,dv3⟩:=dv
 refine body_j rfl rfl ?_
 have e1:=du1.len
 have e2:=dv1.len
 have n1:=du1.ns
 have n2:=dv1.ns
 rw [du2] at e1
 rw [dv2] at e2
 refine walk ?_
 rw [show decide ((bs.length:Int)≠(bs.length:Int))=false from decide_eq_false (fun c=>c rfl)]
 refine walk ?_
 refine jg_loop (ι:=Nat) (fun i=>bs.length-i) (fun i=>[(2,.ptr h.next 0),(3,.ptr (h.next+1) 0),(5,.int .i64 i)]) (fun i h2=>i≤bs.length∧Ext h h2∧h.next+2≤h2.next∧h2.get h.next=some (.cells 27 [u] true)∧h2.get (h.next+1)=some (.cells 27 [v] true)) 0 (by exact hsub) ⟨Nat.zero_le _,by exact hext,Nat.le_refl _,by exact hget,by exact hget⟩ ?_
 rintro i h2 ⟨hi,x2,nx2,g1,g2⟩ next
 have k2:=x2.ok hk
 by_cases c:i<bs.length
 case neg =>
  refine walk ?_
  exact jg_ret1 (by exact hres) ⟨rfl,x2⟩
 obtain ⟨y,hy⟩:∃ y,lu[i]?=some y:=⟨_,List.getElem?_eq_getElem (by omega)⟩
 obtain ⟨y',hy'⟩:∃ y',lv[i]?=some y':=⟨_,List.getElem?_eq_getElem (by omega)⟩
 obtain ⟨b,hb0⟩:∃ b,bs[i]?=some b:=⟨_,List.getElem?_eq_getElem c⟩
 obtain ⟨q1,q2⟩:=du3 i y b hy hb0
 obtain ⟨q1',q2'⟩:=dv3 i y' b hy' hb0
 have bm:=hp b (List.mem_of_getElem? hb0)
 obtain ⟨B,p,e,all,rw',hb,hg,hpl,he,a1⟩:=(du1.ext x2).at Nm.len hy
 obtain ⟨B2,p2,e2',all2,rw2,hb2,hg2,hpl2,he2,a2⟩:=(dv1.ext x2).at Nm.len hy'
 have he:(all.drop p).take 2=[.str y.1,y.2]:=he
 have he2:(all2.drop p2).take 2=[.str y'.1,y'.2]:=he2
 have eq:y.1=y'.1:=q1.trans q1'.symm
 refine walk ?_
 have w1:=samePr_w (n:=n) (by omega) (by exact Heap.ok_more k2 29) ((q2.ext x2).ext (Ext.more (Ext.refl _) k2 29)) ((q2'.ext x2).ext (Ext.more (Ext.refl _) k2 29)) bm
 refine jg_drawn (q:=29) (ms:=[0,1,0,7,15,31,0,64,0,448,960,1984,4095,8191,16383,32767,16383,131071,262143,524287,16383,1064959,16383,7356415,15745023,32522239,67108863,134217727,268435455]) (hl:=[[22,26,27,28,29,30,31],[22,26,27,28,29,30,31],[20,21,26,27,28,29,30,31],[26,27,28,29,30,31],[26,27,28,29,30,31],[26,27,28,29,30,31],[20,21,22,23,24,25,28],[20,21,22,23,24,25,28],[20,21,22,23,24,25,26,27],[20,21,22,23,24,25],[20,21,22,23,24,25],[20,21,22,23,24,25],[],[],[36,40,41,42,43,44,45],[36,40,41,42,43,44,45],[34,35,40,41,42,43,44,45],[40,41,42,43,44,45],[40,41,42,43,44,45],[40,41,42,43,44,45],[34,35,36,37,38,39,42],[34,35,36,37,38,39,42],[34,35,36,37,38,39,40,41],[34,35,36,37,38,39],[34,35,36,37,38,39],[34,35,36,37,38,39],[],[],[]]) hok rfl (by kernel_rfl) (by kernel_rfl) rfl ?_
 refine walk ?_
 refine jd_w w1 rfl rfl rfl rfl rfl rfl ?_
 refine walk ?_
 exact next (i+1) (by omega) (by exact hsub) ⟨by omega,by exact hext,by show h.next+2≤h2.next+29; omega,g1,g2⟩
theorem lives16 {n:Nat} (h:Heap):(TV n).sm 7 [] h=some (.bool true,h):=b_w rfl rfl
theorem dapart_law {n:Nat} (hn:9<n) {z:Int} {img byt:List UInt8} {m:Nat} {wh:Int} {h:Heap} (hk:h.ok) (hi:img.length<9223372036854775808) (hm:m<4294967296) (hw : -9223372036854775808≤wh∧wh<9223372036854775808) (hb:byt.length<9223372036854775808):Gives (TV n) 4 [.int .i64 z,.str img,.int .u32 m,.int .i64 wh,.str byt] h (fun v h'=>v=.bool true∧Ext h h'):=by
 refine call_j (no_w rfl rfl) rfl rfl ?_
 have w1:=lives16 (n:=n)
 have w2:=light_w (n:=n) (by omega) img hi
 have w3:=rpages_w (n:=n) (by omega) z img hi
 by_cases c1:img.length≤5000
 case neg =>
  rw [decide_eq_false c1] at w2
  exact auto
 rw [decide_eq_true c1] at w2
 by_cases c4:(byt.length:Int)>5000
 case pos=>exact auto
 refine walk ?_
 refine jo_call (of_g (n:=n) (by omega) (z:=z) (img:=img) (m:=m) hk c1 hm) rfl rfl rfl rfl ?_
 rintro v h1 ⟨x1,co⟩
 have k1:=x1.ok hk
 have n1:=x1.nx
 cases ed:denS z img m with
 |none =>
  rw [ed] at co
  subst co
  refine walk ?_
  exact jg_ret1 (by exact hres) ⟨rfl,by exact hext⟩
 |some r =>
 obtain ⟨pg,bs⟩:=r
 rw [ed] at co
 obtain ⟨dv,pv,out,rfl,dl,lp,is⟩:=co
 replace dl:=dl.den
 replace lp:LsW h1 pv out:=lp.ls
 have lw:=lp.len
 have nw:=lp.ns
 have dvo:dv.cells=[dv]∧dv.one=true:=by
  obtain ⟨nl,ls,_⟩:=dl
  exact ⟨Sl.cells ls,Sl.one ls⟩
 obtain ⟨vdo,wdo⟩:=dvo
 refine walk ?_
 refine jo_skip rfl rfl (k_storeN (n:=1) (cs:=[.nilslice]) (vs:=[dv]) rfl rfl rfl rfl rfl (by simp [wdo]) (get_new _ _) (by decide)) ?_
 by_cases c6:((pages z img:Nat):Int)=0
 ·refine walk ?_
  exact jg_ret1 (by exact hres) ⟨rfl,by exact hext⟩
 by_cases c7:(m:Int)=0
 ·refine walk ?_
  exact jg_ret1 (by exact hres) ⟨rfl,by exact hext⟩
 have pl:=pages_le z img
 have g:=(at_in (show 0<pages z img by omega)).1
 have g1:=g.1
 have g2:=g.2.1
 obtain ⟨zn,rfl⟩:=Int.eq_ofNat_of_zero_le (show 0≤z by omega)
 have q0:=Int.emod_nonneg wh (show ((pages zn img:Nat):Int)≠0 by omega)
 have q1:=Int.emod_lt_of_pos wh (show (0:Int)<((pages zn img:Nat):Int) by omega)
 have w4:=pick_w (n:=n) (by omega) wh ((pages zn img:Nat):Int) hw (by omega)
 obtain ⟨k,hq⟩:=Int.eq_ofNat_of_zero_le q0
 rw [hq] at w4 q1
 clear hq q0
 obtain ⟨o1,o2,-,-,o5,o6⟩:=den_out ed
 have fl:=o2.len
 have ll:out.length=pg.length:=is.1.length_eq
 refine walk ?_
 refine GJ.gen [(0,.int .i64 zn),(1,.str img),(2,.int .u32 m),(4,.str byt),(11,.ptr h1.next 0),(12,pv),(15,.int .i64 (k:Nat)),(16,.int .i64 0)] (fun g=>Ext h1 g∧h1.next<g.next∧g.get h1.next=some (.cells 27 [dv] true)) (by exact hsub) ⟨by exact hext,by exact hlt,by exact hget⟩ ?_
 rintro gA ⟨xA,nA,gD⟩
 clear w4
 have xhA:=x1.trans xA
 have kA:=xA.ok k1
 refine jg_loop (ι:=Nat) (fun i=>out.length-i) (fun i=>[(0,.int .i64 zn),(1,.str img),(2,.int .u32 m),(4,.str byt),(11,.ptr h1.next 0),(12,pv),(15,.int .i64 (k:Nat)),(16,.int .i64 (i:Nat))]) (fun i h2=>i≤out.length∧Ext gA h2∧∀ q∈out.take i,q≠k) 0 (by exact hsub) ⟨Nat.zero_le _,.refl _,by simp⟩ ?_
 rintro i h2 ⟨hi2,x2,nk⟩ next
 have k2:=x2.ok kA
 have x12:=xA.trans x2
 by_cases c:i<out.length
 ·obtain ⟨y,hy⟩:∃ y,out[i]?=some y:=⟨_,List.getElem?_eq_getElem c⟩
  obtain ⟨B2,p2,e2',all2,rw2,hb2,hg2,hpl2,he2,a1⟩:=(lp.ext x12).at u32c_len hy
  have he2:(all2.drop p2).take 1=[.int .u32 y]:=he2
  have yp:y∈pg:=is.1.subset (List.mem_of_getElem? hy)
  have ylt:=o2.lt y yp
  have et:out.take (i+1)=out.take i++[y]:=by rw [List.take_add_one,hy]; rfl
  by_cases d:(y:Int)=(k:Int)
  ·refine walk ?_
   exact jg_ret1 (by exact hres) ⟨rfl,by exact hext⟩
  ·refine walk ?_
   refine next (i+1) (by omega) (by exact hsub) ⟨by omega,x2,fun q hq=>?_⟩
   rw [et] at hq
   rcases List.mem_append.1 hq with r|r
   ·exact nk q r
   ·obtain rfl:=List.mem_singleton.1 r
    omega
 have ei:out.take i=out:=List.take_of_length_le (by omega)
 rw [ei] at nk
 have kn:k ∉ pg:=fun q=>nk k (is.1.symm.subset q) rfl
 clear next
 have w5:=times_w (n:=n) (by omega) zn (by omega)
 refine walk ?_
 refine jo_val rfl rfl rfl (k_bin rfl rfl rfl (b_cat (by simp; omega)) rfl) ?_
 have bl:(byt++List.replicate zn 0).length=byt.length+zn:=by simp
 have bm:((byt++List.replicate zn 0).take zn).length=zn:=by rw [List.length_take,bl]; omega
 generalize hB:byt++List.replicate zn 0=B at bl bm
 clear w5
 have kq:k<pages zn img:=by omega
 have hkl:=(at_in kq).2
 have ap:=den_apart (z:=zn) (img:=img) (block:=B.take zn) (k:=k) (by rw [Int.toNat_natCast]; exact bm) kq ed kn
 rw [Int.toNat_natCast] at hkl ap
 have em0:(k:Int)*(zn:Int)=((k*zn:Nat):Int):=by push_cast; rfl
 have em:((k:Int)+1)*(zn:Int)=((k*zn+zn:Nat):Int):=by rw [Int.add_mul,Int.one_mul]; push_cast; rfl
 have bt:((img.take (k*zn)).length:Nat)≤5000:=by rw [List.length_take]; omega
 have bd:(img.drop (k*zn+zn)).length≤5000:=by rw [List.length_drop]; omega
 have bc:(img.take (k*zn)++B.take zn).length≤9096:=by rw [List.length_append,bm]; omega
 refine walk ?_
 refine jg_drawn (q:=25) (ms:=[0,0,0,0,12,30,0,126,0,0,512,0,3584,7936,16382,0,65535,131071,262143,262143,262143,0,2621439,7340031,16777215]) (hl:=[[76,77,78,79,80,81,82,83,84,85,86,87,88,89,90,18],[75,77,78,79,81,83,84,85,86,87,88,90,18],[75,76,78,81,83,84,85,86,87,88,90,18],[75,76,77,81,83,84,85,86,87,88,90,18],[75,76,81,83,84,85,86,87,88,90,18],[75,81,83,84,85,86,87,88,90,18],[75,76,77,78,79,80,83,84,85,86,87,88,90,18],[75,83,84,85,86,87,88,90,18],[75,76,77,78,79,80,81,82,84,85,86,87,90,18],[75,76,77,78,79,80,81,82,83,86,90,18],[75,76,77,78,79,80,81,82,83,86,90,18],[75,76,77,78,79,80,81,82,83,84,85,90,18],[75,76,77,78,79,80,81,82,83,90,18],[75,76,77,78,79,80,81,82,90,18],[75,90,18],[75,76,77,78,79,80,81,82,83,84,85,86,87,88,89,18],[18],[18],[93,94,18],[92,94,18],[92,93,18,19],[75,76,77,78,79,80,81,82,83,84,85,86,87,88,89,90,91,74,92,93,94],[93,94],[94],[]]) hok rfl (by kernel_rfl) (by kernel_rfl) rfl ?_
 refine walk ?_
 rw [em,Int.toNat_natCast]
 have il:(img.take (k*zn)++B.take zn++img.drop (k*zn+zn)).length=img.length:=by rw [List.length_append,List.length_append,List.length_take,bm,List.length_drop]; omega
 refine jd_val rfl rfl rfl rfl (k_bin rfl rfl rfl (b_cat (by show (img.take (k*zn)++B.take zn).length+(img.drop (k*zn+zn)).length≤_; omega)) rfl) ?_
 generalize img.take (k*zn)++B.take zn++img.drop (k*zn+zn)=img2 at il ap ⊢
 refine walk ?_
 refine jd_call (of_g (n:=n) (by omega) (z:=zn) (img:=img2) (m:=m) (by exact hok) (by omega) hm) rfl rfl rfl rfl rfl rfl ?_
 rintro v2 h3 ⟨x3,c3⟩
 rw [ap] at c3
 obtain ⟨dv2,pv2,out2,rfl,do2,op2,is2⟩:=c3
 have n3:h2.next+25≤h3.next:=x3.nx
 have eo:out2=out:=(is2.1.trans is.1.symm).eq_of_pairwise (le:=(· ≤ ·)) (fun a b _ _ h1 h2=>Nat.le_antisymm h1 h2) is2.2 is.2
 subst eo
 have x23:Ext h2 h3:=Ext.trans (by exact hext) x3
 have k3:=x23.ok k2
 have dvo2:dv2.cells=[dv2]∧dv2.one=true:=by
  obtain ⟨nl,ls,_⟩:=do2.den
  exact ⟨Sl.cells ls,Sl.one ls⟩
 obtain ⟨vc2,vo2⟩:=dvo2
 refine walk ?_
 refine jd_skip rfl rfl rfl (k_storeN (n:=1) (cs:=[.nilslice]) (vs:=[dv2]) rfl rfl rfl rfl rfl (by simp [vo2]) (Heap.gs _ _ _) (by decide)) ?_
 refine walk ?_
 refine OJ.gen [(11,.ptr h1.next 0),(12,pv),(19,pv2),(97,.bool true),(98,.agg [dv2])] (fun g=>Ext h2 g∧g.ok∧DenL g dv2 bs∧LsW g pv2 out2∧h2.next+21<g.next∧g.get (h2.next+21)=some (.cells 27 [dv2] true)) (by exact hsub) ⟨by exact hext,by exact hok,(do2.keep (fun c q _=>(Heap.gn _ _ _ _ (by have q:h2.next+25≤c:=q; omega)).trans (Heap.gn _ _ _ _ (by have q:h2.next+25≤c:=q; omega))) (Nat.le_refl _)).den,OwnLS.ls (OwnS.keep op2 (fun c q _=>(Heap.gn _ _ _ _ (by have q:h2.next+25≤c:=q; omega)).trans (Heap.gn _ _ _ _ (by have q:h2.next+25≤c:=q; omega))) (Nat.le_refl _)),by show h2.next+21<h3.next; omega,Heap.gs _ _ _⟩ ?_
 rintro g ⟨xg,kg,dl2,lp2,ng,gD2⟩
 have gD1:=((x2.trans xg).old _ nA).trans gD
 have xhg:=xhA.trans (x2.trans xg)
 have w7:=sameDen_w (n:=n) (by omega) kg dl2 (dl.ext (x12.trans xg)) (by omega) (fun b hb=>by have q1:=(o5 b hb).2; have q2:=pages_157 (z:=zn) (img:=img) (by omega); omega)
 have w6:=same32_w (n:=n) (by omega) lp2 (lp.ext (x12.trans xg)) kg (by omega)
 clear x23 x3 k3 gD xA x2 xhA
 refine walk ?_
 refine jo_w w7 rfl rfl rfl rfl ?_
 refine walk ?_
 refine jo_w w6 rfl rfl rfl rfl ?_
 refine walk ?_
 exact jg_ret1 (by exact hres) ⟨rfl,xhg⟩
end Go.Proofs.YtmnhbehmjaibgaaGreat
