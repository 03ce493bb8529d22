/- What the functions of this part answer at any input, told by the rules over the evaluator. Conditions: those that each theorem states. -/
import Derived.Test.YtmnhbehmjaibgaaGreatDen
import Derived.Test.YtmnhbehmjaibgaaGreatRf1
set_option linter.unusedVariables false
set_option linter.unusedSimpArgs false
open Go Ev
namespace Go.Proofs.YtmnhbehmjaibgaaGreat
set_option maxRecDepth 10000
set_option maxHeartbeats 4000000
section
variable {z:Int} {img img2:List UInt8} {Q:Nat→Prop}
structure Alike (z:Int) (img img2:List UInt8) (Q:Nat→Prop):Prop where
 r:∀ p,Q p→readR z img2 p=readR z img p
 n:pages z img2=pages z img
theorem chain_alike (a:Alike z img img2 Q) {kd:Int}:∀ (k:Nat) (met:List Nat) (n:Nat) (l:List Pg),chainS z img kd k met n=some l→(∀ p∈l,Q p.page)→chainS z img2 kd k met n=some l
 |0,_,_,_,e,_=>by cases e
 |k+1,met,n,l,e,h=>by
  have hl:=chain_lt _ _ _ _ e
  unfold chainS at e ⊢
  split at e
  ·rename_i c
   rw [if_pos c]
   exact e
  ·rename_i c0
   rw [if_neg c0]
   split at e
   ·cases e
   ·rename_i c
    cases er:chainS z img kd k (met++[n]) (readR z img n).1.link with
    |none=>rw [er] at e; cases e
    |some r =>
     rw [er] at e
     cases e
     have e0:(readR z img n).2=0:=Decidable.byContradiction fun q=>c (.inl q)
     have hq:Q n:=by
      have:=h (readR z img n).1 (List.mem_cons_self ..)
      rwa [(read_page e0).1] at this
     rw [a.r n hq,if_neg c,chain_alike a k _ _ r er fun p hp=>h p (List.mem_cons_of_mem _ hp)]
     rfl
theorem over_alike (a:Alike z img img2 Q) {hd:Nat} {ln:Int} {v:List UInt8} {ps:List Nat} (e:overS z img hd ln=some (v,ps)) (h:∀ p∈ps,Q p):overS z img2 hd ln=some (v,ps):=by
 unfold overS at e ⊢
 split at e
 ·rename_i g
  rw [if_pos g]
  cases ec:chainS z img 5 (pages z img+2) [] hd with
  |none=>rw [ec] at e; cases e
  |some l =>
   rw [ec] at e
   have e1:overV ln l=some (v,ps):=e
   unfold overV at e1
   split at e1
   ·rename_i c
    have e2:ps=l.map (·.page):=by cases e1; rfl
    rw [a.n,chain_alike a _ _ _ l ec fun p hp=>h _ (by rw [e2]; exact List.mem_map.2 ⟨p,hp,rfl⟩)]
    exact e
   ·cases e1
 ·cases e
theorem item_alike (a:Alike z img img2 Q) {b:Bd} {s t:Rs} {x:It} (e:itemS z img b s x=some t) (h:∀ p∈t.pg,Q p):itemS z img2 b s x=some t:=by
 unfold itemS at e ⊢
 split at e
 ·rename_i c
  rw [if_pos c]
  cases ov:x.over with
  |false=>rw [ov] at e; exact e
  |true =>
   rw [ov] at e
   cases e7:overS z img x.head x.len with
   |none=>rw [e7] at e; cases e
   |some r =>
    obtain ⟨v,ps⟩:=r
    rw [e7] at e
    have e:(match comesS s.pg ps with
     |none=>none
     |some q=>some (⟨q,s.deep,s.out++[⟨x.key,v⟩]⟩:Rs))=some t:=e
    cases e8:comesS s.pg ps with
    |none=>rw [e8] at e; cases e
    |some q =>
     have eq:=comesS_app e8
     rw [e8] at e
     cases e
     have e9:=over_alike a e7 fun p hp=>h p (by show p∈q; rw [eq]; exact List.mem_append_right _ hp)
     simp only [e9,e8]
 ·cases e
theorem comesS_mono {pg q l:List Nat} (e:comesS pg l=some q):∀ p∈pg,p∈q:=fun p hp=>by rw [comesS_app e]; exact List.mem_append_left _ hp
theorem item_mono {b:Bd} {s t:Rs} {x:It} (e:itemS z img b s x=some t):∀ p∈s.pg,p∈t.pg:=by
 unfold itemS at e
 split at e
 ·cases ov:x.over with
  |false=>rw [ov] at e; cases e; exact fun p hp=>hp
  |true =>
   rw [ov] at e
   cases e7:overS z img x.head x.len with
   |none=>rw [e7] at e; cases e
   |some r =>
    obtain ⟨v,ps⟩:=r
    rw [e7] at e
    have e:(match comesS s.pg ps with
     |none=>none
     |some q=>some (⟨q,s.deep,s.out++[⟨x.key,v⟩]⟩:Rs))=some t:=e
    cases e8:comesS s.pg ps with
    |none=>rw [e8] at e; cases e
    |some q=>rw [e8] at e; cases e; exact comesS_mono e8
 ·cases e
theorem items_mono {b:Bd}:∀ {l:List It} {s t:Rs},itemsS z img b s l=some t→∀ p∈s.pg,p∈t.pg
 |[],s,t,e=>by cases e; exact fun p hp=>hp
 |x::l,s,t,e=>by
  unfold itemsS at e
  cases e1:itemS z img b s x with
  |none=>rw [e1] at e; cases e
  |some s'=>rw [e1] at e; exact fun p hp=>items_mono e p (item_mono e1 p hp)
theorem items_alike (a:Alike z img img2 Q) {b:Bd}:∀ {l:List It} {s t:Rs},itemsS z img b s l=some t→(∀ p∈t.pg,Q p)→itemsS z img2 b s l=some t
 |[],s,t,e,_=>e
 |x::l,s,t,e,h=>by
  unfold itemsS at e ⊢
  cases e1:itemS z img b s x with
  |none=>rw [e1] at e; cases e
  |some s' =>
   rw [e1] at e
   rw [item_alike a e1 fun p hp=>h p (items_mono e p hp)]
   exact items_alike a e h
theorem leaf_mono {p:Pg} {d:Nat} {b:Bd} {s t:Rs} (e:leafS z img p d b s=some t):∀ p∈s.pg,p∈t.pg:=by
 unfold leafS at e
 cases el:ofI p with
 |none=>rw [el] at e; cases e
 |some l =>
  rw [el] at e
  have e:(if s.deep=0∨s.deep=d then itemsS z img b ⟨s.pg,d,s.out⟩ l else none)=some t:=e
  split at e
  ·exact items_mono (s:=⟨s.pg,d,s.out⟩) e
  ·cases e
theorem leaf_alike (a:Alike z img img2 Q) {p:Pg} {d:Nat} {b:Bd} {s t:Rs} (e:leafS z img p d b s=some t) (h:∀ p∈t.pg,Q p):leafS z img2 p d b s=some t:=by
 unfold leafS at e ⊢
 cases el:ofI p with
 |none=>rw [el] at e; cases e
 |some l =>
  rw [el] at e
  have e:(if s.deep=0∨s.deep=d then itemsS z img b ⟨s.pg,d,s.out⟩ l else none)=some t:=e
  split at e
  ·rename_i c
   show (if s.deep=0∨s.deep=d then itemsS z img2 b ⟨s.pg,d,s.out⟩ l else none)=some t
   rw [if_pos c]
   exact items_alike a e h
  ·cases e
theorem forks_mono {go:Nat→Bd→Rs→Option Rs} {b:Bd} {l:List Fk} (hg:∀ n c s t,go n c s=some t→∀ p∈s.pg,p∈t.pg):∀ (k i:Nat) (s t:Rs),forksS go b l i k s=some t→∀ p∈s.pg,p∈t.pg
 |0,i,s,t,e=>by cases e; exact fun p hp=>hp
 |k+1,i,s,t,e=>by
  unfold forksS at e
  split at e
  ·cases e
  ·cases e1:go (l.getD i ⟨[],0⟩).child (forkB b l i) s with
   |none=>rw [e1] at e; cases e
   |some s'=>rw [e1] at e; exact fun p hp=>forks_mono hg k (i+1) s' t e p (hg _ _ _ _ e1 p hp)
theorem forks_alike {go go2:Nat→Bd→Rs→Option Rs} {b:Bd} {l:List Fk} (hm:∀ n c s t,go n c s=some t→∀ p∈s.pg,p∈t.pg) (hg:∀ n c s t,go n c s=some t→(∀ p∈t.pg,Q p)→go2 n c s=some t):∀ (k i:Nat) (s t:Rs),forksS go b l i k s=some t→(∀ p∈t.pg,Q p)→forksS go2 b l i k s=some t
 |0,i,s,t,e,_=>e
 |k+1,i,s,t,e,h=>by
  unfold forksS at e ⊢
  split at e
  ·cases e
  ·rename_i c
   rw [if_neg c]
   cases e1:go (l.getD i ⟨[],0⟩).child (forkB b l i) s with
   |none=>rw [e1] at e; cases e
   |some s' =>
    rw [e1] at e
    rw [hg _ _ _ _ e1 fun p hp=>h p (forks_mono hm k (i+1) s' t e p hp)]
    exact forks_alike hm hg k (i+1) s' t e h
theorem come_mono {pg q:List Nat} {n:Nat} (e:comeS pg n=some q):(∀ p∈pg,p∈q)∧n∈q:=by
 rw [comeS_len e]
 exact ⟨fun p hp=>List.mem_append_left _ hp,List.mem_append_right _ (by simp)⟩
theorem node_in:∀ (k n:Nat) (b:Bd) (s t:Rs),nodeS z img k n b s=some t→(∀ p∈s.pg,p∈t.pg)∧n∈t.pg
 |0,n,b,s,t,e=>by cases e
 |k+1,n,b,s,t,e=>by
  unfold nodeS at e
  cases e1:comeS s.pg n with
  |none=>rw [e1] at e; cases e
  |some q =>
   rw [e1] at e
   have e:(if n<2∨(readR z img n).2≠0 then none else if (readR z img n).1.kind=4 then leafS z img (readR z img n).1 (16-k) b ⟨q,s.deep,s.out⟩ else match ofB (readR z img n).1 with
    |none=>none
    |some l=>forksS (nodeS z img k) b l 0 l.length ⟨q,s.deep,s.out⟩)=some t:=e
   obtain ⟨c1,c2⟩:=come_mono e1
   have key:∀ p∈q,p∈t.pg:=by
    split at e
    ·cases e
    ·split at e
     ·exact leaf_mono e
     ·cases el:ofB (readR z img n).1 with
      |none=>rw [el] at e; cases e
      |some l =>
       rw [el] at e
       exact forks_mono (fun n c s t e=>(node_in k n c s t e).1) _ _ ⟨q,s.deep,s.out⟩ t e
   exact ⟨fun p hp=>key p (c1 p hp),key n c2⟩
theorem node_alike (a:Alike z img img2 Q):∀ (k n:Nat) (b:Bd) (s t:Rs),nodeS z img k n b s=some t→(∀ p∈t.pg,Q p)→nodeS z img2 k n b s=some t
 |0,n,b,s,t,e,_=>by cases e
 |k+1,n,b,s,t,e,h=>by
  have hq:=h n (node_in _ _ _ _ _ e).2
  unfold nodeS at e ⊢
  rw [a.r n hq]
  cases e1:comeS s.pg n with
  |none=>rw [e1] at e; cases e
  |some q =>
   rw [e1] at e
   have e:(if n<2∨(readR z img n).2≠0 then none else if (readR z img n).1.kind=4 then leafS z img (readR z img n).1 (16-k) b ⟨q,s.deep,s.out⟩ else match ofB (readR z img n).1 with
    |none=>none
    |some l=>forksS (nodeS z img k) b l 0 l.length ⟨q,s.deep,s.out⟩)=some t:=e
   show (if n<2∨(readR z img n).2≠0 then none else if (readR z img n).1.kind=4 then leafS z img2 (readR z img n).1 (16-k) b ⟨q,s.deep,s.out⟩ else match ofB (readR z img n).1 with
    |none=>none
    |some l=>forksS (nodeS z img2 k) b l 0 l.length ⟨q,s.deep,s.out⟩)=some t
   split at e
   ·cases e
   ·rename_i c
    rw [if_neg c]
    split at e
    ·rename_i c4
     rw [if_pos c4]
     exact leaf_alike a e h
    ·rename_i c4
     rw [if_neg c4]
     cases el:ofB (readR z img n).1 with
     |none=>rw [el] at e; cases e
     |some l =>
      rw [el] at e
      exact forks_alike (fun n c s t e=>(node_in k n c s t e).1) (node_alike a k) _ _ _ _ e h
theorem tree_in {root:Nat} {pg:List Nat} {t:Rs} (e:treeS z img root pg=some t):∀ p∈pg,p∈t.pg:=by
 unfold treeS at e
 split at e
 ·cases e; exact fun p hp=>hp
 ·exact (node_in _ _ _ ⟨pg,0,[]⟩ _ e).1
theorem tree_alike (a:Alike z img img2 Q) {root:Nat} {pg:List Nat} {t:Rs} (e:treeS z img root pg=some t) (h:∀ p∈t.pg,Q p):treeS z img2 root pg=some t:=by
 unfold treeS at e ⊢
 split at e
 ·rename_i c; rw [if_pos c]; exact e
 ·rename_i c; rw [if_neg c]; exact node_alike a _ _ _ _ _ e h
theorem buckets_alike (a:Alike z img img2 Q):∀ (l:List Bk) (pg:List Nat) (out:List (List UInt8×List Pr)) (pg2:List Nat) (bs:List (List UInt8×List Pr)),bucketsS z img pg out l=some (pg2,bs)→(∀ p∈pg2,Q p)→(∀ p∈pg,p∈pg2)∧bucketsS z img2 pg out l=some (pg2,bs)
 |[],pg,out,pg2,bs,e,_=>by cases e; exact ⟨fun p hp=>hp,rfl⟩
 |b::l,pg,out,pg2,bs,e,h=>by
  unfold bucketsS at e ⊢
  cases e1:treeS z img b.root pg with
  |none=>rw [e1] at e; cases e
  |some s =>
   rw [e1] at e
   have e:(if (s.out.length:Int)=b.keys then bucketsS z img s.pg (out++[(b.name,s.out)]) l else none)=some (pg2,bs):=e
   split at e
   ·rename_i c
    obtain ⟨m,r⟩:=buckets_alike a l s.pg _ pg2 bs e h
    refine ⟨fun p hp=>m p (tree_in e1 p hp),?_⟩
    rw [tree_alike a e1 fun p hp=>h p (m p hp)]
    show (if (s.out.length:Int)=b.keys then bucketsS z img2 s.pg (out++[(b.name,s.out)]) l else none)=_
    rw [if_pos c]
    exact r
   ·cases e
end
set_option maxRecDepth 10000
set_option maxHeartbeats 4000000
theorem bl_op:∀ (x y:List UInt8),Op.bytesLess x y=decide (x<y)
 |[],[]=>by simp [Op.bytesLess]
 |_::_,[]=>by simp [Op.bytesLess]
 |[],_::_=>by simp [Op.bytesLess]
 |a::x,b::y=>by
  rw [Op.bytesLess,bl_op x y]
  simp only [List.cons_lt_cons_iff]
  by_cases h1:a<b<;>by_cases h2:a=b<;>by_cases h3:x<y<;>simp [h1,h2,h3]
theorem bl_eq (a b:List UInt8):bytesLess a b=decide (a<b):=(Ev.bytesLess_eq a b).trans (bl_op a b)
theorem bl_trans {a b c:List UInt8} (h1:bytesLess a b=true) (h2:bytesLess b c=true):bytesLess a c=true:=by
 rw [bl_eq,decide_eq_true_eq] at *
 exact List.lt_trans h1 h2
theorem bl_irr (a:List UInt8):bytesLess a a=false:=by
 rw [bl_eq,decide_eq_false_iff_not]
 exact List.lt_irrefl a
theorem bl_ge_trans {a b c:List UInt8} (h1:bytesLess b a=false) (h2:bytesLess c b=false):bytesLess c a=false:=by
 rw [bl_eq,decide_eq_false_iff_not] at *
 exact List.not_lt.2 (List.le_trans (List.not_lt.1 h1) (List.not_lt.1 h2))
theorem bl_lt_ge {a b c:List UInt8} (h1:bytesLess a b=true) (h2:bytesLess c b=false):bytesLess a c=true:=by
 rw [bl_eq,decide_eq_true_eq] at h1 ⊢
 rw [bl_eq,decide_eq_false_iff_not] at h2
 exact Decidable.byContradiction fun q=>h2 (List.lt_of_le_of_lt (List.not_lt.1 q) h1)
def Rise (l:List Pr):Prop:=l.Pairwise fun a b=>bytesLess a.key b.key=true
theorem adj_pair {α:Type} {R:α→α→Prop} (tr:∀ a b c,R a b→R b c→R a c):∀ (l:List α),(∀ i a b,l[i]?=some a→l[i+1]?=some b→R a b)→l.Pairwise R
 |[],_=>.nil
 |[x],_=>by simp
 |x::y::l,h=>by
  have ih:=adj_pair tr (y::l) fun i a b h1 h2=>h (i+1) a b (by simpa using h1) (by simpa using h2)
  have hxy:=h 0 x y rfl rfl
  refine List.pairwise_cons.2 ⟨fun a ha=>?_,ih⟩
  rcases List.mem_cons.1 ha with rfl|ha
  ·exact hxy
  ·exact tr _ _ _ hxy ((List.pairwise_cons.1 ih).1 a ha)
section
variable {z:Int} {img:List UInt8}
theorem item_out {b:Bd} {s t:Rs} {x:It} (e:itemS z img b s x=some t):b.inside x.key=true∧∃ v,t.out=s.out++[⟨x.key,v⟩]:=by
 unfold itemS at e
 split at e
 ·rename_i c
  refine ⟨c,?_⟩
  cases ov:x.over with
  |false=>rw [ov] at e; cases e; exact ⟨_,rfl⟩
  |true =>
   rw [ov] at e
   cases e7:overS z img x.head x.len with
   |none=>rw [e7] at e; cases e
   |some r =>
    obtain ⟨v,ps⟩:=r
    rw [e7] at e
    have e:(match comesS s.pg ps with
     |none=>none
     |some q=>some (⟨q,s.deep,s.out++[⟨x.key,v⟩]⟩:Rs))=some t:=e
    cases e8:comesS s.pg ps with
    |none=>rw [e8] at e; cases e
    |some q=>rw [e8] at e; cases e; exact ⟨_,rfl⟩
 ·cases e
theorem items_out {b:Bd}:∀ {l:List It} {s t:Rs},itemsS z img b s l=some t→∃ new,t.out=s.out++new∧new.map (·.key)=l.map (·.key)∧∀ x∈new,b.inside x.key=true
 |[],s,t,e=>by cases e; exact ⟨[],by simp,rfl,fun x hx=>by cases hx⟩
 |y::l,s,t,e=>by
  unfold itemsS at e
  cases e1:itemS z img b s y with
  |none=>rw [e1] at e; cases e
  |some s' =>
   rw [e1] at e
   obtain ⟨c,v,o⟩:=item_out e1
   obtain ⟨new,o2,m,i⟩:=items_out e
   refine ⟨⟨y.key,v⟩::new,by rw [o2,o]; simp,by simp [m],fun x hx=>?_⟩
   rcases List.mem_cons.1 hx with rfl|hx
   ·exact c
   ·exact i x hx
theorem leaf_out {p:Pg} {d:Nat} {b:Bd} {s t:Rs} (e:leafS z img p d b s=some t):∃ new,t.out=s.out++new∧Rise new∧∀ x∈new,b.inside x.key=true:=by
 unfold leafS at e
 cases el:ofI p with
 |none=>rw [el] at e; cases e
 |some l =>
  rw [el] at e
  have e:(if s.deep=0∨s.deep=d then itemsS z img b ⟨s.pg,d,s.out⟩ l else none)=some t:=e
  split at e
  ·obtain ⟨new,o,m,i⟩:=items_out e
   refine ⟨new,o,?_,i⟩
   have ok:=(ofI_len el).2.1
   have pw:(l.map (·.key)).Pairwise (fun a b=>bytesLess a b=true):=by
    rw [List.pairwise_map]
    refine adj_pair (R:=fun a b:It=>bytesLess a.key b.key=true) (fun a b c=>bl_trans) l fun i a b h1 h2=>?_
    exact (ok (i+1) b h2).2 (by omega) a (by simpa using h1)
   rw [← m,List.pairwise_map] at pw
   exact pw
  ·cases e
theorem inside_iff {b:Bd} {k:List UInt8}:b.inside k=true↔bytesLess k b.low=false∧(b.high=true→bytesLess k b.less=true):=by
 unfold Bd.inside
 cases bytesLess k b.low<;>cases b.high<;>simp
theorem forks_out {go:Nat→Bd→Rs→Option Rs} {b:Bd} {l:List Fk} (ok:okB l) (hg:∀ n c s t,go n c s=some t→∃ new,t.out=s.out++new∧Rise new∧∀ x∈new,c.inside x.key=true):∀ (k i:Nat) (s t:Rs),i+k=l.length→forksS go b l i k s=some t→∃ new,t.out=s.out++new∧Rise new∧∀ x∈new,b.inside x.key=true∧(0<i→bytesLess x.key (l.getD i ⟨[],0⟩).key=false)
 |0,i,s,t,hk,e=>by cases e; exact ⟨[],by simp,.nil,fun x hx=>by cases hx⟩
 |k+1,i,s,t,hk,e=>by
  unfold forksS at e
  split at e
  ·cases e
  ·rename_i c
   cases e1:go (l.getD i ⟨[],0⟩).child (forkB b l i) s with
   |none=>rw [e1] at e; cases e
   |some s' =>
    rw [e1] at e
    have e:forksS go b l (i+1) k s'=some t:=e
    obtain ⟨n1,o1,r1,i1⟩:=hg _ _ _ _ e1
    obtain ⟨n2,o2,r2,i2⟩:=forks_out ok hg k (i+1) s' t (by omega) e
    have nx:i+1<l.length→b.inside (l.getD (i+1) ⟨[],0⟩).key=true:=fun h=>by
     obtain ⟨k',rfl⟩:∃ k',k=k'+1:=⟨k-1,by omega⟩
     unfold forksS at e
     split at e
     ·cases e
     ·rename_i c'
      cases q:b.inside (l.getD (i+1) ⟨[],0⟩).key with
      |true=>rfl
      |false=>exact absurd ⟨by omega,q⟩ c'
    have one:∀ x∈n1,b.inside x.key=true∧(0<i→bytesLess x.key (l.getD i ⟨[],0⟩).key=false)∧(i+1<l.length→bytesLess x.key (l.getD (i+1) ⟨[],0⟩).key=true):=fun x hx=>by
     have h:=inside_iff.1 (i1 x hx)
     unfold forkB at h
     dsimp only at h
     obtain ⟨h1,h2⟩:=h
     refine ⟨inside_iff.2 ⟨?_,fun hb=>?_⟩,fun h0=>by rw [if_pos h0] at h1; exact h1,fun hl=>by rw [if_pos hl,if_pos hl] at h2; exact h2 rfl⟩
     ·by_cases h0:0<i
      ·rw [if_pos h0] at h1
       have hi:b.inside (l.getD i ⟨[],0⟩).key=true:=by
        cases q:b.inside (l.getD i ⟨[],0⟩).key with
        |true=>rfl
        |false=>exact absurd ⟨h0,q⟩ c
       exact bl_ge_trans (inside_iff.1 hi).1 h1
      ·rw [if_neg h0] at h1; exact h1
     ·by_cases hl:i+1<l.length
      ·rw [if_pos hl,if_pos hl] at h2
       exact bl_trans (h2 rfl) ((inside_iff.1 (nx hl)).2 hb)
      ·rw [if_neg hl,if_neg hl] at h2
       exact h2 hb
    refine ⟨n1++n2,by rw [o2,o1,List.append_assoc],?_,fun x hx=>?_⟩
    ·refine List.pairwise_append.2 ⟨r1,r2,fun x hx y hy=>?_⟩
     have hl:i+1<l.length:=by
      rcases Nat.lt_or_ge (i+1) l.length with q|q
      ·exact q
      ·have:k=0:=by omega
       subst this
       have e:some s'=some t:=e
       cases e
       have:n2=[]:=by simpa using o2
       rw [this] at hy; cases hy
     exact bl_lt_ge ((one x hx).2.2 hl) ((i2 y hy).2 (by omega))
    ·rcases List.mem_append.1 hx with h|h
     ·exact ⟨(one x h).1,(one x h).2.1⟩
     ·refine ⟨(i2 x h).1,fun h0=>?_⟩
      have hl:i+1<l.length:=by
       rcases Nat.lt_or_ge (i+1) l.length with q|q
       ·exact q
       ·have:k=0:=by omega
        subst this
        have e:some s'=some t:=e
        cases e
        have:n2=[]:=by simpa using o2
        rw [this] at h; cases h
      obtain ⟨a,ha⟩:∃ a,l[i]?=some a:=⟨l[i],List.getElem?_eq_getElem (by omega)⟩
      obtain ⟨a',ha'⟩:∃ a',l[i+1]?=some a':=⟨l[i+1],List.getElem?_eq_getElem hl⟩
      have lt:=(ok (i+1) a' ha').2.2 (by omega) a (by simpa using ha)
      have g1:l.getD i ⟨[],0⟩=a:=by rw [List.getD_eq_getElem?_getD,ha]; rfl
      have g2:l.getD (i+1) ⟨[],0⟩=a':=by rw [List.getD_eq_getElem?_getD,ha']; rfl
      have q:=(i2 x h).2 (by omega)
      rw [g2] at q
      rw [g1]
      have:bytesLess a'.key a.key=false:=by
       cases w:bytesLess a'.key a.key with
       |false=>rfl
       |true=>have:=bl_trans lt w; rw [bl_irr] at this; cases this
      exact bl_ge_trans this q
theorem node_out:∀ (k n:Nat) (b:Bd) (s t:Rs),nodeS z img k n b s=some t→∃ new,t.out=s.out++new∧Rise new∧∀ x∈new,b.inside x.key=true
 |0,n,b,s,t,e=>by cases e
 |k+1,n,b,s,t,e=>by
  unfold nodeS at e
  cases e1:comeS s.pg n with
  |none=>rw [e1] at e; cases e
  |some q =>
   rw [e1] at e
   have e:(if n<2∨(readR z img n).2≠0 then none else if (readR z img n).1.kind=4 then leafS z img (readR z img n).1 (16-k) b ⟨q,s.deep,s.out⟩ else match ofB (readR z img n).1 with
    |none=>none
    |some l=>forksS (nodeS z img k) b l 0 l.length ⟨q,s.deep,s.out⟩)=some t:=e
   split at e
   ·cases e
   ·split at e
    ·exact leaf_out (s:=⟨q,s.deep,s.out⟩) e
    ·cases el:ofB (readR z img n).1 with
     |none=>rw [el] at e; cases e
     |some l =>
      rw [el] at e
      obtain ⟨new,o,r,i⟩:=forks_out (ofB_500 el).2.1 (node_out k) l.length 0 ⟨q,s.deep,s.out⟩ t (by omega) e
      exact ⟨new,o,r,fun x hx=>(i x hx).1⟩
theorem tree_out {root:Nat} {pg:List Nat} {t:Rs} (e:treeS z img root pg=some t):Rise t.out:=by
 unfold treeS at e
 split at e
 ·cases e; exact .nil
 ·obtain ⟨new,o,r,_⟩:=node_out _ _ _ _ _ e
  have o:t.out=[]++new:=o
  rw [o,List.nil_append]
  exact r
def Two (pg:List Nat):Prop:=∀ p∈pg,2≤p
theorem comes_two {pg q l:List Nat} (e:comesS pg l=some q) (h:Two pg) (hl:Two l):Two q:=by
 rw [comesS_app e]
 exact fun p hp=>by rcases List.mem_append.1 hp with r|r; exact h p r; exact hl p r
theorem item_two {b:Bd} {s t:Rs} {x:It} (e:itemS z img b s x=some t) (h:Two s.pg):Two t.pg:=by
 unfold itemS at e
 split at e
 ·cases ov:x.over with
  |false=>rw [ov] at e; cases e; exact h
  |true =>
   rw [ov] at e
   cases e7:overS z img x.head x.len with
   |none=>rw [e7] at e; cases e
   |some r =>
    obtain ⟨v,ps⟩:=r
    rw [e7] at e
    have e:(match comesS s.pg ps with
     |none=>none
     |some q=>some (⟨q,s.deep,s.out++[⟨x.key,v⟩]⟩:Rs))=some t:=e
    cases e8:comesS s.pg ps with
    |none=>rw [e8] at e; cases e
    |some q=>rw [e8] at e; cases e; exact comes_two e8 h fun p hp=>((over_lt e7).1 p hp).2
 ·cases e
theorem items_two {b:Bd}:∀ {l:List It} {s t:Rs},itemsS z img b s l=some t→Two s.pg→Two t.pg
 |[],s,t,e,h=>by cases e; exact h
 |x::l,s,t,e,h=>by
  unfold itemsS at e
  cases e1:itemS z img b s x with
  |none=>rw [e1] at e; cases e
  |some s'=>rw [e1] at e; exact items_two e (item_two e1 h)
theorem leaf_two {p:Pg} {d:Nat} {b:Bd} {s t:Rs} (e:leafS z img p d b s=some t) (h:Two s.pg):Two t.pg:=by
 unfold leafS at e
 cases el:ofI p with
 |none=>rw [el] at e; cases e
 |some l =>
  rw [el] at e
  have e:(if s.deep=0∨s.deep=d then itemsS z img b ⟨s.pg,d,s.out⟩ l else none)=some t:=e
  split at e
  ·exact items_two (s:=⟨s.pg,d,s.out⟩) e h
  ·cases e
theorem forks_two {go:Nat→Bd→Rs→Option Rs} {b:Bd} {l:List Fk} (hg:∀ n c s t,go n c s=some t→Two s.pg→Two t.pg):∀ (k i:Nat) (s t:Rs),forksS go b l i k s=some t→Two s.pg→Two t.pg
 |0,i,s,t,e,h=>by cases e; exact h
 |k+1,i,s,t,e,h=>by
  unfold forksS at e
  split at e
  ·cases e
  ·cases e1:go (l.getD i ⟨[],0⟩).child (forkB b l i) s with
   |none=>rw [e1] at e; cases e
   |some s'=>rw [e1] at e; exact forks_two hg k (i+1) s' t e (hg _ _ _ _ e1 h)
theorem node_two:∀ (k n:Nat) (b:Bd) (s t:Rs),nodeS z img k n b s=some t→Two s.pg→Two t.pg
 |0,n,b,s,t,e,_=>by cases e
 |k+1,n,b,s,t,e,h=>by
  unfold nodeS at e
  cases e1:comeS s.pg n with
  |none=>rw [e1] at e; cases e
  |some q =>
   rw [e1] at e
   have e:(if n<2∨(readR z img n).2≠0 then none else if (readR z img n).1.kind=4 then leafS z img (readR z img n).1 (16-k) b ⟨q,s.deep,s.out⟩ else match ofB (readR z img n).1 with
    |none=>none
    |some l=>forksS (nodeS z img k) b l 0 l.length ⟨q,s.deep,s.out⟩)=some t:=e
   split at e
   ·cases e
   ·rename_i c
    have hq:Two q:=by
     rw [comeS_len e1]
     exact fun p hp=>by
      rcases List.mem_append.1 hp with r|r
      ·exact h p r
      ·obtain rfl:=List.mem_singleton.1 r
       have:¬ p<2:=fun q=>c (.inl q)
       omega
    split at e
    ·exact leaf_two (s:=⟨q,s.deep,s.out⟩) e hq
    ·cases el:ofB (readR z img n).1 with
     |none=>rw [el] at e; cases e
     |some l=>rw [el] at e; exact forks_two (node_two k) _ _ ⟨q,s.deep,s.out⟩ t e hq
theorem tree_two {root:Nat} {pg:List Nat} {t:Rs} (e:treeS z img root pg=some t) (h:Two pg):Two t.pg:=by
 unfold treeS at e
 split at e
 ·cases e; exact h
 ·exact node_two _ _ _ ⟨pg,0,[]⟩ _ e h
theorem buckets_out:∀ (l:List Bk) (pg:List Nat) (out:List (List UInt8×List Pr)) (pg2:List Nat) (bs:List (List UInt8×List Pr)),bucketsS z img pg out l=some (pg2,bs)→Two pg→Fine (pages z img) pg→Two pg2∧Fine (pages z img) pg2∧∃ new,bs=out++new∧new.map (·.1)=l.map (·.name)∧∀ b∈new,Rise b.2∧b.2.length≤1400*pages z img
 |[],pg,out,pg2,bs,e,h,f=>by cases e; exact ⟨h,f,[],by simp,rfl,fun x hx=>by cases hx⟩
 |b::l,pg,out,pg2,bs,e,h,f=>by
  unfold bucketsS at e
  cases e1:treeS z img b.root pg with
  |none=>rw [e1] at e; cases e
  |some s =>
   rw [e1] at e
   have e:(if (s.out.length:Int)=b.keys then bucketsS z img s.pg (out++[(b.name,s.out)]) l else none)=some (pg2,bs):=e
   split at e
   ·obtain ⟨f2,_,ol⟩:=treeS_grow f e1
    obtain ⟨a,ff,new,o,m,r⟩:=buckets_out l s.pg _ pg2 bs e (tree_two e1 h) f2
    refine ⟨a,ff,(b.name,s.out)::new,by rw [o]; simp,by simp [m],fun x hx=>?_⟩
    rcases List.mem_cons.1 hx with rfl|hx
    ·exact ⟨tree_out e1,by have:=f2.len; have:=Nat.mul_le_mul_left 1400 this; simp only; omega⟩
    ·exact r x hx
   ·cases e
theorem den_out {n:Nat} {pg:List Nat} {bs:List (List UInt8×List Pr)} (e:denS z img n=some (pg,bs)):Two pg∧Fine (pages z img) pg∧(n=0∨n∈pg)∧(bs.map (·.1)).Pairwise (fun a b=>bytesLess a b=true)∧(∀ b∈bs,Rise b.2∧b.2.length≤1400*pages z img)∧bs.length≤500:=by
 unfold denS at e
 split at e
 ·rename_i c
  cases e
  exact ⟨fun p hp=>(by cases hp),⟨.nil,fun p hp=>(by cases hp)⟩,.inl c,.nil,fun b hb=>(by cases hb),Nat.zero_le _⟩
 ·rename_i c
  split at e
  ·cases e
  ·rename_i c2
   cases el:ofC (rightR z img n 2).1 with
   |none=>rw [el] at e; cases e
   |some l =>
    rw [el] at e
    have n2:¬ n<2:=fun q=>c2 (.inl q)
    have r1:(readR z img n).2=0:=by
     have c3:(rightR z img n 2).2≠false:=fun q=>c2 (.inr q)
     unfold rightR at c3
     by_cases q:(readR z img n).2=0∧(readR z img n).1.kind=2∧rightP (readR z img n).1
     ·exact q.1
     ·rw [if_neg q] at c3; exact absurd rfl c3
    have lt:=(read_page r1).2
    have t0:Two [n]:=fun p hp=>by obtain rfl:=List.mem_singleton.1 hp; omega
    have f0:Fine (pages z img) [n]:=⟨by simp,fun q hq=>by obtain rfl:=List.mem_singleton.1 hq; exact lt⟩
    obtain ⟨a,ff,new,o,m,r⟩:=buckets_out l [n] [] pg bs e t0 f0
    have o:bs=new:=by rw [o]; rfl
    subst o
    obtain ⟨ll,lok⟩:=ofC_500 el
    refine ⟨a,ff,.inr ((buckets_alike (img2:=img) (Q:=fun p=>True) ⟨fun p _=>rfl,rfl⟩ l [n] [] pg bs e fun p hp=>trivial).1 n (by simp)),?_,r,?_⟩
    ·rw [m,List.pairwise_map]
     refine adj_pair (R:=fun a b:Bk=>bytesLess a.name b.name=true) (fun a b c=>bl_trans) l fun i a b h1 h2=>?_
     exact (lok (i+1) b h2).2 (by omega) a (by simpa using h1)
    ·have:=congrArg List.length m
     simp only [List.length_map] at this
     omega
end
end Go.Proofs.YtmnhbehmjaibgaaGreat
