/- What the functions of this part answer at any input, told by the rules over the evaluator. Conditions: those that each theorem states. -/
import Derived.Test.YthdlebegkhnbiaaGreatRev
import Derived.Test.YthdlebegkhnbiaaGreatGao
set_option linter.unusedVariables false
set_option linter.unusedSimpArgs false
open Go Ev
namespace Go.Proofs.YthdlebegkhnbiaaGreat
set_option maxRecDepth 10000
set_option maxHeartbeats 4000000
theorem readR_ok {z:Int} {img:List UInt8} {p:Nat} (e:(readR z img p).2=0):p<pages z img∧(readR z img p).1.page=p∧mayF z (readR z img p).1:=by
 refine ⟨?_,?_,pages_len z img p e⟩
 ·unfold readR at e
  split at e<;>rename_i c1
  ·split at e<;>rename_i c2
   ·exact c2
   ·cases e
  ·cases e
 ·unfold readR getR at e ⊢
  by_cases c1:Good z
  case neg=>rw [if_neg c1] at e; cases e
  by_cases c2:p<pages z img
  case neg=>rw [if_pos c1,if_neg c2] at e; cases e
  rw [if_pos c1,if_pos c2,if_pos c1] at e ⊢
  by_cases c3:((atL z img p).length:Int)=z∧getP z p (atL z img p)
  case neg=>rw [if_neg c3] at e; cases e
  rw [if_pos c3]
  exact c3.2.2.2.1
theorem rightR_ok {z:Int} {img:List UInt8} {p:Nat} {k:Int} (e:(rightR z img p k).2=true):p<pages z img∧(rightR z img p k).1.page=p∧mayF z (rightR z img p k).1∧(rightR z img p k).1.kind=k∧rightP (rightR z img p k).1:=by
 unfold rightR at e ⊢
 split at e<;>rename_i c
 case isFalse=>cases e
 rw [if_pos c]
 obtain ⟨a,b,d⟩:=readR_ok c.1
 exact ⟨a,b,d,c.2.1,c.2.2⟩
theorem rightR_no {z:Int} {img:List UInt8} {p:Nat} {k:Int} (e:(rightR z img p k).2=false):(rightR z img p k).1=Pg.zero:=by
 unfold rightR at e ⊢
 split at e<;>rename_i c
 ·cases e
 ·rw [if_neg c]
theorem pageR2_ok {z:Int} {img:List UInt8} {v:Vis} (e:(pageR2 z img v).2=true):v.page<pages z img∧(pageR2 z img v).1.page=v.page∧mayF z (pageR2 z img v).1∧rightP (pageR2 z img v).1∧((pageR2 z img v).1.kind=v.kind∨v.kind=3∧(pageR2 z img v).1.kind=4):=by
 unfold pageR2 at e ⊢
 split at e<;>rename_i c
 ·rw [if_pos c]
  obtain ⟨a1,a2,a3,a4,a5⟩:=rightR_ok e
  exact ⟨a1,a2,a3,a5,.inr ⟨c.2,a4⟩⟩
 ·rw [if_neg c]
  obtain ⟨a1,a2,a3,a4,a5⟩:=rightR_ok e
  exact ⟨a1,a2,a3,a5,.inl a4⟩
theorem pageR2_no {z:Int} {img:List UInt8} {v:Vis} (e:(pageR2 z img v).2=false):(pageR2 z img v).1=Pg.zero:=by
 unfold pageR2 at e ⊢
 split at e<;>rename_i c
 ·rw [if_pos c]; exact rightR_no e
 ·rw [if_neg c]; exact rightR_no e
noncomputable def seenP (z:Int) (img:List UInt8) (met:List Nat) (v:Vis):Sn :=
 if v.page<2∨pages z img≤v.page then ⟨v,1,Pg.zero⟩
 else if v.page∈met then ⟨v,2,Pg.zero⟩
 else if v.depth>16 then ⟨v,3,Pg.zero⟩
 else ⟨v,if (pageR2 z img v).2=true then 0 else 4,(pageR2 z img v).1⟩
inductive Run (z:Int) (img:List UInt8):List Nat→List Vis→List Sn→Prop
 |done {m:List Nat}:Run z img m [] []
 |step {m:List Nat} {left:List Vis} {v:Vis} {l:List Sn} (r:Run z img (if (seenP z img m v).why=1 then m else v.page::m) (visitsV (seenP z img m v)++left) l):Run z img m (v::left) (seenP z img m v::l)
theorem seenP_visit (z:Int) (img:List UInt8) (m:List Nat) (v:Vis):(seenP z img m v).visit=v:=by
 unfold seenP; split
 ·rfl
 ·split
  ·rfl
  ·split<;>rfl
theorem seenP_small (z:Int) (img:List UInt8) (m:List Nat) (v:Vis):(seenP z img m v).page.body.length≤4072∧(seenP z img m v).page.count<1000000000∧(seenP z img m v).page.link<4294967296:=by
 have rl:=room_le z
 have zz:Pg.zero.body.length≤4072∧Pg.zero.count<1000000000∧Pg.zero.link<4294967296:=by decide
 unfold seenP; split
 ·exact zz
 ·split
  ·exact zz
  ·split
   ·exact zz
   ·cases e:(pageR2 z img v).2 with
    |true =>
     obtain ⟨a1,a2,a3,a4,a5⟩:=pageR2_ok e
     unfold mayF at a3
     dsimp only
     omega
    |false=>rw [pageR2_no e]; exact zz
theorem parseI_len:∀ (k:Nat) (s:List UInt8) (l:List It),parseI k s=some l→3*l.length≤s.length
 |0,s,l,h=>by cases h; simp
 |k+1,s,l,h=>by
  unfold parseI at h
  by_cases c:okI s
  case neg=>rw [if_neg c] at h; cases h
  rw [if_pos c] at h
  cases e:parseI k (itRest s) with
  |none=>rw [e] at h; cases h
  |some m =>
   rw [e] at h
   cases h
   have ih:=parseI_len k (itRest s) m e
   have rl:=itRest_len c
   rw [List.length_cons]
   omega
theorem parseI_head:∀ (k:Nat) (s:List UInt8) (l:List It),parseI k s=some l→∀ x∈l,x.head<4294967296
 |0,s,l,h=>by cases h; simp
 |k+1,s,l,h=>by
  unfold parseI at h
  by_cases c:okI s
  case neg=>rw [if_neg c] at h; cases h
  rw [if_pos c] at h
  cases e:parseI k (itRest s) with
  |none=>rw [e] at h; cases h
  |some m =>
   rw [e] at h
   cases h
   have ih:=parseI_head k (itRest s) m e
   intro x hx
   rcases List.mem_cons.1 hx with rfl|hx
   ·have:=numV_lt 4 (i4 s)
    unfold itOf
    split
    ·exact this
    ·exact (by decide:(0:Nat)<4294967296)
   ·exact ih x hx
theorem parseF_child:∀ (k:Nat) (s:List UInt8) (l:List Fk),parseF k s=some l→∀ x∈l,x.child<4294967296
 |0,s,l,h=>by cases h; simp
 |k+1,s,l,h=>by
  unfold parseF at h
  by_cases c:okF s
  case neg=>rw [if_neg c] at h; cases h
  rw [if_pos c] at h
  cases e:parseF k (fkRest s) with
  |none=>rw [e] at h; cases h
  |some m =>
   rw [e] at h
   cases h
   have ih:=parseF_child k (fkRest s) m e
   intro x hx
   rcases List.mem_cons.1 hx with rfl|hx
   ·exact numV_lt 4 _
   ·exact ih x hx
theorem parseC_root:∀ (k:Nat) (s:List UInt8) (l:List Bk),parseC k s=some l→∀ x∈l,x.root<4294967296
 |0,s,l,h=>by cases h; simp
 |k+1,s,l,h=>by
  unfold parseC at h
  split at h
  ·cases h
  ·rename_i b s' e
   cases e2:parseC k s' with
   |none=>rw [e2] at h; cases h
   |some m =>
    rw [e2] at h
    cases h
    have ih:=parseC_root k s' m e2
    intro x hx
    rcases List.mem_cons.1 hx with rfl|hx
    ·unfold stepC at e
     split at e
     ·cases e; exact numV_lt 4 _
     ·cases e
    ·exact ih x hx
theorem ofI_parse {p:Pg} {l:List It} (h:ofI p=some l):parseI p.count.toNat p.body=some l:=by
 unfold ofI at h
 split at h
 ·cases h
 ·rename_i l' e
  split at h
  ·cases h; exact e
  ·cases h
theorem ofB_parse {p:Pg} {l:List Fk} (h:ofB p=some l):parseF p.count.toNat p.body=some l:=by
 unfold ofB at h
 split at h
 ·cases h
 ·rename_i l' e
  split at h
  ·cases h; exact e
  ·cases h
theorem ofC_parse {p:Pg} {l:List Bk} (h:ofC p=some l):parseC p.count.toNat p.body=some l:=by
 unfold ofC at h
 split at h
 ·cases h
 ·rename_i l' e
  split at h
  ·cases h; exact e
  ·cases h
theorem visits_why {s:Sn} (h:s.why≠0):visitsV s=[]:=by unfold visitsV; rw [if_pos h]
theorem visits_len (s:Sn):(visitsV s).length≤s.page.body.length+1:=by
 unfold visitsV
 split
 ·simp
 split
 ·refine Nat.le_trans (flat_le _ (vC_le s _) _) ?_
  cases e:ofC s.page with
  |none=>simp
  |some l=>have:=ofC_len e; simp only [Option.getD_some]; omega
 split
 ·unfold ofBranchV
  refine Nat.le_trans (flat_le _ (vB_le s _ _) _) ?_
  cases e:ofB s.page with
  |none=>simp
  |some l=>have:=ofB_len e; simp only [Option.getD_some]; omega
 split
 ·unfold ofLeafV
  refine Nat.le_trans (flat_le _ (vI_le s _) _) ?_
  cases e:ofI s.page with
  |none=>simp
  |some l=>have:=parseI_len _ _ _ (ofI_parse e); simp only [Option.getD_some]; omega
 split
 ·split<;>simp
 ·simp
theorem visits_mem {s:Sn} {w:Vis} (hl:s.page.link<4294967296) (h:w∈visitsV s):w.from'=s.visit.page∧w.page<4294967296∧(w.depth=1∨w.depth=s.visit.depth∨w.depth=s.visit.depth+1):=by
 unfold visitsV at h
 split at h
 ·cases h
 split at h
 ·obtain ⟨i,-,h⟩:=List.mem_flatMap.1 h
  unfold vC at h
  split at h
  ·rename_i x hx
   split at h
   ·obtain rfl:=List.mem_singleton.1 h
    refine ⟨rfl,?_,.inl rfl⟩
    cases e:ofC s.page with
    |none=>rw [e] at hx; cases hx
    |some l=>rw [e] at hx; exact parseC_root _ _ _ (ofC_parse e) x (List.mem_of_getElem? hx)
   ·cases h
  ·cases h
 split at h
 ·unfold ofBranchV at h
  obtain ⟨i,-,h⟩:=List.mem_flatMap.1 h
  unfold vB at h
  split at h
  ·rename_i x hx
   obtain rfl:=List.mem_singleton.1 h
   refine ⟨rfl,?_,.inr (.inr rfl)⟩
   cases e:ofB s.page with
   |none=>rw [e] at hx; cases hx
   |some l=>rw [e] at hx; exact parseF_child _ _ _ (ofB_parse e) x (List.mem_of_getElem? hx)
  ·cases h
 split at h
 ·unfold ofLeafV at h
  obtain ⟨i,-,h⟩:=List.mem_flatMap.1 h
  unfold vI at h
  split at h
  ·rename_i x hx
   split at h
   ·obtain rfl:=List.mem_singleton.1 h
    refine ⟨rfl,?_,.inr (.inl rfl)⟩
    cases e:ofI s.page with
    |none=>rw [e] at hx; cases hx
    |some l=>rw [e] at hx; exact parseI_head _ _ _ (ofI_parse e) x (List.mem_of_getElem? hx)
   ·cases h
  ·cases h
 split at h
 ·split at h
  ·obtain rfl:=List.mem_singleton.1 h
   exact ⟨rfl,hl,.inr (.inl rfl)⟩
  ·cases h
 ·cases h
def unm (N:Nat) (m:List Nat):Nat:=((List.range N).filter fun p=>decide (p ∉ m)).length
theorem filter_lt {α:Type} {l:List α} {p q:α→Bool} (h:∀ x∈l,q x=true→p x=true) {a:α} (ha:a∈l) (h1:p a=true) (h2:q a=false):(l.filter q).length+1≤(l.filter p).length:=by
 induction l with
 |nil=>cases ha
 |cons b l ih =>
  have hb:=h b (.head _)
  have hl:∀ x∈l,q x=true→p x=true:=fun x hx=>h x (.tail _ hx)
  have le:∀ (l:List α),(∀ x∈l,q x=true→p x=true)→(l.filter q).length≤(l.filter p).length:=by
   intro l
   induction l with
   |nil=>intro _; simp
   |cons c l ih2 =>
    intro hh
    have h3:=ih2 fun x hx=>hh x (.tail _ hx)
    have h4:=hh c (.head _)
    rw [List.filter_cons,List.filter_cons]
    cases e:q c with
    |true=>rw [h4 e]; simp; exact h3
    |false=>cases e2:p c<;>simp<;>omega
  rcases List.mem_cons.1 ha with rfl|ha
  ·rw [List.filter_cons,List.filter_cons,h1,h2]
   have:=le l hl
   simp
   omega
  ·have i1:=ih hl ha
   rw [List.filter_cons,List.filter_cons]
   cases e:q b with
   |true=>rw [hb e]; simp; omega
   |false=>cases e2:p b<;>simp<;>omega
theorem unm_lt {N:Nat} {m:List Nat} {p:Nat} (hp:p<N) (hm:p ∉ m):unm N (p::m)+1≤unm N m :=
 filter_lt (fun x _ h=>by simp at h ⊢; exact h.2) (List.mem_range.2 hp) (by simpa using hm) (by simp)
theorem unm_same {N:Nat} {m:List Nat} {p:Nat} (hm:p∈m):unm N (p::m)=unm N m:=by
 unfold unm
 congr 1
 refine List.filter_congr fun x _=>?_
 simp only [List.mem_cons,not_or]
 congr 1
 refine propext ⟨fun h=>h.2,fun h=>⟨fun e=>h (e ▸ hm),h⟩⟩
theorem unm_le (N:Nat) (m:List Nat):unm N m≤N:=by
 unfold unm
 exact Nat.le_trans (List.length_filter_le _ _) (by simp)
noncomputable def next' (z:Int) (img:List UInt8) (m:List Nat) (v:Vis):List Nat:=if (seenP z img m v).why=1 then m else v.page::m
theorem step_lt (z:Int) (img:List UInt8) (m:List Nat) (v:Vis) (left:List Vis):unm (pages z img) (next' z img m v)*5000+(visitsV (seenP z img m v)++left).length+1≤unm (pages z img) m*5000+(v::left).length:=by
 have vl:=visits_len (seenP z img m v)
 have sm:=seenP_small z img m v
 rw [List.length_append,List.length_cons]
 unfold next'
 by_cases c1:v.page<2∨pages z img≤v.page
 ·have e:seenP z img m v=⟨v,1,Pg.zero⟩:=by unfold seenP; rw [if_pos c1]
  rw [e,visits_why (show (1:Int)≠0 by decide)]
  simp
  omega
 by_cases c2:v.page∈m
 ·have e:seenP z img m v=⟨v,2,Pg.zero⟩:=by unfold seenP; rw [if_neg c1,if_pos c2]
  rw [e,visits_why (show (2:Int)≠0 by decide)]
  simp [unm_same c2]
  omega
 have lt:=unm_lt (N:=pages z img) (m:=m) (p:=v.page) (by omega) c2
 have w1:(seenP z img m v).why≠1:=by
  unfold seenP; rw [if_neg c1,if_neg c2]
  split
  ·exact (by decide:(3:Int)≠1)
  ·dsimp only
   split<;>decide
 rw [if_neg w1]
 omega
def WM (N:Nat) (m met:List Nat):Prop:=m.length=N / 64+1∧(∀ x∈m,x<18446744073709551616)∧∀ p,p<N→((m.getD (p / 64) 0).testBit (p % 64)=true↔p∈met)
theorem WM.zero (N:Nat):WM N (List.replicate (N / 64+1) 0) []:=by
 refine ⟨by simp,fun x hx=>by rw [List.eq_of_mem_replicate hx]; decide,fun p hp=>?_⟩
 rw [List.getD_eq_getElem?_getD,List.getElem?_replicate]
 split<;>simp
theorem WM.put {N:Nat} {m met:List Nat} {p x:Nat} (w:WM N m met) (hp:p<N) (hx:m[p / 64]?=some x):WM N (m.set (p / 64) (x ||| 1*2 ^ (p % 64))) (p::met):=by
 obtain ⟨w1,w2,w3⟩:=w
 have hx2:=w2 x (List.mem_of_getElem? hx)
 refine ⟨by rw [List.length_set]; exact w1,fun y hy=>?_,fun q hq=>?_⟩
 ·rcases List.mem_or_eq_of_mem_set hy with h|rfl
  ·exact w2 y h
  ·exact Nat.or_lt_two_pow (n:=64) hx2 (by rw [Nat.one_mul]; exact Nat.pow_lt_pow_right (by decide) (Nat.mod_lt _ (by decide)))
 ·have e:=w3 q hq
  rw [List.getD_eq_getElem?_getD] at e ⊢
  rw [List.getElem?_set,List.mem_cons]
  by_cases c:p / 64=q / 64
  ·rw [if_pos c,if_pos (by omega),Option.getD_some,Nat.testBit_or,Nat.one_mul,Nat.testBit_two_pow,Bool.or_eq_true]
   rw [← c,hx,Option.getD_some] at e
   rw [e,decide_eq_true_eq]
   refine ⟨fun h=>?_,fun h=>?_⟩
   ·rcases h with h|h
    ·exact .inr h
    ·exact .inl (by omega)
   ·rcases h with h|h
    ·exact .inr (by rw [h])
    ·exact .inl h
  ·rw [if_neg c,e]
   exact ⟨fun h=>.inr h,fun h=>by rcases h with h|h; exact absurd (by rw [h]) c; exact h⟩
theorem WM.at {N:Nat} {m met:List Nat} {p:Nat} (w:WM N m met) (hp:p<N):∃ x,m[p / 64]?=some x∧x<18446744073709551616∧(x.testBit (p % 64)=true↔p∈met):=by
 obtain ⟨w1,w2,w3⟩:=w
 have h:p / 64<m.length:=by omega
 refine ⟨m[p / 64],List.getElem?_eq_getElem h,w2 _ (List.getElem_mem h),?_⟩
 have e:=w3 p hp
 rw [List.getD_eq_getElem?_getD,List.getElem?_eq_getElem h,Option.getD_some] at e
 exact e
set_option maxRecDepth 10000
set_option maxHeartbeats 4000000
theorem times_u64:∀ n,times [AV.int .u64 0] n=(List.replicate n 0).flatMap u64c
 |0=>rfl
 |n+1=>by rw [List.replicate_succ,List.flatMap_cons,← times_u64 n]; rfl
theorem seen_deep {z:Int} {img:List UInt8} {m:List Nat} {v:Vis} (h:(seenP z img m v).why=0):v.depth≤16∧2≤v.page∧v.page<pages z img∧v.page ∉ m∧(pageR2 z img v).2=true:=by
 unfold seenP at h
 split at h
 ·exact absurd h (by decide:(1:Int)≠0)
 split at h
 ·exact absurd h (by decide:(2:Int)≠0)
 split at h
 ·exact absurd h (by decide:(3:Int)≠0)
 ·rename_i c1 c2 c3
  cases e:(pageR2 z img v).2 with
  |true=>exact ⟨by omega,by omega,by omega,c2,rfl⟩
  |false=>rw [e] at h; exact absurd h (by decide:(4:Int)≠0)
theorem pages_128 (z:Int) (img:List UInt8):pages z img*128≤img.length:=by
 unfold pages
 split
 ·rename_i g
  unfold Good at g
  refine Nat.le_trans (Nat.mul_le_mul_left _ (show 128≤z.toNat by omega)) (Nat.div_mul_le_self _ _)
 ·simp
theorem lsu_of {h:Heap} {B k:Nat} {m:List Nat} (hg:h.get B=some (.cells 30 (m.flatMap u64c) true)) (hl:B<h.next) (hm:m.length=k):LsU h (.slice B 0 k k) m:=by
 subst hm
 have e:(m.flatMap u64c).length=m.length*1:=flat_len u64c_len m
 exact (OwnS.sl (S:=fun _=>True) trivial hl hg (Nat.le_refl _) e (List.take_of_length_le (by rw [e]; exact Nat.le_refl _))).sl'
def zeroV:Vis:=⟨0,0,0,0,0,[],[],false⟩
def root0 (r:Nat):Vis:=⟨r,0,-1,0,2,[],[],false⟩
structure EachI (z:Int) (img:List UInt8) (root:Nat) (I:(Nat→Prop)→List Sn→Heap→Prop) (S0:Nat→Prop) (h0:Heap) (B:Nat) (m met:List Nat) (left:List Vis) (acc:List Sn) (S:Nat→Prop) (w:AV) (h:Heap):Prop where
 t:Ev.Touch S0 h0 h
 k:h.ok
 i:I S acc h
 s:∀ c,S c→S0 c∨h0.next≤c
 bl:B<h.next
 bn:¬ S B
 bg:h.get B=some (.cells 30 (m.flatMap u64c) true)
 wm:WM (pages z img) m met
 ow:OwnLS Vis.cs 29 8 (fun c=>h0.next≤c∧¬ S c∧c≠B) h w left.reverse
 lf:∀ v∈left,v.page<4294967296∧0≤v.depth∧v.depth≤17
 n:acc.length+(unm (pages z img) met*5000+left.length)≤300000
 r:∀ l,Run z img met left l→Run z img [] [root0 root] (acc++l)
theorem each1_g {n:Nat} (hn:9<n) {z:Int} {img:List UInt8} {root l b1 b2 b3:Nat} {I:(Nat→Prop)→List Sn→Heap→Prop} {S0:Nat→Prop} {h0:Heap} (yl:Yld (TV n) l Sn.cs I) (hk:h0.ok) (hi:img.length≤5000) (hr:root<4294967296) (i0:I S0 [] h0)
  (g1:h0.get b1=some (.cells 22 [.int .u32 root] true)) (g2:h0.get b2=some (.cells 3 [.int .i64 z] true)) (g3:h0.get b3=some (.cells 9 [.str img] true)) (n1:¬ S0 b1) (n2:¬ S0 b2) (n3:¬ S0 b3) (l1:b1<h0.next) (l2:b2<h0.next) (l3:b3<h0.next) :
  Gives (TV n) 23 [.func (.yield l) [] [],.ptr b1 0,.ptr b2 0,.ptr b3 0] h0 (fun v h'=>v=.tuple []∧∃ S acc,Ev.Touch S0 h0 h'∧h'.ok∧I S acc h'∧(∀ c,S c→S0 c∨h0.next≤c)∧acc.length≤300000∧(root=0∧acc=[]∨root≠0∧Run z img [] [root0 root] acc)):=by
 refine call_j (no_w rfl rfl) rfl rfl ?_
 by_cases c0:(root:Int)=0
 ·refine walk ?_
  exact jg_fin fun tm hs=>ends_ret hs rfl ⟨rfl,S0,[],.refl _ _,hk,i0,fun c h=>.inl h,by simp,.inl ⟨by omega,rfl⟩⟩
 have w1:=pages_w (n:=n) (by omega) z img (by omega)
 have pl:=pages_le z img
 refine walk ?_
 have q64:IntKind.i64.wrap (IntKind.i64.wrap (((pages z img:Nat):Int).tdiv 64)+1)=((pages z img / 64+1:Nat):Int):=by
  clear w1
  generalize pages z img=N at pl
  rw [show (((N:Nat):Int).tdiv 64)=((N / 64:Nat):Int) from rfl,wrap_i64 (x:=((N / 64:Nat):Int)) (by omega) (by omega),wrap_i64 (by omega) (by omega)]
  omega
 rw [q64]
 refine jo_val rfl rfl rfl (k_make (n:=pages z img / 64+1) (m:=pages z img / 64+1) rfl rfl rfl rfl rfl rfl (Nat.le_of_ble_eq_true rfl) rfl rfl (Nat.le_refl _) (by omega)) ?_
 rw [show times (AV.int .u64 0).cells (pages z img / 64+1)=(List.replicate (pages z img / 64+1) 0).flatMap u64c from times_u64 _]
 have e1:Ext h0 (h0.alloc (.cells 30 ((List.replicate (pages z img / 64+1) 0).flatMap u64c) true)):=Ext.alloc _ _
 refine walk ?_
 refine jg_loop (ι:=List Nat×List Nat×List Vis×List Sn×(Nat→Prop)×AV) (fun a=>unm (pages z img) a.2.1*5000+a.2.2.1.length) (fun a=>[(0,.func (.yield l) [] []),(1,.ptr b1 0),(2,.ptr b2 0),(3,.ptr b3 0),(5,.int .i64 (pages z img)),(6,.slice h0.next 0 (pages z img / 64+1) (pages z img / 64+1)),(7,a.2.2.2.2.2)]) (fun a h2=>EachI z img root I S0 h0 h0.next a.1 a.2.1 a.2.2.1 a.2.2.2.1 a.2.2.2.2.1 a.2.2.2.2.2 h2) (List.replicate (pages z img / 64+1) 0,[],[root0 root],[],S0,.slice (h0.next+1) 0 1 1) hsub ?_ ?_
 ·have i1:=yl.stable S0 [] h0 ((h0.alloc (.cells 30 ((List.replicate (pages z img / 64+1) 0).flatMap u64c) true)).alloc (.cells 29 (root0 root).cs true)) i0 (by show h0.next≤h0.next+1+1; omega) (fun c _ hc=>by rw [Heap.ga _ _ _ (by show c≠h0.next+1; omega),Heap.ga _ _ _ (by omega)]) (fun k=>ok_al (ok_al k _) _)
  have lw:=yl.low S0 [] h0 i0
  exact { t:=(Ev.Touch.al _).trans (.al _),k:=ok_al (ok_al hk _) _,i:=i1,s:=fun c h=>.inl h,bl:=(by show h0.next<h0.next+1+1; omega),bn:=(fun c=>absurd (lw _ c) (Nat.lt_irrefl _)),bg:=(by rw [Heap.ga _ _ _ (by show h0.next≠h0.next+1; omega)]; exact get_new _ _),wm:=WM.zero _,ow:=OwnS.sl (all:=(root0 root).cs) (cap:=1) ⟨by show h0.next≤h0.next+1; omega,fun c=>absurd (lw _ c) (by omega),by omega⟩ (by show h0.next+1<h0.next+1+1; omega) (get_new _ _) (Nat.le_refl _) rfl rfl,lf:=(fun v hv=>by obtain rfl:=List.mem_singleton.1 hv; exact ⟨hr,(by decide:(0:Int)≤0),(by decide:(0:Int)≤17)⟩),n:=(by have p8:=pages_128 z img; have:=unm_le (pages z img) []; simp; omega),r:=fun l h=>h }
 rintro ⟨m,met,left,acc,S,w⟩ h2 e2 next
 dsimp only at e2 next ⊢
 have hlen:=e2.ow.ls.len
 have hns:=e2.ow.ls.ns
 have tt:=e2.t
 have nx2:=tt.nx
 have gb2:=(tt.old b2 l2 n2).trans g2
 have gb3:=(tt.old b3 l3 n3).trans g3
 by_cases c1:0<left.length
 case neg =>
  have e0:left=[]:=List.length_eq_zero_iff.1 (by omega)
  rw [e0] at hlen e2
  refine walk ?_
  exact jg_nil fun tm hs=>ends_normal hs rfl ⟨rfl,S,acc,tt,e2.k,e2.i,e2.s,by have:=e2.n; omega,.inr ⟨by omega,by have:=e2.r [] .done; simpa using this⟩⟩
 obtain ⟨v,left,rfl⟩:∃ v l,left=v::l:=by
  cases left with
  |nil=>simp at c1
  |cons v l=>exact ⟨v,l,rfl⟩
 rw [List.reverse_cons] at hlen
 have hlen:lenS w=some (left.length+1):=by rw [hlen]; simp
 have hrow:(v::left).reverse[left.length]?=some v:=by simp
 obtain ⟨b,p',e',all,rw',hb,hg,hpl,he,a1⟩:=e2.ow.ls.at Vis.csl hrow
 have x3:Ext h2 ((h2.alloc (.cells 29 zeroV.cs true)).set h2.next (.cells 29 v.cs true)):=by exact hext
 have ow3:=(e2.ow.mono (S':=fun c=>(h0.next≤c∧¬ S c∧c≠h0.next)∧c<h2.next) (fun c k hc=>⟨k,hc⟩)).keep (h':=((h2.alloc (.cells 29 zeroV.cs true)).set h2.next (.cells 29 v.cs true))) (fun c _ hc=>x3.old c hc) x3.nx
 obtain ⟨w',sw,ow'⟩:=ow3.front (k:=left.length) (kd:=.i64) (by simp) (by decide)
 have ow':OwnLS Vis.cs 29 8 (fun c=>(h0.next≤c∧¬ S c∧c≠h0.next)∧c<h2.next) ((h2.alloc (.cells 29 zeroV.cs true)).set h2.next (.cells 29 v.cs true)) w' left.reverse:=by
  unfold OwnLS
  rw [flat_take Vis.csl,List.reverse_cons,List.take_left' (by simp)] at ow'
  simpa using ow'
 have nb:=e2.n
 simp only [List.length_cons] at nb
 have wr:(((left.length+1:Nat):Int)-1)=(left.length:Int):=by omega
 refine walk ?_
 rw [wr]
 refine jo_val rfl rfl rfl (k_sl3 rfl rfl rfl rfl rfl rfl rfl sw) ?_
 refine walk ?_
 have bnd:=e2.lf v (.head _)
 have has_at:∀ h:Heap,h2.next≤h.next→(∀ c,c<h2.next→h.get c=h2.get c)→h.get h0.next=some (.cells 30 (m.flatMap u64c) true):=fun h q1 q2=>(q2 _ e2.bl).trans e2.bg
 generalize hs:seenP z img met v=s
 refine oj_cut2 (ι:=Unit) (fun _=>[(0,.func (.yield l) [] []),(1,.ptr b1 0),(2,.ptr b2 0),(3,.ptr b3 0),(5,.int .i64 (pages z img)),(6,.slice h0.next 0 (pages z img / 64+1) (pages z img / 64+1)),(7,w'),(8,.ptr h2.next 0),(9,.ptr (h2.next+1) 0)]) (fun _ g=>Ext h2 g∧h2.next+2≤g.next∧g.get h2.next=some (.cells 29 v.cs true)∧g.get (h2.next+1)=some (.cells 34 s.cs true)) ?_ ?_
 ·intro k' join
  by_cases d1:(v.page:Int)<2
  ·have es:s=⟨v,1,Pg.zero⟩:=by rw [← hs]; unfold seenP; rw [if_pos (by omega)]
   subst es
   refine walk ?_
   exact join () hsub ⟨by exact hext,hle,by exact hget,by exact hget⟩
  by_cases d2:(v.page:Int) ≥ (pages z img:Int)
  ·have es:s=⟨v,1,Pg.zero⟩:=by rw [← hs]; unfold seenP; rw [if_pos (by omega)]
   subst es
   refine walk ?_
   exact join () hsub ⟨by exact hext,hle,by exact hget,by exact hget⟩
  obtain ⟨x,hx,hx2,hbit⟩:=e2.wm.at (p:=v.page) (by omega)
  have wlen:=e2.wm.1
  refine walk ?_
  refine jo_w (has_w (n:=n) (by omega) (lsu_of (has_at _ hle (fun c hc=>by exact Ext.old hext c hc)) (by exact hlt) wlen) hx bnd.1 hx2) rfl rfl rfl rfl ?_
  by_cases d3:v.page∈met
  ·have es:s=⟨v,2,Pg.zero⟩:=by rw [← hs]; unfold seenP; rw [if_neg (by omega),if_pos d3]
   subst es
   rw [hbit.2 d3]
   refine walk ?_
   exact join () hsub ⟨by exact hext,hle,by exact hget,by exact hget⟩
  rw [show x.testBit (v.page % 64)=false by
   cases e:x.testBit (v.page % 64) with
   |true=>exact absurd (hbit.1 e) d3
   |false=>rfl]
  by_cases d4:v.depth>16
  ·have es:s=⟨v,3,Pg.zero⟩:=by rw [← hs]; unfold seenP; rw [if_neg (by omega),if_neg d3,if_pos d4]
   subst es
   refine walk ?_
   exact join () hsub ⟨by exact hext,hle,by exact hget,by exact hget⟩
  have w2:=page_w (n:=n) (by omega) z img v (by omega) bnd.1
  have es:s=⟨v,if (pageR2 z img v).2=true then 0 else 4,(pageR2 z img v).1⟩:=by rw [← hs]; unfold seenP; rw [if_neg (by omega),if_neg d3,if_neg d4]
  generalize pageR2 z img v=r at es w2
  obtain ⟨r1,r2⟩:=r
  dsimp only at es w2
  subst es
  cases r2 with
  |true =>
   refine walk ?_
   exact join () hsub ⟨by exact hext,hle,by exact hget,by exact hget⟩
  |false =>
   refine walk ?_
   exact join () hsub ⟨by exact hext,hle,by exact hget,by exact hget⟩
 ·rintro ⟨⟩ g ⟨xg,ng,gv,gs⟩
  have kg:=xg.ok e2.k
  have gB:=has_at g xg.nx xg.old
  have lowS:=yl.low S acc h2 e2.i
  have wlen:=e2.wm.1
  have sv:s.visit=v:=by rw [← hs]; exact seenP_visit _ _ _ _
  have sm:=seenP_small z img met v
  rw [hs] at sm
  have stp:=step_lt z img met v left
  rw [hs] at stp
  have owg:=ow'.keep (h':=g) (fun c k _=>by rw [xg.old c k.2,x3.old c k.2]) (by show h2.next+1≤g.next; omega)
  refine jg_seq ?_
  refine gj_cut1 (ι:=List Nat) (fun _=>[(0,.func (.yield l) [] []),(1,.ptr b1 0),(2,.ptr b2 0),(3,.ptr b3 0),(5,.int .i64 (pages z img)),(6,.slice h0.next 0 (pages z img / 64+1) (pages z img / 64+1)),(7,w'),(8,.ptr h2.next 0),(9,.ptr (h2.next+1) 0)]) (fun m' g2=>WM (pages z img) m' (next' z img met v)∧Upd h0.next (.cells 30 (m'.flatMap u64c) true) g g2) ?_ ?_
  ·intro k' join
   by_cases d1:s.why=1
   ·refine walk ?_
    exact join m hsub ⟨by unfold next'; rw [hs,if_pos d1]; exact e2.wm,.same gB⟩
   ·have hr:v.page<pages z img:=by
     rcases Nat.lt_or_ge v.page (pages z img) with q|q
     ·exact q
     ·exact absurd (by rw [← hs]; unfold seenP; rw [if_pos (.inr q)]) d1
    obtain ⟨x,hx,hx2,hbit⟩:=e2.wm.at hr
    have bp:=bput_u (n:=n) (l:=m) (p:=v.page) (h:=g) gB (by omega) hx bnd.1 hx2
    rw [wlen] at bp
    refine walk ?_
    refine jo_call bp rfl rfl rfl rfl ?_
    rintro v3 g2 ⟨rfl,u2⟩
    refine walk ?_
    exact join _ hsub ⟨by unfold next'; rw [hs,if_neg d1]; exact e2.wm.put hr hx,u2⟩
  rintro m' g2 ⟨wm',ug⟩
  have gs2:g2.get (h2.next+1)=some (.cells 34 s.cs true):=(ug.old _ (by omega)).trans gs
  have nxu:=ug.nx
  have nxg:=xg.nx
  have k2:=ug.ok kg
  have i2:=yl.stable S acc h2 g2 e2.i (by omega) (fun c hc hl=>by rw [ug.old c (fun e=>e2.bn (e ▸ hc)),xg.old c hl]) (fun _=>k2)
  have ow2:=owg.keep (h':=g2) (fun c q _=>ug.old c q.1.2.2) (by omega)
  obtain ⟨fn,tm,nt,asg,bd,einv,rg⟩:=yl.call S acc s g2 (by omega) i2
  refine walk ?_
  refine jo_round rg rfl rfl rfl (k_yield einv rfl rfl rfl) ?_
  rintro _ h3 ⟨rfl,t3,S',s',i3⟩
  have k3:=t3.ok k2
  have nx3:=t3.nx
  have nS:∀ c,c<h2.next+2→(h2.next≤c∨¬ S c)→¬ S c:=fun c hc hh hs=>by
   have:=lowS c hs
   rcases hh with hh|hh
   ·omega
   ·exact hh hs
  have gs3:h3.get (h2.next+1)=some (.cells 34 s.cs true):=(t3.old _ (by omega) (nS _ (by omega) (.inl (by omega)))).trans gs2
  have gB3:h3.get h0.next=some (.cells 30 (m'.flatMap u64c) true):=(t3.old _ (by omega) e2.bn).trans ug.got
  have ow3:=ow2.keep (h':=h3) (fun c q hl=>t3.old c hl q.1.2.1) nx3
  have nS':∀ c,c<g2.next→¬ S c→¬ S' c:=fun c hc hh hs=>by
   rcases s' c hs with q|q
   ·exact hh q
   ·omega
  refine walk ?_
  refine jo_call (visits_g (n:=n) (s:=s) (h:=h3) (by omega) (by exact hok) (by omega) sm.2.1 (by rw [sv]; omega) (by rw [sv]; omega)) rfl rfl rfl rfl ?_
  rintro u h4 ⟨x4,o4⟩
  refine walk ?_
  have vl:=visits_len s
  refine jo_call (reverse_g (n:=n) (lo:=h3.next) (h:=h4) (by exact hok) o4 (by omega)) rfl rfl rfl rfl ?_
  rintro _ h5 ⟨rfl,k5,o5⟩
  have t35:Ext h3 h5:=x4.kp k5 (Nat.le_refl _)
  have ow5:OwnLS Vis.cs 29 8 (fun c=>h0.next≤c∧¬ S' c∧c≠h0.next) h5 w' left.reverse:=(ow3.keep (h':=h5) (fun c q hl=>t35.old c (by omega)) t35.nx).mono fun c q _=>⟨q.1.1,nS' c (by omega) q.1.2.1,q.1.2.2⟩
  obtain ⟨w6,h6,e6,o6,t6⟩:=app_rows_s (T:=TV n) (st:=74) (rest:=[74]) ow5 o5.ls (by simp; omega) (by intro x; rfl) rfl rfl rfl (by exact Nat.le_of_ble_eq_true rfl) rfl (by decide) rfl
  refine walk ?_
  have tS:Ev.Touch S0 h0 h6:=by
   refine ⟨by have:=tt.nx; have:=t35.nx; have:=t6.nx; omega,fun c hc hh=>?_,fun _=>t6.ok (t35.ok k3)⟩
   have hS:¬ S c:=fun q=>by
    rcases e2.s c q with r|r
    ·exact hh r
    ·omega
   rw [t6.old c (by have:=t35.nx; omega) (fun q=>by omega),t35.old c (by omega),t3.old c (by omega) hS,ug.old c (by omega),xg.old c (by omega),tt.old c hc hh]
  have i6:=yl.stable S' (acc++[s]) h3 h6 i3 (by have:=t35.nx; have:=t6.nx; omega) (fun c q hl=>by rw [t6.old c (by have:=t35.nx; omega) (fun r=>r.2.1 q),t35.old c hl]) (fun k=>t6.ok (t35.ok k))
  have lowS':=yl.low S' _ _ i6
  refine next (m',next' z img met v,visitsV s++left,acc++[s],S',w6) (by simp only; omega) (by exact hsub) ?_
  exact { t:=tS,k:=t6.ok (t35.ok k3),i:=i6,
          s:=fun c q=>by
           rcases s' c q with r|r
           ·exact e2.s c r
           ·exact .inr (by omega)
          bl:=by have:=t35.nx; have:=t6.nx; have:=e2.bl; omega
          bn:=nS' _ (by have:=e2.bl; omega) e2.bn
          bg:=by rw [t6.old _ (by have:=t35.nx; have:=e2.bl; omega) (fun q=>q.2.2 rfl),t35.old _ (by have:=e2.bl; omega)]; exact gB3
          wm:=wm'
          ow:=by
           rw [List.reverse_append]
           exact OwnS.mono o6 fun c q hl=>by
            rcases q with q|q
            ·exact q
            ·have hb:=e2.bl
             have:=t35.nx
             exact ⟨by omega,fun r=>by have:=yl.low S' _ _ i3 c r; omega,by omega⟩
          lf:=fun x hx=>by
           rcases List.mem_append.1 hx with hx|hx
           ·have hw:s.why=0:=by
             by_cases q:s.why=0
             ·exact q
             ·rw [visits_why q] at hx; cases hx
            have dp:=seen_deep (hs ▸ hw)
            obtain ⟨-,q2,q3⟩:=visits_mem sm.2.2 hx
            rw [sv] at q3
            exact ⟨q2,by omega,by omega⟩
           ·exact e2.lf x (.tail _ hx)
          n:=by simp only [List.length_append,List.length_cons,List.length_nil] at stp ⊢; omega
          r:=fun l hl=>by
           have hl:Run z img (next' z img met v) (visitsV s++left) l:=hl
           have:=e2.r (s::l) (by rw [← hs] at hl ⊢; exact .step hl)
           rw [List.append_assoc]
           exact this }
set_option maxRecDepth 10000
set_option maxHeartbeats 4000000
def zeroSn:Sn:=⟨⟨0,0,0,0,0,[],[],false⟩,0,Pg.zero⟩
theorem appSeq_g {n:Nat} {g:FuncId} {cap:List AV} {F:Func} {c:Code} {h0:Heap} {Ψ:List Sn→Prop} (hF:(TV n).fn g=some F) (hb:F.body=some c) (hk:h0.ok) (sp:SeqOf (TV n) g cap Sn.cs h0 Ψ) :
  Gives (TV n) 22 [.nilslice,.func (.func g) [] cap] h0 (fun v h'=>∃ acc,Ext h0 h'∧OwnLS Sn.cs 34 15 (h0.next ≤ ·) h' v acc∧acc.length≤300000∧Ψ acc):=by
 refine call_jl (no_w rfl rfl) rfl rfl ?_
 refine walk ?_
 refine jg_range (P:=fun h4=>∃ acc u,Ext h0 h4∧h4.ok∧h0.next+3≤h4.next∧h4.get h0.next=some (.cells 25 [u] true)∧h4.get (h0.next+1)=some (.dfr (some []))∧(∃ fn tm nt ps as' bd dd,h4.get (h0.next+1+1)=some (.loop .ready none fn tm nt ps as' bd dd))∧OwnLS Sn.cs 34 15 (fun c=>h0.next≤c∧c≠h0.next∧c≠h0.next+1+1∧c≠h0.next+1) h4 u acc∧acc.length≤300000∧Ψ acc) rfl rfl hF hb ?_ ?_
 ·intro tm hs
  have hs2:Sees tm [(2,.ptr h0.next 0)]:=hs.sub hsub
  refine Gives.mono (sp _ (SeqI Sn.cs 25 34 15 h0.next (h0.next+1+1) (h0.next+1) _) (fun c=>h0.next≤c∧c<h0.next+3) _ (seq_yld (p:=7) rfl ?_) (by exact hok) (by exact hext) ⟨fun c q=>q.2,by constructor<;>omega,by constructor<;>omega,by constructor<;>omega,by omega,by omega,by omega,get_new _ _,by exact hget,.nilslice,by exact hget,.nil⟩ (fun c q=>q.1)) ?_
  ·intro S acc s h la i
   obtain ⟨u,gb,ow⟩:=i.own
   have lb:=i.low _ i.sb
   have ll:=i.low _ i.sl
   have ld:=i.low _ i.sd
   have gl:=i.gl
   have gd:=i.gd
   obtain ⟨v6,h6,e6,⟨vc6,vo6⟩,g6,gl6,t6,S6,s6,i6⟩:=seq_end (T:=TV n) (rest:=[25]) s (.cells 34 zeroSn.cs true) (.cells 34 s.cs true) i gb ow (by omega) rfl rfl rfl rfl rfl (by exact Nat.le_of_ble_eq_true rfl) rfl (by decide) rfl
   refine round_of (hs2.set 7 _) ?_
   refine walk ?_
   refine jg_nil fun tm1 hs1=>⟨tm1,_,_,none,_,_,_,_,_,_,_,rfl,hs1,by exact hget,?_⟩
   refine walk ?_
   exact jg_nil fun tm3 hs3=>⟨_,_,_,none,_,_,_,_,_,_,_,rfl,gl6,rfl,t6,S6,s6,i6⟩
  ·rintro _ h' ⟨rfl,S,acc,t,k,i,s,la,ψ⟩
   obtain ⟨u,gb,ow⟩:=i.own
   exact ⟨acc,u,⟨by have:=t.nx; have:h0.next+1+1+1≤h'.next:=this; omega,fun c hc=>by rw [t.old c (by show c<h0.next+1+1+1; omega) (fun q=>by omega)]; exact (Heap.ga _ _ _ (by show c≠h0.next+1+1; omega)).trans ((Heap.ga _ _ _ (by show c≠h0.next+1; omega)).trans (Heap.ga _ _ _ (by omega))),fun _=>k⟩,k,t.nx,gb,i.gd,⟨_,_,_,_,_,_,_,i.gl⟩,ow.mono fun c q _=>⟨by rcases s c q.1 with r|r; exact r.1; (have r:h0.next+1+1+1≤c:=r; omega),q.2⟩,la,ψ⟩
 ·rintro h4 ⟨acc,u,x4,k4,n4,gb,gd,⟨fn,tm,nt,ps,as',bd,dd,gl⟩,ow,la,ψ⟩
  refine ⟨_,fn,tm,nt,ps,as',bd,dd,gl,(by intro c; cases c),?_⟩
  refine walk ?_
  refine jg_fin fun tm2 hs=>?_
  refine leave_collected (by exact hget) (leave_ret (vs:=[u]) hs rfl rfl ⟨_,_,rfl,acc,?_,?_,la,ψ⟩)
  ·exact Ext.st (Ext.st x4 _ _ (by show h0.next≤h0.next+1+1; omega) (by show h0.next+1+1<h4.next; omega)) _ _ (by show h0.next≤h0.next+1; omega) (by show h0.next+1<h4.next; omega)
  ·refine OwnS.mono (OwnS.keep ow (fun c q _=>?_) (Nat.le_refl _)) fun c q _=>q.1
   rw [Heap.gn _ _ _ _ (by show c≠h0.next+1; omega),Heap.gn _ _ _ _ (by show c≠h0.next+1+1; omega)]
def RunR (z:Int) (img:List UInt8) (root:Nat) (acc:List Sn):Prop:=root=0∧acc=[]∨root≠0∧Run z img [] [root0 root] acc
theorem wEach_g {n:Nat} (z:Int) (img:List UInt8) (root:Nat) (h:Heap):Gives (TV n) 13 [.int .i64 z,.str img,.int .u32 root] h (fun v h'=>v=.func (.func 23) [] [.ptr (h.next+2) 0,.ptr h.next 0,.ptr (h.next+1) 0]∧h'=((h.alloc (.cells 3 [.int .i64 z] true)).alloc (.cells 9 [.str img] true)).alloc (.cells 22 [.int .u32 root] true)):=by
 refine call_j (no_w rfl rfl) rfl rfl ?_
 refine walk ?_
 exact jg_ret1 (by exact hres) ⟨rfl,rfl⟩
theorem each_seq {n:Nat} (hn:9<n) {z:Int} {img:List UInt8} {root b1 b2 b3:Nat} {h0:Heap} (hi:img.length≤5000) (hr:root<4294967296)
  (g1:h0.get b1=some (.cells 22 [.int .u32 root] true)) (g2:h0.get b2=some (.cells 3 [.int .i64 z] true)) (g3:h0.get b3=some (.cells 9 [.str img] true)) (l1:b1<h0.next) (l2:b2<h0.next) (l3:b3<h0.next) :
  SeqOf (TV n) 23 [.ptr b1 0,.ptr b2 0,.ptr b3 0] Sn.cs h0 (RunR z img root):=by
 intro l I S0 h yl hk x i0 s0
 have nx:=x.nx
 exact each1_g hn yl hk hi hr i0 ((x.old _ l1).trans g1) ((x.old _ l2).trans g2) ((x.old _ l3).trans g3) (fun q=>by have:=s0 _ q; omega) (fun q=>by have:=s0 _ q; omega) (fun q=>by have:=s0 _ q; omega) (by omega) (by omega) (by omega)
theorem collect_g {n:Nat} {g:FuncId} {cap:List AV} {F:Func} {c:Code} {h0:Heap} {Ψ:List Sn→Prop} (hF:(TV n).fn g=some F) (hb:F.body=some c) (hk:h0.ok) (sp:SeqOf (TV n) g cap Sn.cs h0 Ψ) :
  Gives (TV n) 12 [.func (.func g) [] cap] h0 (fun v h'=>∃ acc,Ext h0 h'∧OwnLS Sn.cs 34 15 (h0.next ≤ ·) h' v acc∧acc.length≤300000∧Ψ acc):=by
 refine call_j (no_w rfl rfl) rfl rfl ?_
 refine walk ?_
 refine jo_call (appSeq_g hF hb hk sp) rfl rfl rfl rfl ?_
 intro v h1 p
 refine walk ?_
 exact jg_ret1 (by exact hres) p
theorem walk_g {n:Nat} (hn:9<n) {z:Int} {img:List UInt8} {root:Nat} {h:Heap} (hk:h.ok) (hi:img.length≤5000) (hr:root<4294967296):Gives (TV n) 7 [.int .i64 z,.str img,.int .u32 root] h (fun v h'=>∃ acc,Ext h h'∧OwnLS Sn.cs 34 15 (h.next ≤ ·) h' v acc∧acc.length≤300000∧RunR z img root acc):=by
 refine call_j (no_w rfl rfl) rfl rfl ?_
 refine walk ?_
 refine jo_call (wEach_g z img root _) rfl rfl rfl rfl ?_
 rintro _ _ ⟨rfl,rfl⟩
 refine walk ?_
 refine jo_call (collect_g rfl rfl (by exact hok) (each_seq (n:=n) hn (z:=z) (img:=img) (root:=root) hi hr (by exact hget) (by exact hget) (by exact hget) (by show h.next+2<h.next+1+1+1; omega) (by show h.next<h.next+1+1+1; omega) (by show h.next+1<h.next+1+1+1; omega))) rfl rfl rfl rfl ?_
 rintro v h1 ⟨acc,x,o,la,ψ⟩
 refine walk ?_
 exact jg_ret1 (by exact hres) ⟨acc,Ext.trans (by exact hext) x,o.mono fun c q _=>by have q:h.next+1+1+1≤c:=q; omega,la,ψ⟩
end Go.Proofs.YthdlebegkhnbiaaGreat
