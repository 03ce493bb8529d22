/- A part of an evaluator of the program's form in Lean, of the proof that what it says of a call is what the machine does, and of the rules by which proofs walk over it. Conditions: those that each theorem states. -/
import Derived.Test.YtejfbaecadbdiaaGreatGag
import Derived.Test.YtejfbaecadbdiaaGreatGaf
import Derived.ChangeSame
import Derived.RowKit3
set_option linter.unusedVariables false
set_option linter.unusedSimpArgs false
section
namespace Ev
open Go Go.RowKit
variable {P:Program}{T:a0k}{base:Nat}{w0:World}
inductive Sched (ops:Array Oper):(Nat→Prop)→List Nat→Prop
 |nil (S:Nat→Prop) (h:∀ i,i<ops.size→S i):Sched ops S []
 |cons (S:Nat→Prop) (i:Nat) (js:List Nat) (hi:i<ops.size) (hn:¬ S i) (hr:∀ o,ops[i]?=some o→∀ e∈o.after.toList,Region.binds .any e=true→S e.on)
   (h:Sched ops (fun j=>S j∨j=i) js):Sched ops S (i::js)
theorem b6g {i:Nat}:∀ {l:List Edge},b7j i l=true→∀ e∈l,Region.binds .any e=true→e.on<i
 |[],_,e,he,_=>by simp at he
 |x::l,h,e,he,hb=>by
  simp only[b7j,Bool.and_eq_true,Bool.or_eq_true] at h
  rcases List.mem_cons.1 he with rfl|he
  ·rcases h.1 with h1|h1
   ·simp[hb] at h1
   ·simpa [blt_eq] using h1
  ·exact b6g h.2 e he hb
theorem b2q:∀ {l:List Oper}{k:Nat},a3q l k=true→∀ {i:Nat}{o:Oper},l[i]?=some o→b7j (k+i) o.after.toList=true
 |[],_,_,i,o,h=>by simp at h
 |x::l,k,h,i,o,ho=>by
  simp only[a3q,Bool.and_eq_true] at h
  cases i with
  |zero=>simp at ho; subst ho; exact h.1
  |succ i =>
   have:=b2q h.2 (i:=i) (by simpa using ho)
   rw[show k+(i+1)=k+1+i by omega]; exact this
theorem c5k {p q:Nat→Bool}:∀ (l:List Nat),(∀ x∈l,q x=true→p x=true)→(∃ i∈l,p i=true∧q i=false)→(l.filter q).length+1≤(l.filter p).length
 |[],_,⟨i,hi,_⟩=>by simp at hi
 |x::l,h,⟨i,hi,hp,hq⟩=>by
  have hle:(l.filter q).length≤(l.filter p).length:=by
   have:∀ (l:List Nat),(∀ x∈l,q x=true→p x=true)→(l.filter q).length≤(l.filter p).length:=by
    intro l
    induction l with
    |nil=>simp
    |cons y l ih =>
     intro h
     have hy:=h y (List.mem_cons_self ..)
     have:=ih (fun x hx=>h x (List.mem_cons_of_mem _ hx))
     simp only[List.filter_cons]
     by_cases hqy:q y=true
     ·simp[hqy,hy hqy]; exact this
     ·simp only[hqy,if_false,Bool.false_eq_true]
      split
      ·simp; omega
      ·exact this
   exact this l (fun x hx=>h x (List.mem_cons_of_mem _ hx))
  simp only[List.filter_cons]
  rcases List.mem_cons.1 hi with rfl|hi
  ·simp[hp,hq]; omega
  ·have:=c5k l (fun x hx=>h x (List.mem_cons_of_mem _ hx)) ⟨i,hi,hp,hq⟩
   have hx:=h x (List.mem_cons_self ..)
   by_cases hqx:q x=true
   ·simp[hqx,hx hqx]; omega
   ·simp only[hqx,if_false,Bool.false_eq_true]
    split
    ·simp; omega
    ·exact this
theorem d0n {ops:Array Oper}(hE:a3q ops.toList 0=true):∀ (fuel t:Nat) (listed:Array Bool) (acc:List Nat),listed.size=ops.size →
  ((List.range ops.size).filter fun i => !listed.getD i true).length≤fuel →
  ∃ L,Region.linearise.go .any ops fuel t listed acc=acc.reverse++L∧Sched ops (fun j=>listed.getD j false=true) L
 |0,t,listed,acc,hsz,hc=>by
  refine⟨[],by simp[Region.linearise.go],.nil _ fun i hi=>?_⟩
  have h0:((List.range ops.size).filter fun i => !listed.getD i true)=[]:=List.eq_nil_of_length_eq_zero (by omega)
  have:=List.filter_eq_nil_iff.1 h0 i (by simpa using hi)
  have hlt:i<listed.size:=by omega
  simp[hlt] at this ⊢
  exact this
 |fuel+1,t,listed,acc,hsz,hc=>by
  unfold Region.linearise.go
  generalize hrs:((List.range ops.size).filter fun i => !listed.getD i true&&((ops[i]?).map (·.after.all fun e => !Region.binds .any e||listed.getD e.on false)).getD false)=rs
  simp only
  split
  ·rename_i i hi
   have him:i∈rs:=List.mem_of_getElem? hi
   rw[← hrs,List.mem_filter] at him
   obtain⟨h1,h2⟩:=him
   have hin:i<ops.size:=by simpa using h1
   have hil:i<listed.size:=by omega
   simp only[Bool.and_eq_true] at h2
   obtain⟨h2,h3⟩:=h2
   have hun:listed.getD i false=false:=by simpa [hil] using h2
   have hgetS:∀ j,((listed.setIfInBounds i true).getD j false=true)=(listed.getD j false=true∨j=i):=by
    intro j
    apply propext
    by_cases hj:j=i
    ·subst hj; simp[hil]
    ·have hne:¬ i=j:=fun h=>hj h.symm
     simp[Array.getElem?_setIfInBounds,hne,hj]
   obtain⟨L,e1,e2⟩:=d0n hE fuel (t / rs.length) (listed.setIfInBounds i true) (i::acc) (by simpa using hsz) (by
    have:=c5k (p:=fun i => !listed.getD i true) (q:=fun j => !(listed.setIfInBounds i true).getD j true) (List.range ops.size) (by
     intro x hx hq
     by_cases hxi:x=i
     ·subst hxi; simp[hil] at hq
     ·have hne:¬ i=x:=fun h=>hxi h.symm
      simpa [Array.getElem?_setIfInBounds,hne] using hq) ⟨i,by simpa using hin,h2,by simp[hil]⟩
    omega)
   refine⟨i::L,by rw[e1]; simp,.cons _ i L hin (by simp[hun]) ?_ ?_⟩
   ·intro o ho e he hb
    rw[ho] at h3
    simp only[Option.map_some,Option.getD_some,Array.all_eq_true_iff_forall_mem] at h3
    have:=h3 e (by simpa using he)
    simpa [hb] using this
   ·have:(fun j=>listed.getD j false=true∨j=i)=(fun j=>(listed.setIfInBounds i true).getD j false=true):=funext fun j=>(hgetS j).symm
    rw[this]; exact e2
  ·rename_i hnone
   have hrs0:rs=[]:=by
    cases rs with
    |nil=>rfl
    |cons x l =>
     have:t % (x::l).length<(x::l).length:=Nat.mod_lt _ (by simp)
     rw[List.getElem?_eq_getElem this] at hnone
     simp at hnone
   have all:∀ i,i<ops.size→listed.getD i false=true:=by
    intro i
    induction i using Nat.strongRecOn with
    |_ i ih =>
     intro hi
     have hil:i<listed.size:=by omega
     rcases Bool.eq_false_or_eq_true (listed.getD i false) with h|h
     ·exact h
     ·exfalso
      have hin:i∈rs:=by
       rw[← hrs,List.mem_filter]
       refine⟨by simpa using hi,?_⟩
       have ho:ops[i]?=some ops[i]:=by simp[hi]
       simp only[Bool.and_eq_true]
       refine⟨by simpa [hil] using h,?_⟩
       rw[ho]
       simp only[Option.map_some,Option.getD_some,Array.all_eq_true_iff_forall_mem]
       intro e he
       by_cases hb:Region.binds .any e=true
       ·have hlt:=b6g (b2q hE (i:=i) (o:=ops[i]) (by simp[hi])) e (by simpa using he) hb
        simp only[Nat.zero_add] at hlt
        have:=ih e.on hlt (by omega)
        simp[this]
       ·simp[hb]
      rw[hrs0] at hin
      simp at hin
   exact⟨[],by simp,.nil _ all⟩
theorem b3i {ops:Array Oper}(hE:a3q ops.toList 0=true) (t:Nat):Sched ops (fun _=>False) (Region.linearise .any ops t):=by
 obtain⟨L,e1,e2⟩:=d0n hE ops.size t (Array.replicate ops.size false) [] (by simp) (by
  refine Nat.le_trans (List.length_filter_le _ _) (by simp))
 unfold Region.linearise
 rw[e1]
 have:(fun j=>(Array.replicate ops.size false).getD j false=true)=(fun _=>False):=by
  funext j
  apply propext
  by_cases h:j<ops.size<;>simp[h]
 rw[this] at e2
 simpa using e2
theorem b3b:∀ (l:List Oper) (acc:List Nat),∃ r,b3x l acc=acc++r∧r.length=l.length∧∀ i o,l[i]?=some o→r[i]?=some (b2b (acc++r.take i) o.after.toList)
 |[],acc=>⟨[],by simp[b3x],rfl,by simp⟩
 |x::l,acc=>by
  obtain⟨r,h1,h2,h3⟩:=b3b l (acc++[b2b acc x.after.toList])
  refine⟨b2b acc x.after.toList::r,by simp[b3x,h1],by simp[h2],?_⟩
  intro i o ho
  cases i with
  |zero=>simp at ho; subst ho; simp
  |succ i =>
   have:=h3 i o (by simpa using ho)
   simp only[List.getElem?_cons_succ,List.take_succ_cons]
   rw[this]; simp
theorem b6t {acc:List Nat}{j:Nat}:∀ {es:List Edge},Nat.testBit (b2b acc es) j=true→∃ e∈es,Region.binds .any e=true∧(e.on=j∨Nat.testBit ((nth acc e.on).getD 0) j=true)
 |[],h=>by simp[b2b] at h
 |e::l,h=>by
  unfold b2b at h
  split at h
  ·rename_i hb
   rw[Nat.testBit_or,Nat.testBit_or,Bool.or_eq_true,Bool.or_eq_true] at h
   rcases h with (h|h)|h
   ·refine⟨e,List.mem_cons_self ..,hb,.inl ?_⟩
    rw[Nat.one_shiftLeft,Nat.testBit_two_pow] at h
    simpa using h
   ·exact⟨e,List.mem_cons_self ..,hb,.inr h⟩
   ·obtain⟨e',h1,h2⟩:=b6t h
    exact⟨e',List.mem_cons_of_mem _ h1,h2⟩
  ·obtain⟨e',h1,h2⟩:=b6t h
   exact⟨e',List.mem_cons_of_mem _ h1,h2⟩
def mkB (ops:Array Oper) (i:Nat):Nat:=((masks ops.toList)[i]?).getD 0
theorem b7x (ops:List Oper):(masks ops).length=ops.length:=by
 obtain⟨r,h1,h2,_⟩:=b3b ops []
 unfold masks; rw[h1]; simpa using h2
theorem e6j {ops:Array Oper}(hE:a3q ops.toList 0=true){i:Nat}{o:Oper}(ho:ops[i]?=some o){j:Nat}(hb:Nat.testBit (mkB ops i) j=true) :
  ∃ e∈o.after.toList,Region.binds .any e=true∧(e.on=j∨Nat.testBit (mkB ops e.on) j=true):=by
 obtain⟨r,h1,h2,h3⟩:=b3b ops.toList []
 have hm:masks ops.toList=r:=by unfold masks; rw[h1]; simp
 have ho':ops.toList[i]?=some o:=by simpa using ho
 unfold mkB at hb
 rw[hm,h3 i o ho'] at hb
 simp only[Option.getD_some,List.nil_append] at hb
 obtain⟨e,g1,g2,g3⟩:=b6t hb
 refine⟨e,g1,g2,g3.imp id fun g3=>?_⟩
 have hlt:=b6g (b2q hE ho') e g1 g2
 simp only[Nat.zero_add] at hlt
 rw[a4w,List.getElem?_take,if_pos hlt] at g3
 unfold mkB
 rw[hm]; exact g3
theorem b7c {m i:Nat}:∀ (l:List Oper) (ms:List Nat) (j0:Nat),∀ (k:Nat) (o:Oper) (d mj:Nat),l[k]?=some o→ms[k]?=some mj→o.dst=some d→d ∉ a0y m i l ms j0 →
  (j0+k<i→Nat.testBit m (j0+k)=true)∧(i<j0+k→Nat.testBit mj i=true)
 |[],_,_,k,o,d,mj,ho,_,_,_=>by simp at ho
 |_::_,[],_,k,o,d,mj,_,hm,_,_=>by simp at hm
 |x::l,m0::ms,j0,k,o,d,mj,ho,hm,hd,hn=>by
  have rest:d ∉ a0y m i l ms (j0+1):=by
   intro hin
   apply hn
   unfold a0y
   split
   ·split
    ·exact hin
    ·exact List.mem_cons_of_mem _ hin
   ·exact hin
  cases k with
  |zero =>
   simp at ho hm
   subst ho; subst hm
   unfold a0y at hn
   simp only[hd] at hn
   generalize hc:(if j0<i then m.testBit j0 else if j0=i then true else m0.testBit i)=c at hn
   cases c with
   |false=>exact absurd (List.mem_cons_self ..) hn
   |true =>
    constructor
    ·intro h
     simp only[Nat.add_zero] at h ⊢
     rw[if_pos h] at hc; exact hc
    ·intro h
     simp only[Nat.add_zero] at h
     rw[if_neg (by omega),if_neg (by omega)] at hc; exact hc
  |succ k =>
   have:=b7c l ms (j0+1) k o d mj (by simpa using ho) (by simpa using hm) hd rest
   rw[show j0+(k+1)=j0+1+k by omega]
   exact this
theorem b2y:∀ (l:List Tmp) (tm:Tr AV) (t:Nat) (v:AV),(a1e tm l).get t=some v→t ∉ l∧tm.get t=some v
 |[],tm,t,v,h=>⟨by simp,h⟩
 |d::l,tm,t,v,h=>by
  unfold a1e at h
  obtain⟨h1,h2⟩:=b2y l _ t v h
  rw[Tr.b5e] at h2
  split at h2
  ·simp at h2
  ·rename_i hne
   exact⟨by simp[hne,h1],h2⟩
mutual
theorem b2g:∀ (a b:AV),a5d a b=true→a=b
 |.bool a,b,h=>by cases b<;>simp[a5d] at h; rename_i b; cases a<;>cases b<;>simp_all [e4o]
 |.int k n,b,h=>by cases b<;>simp[a5d] at h; obtain⟨rfl,rfl⟩:=h; rfl
 |.str s,b,h=>by cases b<;>simp[a5d,a6b] at h; subst h; rfl
 |.ptr x y,b,h=>by cases b<;>simp[a5d] at h; obtain⟨rfl,rfl⟩:=h; rfl
 |.nilptr,b,h=>by cases b<;>simp[a5d] at h; rfl
 |.slice x y z u,b,h=>by cases b<;>simp[a5d] at h; obtain⟨⟨⟨rfl,rfl⟩,rfl⟩,rfl⟩:=h; rfl
 |.oslice x y z u,b,h=>by cases b<;>simp[a5d] at h; obtain⟨⟨⟨rfl,rfl⟩,rfl⟩,rfl⟩:=h; rfl
 |.eslice,b,h=>by cases b<;>simp[a5d] at h; rfl
 |.nilslice,b,h=>by cases b<;>simp[a5d] at h; rfl
 |.map x,b,h=>by cases b<;>simp[a5d] at h; subst h; rfl
 |.nilmap,b,h=>by cases b<;>simp[a5d] at h; rfl
 |.func f x y,b,h=>by
  cases b<;>simp[a5d] at h
  obtain⟨⟨rfl,h1⟩,h2⟩:=h
  rw[a9t x _ h1,a9t y _ h2]
 |.nilfunc,b,h=>by cases b<;>simp[a5d] at h; rfl
 |.iface t v,b,h=>by
  cases b<;>simp[a5d] at h
  obtain⟨rfl,h1⟩:=h
  rw[b2g v _ h1]
 |.niliface,b,h=>by cases b<;>simp[a5d] at h; rfl
 |.agg x,b,h=>by cases b<;>simp[a5d] at h; rw[a9t x _ h]
 |.tuple x,b,h=>by cases b<;>simp[a5d] at h; rw[a9t x _ h]
 |.raw x y,b,h=>by cases b<;>simp[a5d] at h; obtain⟨rfl,rfl⟩:=h; rfl
 |.own x y,b,h=>by cases b<;>simp[a5d] at h; obtain⟨rfl,rfl⟩:=h; rfl
theorem a9t:∀ (a b:List AV),b3k a b=true→a=b
 |[],b,h=>by cases b<;>simp[b3k] at h; rfl
 |x::l,b,h=>by
  cases b<;>simp[b3k] at h
  rw[b2g x _ h.1,a9t l _ h.2]
end
end Ev
end
section
namespace Ev
open Go Go.RowKit
variable {P:Program}{T:a0k}{base:Nat}{w0:World}
def c6a (T:a0k) (rec:Task→Res) (all:List Oper) (ms:List Nat) (N i:Nat) (o:Oper) (m:Nat) (tm:Tr AV) (h:a0a) (x:Ent):Prop :=
 x.o=o∧x.m=m∧x.tm=a1e tm (a0y m i all ms 0)∧x.h0=h∧a8e all x.tm o=some x.want ∧
 ((x.want=false∧x.kd=.pure∧x.v=a2w∧x.h1=h) ∨
  (x.want=true∧x.kd=.read∧quiet (a1l T o.op)=true∧(∃ h',opA T (env x.tm) o h=.val x.v h')∧x.h1=h) ∨
  (x.want=true∧x.kd=.alloc∧∃ a,a8m T (env x.tm) o (N+i)=some (x.v,a)∧x.h1=h.set (N+i) a) ∨
  (x.want=true∧x.kd=.act∧c1p T rec x.tm o h=.ret x.v x.h1))
def b2f (o:Oper) (tm:Tr AV) (v:AV):Tr AV:=match o.dst with
 |none=>tm
 |some d=>tm.set d v
inductive b9m (T:a0k) (rec:Task→Res) (nt:Nat) (all:List Oper) (ms:List Nat) (N:Nat):List Oper→List Nat→Nat→Tr AV→a0a→Tr AV→a0a→List Ent→Prop
 |nil (mr:List Nat) (i:Nat) (tm:Tr AV) (h:a0a):b9m T rec nt all ms N [] mr i tm h tm h []
 |cons (o:Oper) (rest:List Oper) (mr:List Nat) (i:Nat) (tm:Tr AV) (h:a0a) (x:Ent) (tmF:Tr AV) (hF:a0a) (es:List Ent)
   (hx:c6a T rec all ms N i o ((mr[0]?).getD 0) tm h x) (hd:∀ d,o.dst=some d→d<nt)
   (hc:b9m T rec nt all ms N rest (mr.drop 1) (i+1) (b2f o tm x.v) x.h1 tmF hF es):b9m T rec nt all ms N (o::rest) mr i tm h tmF hF (x::es)
theorem c5w {x:Ent}{r:DRes}{tmF:Tr AV}{hF:a0a}{es:List Ent}(h:b0a x r=.fin tmF hF es):∃ es',es=x::es'∧r=.fin tmF hF es':=by
 cases r with
 |fin tm h' es'=>simp[b0a] at h; obtain⟨rfl,rfl,rfl⟩:=h; exact⟨es',rfl,rfl⟩
 |pan=>simp[b0a] at h
 |no=>simp[b0a] at h
theorem b8s {rec:Task→Res}{nt:Nat}{all:List Oper}{ms:List Nat}{N:Nat}:∀ (l:List Oper) (mr:List Nat) (i:Nat) (tm:Tr AV) (h:a0a) (tmF:Tr AV) (hF:a0a) (es:List Ent),
  goD T rec nt all ms N l mr i tm h=.fin tmF hF es→b9m T rec nt all ms N l mr i tm h tmF hF es
 |[],mr,i,tm,h,tmF,hF,es,hg=>by
  simp[goD] at hg
  obtain⟨rfl,rfl,rfl⟩:=hg
  exact .nil ..
 |o::rest,mr,i,tm,h,tmF,hF,es,hg=>by
  unfold goD at hg
  simp only[a4w] at hg
  -- one entry and the rest
  have fin:∀ (kd:Kd) (want:Bool) (v:AV) (h1:a0a),
    c6a T rec all ms N i o ((mr[0]?).getD 0) tm h ⟨o,(mr[0]?).getD 0,kd,want,a1e tm (a0y ((mr[0]?).getD 0) i all ms 0),h,v,h1⟩ →
    (match o.dst with
     |none=>b0a ⟨o,(mr[0]?).getD 0,kd,want,a1e tm (a0y ((mr[0]?).getD 0) i all ms 0),h,v,h1⟩ (goD T rec nt all ms N rest (mr.drop 1) (i+1) tm h1)
     | some d => if d < nt then b0a ⟨o, (mr[0]?).getD 0, kd, want, a1e tm (a0y ((mr[0]?).getD 0) i all ms 0), h, v, h1⟩ (goD T rec nt all ms N rest (mr.drop 1) (i + 1) (tm.set d v) h1) else .no "put" []) = .fin tmF hF es →
    b9m T rec nt all ms N (o::rest) mr i tm h tmF hF es:=by
   intro kd want v h1 hx hh
   split at hh
   ·rename_i hd
    obtain⟨es',rfl,hr⟩:=c5w hh
    exact .cons _ _ _ _ _ _ _ _ _ _ hx (by rw[hd]; simp) (by unfold b2f; rw[hd]; exact b8s rest _ _ _ _ _ _ _ hr)
   ·rename_i d hd
    split at hh
    ·rename_i hlt
     obtain⟨es',rfl,hr⟩:=c5w hh
     exact .cons _ _ _ _ _ _ _ _ _ _ hx (by rw[hd]; intro d' e; cases e; exact hlt) (by unfold b2f; rw[hd]; exact b8s rest _ _ _ _ _ _ _ hr)
    ·simp at hh
  split at hg
  ·simp at hg
  ·rename_i hw
   exact fin _ _ _ _ ⟨rfl,rfl,rfl,rfl,hw,.inl ⟨rfl,rfl,rfl,rfl⟩⟩ hg
  ·rename_i hw
   split at hg
   ·simp at hg
   ·split at hg
    ·rename_i v a hn
     exact fin _ _ _ _ ⟨rfl,rfl,rfl,rfl,hw,.inr (.inr (.inl ⟨rfl,rfl,a,hn,rfl⟩))⟩ hg
    ·simp at hg
   ·split at hg
    ·rename_i v h' ha
     exact fin _ _ _ _ ⟨rfl,rfl,rfl,rfl,hw,.inr (.inr (.inr ⟨rfl,rfl,ha⟩))⟩ hg
    ·split at hg<;>simp at hg
    ·simp at hg
    ·simp at hg
   ·rename_i hk1 hk2 hk3
    split at hg
    ·rename_i v h' ha
     have hq:quiet (a1l T o.op)=true:=by
      generalize a1l T o.op=kk at hk1 hk2 hk3
      cases kk with
      |pure=>rfl
      |read=>rfl
      |alloc=>exact absurd rfl hk2
      |act=>exact absurd rfl hk3
      |bad=>exact absurd rfl hk1
     exact fin _ _ _ _ ⟨rfl,rfl,rfl,rfl,hw,.inr (.inl ⟨rfl,rfl,hq,⟨h',ha⟩,rfl⟩)⟩ hg
    ·simp at hg
    ·simp at hg
theorem c5i {x:Ent}{r:DRes}{v:AV}{h':a0a}{es:List Ent}(h:b0a x r=.pan v h' es):∃ es',es=x::es'∧r=.pan v h' es':=by
 cases r with
 |fin tm h' es'=>simp[b0a] at h
 |pan v1 h1 es'=>simp[b0a] at h; obtain⟨rfl,rfl,rfl⟩:=h; exact⟨es',rfl,rfl⟩
 |no=>simp[b0a] at h
def d6a (T:a0k) (rec:Task→Res) (nt:Nat) (all:List Oper) (ms:List Nat) (N:Nat) (l:List Oper) (mr:List Nat) (i:Nat) (tm:Tr AV) (h:a0a) (v:AV) (h':a0a) (es:List Ent):Prop :=
 ∃ l1 o l2 esP x tmP hP,l=l1++o::l2∧es=esP++[x]∧b9m T rec nt all ms N l1 mr i tm h tmP hP esP∧x.kd=.act∧x.m=(mr[l1.length]?).getD 0 ∧
  a8e all (a1e tmP (a0y ((mr[l1.length]?).getD 0) (i+l1.length) all ms 0)) o=some true ∧
  c1p T rec (a1e tmP (a0y ((mr[l1.length]?).getD 0) (i+l1.length) all ms 0)) o hP=.thrown v h'∧∀ k m',l1.length<k→mr[k]?=some m'→Nat.testBit m' (i+l1.length)=true
theorem c7t {rec:Task→Res}{nt:Nat}{all:List Oper}{ms:List Nat}{N:Nat}:∀ (l:List Oper) (mr:List Nat) (i:Nat) (tm:Tr AV) (h:a0a) (v:AV) (h':a0a) (es:List Ent),
  goD T rec nt all ms N l mr i tm h=.pan v h' es→d6a T rec nt all ms N l mr i tm h v h' es
 |[],mr,i,tm,h,v,h',es,hg=>by simp[goD] at hg
 |o::rest,mr,i,tm,h,v,h',es,hg=>by
  unfold goD at hg
  simp only[a4w] at hg
  have one:∀ (x:Ent) (es':List Ent),c6a T rec all ms N i o ((mr[0]?).getD 0) tm h x→(∀ d,o.dst=some d→d<nt)→d6a T rec nt all ms N rest (mr.drop 1) (i+1) (b2f o tm x.v) x.h1 v h' es' →
    d6a T rec nt all ms N (o::rest) mr i tm h v h' (x::es'):=by
   rintro x es' hx hd ⟨l1,o',l2,esP,y,tmP,hP,rfl,rfl,p1,p2,p3,p4,p5,p6⟩
   have em:∀ k,((mr.drop 1)[k]?)=mr[k+1]?:=fun k=>by rw[List.getElem?_drop,Nat.add_comm 1 k]
   have ei:i+1+l1.length=i+(l1.length+1):=by omega
   rw[em,ei] at p4 p5
   rw[em] at p3
   refine⟨o::l1,o',l2,x::esP,y,tmP,hP,rfl,rfl,.cons _ _ _ _ _ _ _ _ _ _ hx hd p1,p2,p3,p4,p5,?_⟩
   intro k m' hk hm
   cases k with
   |zero=>omega
   |succ k =>
    have:=p6 k m' (by simpa using hk) (by rw[em]; exact hm)
    rw[ei] at this
    exact this
  have fin:∀ (kd:Kd) (want:Bool) (v1:AV) (h1:a0a),
    c6a T rec all ms N i o ((mr[0]?).getD 0) tm h ⟨o,(mr[0]?).getD 0,kd,want,a1e tm (a0y ((mr[0]?).getD 0) i all ms 0),h,v1,h1⟩ →
    (match o.dst with
     |none=>b0a ⟨o,(mr[0]?).getD 0,kd,want,a1e tm (a0y ((mr[0]?).getD 0) i all ms 0),h,v1,h1⟩ (goD T rec nt all ms N rest (mr.drop 1) (i+1) tm h1)
     | some d => if d < nt then b0a ⟨o, (mr[0]?).getD 0, kd, want, a1e tm (a0y ((mr[0]?).getD 0) i all ms 0), h, v1, h1⟩ (goD T rec nt all ms N rest (mr.drop 1) (i + 1) (tm.set d v1) h1) else .no "put" []) = .pan v h' es →
    d6a T rec nt all ms N (o::rest) mr i tm h v h' es:=by
   intro kd want v1 h1 hx hh
   split at hh
   ·rename_i hd
    obtain⟨es',rfl,hr⟩:=c5i hh
    exact one _ _ hx (by rw[hd]; simp) (by unfold b2f; rw[hd]; exact c7t rest _ _ _ _ _ _ _ hr)
   ·rename_i d hd
    split at hh
    ·rename_i hlt
     obtain⟨es',rfl,hr⟩:=c5i hh
     exact one _ _ hx (by rw[hd]; intro d' e; cases e; exact hlt) (by unfold b2f; rw[hd]; exact c7t rest _ _ _ _ _ _ _ hr)
    ·simp at hh
  split at hg
  ·simp at hg
  ·rename_i hw
   exact fin _ _ _ _ ⟨rfl,rfl,rfl,rfl,hw,.inl ⟨rfl,rfl,rfl,rfl⟩⟩ hg
  ·rename_i hw
   split at hg
   ·simp at hg
   ·split at hg
    ·rename_i v a hn
     exact fin _ _ _ _ ⟨rfl,rfl,rfl,rfl,hw,.inr (.inr (.inl ⟨rfl,rfl,a,hn,rfl⟩))⟩ hg
    ·simp at hg
   ·split at hg
    ·rename_i v h' ha
     exact fin _ _ _ _ ⟨rfl,rfl,rfl,rfl,hw,.inr (.inr (.inr ⟨rfl,rfl,ha⟩))⟩ hg
    ·rename_i v2 h2 ha
     split at hg<;>simp at hg
     rename_i hall
     obtain⟨rfl,rfl,rfl⟩:=hg
     refine⟨[],o,rest,[],_,tm,h,rfl,rfl,.nil _ _ _ _,rfl,rfl,by simpa using hw,by simpa using ha,?_⟩
     intro k m' hk hm
     have hmem:m'∈mr.drop 1:=by
      apply List.mem_of_getElem? (i:=k-1)
      rw[List.getElem?_drop,show 1+(k-1)=k by simp at hk; omega]
      exact hm
     have:=List.all_eq_true.1 hall m' hmem
     simpa using this
    ·simp at hg
    ·simp at hg
   ·rename_i hk1 hk2 hk3
    split at hg
    ·rename_i v h' ha
     have hq:quiet (a1l T o.op)=true:=by
      generalize a1l T o.op=kk at hk1 hk2 hk3
      cases kk with
      |pure=>rfl
      |read=>rfl
      |alloc=>exact absurd rfl hk2
      |act=>exact absurd rfl hk3
      |bad=>exact absurd rfl hk1
     exact fin _ _ _ _ ⟨rfl,rfl,rfl,rfl,hw,.inr (.inl ⟨rfl,rfl,hq,⟨h',ha⟩,rfl⟩)⟩ hg
    ·simp at hg
    ·simp at hg
theorem b9m.txt {rec:Task→Res}{nt:Nat}{all:List Oper}{ms:List Nat}{N:Nat}{l:List Oper}{mr:List Nat}{i:Nat}{tm:Tr AV}{h:a0a}{tmF:Tr AV}{hF:a0a}{es:List Ent}
  (hc:b9m T rec nt all ms N l mr i tm h tmF hF es):∃ (e:Nat→Ent) (tmA:Nat→Tr AV) (hA:Nat→a0a),tmA i=tm∧hA i=h∧tmA (i+l.length)=tmF∧hA (i+l.length)=hF∧es.length=l.length ∧
   (∀ k,k<l.length→es[k]?=some (e (i+k))) ∧
   ∀ k o,l[k]?=some o→c6a T rec all ms N (i+k) o ((mr[k]?).getD 0) (tmA (i+k)) (hA (i+k)) (e (i+k))∧(e (i+k)).h1=hA (i+k+1)∧tmA (i+k+1)=b2f o (tmA (i+k)) (e (i+k)).v∧(∀ d,o.dst=some d→d<nt):=by
 induction hc with
 |nil mr i tm h =>
  exact⟨fun _=>⟨default,0,.pure,true,.nil,h,.nilmap,h⟩,fun _=>tm,fun _=>h,rfl,rfl,rfl,rfl,rfl,by simp,by simp⟩
 |cons o rest mr i tm h x tmF hF es hx hd hc ih =>
  obtain⟨e,tmA,hA,a1,a2,a3,a4,a5,a6,a7⟩:=ih
  refine⟨fun j=>if j=i then x else e j,fun j=>if j=i then tm else tmA j,fun j=>if j=i then h else hA j,by simp,by simp,?_,?_,?_,?_,?_⟩
  ·simp only[List.length_cons]
   rw[if_neg (by omega),← a3]; congr 1; omega
  ·simp only[List.length_cons]
   rw[if_neg (by omega),← a4]; congr 1; omega
  ·simp[a5]
  ·intro k hk
   cases k with
   |zero=>simp
   |succ k =>
    have:=a6 k (by simpa using hk)
    simp only[List.getElem?_cons_succ]
    rw[this,if_neg (by omega)]
    congr 2; omega
  ·intro k o' ho
   cases k with
   |zero =>
    simp at ho; subst ho
    simp only[Nat.add_zero,if_true]
    rw[if_neg (by omega),if_neg (by omega),a1,a2]
    exact⟨hx,rfl,rfl,hd⟩
   |succ k =>
    have hthis:=a7 k o' (by simpa using ho)
    have e1:i+(k+1)=i+1+k:=by omega
    rw[e1]
    simp only[]
    rw[if_neg (by omega),if_neg (by omega),if_neg (by omega),if_neg (by omega),if_neg (by omega)]
    have hm:((mr.drop 1)[k]?).getD 0=(mr[k+1]?).getD 0:=by
     rw[List.getElem?_drop,Nat.add_comm 1 k]
    rw[hm] at hthis
    exact hthis
structure Txt (T:a0k) (rec:Task→Res) (nt:Nat) (ops:Array Oper) (n N:Nat) (e:Nat→Ent) (tmA:Nat→Tr AV) (hA:Nat→a0a):Prop where
 hn:n≤ops.size
 ent:∀ (i:Nat) (o:Oper),i<n→ops[i]?=some o→c6a T rec ops.toList (masks ops.toList) N i o (mkB ops i) (tmA i) (hA i) (e i)
 h1:∀ i,i<n→(e i).h1=hA (i+1)
 tm1:∀ (i:Nat) (o:Oper),i<n→ops[i]?=some o→tmA (i+1)=b2f o (tmA i) (e i).v
 dlt:∀ (i:Nat) (o:Oper) (d:Nat),i<n→ops[i]?=some o→o.dst=some d→d<nt
 edg:a3q ops.toList 0=true
 pair:∀ j k,j<k→k<n→b0f T j (e j) (e k)=true
theorem c0o {j:Nat}{a:Ent}:∀ {l:List Ent},b4w T j a l=true→∀ b∈l,b0f T j a b=true
 |[],_,b,hb=>by simp at hb
 |x::l,h,b,hb=>by
  simp only[b4w,Bool.and_eq_true] at h
  rcases List.mem_cons.1 hb with rfl|hb
  ·exact h.1
  ·exact c0o h.2 b hb
theorem c1b:∀ {l:List Ent}{j0:Nat},okD T l j0=true→∀ {j k:Nat}{a b:Ent},j<k→l[j]?=some a→l[k]?=some b→b0f T (j0+j) a b=true
 |[],_,_,j,k,a,b,_,ha,_=>by simp at ha
 |x::l,j0,h,j,k,a,b,hjk,ha,hb=>by
  simp only[okD,Bool.and_eq_true] at h
  cases k with
  |zero=>omega
  |succ k =>
   simp only[List.getElem?_cons_succ] at hb
   cases j with
   |zero =>
    simp at ha; subst ha
    exact c0o h.1 b (List.mem_of_getElem? hb)
   |succ j =>
    have:=c1b h.2 (j:=j) (k:=k) (by omega) (by simpa using ha) hb
    rw[show j0+(j+1)=j0+1+j by omega]; exact this
theorem f2b {rec:Task→Res}{nt:Nat}{ops:Array Oper}{N:Nat}{tm tmF:Tr AV}{h hF:a0a}{es:List Ent}(hE:a3q ops.toList 0=true)
  (hg:goD T rec nt ops.toList (masks ops.toList) N ops.toList (masks ops.toList) 0 tm h=.fin tmF hF es) (ho:okD T es 0=true) :
  ∃ e tmA hA,Txt T rec nt ops ops.size N e tmA hA∧tmA 0=tm∧hA 0=h∧tmA ops.size=tmF∧hA ops.size=hF:=by
 obtain⟨e,tmA,hA,a1,a2,a3,a4,a5,a6,a7⟩:=(b8s _ _ _ _ _ _ _ _ hg).txt
 simp only[Nat.zero_add,Array.length_toList] at a1 a2 a3 a4 a5 a6 a7
 refine⟨e,tmA,hA,⟨Nat.le_refl _,?_,?_,?_,?_,hE,?_⟩,a1,a2,a3,a4⟩
 ·intro i o _ hi
  exact(a7 i o (by simpa using hi)).1
 ·intro i hi
  exact(a7 i ops[i] (by simp[hi])).2.1
 ·intro i o _ hi
  exact(a7 i o (by simpa using hi)).2.2.1
 ·intro i o d _ hi hd
  exact(a7 i o (by simpa using hi)).2.2.2 d hd
 ·intro j k hjk hk
  have:=c1b ho hjk (a6 j (by omega)) (a6 k hk)
  simpa using this
theorem d3s {rec:Task→Res}{nt:Nat}{ops:Array Oper}{N:Nat}{tm:Tr AV}{h:a0a}{v:AV}{h':a0a}{es:List Ent}(hE:a3q ops.toList 0=true)
  (hg:goD T rec nt ops.toList (masks ops.toList) N ops.toList (masks ops.toList) 0 tm h=.pan v h' es) (ho:okD T es 0=true) :
  ∃ p o e tmA hA,p<ops.size∧ops[p]?=some o∧Txt T rec nt ops p N e tmA hA∧tmA 0=tm∧hA 0=h∧(∀ j,j<p→(e j).kd=.act→Nat.testBit (mkB ops p) j=true) ∧
   a8e ops.toList (a1e (tmA p) (a0y (mkB ops p) p ops.toList (masks ops.toList) 0)) o=some true ∧
   c1p T rec (a1e (tmA p) (a0y (mkB ops p) p ops.toList (masks ops.toList) 0)) o (hA p)=.thrown v h'∧∀ k,p<k→k<ops.size→Nat.testBit (mkB ops k) p=true:=by
 obtain⟨l1,o,l2,esP,x,tmP,hP,hl,rfl,hc,x1,x2,x3,x4,x5⟩:=c7t _ _ _ _ _ _ _ _ hg
 obtain⟨e,tmA,hA,a1,a2,a3,a4,a5,a6,a7⟩:=hc.txt
 simp only[Nat.zero_add] at a1 a2 a3 a4 a5 a6 a7 x3 x4 x5
 have hsz:ops.size=l1.length+(l2.length+1):=by
  have:=congrArg List.length hl
  simpa using this
 have hp:l1.length<ops.size:=by omega
 have hat:∀ i,i<l1.length→ops[i]?=l1[i]?:=fun i hi=>by
  rw[← Array.getElem?_toList,hl,List.getElem?_append_left hi]
 have hop:ops[l1.length]?=some o:=by
  rw[← Array.getElem?_toList,hl,List.getElem?_append_right (Nat.le_refl _)]
  simp
 refine⟨l1.length,o,e,tmA,hA,hp,hop,⟨by omega,?_,?_,?_,?_,hE,?_⟩,a1,a2,?_,?_,?_,?_⟩
 ·intro i o' hi hio
  exact(a7 i o' (by rw[← hat i hi]; exact hio)).1
 ·intro i hi
  exact(a7 i l1[i] (by simp[hi])).2.1
 ·intro i o' hi hio
  exact(a7 i o' (by rw[← hat i hi]; exact hio)).2.2.1
 ·intro i o' d hi hio hd
  exact(a7 i o' (by rw[← hat i hi]; exact hio)).2.2.2 d hd
 ·intro j k hjk hk
  have:=c1b ho hjk (a:=e j) (b:=e k) (by rw[List.getElem?_append_left (by omega)]; exact a6 j (by omega)) (by rw[List.getElem?_append_left (by omega)]; exact a6 k hk)
  simpa using this
 ·intro j hj hk
  have:=c1b ho hj (a:=e j) (b:=x) (by rw[List.getElem?_append_left (by omega)]; exact a6 j hj) (by rw[List.getElem?_append_right (by omega),a5]; simp)
  unfold b0f at this
  rw[x2,Bool.or_eq_true] at this
  rcases this with h1|h1
  ·simpa [mkB] using h1
  ·rw[hk,x1] at h1
   simp[a9c] at h1
 ·rw[a3]; exact x3
 ·rw[a3,a4]; exact x4
 ·intro k h1 h2
  have hm:(masks ops.toList)[k]?=some (mkB ops k):=by
   unfold mkB
   have:k<(masks ops.toList).length:=by rw[b7x]; simpa using h2
   rw[List.getElem?_eq_getElem this]; rfl
  exact x5 k _ h1 hm
def b0m (ops:Array Oper) (i:Nat):Option Tmp:=(ops[i]?).bind (·.dst)
section
variable {rec:Task→Res}{nt:Nat}{ops:Array Oper}{n N:Nat}{e:Nat→Ent}{tmA:Nat→Tr AV}{hA:Nat→a0a}(X:Txt T rec nt ops n N e tmA hA)
include X
theorem Txt.d2l:∀ (i:Nat),i≤n→∀ t v,(tmA i).get t=some v →
  (∃ j,j<i∧b0m ops j=some t∧v=(e j).v∧∀ j',j<j'→j'<i→b0m ops j'≠some t)∨((∀ j,j<i→b0m ops j≠some t)∧(tmA 0).get t=some v)
 |0,_,t,v,h=>.inr ⟨by intro j hj; omega,h⟩
 |i+1,hi,t,v,h=>by
  have hio:i<ops.size:=by have:=X.hn; omega
  have ho:ops[i]?=some ops[i]:=by simp[hio]
  rw[X.tm1 i _ (by omega) ho] at h
  have old:b0m ops i≠some t→(tmA i).get t=some v→(∃ j,j<i+1∧b0m ops j=some t∧v=(e j).v∧∀ j',j<j'→j'<i+1→b0m ops j'≠some t)∨((∀ j,j<i+1→b0m ops j≠some t)∧(tmA 0).get t=some v):=fun hne h=>by
   rcases Txt.d2l i (by omega) t v h with ⟨j,h1,h2,h3,h4⟩|⟨h1,h2⟩
   ·exact Or.inl ⟨j,by omega,h2,h3,fun j' hj hj'=>by
     by_cases e:j'=i
     ·subst e; exact hne
     ·exact h4 j' hj (by omega)⟩
   ·exact Or.inr ⟨fun j hj=>by
     by_cases e:j=i
     ·subst e; exact hne
     ·exact h1 j (by omega),h2⟩
  unfold b2f at h
  split at h
  ·rename_i hd
   exact old (by unfold b0m; rw[ho]; simp[hd]) h
  ·rename_i d hd
   rw[Tr.a1d] at h
   have hdo:b0m ops i=some d:=by unfold b0m; rw[ho]; simp[hd]
   by_cases ht:t=d
   ·subst ht
    simp at h
    exact .inl ⟨i,by omega,hdo,h.symm,fun j' hj hj'=>by omega⟩
   ·rw[if_neg ht] at h
    exact old (by rw[hdo]; simpa using fun e=>ht e.symm) h
theorem Txt.slots {i:Nat}(hi:i<ops.size){t:Nat}{v:AV}(h:(a1e (tmA i) (a0y (mkB ops i) i ops.toList (masks ops.toList) 0)).get t=some v) :
  (tmA i).get t=some v∧∀ j,j<ops.size→b0m ops j=some t→(j<i→Nat.testBit (mkB ops i) j=true)∧(i<j→Nat.testBit (mkB ops j) i=true):=by
 have _used:=X.edg
 obtain⟨h1,h2⟩:=b2y _ _ _ _ h
 refine⟨h2,?_⟩
 intro j hj hd
 have hoj:ops.toList[j]?=some ops[j]:=by simp[hj]
 have hmj:(masks ops.toList)[j]?=some (mkB ops j):=by
  unfold mkB
  have:j<(masks ops.toList).length:=by rw[b7x]; simpa using hj
  rw[List.getElem?_eq_getElem this]; rfl
 have hdj:(ops[j]).dst=some t:=by
  have:ops[j]?=some ops[j]:=by simp[hj]
  unfold b0m at hd; rw[this] at hd; exact hd
 have:=b7c (m:=mkB ops i) (i:=i) ops.toList (masks ops.toList) 0 j _ t _ hoj hmj hdj h1
 simpa using this
theorem Txt.gap {x:Nat}:∀ (y:Nat),x≤y→y≤n→(∀ k,x≤k→k<y→(e k).kd≠.act) →
  (∀ b,(∀ k,x≤k→k<y→(e k).kd=.alloc→b≠N+k)→(hA y).get b=(hA x).get b) ∧
  (∀ k,x≤k→k<y→(e k).kd=.alloc→∃ o a,ops[k]?=some o∧a8m T (env (e k).tm) o (N+k)=some ((e k).v,a)∧(hA y).get (N+k)=some a)∧(hA y).next=(hA x).next
 |y,hxy,hy,hna=>by
  rcases Nat.lt_or_ge x y with h|h
  ·cases y with
   |zero=>omega
   |succ y =>
    obtain⟨g1,g2,g3⟩:=Txt.gap y (by omega) (by omega) (fun k h1 h2=>hna k h1 (by omega))
    have hyl:y<n:=by omega
    have hyo:y<ops.size:=by have:=X.hn; omega
    have ho:ops[y]?=some ops[y]:=by simp[hyo]
    obtain⟨_,_,_,_,_,hk⟩:=X.ent y _ hyl ho
    have hh1:=X.h1 y hyl
    rcases hk with ⟨_,k2,_,k4⟩|⟨_,k2,_,_,k4⟩|⟨_,k2,a,k3,k4⟩|⟨_,k2,_⟩
    ·rw[← hh1,k4]
     refine⟨fun b hb=>g1 b (fun k h1 h2 h3=>hb k h1 (by omega) h3),fun k h1 h2 h3=>?_,g3⟩
     by_cases e0:k=y
     ·subst e0; rw[k2] at h3; cases h3
     ·exact g2 k h1 (by omega) h3
    ·rw[← hh1,k4]
     refine⟨fun b hb=>g1 b (fun k h1 h2 h3=>hb k h1 (by omega) h3),fun k h1 h2 h3=>?_,g3⟩
     by_cases e0:k=y
     ·subst e0; rw[k2] at h3; cases h3
     ·exact g2 k h1 (by omega) h3
    ·rw[← hh1,k4]
     refine⟨fun b hb=>?_,fun k h1 h2 h3=>?_,by simpa using g3⟩
     ·rw[a0a.a1d,if_neg (hb y (by omega) (by omega) k2)]
      exact g1 b (fun k h1 h2 h3=>hb k h1 (by omega) h3)
     ·by_cases e0:k=y
      ·subst e0
       exact⟨_,a,ho,k3,by rw[a0a.a1d,if_pos rfl]⟩
      ·obtain⟨o,a',q1,q2,q3⟩:=g2 k h1 (by omega) h3
       exact⟨o,a',q1,q2,by rw[a0a.a1d,if_neg (by omega)]; exact q3⟩
    ·exact absurd k2 (hna y (by omega) (by omega))
  ·have:x=y:=by omega
   subst this
   exact⟨fun _ _=>rfl,fun k h1 h2=>by omega,rfl⟩
theorem Txt.next (x:Nat) (hx:x≤n):∃ y,x≤y∧y≤n∧(∀ k,x≤k→k<y→(e k).kd≠.act)∧(y<n→(e y).kd=.act):=by
 have _used:=X.edg
 have:∀ d x,x+d=n→∃ y,x≤y∧y≤n∧(∀ k,x≤k→k<y→(e k).kd≠.act)∧(y<n→(e y).kd=.act):=by
  intro d
  induction d with
  |zero=>intro x h; exact⟨x,Nat.le_refl _,by omega,fun k h1 h2=>by omega,fun h1=>by omega⟩
  |succ d ih =>
   intro x h
   by_cases hk:(e x).kd=.act
   ·exact⟨x,Nat.le_refl _,by omega,fun k h1 h2=>by omega,fun _=>hk⟩
   ·obtain⟨y,y1,y2,y3,y4⟩:=ih (x+1) (by omega)
    refine⟨y,by omega,y2,fun k h1 h2=>?_,y4⟩
    by_cases e0:k=x
    ·subst e0; exact hk
    ·exact y3 k (by omega) h2
 exact this (n-x) x (by omega)
end
end Ev
end
section
namespace Ev
open Go Go.RowKit
variable {P:Program}{T:a0k}{base:Nat}{w0:World}
def En.sub (E:En) (D:Nat→Prop):En:={ E with dom:=fun b=>E.dom b∧D b }
def Dm (N n x:Nat):Nat→Prop:=fun b=>b<N+x∨N+n≤b
theorem b2v {N n x y:Nat}(h:x≤y){b:Nat}(hb:Dm N n x b):Dm N n y b:=by
 rcases hb with hb|hb
 ·exact .inl (by omega)
 ·exact .inr hb
theorem sub_le_sub {E E':En}(le:E.Le E'){D D':Nat→Prop}(h:∀ b,D b→D' b):(E.sub D).Le (E'.sub D') :=
 ⟨fun b hb=>⟨le.dom b hb.1,h b hb.2⟩,fun b hb=>le.blk b hb.1,fun b hb=>le.off b hb.1,fun b hb=>le.ext b hb.1⟩
theorem b7h {E:En}{N n x y:Nat}(h:x≤y):(E.sub (Dm N n x)).Le (E.sub (Dm N n y)):=sub_le_sub (.refl E) fun _=>b2v h
section
variable {rec:Task→Res}{nt:Nat}{ops:Array Oper}{n N:Nat}{e:Nat→Ent}{tmA:Nat→Tr AV}{hA:Nat→a0a}
def c6u (T:a0k) (N:Nat) (e:Nat→Ent) (i:Nat) (a:a1t):Prop:=a8m T (env (e i).tm) (e i).o (N+i)=some ((e i).v,a)
structure b2i (ops:Array Oper) (n:Nat) (e:Nat→Ent) (S:Nat→Prop) (nx:Nat):Prop where
 nxle:nx≤n
 nxS:∀ i,i<nx→(e i).kd=.act→S i
 nxn:∀ i,nx≤i→i<n→(e i).kd=.act→¬ S i
 nxa:nx<n→(e nx).kd=.act
 clo:∀ k,S k→k<n∧∀ j,Nat.testBit (mkB ops k) j=true→S j
structure b3p (P:Program) (T:a0k) (ops:Array Oper) (N:Nat) (e:Nat→Ent) (hA:Nat→a0a) (base:Nat) (w0:World) (E0:En) (h00:a0a) (w00:World) (S:Nat→Prop) (nx:Nat) (E:En) (w:World):Prop where
 hr:HR P base w0 (E.sub (Dm N ops.size nx)) (hA nx) w
 nxt:N+ops.size≤(hA nx).next
 ste:Ste E0 h00 w00 E (hA nx) w
 blt:∀ b,E.dom b→E.blk b<w.heap.size
 fl:∀ i,i<ops.size→nx≤i→S i→(e i).kd=.alloc→∀ a,c6u T N e i a→OR' P base (E.sub (Dm N ops.size (i+1))) (N+i) w a∧a.own
 fi:∀ i,i<ops.size→nx≤i→S i→(e i).kd=.alloc→∀ b,E.dom b→b≠N+i→E.blk b≠E.blk (N+i)
 nd:∀ i,i<ops.size→E.dom (N+i)→S i∧(e i).kd=.alloc
 fd:∀ i,i<ops.size→S i→(e i).kd=.alloc→E.dom (N+i)
 bd:∀ b,E.dom b→b<(hA nx).next
 un:∀ i,i<nx→(e i).kd=.alloc→¬ S i→∀ a,c6u T N e i a→(hA nx).get (N+i)=some a
 nn:∀ x,x≤nx→∀ i,x≤i→i<ops.size→(hA x).get (N+i)=none
structure b3c (ops:Array Oper) (N nt:Nat) (e:Nat→Ent) (tm0:Tr AV) (d0:List Deferred) (S:Nat→Prop) (nx:Nat) (E:En) (a:Act):Prop where
 tm0:∀ t v,(∀ j,S j→b0m ops j≠some t)→tm0.get t=some v→∃ v',a.tmps[t]?=some v'∧VR (E.sub (Dm N ops.size nx)) v v'
 tmv:∀ j t,S j→b0m ops j=some t→(∀ j',S j'→j<j'→b0m ops j'≠some t)→∃ v',a.tmps[t]?=some v'∧VR (E.sub (Dm N ops.size (max (j+1) nx))) (e j).v v'
 sz:a.tmps.size=nt
 df:a.defers=d0
def ext (S:Nat→Prop) (i:Nat):Nat→Prop:=fun j=>S j∨j=i
theorem b2i.ready {S:Nat→Prop}{nx:Nat}(I:b2i ops n e S nx) (hE:a3q ops.toList 0=true){i:Nat}{o:Oper}(ho:ops[i]?=some o) (hr:∀ ed∈o.after.toList,Region.binds .any ed=true→S ed.on) :
  ∀ j,Nat.testBit (mkB ops i) j=true→S j:=by
 intro j hj
 obtain⟨ed,h1,h2,h3⟩:=e6j hE ho hj
 have hs:=hr ed h1 h2
 rcases h3 with rfl|h3
 ·exact hs
 ·exact(I.clo _ hs).2 j h3
theorem b3c.tr (X:Txt T rec nt ops n N e tmA hA){S:Nat→Prop}{nx:Nat}{E:En}{a:Act}{d0:List Deferred}(IS:b2i ops n e S nx) (I:b3c ops N nt e (tmA 0) d0 S nx E a){i:Nat}(hi:i<ops.size) (hin:i≤n) (hn:¬ S i)
  (hr:∀ j,Nat.testBit (mkB ops i) j=true→S j):TR (E.sub (Dm N ops.size (max i nx))) (a1e (tmA i) (a0y (mkB ops i) i ops.toList (masks ops.toList) 0)) a.tmps:=by
 intro t v hv
 obtain⟨h1,h2⟩:=X.slots hi hv
 have noLater:∀ j',S j'→i<j'→b0m ops j'≠some t:=fun j' hs hlt hd=>by
  have:=(h2 j' (Nat.lt_of_lt_of_le (IS.clo j' hs).1 X.hn) hd).2 hlt
  exact hn ((IS.clo j' hs).2 i this)
 rcases X.d2l i (by omega) t v h1 with ⟨j,g1,g2,rfl,g4⟩|⟨g1,g2⟩
 ·have hs:=hr j ((h2 j (by omega) g2).1 g1)
  obtain⟨v',q1,q2⟩:=I.tmv j t hs g2 (fun j' hs' hlt hd=>by
   by_cases e0:j'<i
   ·exact g4 j' hlt e0 hd
   ·by_cases e1:j'=i
    ·subst e1; exact hn hs'
    ·exact noLater j' hs' (by omega) hd)
  exact⟨v',q1,q2.mono (b7h (by omega))⟩
 ·obtain⟨v',q1,q2⟩:=I.tm0 t v (fun j' hs' hd=>by
   by_cases e0:j'<i
   ·exact g1 j' e0 hd
   ·by_cases e1:j'=i
    ·subst e1; exact hn hs'
    ·exact noLater j' hs' (by omega) hd) g2
  exact⟨v',q1,q2.mono (b7h (by omega))⟩
theorem b3c.step (X:Txt T rec nt ops n N e tmA hA){S:Nat→Prop}{nx nx':Nat}{E E':En}{a:Act}{d0:List Deferred}(IS:b2i ops n e S nx) (I:b3c ops N nt e (tmA 0) d0 S nx E a){i:Nat}{o:Oper}(ho:ops[i]?=some o) (hin:i<n) (hn:¬ S i)
  (hnx:nx≤nx') (le:E.Le E') {v':Value} (hv:VR (E'.sub (Dm N ops.size (max (i+1) nx'))) (e i).v v') :
  b3c ops N nt e (tmA 0) d0 (ext S i) nx' E' (a.put o.dst v'):=by
 have hi:i<ops.size:=(Array.getElem?_eq_some_iff.1 ho).1
 have hdi:b0m ops i=o.dst:=by unfold b0m; rw[ho]; rfl
 -- a slot that is not written
 have keep:∀ t,b0m ops i≠some t→(a.put o.dst v').tmps[t]?=a.tmps[t]?:=by
  intro t ht
  rw[hdi] at ht
  cases hd:o.dst with
  |none=>rfl
  |some d =>
   rw[hd] at ht
   have hne:d≠t:=fun e=>ht (by rw[e])
   show(a.tmps.setIfInBounds d v')[t]?=_
   rw[Array.getElem?_setIfInBounds_ne hne]
 refine⟨?_,?_,?_,?_⟩
 ·intro t v hw hg
  obtain⟨v1,q1,q2⟩:=I.tm0 t v (fun j hs=>hw j (.inl hs)) hg
  exact⟨v1,by rw[keep t (hw i (.inr rfl))]; exact q1,q2.mono (sub_le_sub le fun _=>b2v hnx)⟩
 ·intro j t hs hd hl
  by_cases e0:j=i
  ·subst e0
   refine⟨v',?_,hv⟩
   rw[hdi] at hd
   rw[hd]
   show(a.tmps.setIfInBounds t v')[t]?=_
   have:=X.dlt _ _ _ hin ho hd
   rw[← I.sz] at this
   simp[this]
  ·have hs':S j:=hs.resolve_right e0
   have hne:b0m ops i≠some t:=by
    intro hdt
    rcases Nat.lt_or_ge j i with h|h
    ·exact hl i (.inr rfl) h hdt
    ·have hij:i<j:=by omega
     have hjn:=(IS.clo j hs').1
     have hp:=X.pair i j hij hjn
     have hjo:j<ops.size:=Nat.lt_of_lt_of_le hjn X.hn
     have hoj:ops[j]?=some ops[j]:=by simp[hjo]
     obtain⟨e1,e2,_⟩:=X.ent i o hin ho
     obtain⟨f1,f2,_⟩:=X.ent j _ hjn hoj
     unfold b0f at hp
     rw[f2,Bool.or_eq_true] at hp
     rcases hp with hp|hp
     ·exact hn ((IS.clo j hs').2 i hp)
     ·have hsd:b3f (e i).o (e j).o=true:=by
       unfold b3f
       rw[e1,f1]
       have hdj:(ops[j]).dst=some t:=by unfold b0m at hd; rw[hoj] at hd; exact hd
       rw[hdi] at hdt
       rw[hdt,hdj]
       simp
      rw[hsd] at hp
      simp at hp
   obtain⟨v1,q1,q2⟩:=I.tmv j t hs' hd (fun j' h1 h2=>hl j' (.inl h1) h2)
   exact⟨v1,by rw[keep t hne]; exact q1,q2.mono (sub_le_sub le fun _=>b2v (by omega))⟩
 ·have:=I.sz
  cases hd:o.dst with
  |none=>exact this
  |some d=>show(a.tmps.setIfInBounds d v').size=_; simpa using this
 ·have:=I.df
  cases hd:o.dst<;>exact this
theorem b2i.quiet {S:Nat→Prop}{nx:Nat}(I:b2i ops n e S nx){i:Nat}(hi:i<n) (hk:(e i).kd≠.act) (hr:∀ j,Nat.testBit (mkB ops i) j=true→S j):b2i ops n e (ext S i) nx:=by
 refine⟨I.nxle,fun j h1 h2=>.inl (I.nxS j h1 h2),fun j h1 h2 h3 h4=>?_,I.nxa,fun k hk=>?_⟩
 ·rcases h4 with h4|rfl
  ·exact I.nxn j h1 h2 h3 h4
  ·exact hk h3
 ·rcases hk with hk|rfl
  ·exact⟨(I.clo k hk).1,fun j hj=>.inl ((I.clo k hk).2 j hj)⟩
  ·exact⟨hi,fun j hj=>.inl (hr j hj)⟩
theorem b3p.quiet {E0:En}{h00:a0a}{w00:World}{S:Nat→Prop}{nx:Nat}{E:En}{w:World}(I:b3p P T ops N e hA base w0 E0 h00 w00 S nx E w){i:Nat}(hk:(e i).kd≠.alloc) :
  b3p P T ops N e hA base w0 E0 h00 w00 (ext S i) nx E w:=by
 refine⟨I.hr,I.nxt,I.ste,I.blt,?_,?_,?_,?_,I.bd,?_,I.nn⟩
 ·intro j h1 h2 h3 h4
  rcases h3 with h3|rfl
  ·exact I.fl j h1 h2 h3 h4
  ·exact absurd h4 hk
 ·intro j h1 h2 h3 h4
  rcases h3 with h3|rfl
  ·exact I.fi j h1 h2 h3 h4
  ·exact absurd h4 hk
 ·intro j h1 h2
  obtain⟨q1,q2⟩:=I.nd j h1 h2
  exact⟨.inl q1,q2⟩
 ·intro j h1 h2 h3
  rcases h2 with h2|rfl
  ·exact I.fd j h1 h2 h3
  ·exact absurd h3 hk
 ·intro j h1 h2 h3
  exact I.un j h1 h2 (fun h=>h3 (.inl h))
theorem OR'.world {E:En}{b:Nat}{w w':World}{o:a1t}(h:OR' P base E b w o) (hs:∀ k,k<w.heap.size→w'.heap[k]?=w.heap[k]?):OR' P base E b w' o:=by
 by_cases hd:o=.dead
 ·subst hd; trivial
 ·exact OR'.same (hs _ (h.lt hd)) h
theorem b3p.alloc {E0:En}{h00:a0a}{w00:World}(hN:N=h00.next){S:Nat→Prop}{nx:Nat}{E:En}{w:World}(I:b3p P T ops N e hA base w0 E0 h00 w00 S nx E w){i:Nat}(hi:i<ops.size) (hn:¬ S i) (hk:(e i).kd=.alloc)
  {a:a1t} (ha:c6u T N e i a) {ob:Obj} {x:Nat} {d:Bool} {v':Value} (hown:a.own)
  (hok:∀ E2:En,(E.sub (Dm N ops.size (max i nx))).Le E2→E2.dom (N+i)→E2.blk (N+i)=w.heap.size→E2.off (N+i)=0→E2.ext (N+i)=x →
   VR E2 (e i).v v'∧∀ w2:World,w2.heap[w.heap.size]?=some ob→base≤w.heap.size→OR' P base E2 (N+i) w2 a) :
  let E':=E.push (N+i) w.heap.size 0 x
  b3p P T ops N e hA base w0 E0 h00 w00 (ext S i) nx E' ((if d then w.drew else w).alloc ob)∧E.Le E'∧VR (E'.sub (Dm N ops.size (max (i+1) nx))) (e i).v v':=by
 have hnd:¬ E.dom (N+i):=fun h=>hn (I.nd i hi h).1
 have le:=E.b0w (N+i) w.heap.size 0 x hnd
 have blk0:(E.push (N+i) w.heap.size 0 x).blk (N+i)=w.heap.size:=by simp[En.push]
 have hold:∀ k,k<w.heap.size→((if d then w.drew else w).alloc ob).heap[k]?=w.heap[k]?:=by
  intro k hk
  cases d
  ·exact heap_alloc_old hk
  ·exact heap_alloc_old (w:=w.drew) hk
 have hnew:((if d then w.drew else w).alloc ob).heap[w.heap.size]?=some ob:=by
  cases d
  ·exact heap_alloc_new
  ·exact heap_alloc_new (w:=w.drew)
 have hsz:((if d then w.drew else w).alloc ob).heap.size=w.heap.size+1:=by cases d<;>simp
 have hbel:Below base w0 ((if d then w.drew else w).alloc ob):=by
  cases d
  ·exact I.hr.wd.alloc I.hr.bsz ob
  ·have h1:=HR.drew I.hr
   exact h1.wd.alloc h1.bsz ob
 have hdr:w0.drawn≤((if d then w.drew else w).alloc ob).drawn:=by
  cases d
  ·exact I.hr.drawn
  ·exact Nat.le_trans I.hr.drawn (Nat.le_succ _)
 -- the new object, wherever its number may be known
 have hat:∀ y,max (i+1) nx≤y∨(i<nx∧nx≤y)→VR ((E.push (N+i) w.heap.size 0 x).sub (Dm N ops.size y)) (e i).v v'∧OR' P base ((E.push (N+i) w.heap.size 0 x).sub (Dm N ops.size y)) (N+i) ((if d then w.drew else w).alloc ob) a:=by
  intro y hy
  have:=hok ((E.push (N+i) w.heap.size 0 x).sub (Dm N ops.size y)) (sub_le_sub le fun b=>b2v (by omega)) ⟨.inl rfl,.inl (by omega)⟩ blk0 (by simp[En.sub,En.push]) (by simp[En.sub,En.push])
  exact⟨this.1,this.2 _ hnew I.hr.bsz⟩
 refine⟨⟨⟨?_,?_,?_,hbel,hdr,?_,?_⟩,I.nxt,⟨?_,?_,?_,?_,?_,?_,?_⟩,?_,?_,?_,?_,?_,?_,?_,I.nn⟩,le,(hat _ (.inl (Nat.le_refl _))).1⟩
 ·-- dlt
  intro b hb
  rcases hb.1 with rfl|h
  ·have:=I.nxt; omega
  ·exact I.bd b h
 ·-- obj
  intro b o hb ho
  rcases hb with ⟨rfl|h,hD⟩
  ·have hinx:i<nx:=by rcases hD with h|h<;>omega
   rw[I.un i hinx hk hn a ha] at ho
   cases ho
   exact(hat nx (.inr ⟨hinx,Nat.le_refl _⟩)).2
  ·have h1:=I.hr.obj b o ⟨h,hD⟩ ho
   exact(OR'.mono (sub_le_sub le fun _ h=>h) (b:=b) (⟨h,hD⟩:(E.sub (Dm N ops.size nx)).dom b) h1).world hold
 ·-- inj
  intro b b' o1 o2 hb hb' ho1 ho2 w1 w2 heq
  have blkE:∀ b,E.dom b→(E.push (N+i) w.heap.size 0 x).blk b=E.blk b:=fun b h=>le.blk b h
  have heq':(E.push (N+i) w.heap.size 0 x).blk b=(E.push (N+i) w.heap.size 0 x).blk b':=heq
  rcases hb with ⟨rfl|h,hD⟩<;>rcases hb' with ⟨rfl|h',hD'⟩
  ·rfl
  ·rw[blk0,blkE b' h'] at heq'
   have:=I.blt b' h'; omega
  ·rw[blk0,blkE b h] at heq'
   have:=I.blt b h; omega
  ·rw[blkE b h,blkE b' h'] at heq'
   exact I.hr.inj b b' o1 o2 ⟨h,hD⟩ ⟨h',hD'⟩ ho1 ho2 w1 w2 heq'
 ·rw[hsz]; have:=I.hr.bsz; omega
 ·intro b hb
  rw[hsz]
  rcases hb.1 with rfl|h
  ·show(E.push (N+i) w.heap.size 0 x).blk (N+i)<_
   rw[blk0]; omega
  ·show(E.push (N+i) w.heap.size 0 x).blk b<_
   rw[le.blk b h]; have:=I.blt b h; omega
 ·exact I.ste.le.trans le
 ·intro b hb
  rcases hb with rfl|h
  ·exact .inr (by omega)
  ·exact I.ste.newd b h
 ·exact I.ste.nx
 ·exact I.ste.loc
 ·rw[hsz]; have:=I.ste.sz; omega
 ·intro k hk hk'
  rw[hold k (by have:=I.ste.sz; omega)]
  exact I.ste.fr k hk hk'
 ·intro b hb
  rcases hb with rfl|h
  ·refine .inr (.inl ?_)
   rw[blk0]; exact I.ste.sz
  ·rw[le.blk b h]; exact I.ste.img b h
 ·-- blt
  intro b hb
  rw[hsz]
  rcases hb with rfl|h
  ·rw[blk0]; omega
  ·rw[le.blk b h]; have:=I.blt b h; omega
 ·-- fl
  intro j h1 h2 h3 h4 a' ha'
  by_cases e0:j=i
  ·subst e0
   unfold c6u at ha ha'
   rw[ha] at ha'
   cases ha'
   exact⟨(hat (j+1) (.inl (by omega))).2,hown⟩
  ·have hs:S j:=h3.resolve_right e0
   obtain⟨q1,q2⟩:=I.fl j h1 h2 hs h4 a' ha'
   have hdj:=I.fd j h1 hs h4
   ·exact⟨(OR'.mono (sub_le_sub le fun _ h=>h) (b:=N+j) (⟨hdj,.inl (by omega)⟩:(E.sub (Dm N ops.size (j+1))).dom (N+j)) q1).world hold,q2⟩
 ·-- fi
  intro j h1 h2 h3 h4 b hb hne
  by_cases e0:j=i
  ·subst e0
   rcases hb with rfl|h
   ·exact absurd rfl hne
   ·rw[le.blk b h,blk0]; have:=I.blt b h; omega
  ·have hs:S j:=h3.resolve_right e0
   have hdj:E.dom (N+j):=I.fd j h1 hs h4
   rw[le.blk _ hdj]
   rcases hb with rfl|h
   ·rw[blk0]; have:=I.blt _ hdj; omega
   ·rw[le.blk b h]; exact I.fi j h1 h2 hs h4 b h hne
 ·-- nd
  intro j h1 h2
  rcases h2 with h2|h2
  ·have:j=i:=by omega
   subst this; exact⟨.inr rfl,hk⟩
  ·obtain⟨q1,q2⟩:=I.nd j h1 h2
   exact⟨.inl q1,q2⟩
 ·intro j h1 h2 h3
  rcases h2 with h2|rfl
  ·exact .inr (I.fd j h1 h2 h3)
  ·exact .inl rfl
 ·intro b hb
  rcases hb with rfl|h
  ·have:=I.nxt; omega
  ·exact I.bd b h
 ·intro j h1 h2 h3
  exact I.un j h1 h2 (fun h=>h3 (.inl h))
theorem b2i.act (X:Txt T rec nt ops n N e tmA hA){S:Nat→Prop}{nx:Nat}(I:b2i ops n e S nx){i:Nat}(hi:i<n) (hn:¬ S i) (hk:(e i).kd=.act) (hr:∀ j,Nat.testBit (mkB ops i) j=true→S j) :
  nx=i∧∀ nx',i+1≤nx'→nx'≤n→(∀ k,i+1≤k→k<nx'→(e k).kd≠.act)→(nx'<n→(e nx').kd=.act)→b2i ops n e (ext S i) nx':=by
 have h1:nx≤i:=by
  rcases Nat.lt_or_ge i nx with h|h
  ·exact absurd (I.nxS i h hk) hn
  ·exact h
 have h2:nx=i:=by
  rcases Nat.lt_or_ge nx i with h|h
  ·have hk2:=I.nxa (by omega)
   have hp:=X.pair nx i h hi
   have hio:i<ops.size:=Nat.lt_of_lt_of_le hi X.hn
   have ho:ops[i]?=some ops[i]:=by simp[hio]
   obtain⟨_,e2,_⟩:=X.ent i _ hi ho
   unfold b0f at hp
   rw[e2,Bool.or_eq_true] at hp
   rcases hp with hp|hp
   ·exact absurd (hr nx hp) (I.nxn nx (Nat.le_refl _) (by omega) hk2)
   ·rw[hk,hk2] at hp
    simp[a9c] at hp
  ·omega
 subst h2
 refine⟨rfl,fun nx' g1 g2 g3 g4=>⟨g2,?_,?_,g4,?_⟩⟩
 ·intro j q1 q2
  rcases Nat.lt_trichotomy j nx with h|h|h
  ·exact .inl (I.nxS j h q2)
  ·exact .inr h
  ·exact absurd q2 (g3 j h q1)
 ·intro j q1 q2 q3 q4
  rcases q4 with q4|rfl
  ·exact I.nxn j (by omega) q2 q3 q4
  ·omega
 ·intro k hk
  rcases hk with hk|rfl
  ·exact⟨(I.clo k hk).1,fun j hj=>.inl ((I.clo k hk).2 j hj)⟩
  ·exact⟨hi,fun j hj=>.inl (hr j hj)⟩
def glue (E E1:En) (p:(b:Nat)→Decidable (E.dom b)):En where
 blk:=fun b=>if E.dom b then E.blk b else E1.blk b
 off:=fun b=>if E.dom b then E.off b else E1.off b
 ext:=fun b=>if E.dom b then E.ext b else E1.ext b
 dom:=fun b=>E1.dom b∨E.dom b
theorem b3p.act (X:Txt T rec nt ops n N e tmA hA){E0:En}{h00:a0a}{w00:World}(hN:N=h00.next){S:Nat→Prop}{i:Nat}{E:En}{w:World}(I:b3p P T ops N e hA base w0 E0 h00 w00 S i E w) (hi:i<n) (hn:¬ S i) (hk:(e i).kd=.act)
  {nx':Nat} (g1:i+1≤nx') (g2:nx'≤n) (g3:∀ k,i+1≤k→k<nx'→(e k).kd≠.act)
  {E1:En} {w1:World} (H1:HR P base w0 E1 (hA (i+1)) w1) (st:Ste (E.sub (Dm N ops.size i)) (hA i) w E1 (hA (i+1)) w1) :
  ∃ E':En,b3p P T ops N e hA base w0 E0 h00 w00 (ext S i) nx' E' w1∧E.Le E'∧E1.Le (E'.sub (Dm N ops.size nx')):=by
 have hno:=X.hn
 have cl:(b:Nat)→Decidable (E.dom b):=fun b=>Classical.propDecidable _
 obtain⟨gap1,gap2,gap3⟩:=X.gap nx' g1 g2 g3
 -- what lies on both sides
 have low:∀ b,E1.dom b→b<(hA i).next→E.dom b∧Dm N ops.size i b:=by
  intro b hb hlt
  rcases st.newd b hb with h|h
  ·exact h
  ·omega
 have both:∀ b,E1.dom b→E.dom b→Dm N ops.size i b:=fun b hb hb'=>(low b hb (I.bd b hb')).2
 have only:∀ b,E.dom b→¬ E1.dom b→∃ j,b=N+j∧i<j∧j<ops.size∧S j∧(e j).kd=.alloc:=by
  intro b hb hb'
  have:¬ Dm N ops.size i b:=fun h=>hb' (st.le.dom b ⟨hb,h⟩)
  have h1:¬ b<N+i:=fun h=>this (.inl h)
  have h2:¬ N+ops.size≤b:=fun h=>this (.inr h)
  obtain⟨j,rfl⟩:∃ j,b=N+j:=⟨b-N,by omega⟩
  obtain⟨q1,q2⟩:=I.nd j (by omega) hb
  have hne:j≠i:=fun e0=>by subst e0; exact hn q1
  exact⟨j,rfl,by omega,by omega,q1,q2⟩
 let E':=glue E E1 cl
 have leE:E.Le E':=by
  refine⟨fun b h=>.inr h,fun b h=>?_,fun b h=>?_,fun b h=>?_⟩
  ·show(if E.dom b then E.blk b else E1.blk b)=_; rw[if_pos h]
  ·show(if E.dom b then E.off b else E1.off b)=_; rw[if_pos h]
  ·show(if E.dom b then E.ext b else E1.ext b)=_; rw[if_pos h]
 have leE1:E1.Le E':=by
  refine⟨fun b h=>.inl h,fun b h=>?_,fun b h=>?_,fun b h=>?_⟩
  ·show(if E.dom b then E.blk b else E1.blk b)=_
   split
   ·rename_i hb; exact(st.le.blk b ⟨hb,both b h hb⟩).symm
   ·rfl
  ·show(if E.dom b then E.off b else E1.off b)=_
   split
   ·rename_i hb; exact(st.le.off b ⟨hb,both b h hb⟩).symm
   ·rfl
  ·show(if E.dom b then E.ext b else E1.ext b)=_
   split
   ·rename_i hb; exact(st.le.ext b ⟨hb,both b h hb⟩).symm
   ·rfl
 have dmE1:∀ b,E1.dom b→∀ y,i≤y→Dm N ops.size y b:=by
  intro b hb y hy
  rcases st.newd b hb with h|h
  ·exact b2v hy h.2
  ·have:=I.nxt; exact .inr (by omega)
 have leS:E1.Le (E'.sub (Dm N ops.size nx')) :=
  ⟨fun b h=>⟨leE1.dom b h,dmE1 b h nx' (by omega)⟩,fun b h=>leE1.blk b h,fun b h=>leE1.off b h,fun b h=>leE1.ext b h⟩
 -- the objects that stand beside
 have apart:∀ j,i<j→j<ops.size→S j→(e j).kd=.alloc→∀ b,E1.dom b→E1.blk b≠E.blk (N+j):=by
  intro j h1 h2 h3 h4 b hb heq
  have hdj:=I.fd j h2 h3 h4
  rcases st.img b hb with h|h|⟨b0,h,h'⟩
  ·rw[st.le.blk b h] at heq
   have hne:b≠N+j:=by
    intro e0; subst e0
    rcases h.2 with h|h<;>omega
   exact I.fi j h2 (by omega) h3 h4 b h.1 hne heq
  ·have:=I.blt _ hdj
   omega
  ·have hne:b0≠N+j:=by
    intro e0; subst e0
    rcases h.2 with h|h<;>omega
   exact I.fi j h2 (by omega) h3 h4 b0 h.1 hne (h'.trans heq)
 have frame:∀ j,i<j→j<ops.size→S j→(e j).kd=.alloc→w1.heap[E.blk (N+j)]?=w.heap[E.blk (N+j)]?:=by
  intro j h1 h2 h3 h4
  refine st.fr _ (I.blt _ (I.fd j h2 h3 h4)) ?_
  intro b hb
  have hne:b≠N+j:=by
   intro e0; subst e0
   rcases hb.2 with h|h<;>omega
  exact I.fi j h2 (by omega) h3 h4 b hb.1 hne
 have side:∀ j,i<j→j<ops.size→S j→(e j).kd=.alloc→∀ a,c6u T N e j a→∀ y,j+1≤y→OR' P base (E'.sub (Dm N ops.size y)) (N+j) w1 a∧a.own:=by
  intro j h1 h2 h3 h4 a ha y hy
  obtain⟨q1,q2⟩:=I.fl j h2 (by omega) h3 h4 a ha
  have hdj:=I.fd j h2 h3 h4
  have q3:OR' P base (E'.sub (Dm N ops.size y)) (N+j) w a:=OR'.mono (sub_le_sub leE (D:=Dm N ops.size (j+1)) (D':=Dm N ops.size y) (fun _ h=>b2v hy h)) (b:=N+j) (⟨hdj,.inl (by omega)⟩:(E.sub (Dm N ops.size (j+1))).dom (N+j)) q1
  refine⟨OR'.same ?_ q3,q2⟩
  have hb:(E'.sub (Dm N ops.size y)).blk (N+j)=E.blk (N+j):=leE.blk _ hdj
  rw[hb]; exact frame j h1 h2 h3 h4
 have getE1:∀ b,E1.dom b→(hA nx').get b=(hA (i+1)).get b:=by
  intro b hb
  apply gap1
  intro k h1 h2 h3 e0
  subst e0
  obtain⟨_,hD⟩:=low (N+k) hb (by have:=I.nxt; omega)
  rcases hD with h|h<;>omega
 have hnxt:N+ops.size≤(hA nx').next:=by rw[gap3]; exact Nat.le_trans I.nxt st.nx
 refine⟨E',⟨⟨?_,?_,?_,H1.wd,H1.drawn,H1.bsz,?_⟩,hnxt,⟨I.ste.le.trans leE,?_,?_,?_,?_,?_,?_⟩,?_,?_,?_,?_,?_,?_,?_,?_⟩,leE,leS⟩
 ·-- dlt
  rintro b ⟨h|h,_⟩
  ·rw[gap3]; exact H1.dlt b h
  ·have:=I.bd b h; rw[gap3]; exact Nat.lt_of_lt_of_le this st.nx
 ·-- obj
  rintro b o ⟨hb,hD⟩ ho
  by_cases h1:E1.dom b
  ·rw[getE1 b h1] at ho
   exact OR'.mono leS h1 (H1.obj b o h1 ho)
  ·have hb:E.dom b:=hb.resolve_left h1
   obtain⟨j,rfl,q1,q2,q3,q4⟩:=only b hb h1
   have hjn:j<nx':=by rcases hD with h|h<;>omega
   obtain⟨o',a,r1,r2,r3⟩:=gap2 j q1 hjn q4
   have hoj:(e j).o=o':=(X.ent j o' (by omega) r1).1
   rw[ho] at r3
   cases r3
   exact(side j q1 q2 q3 q4 o (by unfold c6u; rw[hoj]; exact r2) nx' (by omega)).1
 ·-- inj
  rintro b b' o1 o2 ⟨hb,hD⟩ ⟨hb',hD'⟩ ho1 ho2 o1w o2w heq
  have heq:E'.blk b=E'.blk b':=heq
  by_cases h1:E1.dom b<;>by_cases h2:E1.dom b'
  ·rw[leE1.blk b h1,leE1.blk b' h2] at heq
   rw[getE1 b h1] at ho1
   rw[getE1 b' h2] at ho2
   exact H1.inj b b' o1 o2 h1 h2 ho1 ho2 o1w o2w heq
  ·have hb':E.dom b':=hb'.resolve_left h2
   obtain⟨j,rfl,q1,q2,q3,q4⟩:=only b' hb' h2
   rw[leE1.blk b h1,leE.blk _ hb'] at heq
   exact absurd heq (apart j q1 q2 q3 q4 b h1)
  ·have hb:E.dom b:=hb.resolve_left h1
   obtain⟨j,rfl,q1,q2,q3,q4⟩:=only b hb h1
   rw[leE1.blk b' h2,leE.blk _ hb] at heq
   exact absurd heq.symm (apart j q1 q2 q3 q4 b' h2)
  ·have hb:E.dom b:=hb.resolve_left h1
   have hb':E.dom b':=hb'.resolve_left h2
   obtain⟨j,rfl,q1,q2,q3,q4⟩:=only b hb h1
   rw[leE.blk _ hb,leE.blk _ hb'] at heq
   by_cases hne:b'=N+j
   ·exact hne.symm
   ·exact absurd heq.symm (I.fi j q2 (by omega) q3 q4 b' hb' hne)
 ·-- blt of the part
  rintro b ⟨hb,_⟩
  show E'.blk b<_
  by_cases h1:E1.dom b
  ·rw[leE1.blk b h1]; exact H1.blt b h1
  ·have hb:E.dom b:=hb.resolve_left h1
   rw[leE.blk b hb]
   exact Nat.lt_of_lt_of_le (I.blt b hb) st.sz
 ·-- newd
  rintro b (h|h)
  ·rcases st.newd b h with h|h
   ·exact I.ste.newd b h.1
   ·have:=I.nxt; exact .inr (by omega)
  ·exact I.ste.newd b h
 ·rw[gap3]; exact Nat.le_trans I.ste.nx st.nx
 ·-- loc
  intro b hb hd
  have h1:(hA nx').get b=(hA (i+1)).get b:=gap1 b (fun k _ _ _=>by omega)
  rw[h1,st.loc b (Nat.lt_of_lt_of_le hb I.ste.nx) ?_,I.ste.loc b hb hd]
  rintro⟨h,_⟩
  rcases I.ste.newd b h with h|h
  ·exact hd h
  ·omega
 ·exact Nat.le_trans I.ste.sz st.sz
 ·-- fr
  intro k hk' hk''
  rw[st.fr k (Nat.lt_of_lt_of_le hk' I.ste.sz) ?_,I.ste.fr k hk' hk'']
  rintro b ⟨hb,_⟩ heq
  have heq:E.blk b=k:=heq
  rcases I.ste.img b hb with h|h|⟨b0,h,h'⟩
  ·rw[I.ste.le.blk b h] at heq; exact hk'' b h heq
  ·omega
  ·exact hk'' b0 h (h'.trans heq)
 ·-- img
  rintro b (h|h)
  ·rcases st.img b h with g|g|⟨b0,g,g'⟩
   ·rw[leE.blk b g.1]; exact I.ste.img b g.1
   ·rw[leE1.blk b h]; exact .inr (.inl (Nat.le_trans I.ste.sz g))
   ·rw[leE1.blk b h,← g']
    rcases I.ste.img b0 g.1 with q|q|⟨b1,q,q'⟩
    ·refine .inr (.inr ⟨b0,q,?_⟩)
     exact(I.ste.le.blk b0 q).symm
    ·exact .inr (.inl q)
    ·exact .inr (.inr ⟨b1,q,q'⟩)
  ·rw[leE.blk b h]; exact I.ste.img b h
 ·-- blt
  rintro b (h|h)
  ·rw[leE1.blk b h]; exact H1.blt b h
  ·rw[leE.blk b h]; exact Nat.lt_of_lt_of_le (I.blt b h) st.sz
 ·-- fl
  intro j h1 h2 h3 h4 a ha
  have hs:S j:=h3.resolve_right (by omega)
  exact side j (by omega) h1 hs h4 a ha (j+1) (Nat.le_refl _)
 ·-- fi
  intro j h1 h2 h3 h4 b hb hne
  have hs:S j:=h3.resolve_right (by omega)
  have hdj:=I.fd j h1 hs h4
  rw[leE.blk _ hdj]
  by_cases h5:E1.dom b
  ·rw[leE1.blk b h5]; exact apart j (by omega) h1 hs h4 b h5
  ·have hb:E.dom b:=hb.resolve_left h5
   rw[leE.blk b hb]; exact I.fi j h1 (by omega) hs h4 b hb hne
 ·-- nd
  intro j h1 h2
  have:E.dom (N+j):=h2.elim (fun h=>(low _ h (by have:=I.nxt; omega)).1) id
  obtain⟨q1,q2⟩:=I.nd j h1 this
  exact⟨.inl q1,q2⟩
 ·-- fd
  intro j h1 h2 h3
  rcases h2 with h2|rfl
  ·exact .inr (I.fd j h1 h2 h3)
  ·rw[hk] at h3; cases h3
 ·-- bd
  rintro b (h|h)
  ·rw[gap3]; exact H1.dlt b h
  ·rw[gap3]; exact Nat.lt_of_lt_of_le (I.bd b h) st.nx
 ·-- un
  intro j h1 h2 h3 a ha
  have hns:¬ S j:=fun h=>h3 (.inl h)
  have hne:j≠i:=fun h=>h3 (.inr h)
  rcases Nat.lt_or_ge j i with h|h
  ·have q1:(hA nx').get (N+j)=(hA (i+1)).get (N+j):=gap1 _ (fun k _ _ _=>by omega)
   rw[q1,st.loc (N+j) (by have:=I.nxt; omega) (fun hd=>hns (I.nd j (by omega) hd.1).1)]
   exact I.un j h h2 hns a ha
  ·obtain⟨o',a',r1,r2,r3⟩:=gap2 j (by omega) h1 h2
   have hoj:(e j).o=o':=(X.ent j o' (by omega) r1).1
   unfold c6u at ha
   rw[hoj,r2] at ha
   cases ha
   exact r3
 ·-- nn
  intro x hx j h1 h2
  rcases Nat.lt_or_ge i x with h|h
  ·obtain⟨q0,_,_⟩:=X.gap x (x:=i+1) h (by omega) (fun k k1 k2=>g3 k k1 (by omega))
   have q1:(hA x).get (N+j)=(hA (i+1)).get (N+j):=q0 _ (fun k _ _ _=>by omega)
   rw[q1,st.loc (N+j) (by have:=I.nxt; omega) (fun hd=>by rcases hd.2 with h|h<;>omega)]
   exact I.nn i (Nat.le_refl _) j (by omega) h2
  ·exact I.nn x h j h1 h2
end
end Ev
end
section
namespace Ev
open Go Go.RowKit
variable {P:Program}{T:a0k}{base:Nat}{w0:World}
theorem sub_le_self (E:En) (D:Nat→Prop):(E.sub D).Le E:=⟨fun b hb=>hb.1,fun _ _=>rfl,fun _ _=>rfl,fun _ _=>rfl⟩
theorem HR.e9t {E:En}{h h':a0a}{w:World}(H:HR P base w0 E h w) (hg:∀ b o,E.dom b→h'.get b=some o→h.get b=some o) (hd:∀ b,E.dom b→b<h'.next):HR P base w0 E h' w where
 dlt:=hd
 obj b o hb ho:=H.obj b o hb (hg b o hb ho)
 inj b b' o o' d d' g g':=H.inj b b' o o' d d' (hg b o d g) (hg b' o' d' g')
 wd:=H.wd
 drawn:=H.drawn
 bsz:=H.bsz
 blt:=H.blt
theorem HR.more {E:En}{D D':Nat→Prop}{h:a0a}{w:World}(H:HR P base w0 (E.sub D) h w) (hD:∀ b,D b→D' b) (hn:∀ b,E.dom b→D' b→¬ D b→h.get b=none) (hd:∀ b,E.dom b→b<h.next) (hb:∀ b,E.dom b→E.blk b<w.heap.size) :
  HR P base w0 (E.sub D') h w where
 dlt b hb:=hd b hb.1
 obj b o hb ho:=by
  by_cases h1:D b
  ·exact OR'.mono (sub_le_sub (.refl E) hD) (b:=b) (⟨hb.1,h1⟩:(E.sub D).dom b) (H.obj b o ⟨hb.1,h1⟩ ho)
  ·rw[hn b hb.1 hb.2 h1] at ho; cases ho
 inj b b' o o' d d' g g' w1 w2 e:=by
  have h1:D b:=Classical.byContradiction fun h=>by rw[hn b d.1 d.2 h] at g; cases g
  have h2:D b':=Classical.byContradiction fun h=>by rw[hn b' d'.1 d'.2 h] at g'; cases g'
  exact H.inj b b' o o' ⟨d.1,h1⟩ ⟨d'.1,h2⟩ g g' w1 w2 e
 wd:=H.wd
 drawn:=H.drawn
 bsz:=H.bsz
 blt b h:=hb b h.1
theorem c5v {x:Ent}{h:a0a}(hw:x.want=true) (ha:again T x h=true):∃ h',opA T (env x.tm) x.o h=.val x.v h':=by
 unfold again at ha
 rw[hw] at ha
 simp only[Bool.not_true,Bool.false_or] at ha
 split at ha
 ·rename_i v' h' heq
  have:=b2g _ _ ha
  subst this
  exact⟨h',heq⟩
 ·simp at ha
theorem d5m (e:Nat→Ent) (x:Nat):∀ y,x≤y→(∀ k,x≤k→k<y→(e k).kd≠.act)∨∃ a,x≤a∧a<y∧(e a).kd=.act∧∀ k,a+1≤k→k<y→(e k).kd≠.act
 |0,h=>.inl fun k _ h2=>by omega
 |y+1,h=>by
  rcases Nat.lt_or_ge y x with h1|h1
  ·exact .inl fun k k1 k2=>by omega
  ·by_cases hk:(e y).kd=.act
   ·exact .inr ⟨y,h1,by omega,hk,fun k k1 k2=>by omega⟩
   ·rcases d5m e x y h1 with h2|⟨a,a1,a2,a3,a4⟩
    ·exact .inl fun k k1 k2=>by
      by_cases e0:k=y
      ·subst e0; exact hk
      ·exact h2 k k1 (by omega)
    ·exact .inr ⟨a,a1,by omega,a3,fun k k1 k2=>by
      by_cases e0:k=y
      ·subst e0; exact hk
      ·exact a4 k k1 (by omega)⟩
section
variable {rec:Task→Res}{nt:Nat}{ops:Array Oper}{n N:Nat}{e:Nat→Ent}{tmA:Nat→Tr AV}{hA:Nat→a0a}
theorem d9q (X:Txt T rec nt ops n N e tmA hA){E0:En}{h00:a0a}{w00:World}{S:Nat→Prop}{nx:Nat}{E:En}{w:World}(IS:b2i ops n e S nx) (I:b3p P T ops N e hA base w0 E0 h00 w00 S nx E w)
  {i:Nat} (hi:i<n) (hn:¬ S i) (hr:∀ j,Nat.testBit (mkB ops i) j=true→S j) (hk:(e i).kd=.read) (hw:(e i).want=true) (h0:∃ h',opA T (env (e i).tm) (e i).o (hA i)=.val (e i).v h') :
  ∃ hh h',HR P base w0 (E.sub (Dm N ops.size (max i nx))) hh w∧opA T (env (e i).tm) (e i).o hh=.val (e i).v h':=by
 have hno:=X.hn
 have hio:i<ops.size:=by omega
 have hoi:ops[i]?=some ops[i]:=by simp[hio]
 obtain⟨ei1,ei2,_⟩:=X.ent i _ hi hoi
 rcases Nat.lt_or_ge i nx with h|h
 ·have hM:max i nx=nx:=by omega
  rw[hM]
  rcases d5m e (i+1) nx h with g|⟨a,a1,a2,a3,a4⟩
  ·obtain⟨h',hv⟩:=h0
   refine⟨hA i,h',?_,hv⟩
   have hna:∀ k,i≤k→k<nx→(e k).kd≠.act:=fun k k1 k2=>by
    by_cases e0:k=i
    ·subst e0; rw[hk]; simp
    ·exact g k (by omega) k2
   obtain⟨q1,q2,q3⟩:=X.gap nx (x:=i) (by omega) IS.nxle hna
   refine I.hr.e9t (fun b o hb ho=>?_) (fun b hb=>by rw[← q3]; exact I.bd b hb.1)
   rw[q1 b ?_]
   ·exact ho
   ·intro k k1 k2 _ e0
    subst e0
    rw[I.nn i (by omega) k k1 (by have:=IS.nxle; omega)] at ho
    cases ho
  ·have hp:=X.pair i a (by omega) (by have:=IS.nxle; omega)
   have han:a<ops.size:=by have:=IS.nxle; omega
   have hoa:ops[a]?=some ops[a]:=by simp[han]
   obtain⟨_,f2,_⟩:=X.ent a _ (by have:=IS.nxle; omega) hoa
   unfold b0f at hp
   rw[f2,hk,a3] at hp
   have hbit:Nat.testBit (mkB ops a) i=false:=by
    rcases Bool.eq_false_or_eq_true (Nat.testBit (mkB ops a) i) with hb|hb
    ·exact absurd ((IS.clo a (IS.nxS a a2 a3)).2 i hb) hn
    ·exact hb
   rw[hbit] at hp
   simp[a9c,a6i] at hp
   obtain⟨h',hv⟩:=c5v hw hp.2
   rw[X.h1 a (by have:=IS.nxle; omega)] at hv
   refine⟨hA (a+1),h',?_,hv⟩
   obtain⟨q1,q2,q3⟩:=X.gap nx (x:=a+1) (by omega) IS.nxle a4
   refine I.hr.e9t (fun b o hb ho=>?_) (fun b hb=>by rw[← q3]; exact I.bd b hb.1)
   rw[q1 b ?_]
   ·exact ho
   ·intro k k1 k2 _ e0
    subst e0
    rw[I.nn (a+1) (by omega) k k1 (by have:=IS.nxle; omega)] at ho
    cases ho
 ·have hM:max i nx=i:=by omega
  rw[hM]
  have hnxn:nx<n:=by omega
  have hnxo:nx<ops.size:=by omega
  have hka:=IS.nxa hnxn
  have hlt:nx<i:=by
   rcases Nat.lt_or_ge nx i with h1|h1
   ·exact h1
   ·have:nx=i:=by omega
    subst this; rw[hk] at hka; cases hka
  have hp:=X.pair nx i hlt hi
  unfold b0f at hp
  rw[ei2,hk,hka] at hp
  have hbit:Nat.testBit (mkB ops i) nx=false:=by
   rcases Bool.eq_false_or_eq_true (Nat.testBit (mkB ops i) nx) with hb|hb
   ·exact absurd (hr nx hb) (IS.nxn nx (Nat.le_refl _) hnxn hka)
   ·exact hb
  rw[hbit] at hp
  simp[a9c,a6i] at hp
  obtain⟨h',hv⟩:=c5v hw hp.2
  have hon:ops[nx]?=some ops[nx]:=by simp[hnxo]
  obtain⟨_,_,_,f4,_⟩:=X.ent nx _ hnxn hon
  rw[f4] at hv
  refine⟨hA nx,h',?_,hv⟩
  refine I.hr.more (fun b=>b2v h) (fun b hb hD hnD=>?_) I.bd I.blt
  have h1:¬ b<N+nx:=fun h=>hnD (.inl h)
  have h2:¬ N+ops.size≤b:=fun h=>hnD (.inr h)
  obtain⟨j,rfl⟩:∃ j,b=N+j:=⟨b-N,by omega⟩
  exact I.nn nx (Nat.le_refl _) j (by omega) (by omega)
theorem c1m {ρ:Operand→Option AV}{o:Oper}{r:Nat}{x:AV×a1t}(h:a8m T ρ o r=some x) (c:Call):o.op≠.defer c:=by
 intro e0
 unfold a8m at h
 rw[e0] at h
 simp at h
theorem e1d (ok:a0v P T) (ih:∀ t,a1j P base w0 t (rec t)) (X:Txt T rec nt ops n N e tmA hA){E0:En}{h00:a0a}{w00:World}(hN:N=h00.next){d0:List Deferred}{S:Nat→Prop}{nx:Nat}{E:En}{w:World}{a:Act}
  (IS:b2i ops n e S nx) (I:b3p P T ops N e hA base w0 E0 h00 w00 S nx E w) (IT:b3c ops N nt e (tmA 0) d0 S nx E a) {i:Nat} (hi:i<n) (hn:¬ S i)
  (hedge:∀ o,ops[i]?=some o→∀ ed∈o.after.toList,Region.binds .any ed=true→S ed.on) (b:Frame) (js:List Nat) (k:List Item) (cs:List Frame) :
  ∃ nx' E' w' a',b2i ops n e (ext S i) nx'∧b3p P T ops N e hA base w0 E0 h00 w00 (ext S i) nx' E' w'∧b3c ops N nt e (tmA 0) d0 (ext S i) nx' E' a' ∧
   Steps P (lone (b.atR a (.inRegion ops (i::js)::k)) cs w) (lone (b.atR a' (.inRegion ops js::k)) cs w'):=by
 have hno:=X.hn
 have hio:i<ops.size:=by omega
 have ho:ops[i]?=some ops[i]:=by simp[hio]
 generalize ops[i]=o at ho
 have hr:=IS.ready X.edg ho (hedge o ho)
 have ht:=b3c.tr X IS IT hio (by omega) hn hr
 obtain⟨ei1,ei2,ei3,ei4,hwant,hkind⟩:=X.ent i o hi ho
 rw[← ei3] at ht
 have hw':=a9f ht hwant
 rcases hkind with ⟨q1,q2,q3,q4⟩|⟨q1,q2,q3,q4,q5⟩|⟨q1,q2,x,q3,q4⟩|⟨q1,q2,q3⟩
 ·-- not wanted
  rw[q1] at hw'
  have hs:=stepR_op_skip (P:=P) (b:=b) (a:=a) (k:=k) (cs:=cs) (w:=w) (ops:=ops) (i:=i) (rest:=js) (by rw[ho]; simpa using hw')
  rw[ho] at hs
  refine⟨nx,E,w,a.put o.dst undef,IS.quiet hi (by rw[q2]; simp) hr,I.quiet (by rw[q2]; simp),b3c.step X IS IT ho hi hn (Nat.le_refl _) (.refl E) ?_,.one hs⟩
  rw[q3]; exact b4a _
 ·-- a reading
  rw[q1] at hw'
  rw[← ei1] at q4
  obtain⟨hh,h',hhr,hval⟩:=d9q X IS I hi hn hr q2 q1 q4
  rw[ei1] at hval
  have hq:=e4c (P:=P) ok hhr (b4b ht) o q3
  rw[hval] at hq
  obtain⟨_,v',r1,r2⟩:=hq
  have hsem:o.semAt b.roundOf a.eval=execOp a.eval o:=Oper.semAt_eq _ _ _ (fun c=>Out.b4k (T:=T) (E:=E) (w:=w) (ρ:=env (e i).tm) (h:=hh) (by rw[hval]; simp) (by rw[hval]; simp) c)
  exact⟨nx,E,w,a.put o.dst v',IS.quiet hi (by rw[q2]; simp) hr,I.quiet (by rw[q2]; simp),b3c.step X IS IT ho hi hn (Nat.le_refl _) (.refl E) (r2.mono (b7h (by omega))),b0b ho hw' (by rw[hsem]; exact r1)⟩
 ·-- a new object
  rw[q1] at hw'
  obtain⟨hown,ob,x0,d,v',r1,r2⟩:=c9d (P:=P) (base:=base) (w0:=w0) (E:=E.sub (Dm N ops.size (max i nx))) (h:=⟨.nil,N+ops.size+(hA nx).next⟩) (w:=w) ok
   ⟨fun b hb=>by have:=I.bd b hb.1; show b<N+ops.size+(hA nx).next; omega,fun b o hb ho=>by simp[a0a.get,Tr.get_nil] at ho,fun b b' o o' _ _ g=>by simp[a0a.get,Tr.get_nil] at g,I.hr.wd,I.hr.drawn,I.hr.bsz,fun b hb=>I.blt b hb.1⟩
   (b4b ht) o q3
  obtain⟨m1,m2,m3⟩:=I.alloc hN hio hn q2 (a:=x) (by unfold c6u; rw[ei1]; exact q3) hown r2 (d:=d)
  have hsem:o.semAt b.roundOf a.eval=execOp a.eval o:=Oper.semAt_eq _ _ _ (c1m q3)
  exact⟨nx,_,_,a.put o.dst v',IS.quiet hi (by rw[q2]; simp) hr,m1,b3c.step X IS IT ho hi hn (Nat.le_refl _) m2 m3,b0b ho hw' (by rw[hsem]; exact r1)⟩
 ·-- an operation that acts
  rw[q1] at hw'
  obtain⟨rfl,hIS⟩:=IS.act X hi hn q2 hr
  rw[Nat.max_self] at ht
  obtain⟨nx',y1,y2,y3,y4⟩:=X.next (nx+1) (by omega)
  have hh1:=X.h1 nx hi
  have hop:=c3s (base:=base) (w0:=w0) ok I.hr (b4b ht) o
  have sem:(∀ d,opA T (env (e nx).tm) o (hA nx)≠.defer d)→(∀ t,opA T (env (e nx).tm) o (hA nx)≠.no t)→o.semAt b.roundOf a.eval=execOp a.eval o:=fun h1 h2 =>
   Oper.semAt_eq _ _ _ (fun c=>Out.b4k (E:=E) (w:=w) h1 h2 c)
  -- the step, then the invariants
  have fin:∀ (E1:En) (w1:World) (v':Value),VR E1 (e nx).v v'→HR P base w0 E1 (hA (nx+1)) w1→Ste (E.sub (Dm N ops.size nx)) (hA nx) w E1 (hA (nx+1)) w1 →
    Steps P (lone (b.atR a (.inRegion ops (nx::js)::k)) cs w) (lone (b.atR (a.put o.dst v') (.inRegion ops js::k)) cs w1) →
    ∃ nx' E' w' a',b2i ops n e (ext S nx) nx'∧b3p P T ops N e hA base w0 E0 h00 w00 (ext S nx) nx' E' w'∧b3c ops N nt e (tmA 0) d0 (ext S nx) nx' E' a' ∧
     Steps P (lone (b.atR a (.inRegion ops (nx::js)::k)) cs w) (lone (b.atR a' (.inRegion ops js::k)) cs w'):=by
   intro E1 w1 v' hv H1 st hs
   obtain⟨E',m1,m2,m3⟩:=I.act X hN hi hn q2 y1 y2 y3 H1 st
   exact⟨nx',E',w1,_,hIS nx' y1 y2 y3 y4,m1,b3c.step X IS IT ho hi hn (by omega) m2 ((hv.mono m3).mono (b7h (by omega))),hs⟩
  have hfin:∀ v,(b.atR a (.inRegion ops (nx::js)::k)).finish v=b.atR (a.put o.dst v) (.inRegion ops js::k):=by
   intro v; rw[Frame.finish_atR,ho]; rfl
  unfold c1p at q3
  split at q3
  ·rename_i v h' heq
   have hsem:=sem (by rw[heq]; simp) (by rw[heq]; simp)
   rw[heq] at hop
   obtain⟨E1,w1,v',r1,r2,r3,r4⟩:=hop
   simp at q3
   obtain⟨rfl,rfl⟩:=q3
   rw[hh1] at r3 r4
   exact fin E1 w1 v' r2 r3 r4 (b0b ho hw' (by rw[hsem]; exact r1))
  ·rename_i h' heq
   have hsem:=sem (by rw[heq]; simp) (by rw[heq]; simp)
   rw[heq] at hop
   obtain⟨E1,w1,r1,r3,r4⟩:=hop
   simp at q3
   obtain⟨q3,rfl⟩:=q3
   rw[hh1] at r3 r4
   exact fin E1 w1 undef (by rw[← q3]; exact b4a _) r3 r4 (c6h ho hw' (by rw[hsem]; exact r1))
  ·rename_i f args h' heq
   have hsem:=sem (by rw[heq]; simp) (by rw[heq]; simp)
   rw[heq] at hop
   obtain⟨rfl,args',r1,r2⟩:=hop
   have hcall:=ih (.call f args (hA nx)) _ args' w (b.atR a (.inRegion ops (nx::js)::k)::cs) r2 I.hr
   have hent:=b6z (P:=P) (b:=b) (js:=js) (k:=k) (cs:=cs) ho hw' (by rw[hsem]; exact r1)
   have hret:rec (.call f args (hA nx))=.ret (e nx).v (e nx).h1:=by
    generalize rec (.call f args (hA nx))=r at q3
    cases r<;>simp_all [no1]
   rw[hret] at hcall
   obtain⟨_,rfl,hcall⟩:=hcall
   obtain⟨E2,w2,v',p1,p2,p3,p4⟩:=a4x.c1h hcall
   rw[hfin] at p4
   rw[hh1] at p1 p2
   exact fin E2 w2 v' p3 p1 p2 (hent.trans p4)
  ·rename_i l fn tm nt' as bd h' heq
   have hsem:=sem (by rw[heq]; simp) (by rw[heq]; simp)
   rw[heq] at hop
   obtain⟨rfl,hdl,tmps,r1,r2,r3⟩:=hop
   have hcall:=ih (.round l fn tm nt' as bd (hA nx)) _ tmps w (b.atR a (.inRegion ops (nx::js)::k)) cs hdl r2 r3 I.hr
   have hent:=b6y (P:=P) (b:=b) (js:=js) (k:=k) (cs:=cs) ho hw' (by rw[hsem]; exact r1)
   have hret:rec (.round l fn tm nt' as bd (hA nx))=.ret (e nx).v (e nx).h1:=by
    generalize rec (.round l fn tm nt' as bd (hA nx))=r at q3
    cases r<;>simp_all [no1]
   rw[hret] at hcall
   obtain⟨_,rfl,hcall⟩:=hcall
   obtain⟨E2,w2,v',p1,p2,p3,p4⟩:=hcall
   rw[hfin] at p4
   rw[hh1] at p1 p2
   exact fin E2 w2 v' p3 p1 p2 (hent.trans p4)
  ·simp at q3
  ·simp at q3
theorem d7m (hfull:n=ops.size) (ok:a0v P T) (ih:∀ t,a1j P base w0 t (rec t)) (X:Txt T rec nt ops n N e tmA hA){E0:En}{h00:a0a}{w00:World}(hN:N=h00.next){d0:List Deferred}(b:Frame) (k:List Item) (cs:List Frame){S:Nat→Prop}{js:List Nat}(hs:Sched ops S js) :
  ∀ {nx:Nat} {E:En} {w:World} {a:Act},b2i ops n e S nx→b3p P T ops N e hA base w0 E0 h00 w00 S nx E w→b3c ops N nt e (tmA 0) d0 S nx E a →
  ∃ S' nx' E' w' a',(∀ i,i<ops.size→S' i)∧b2i ops n e S' nx'∧b3p P T ops N e hA base w0 E0 h00 w00 S' nx' E' w'∧b3c ops N nt e (tmA 0) d0 S' nx' E' a' ∧
   Steps P (lone (b.atR a (.inRegion ops js::k)) cs w) (lone (b.atR a' (.inRegion ops []::k)) cs w'):=by
 induction hs with
 |nil S h=>exact fun IS I IT=>⟨S,_,_,_,_,h,IS,I,IT,.refl _ _⟩
 |cons S i js hi hn hr h ih2 =>
  intro nx E w a IS I IT
  obtain⟨nx1,E1,w1,a1,IS1,I1,IT1,s1⟩:=e1d ok ih X hN IS I IT (by rw[hfull]; exact hi) hn hr b js k cs
  obtain⟨S',nx',E',w',a',c1,c2,c3,c4,c5⟩:=ih2 IS1 I1 IT1
  exact⟨S',nx',E',w',a',c1,c2,c3,c4,s1.trans c5⟩
theorem e7o {E0 E:En}{D:Nat→Prop}{h00 h:a0a}{w00 w:World}(S:Ste E0 h00 w00 E h w) (hD:∀ b,E0.dom b→D b):Ste E0 h00 w00 (E.sub D) h w where
 le:=⟨fun b hb=>⟨S.le.dom b hb,hD b hb⟩,S.le.blk,S.le.off,S.le.ext⟩
 newd b hb:=S.newd b hb.1
 nx:=S.nx
 loc:=S.loc
 sz:=S.sz
 fr:=S.fr
 img b hb:=S.img b hb.1
theorem d3g {l:List Oper}{t:Tmp}(h:t ∉ dstsOf l):∀ o∈l,o.dst≠some t:=by
 induction l with
 |nil=>simp
 |cons x l ih =>
  intro o ho hd
  unfold dstsOf at h
  rcases List.mem_cons.1 ho with rfl|ho
  ·rw[hd] at h; simp at h
  ·have:t ∉ dstsOf l:=by
    split at h
    ·exact fun hm=>h (List.mem_cons_of_mem _ hm)
    ·exact h
   exact ih this o ho hd
theorem d0h {p:Nat}(ok:a0v P T) (ih:∀ t,a1j P base w0 t (rec t)) (X:Txt T rec nt ops p N e tmA hA){E0:En}{h00:a0a}{w00:World}(hN:N=h00.next) (hlow:∀ b,E0.dom b→b<h00.next){d0:List Deferred}(hp:p<ops.size)
  {o:Oper} (hop:ops[p]?=some o) (hacts:∀ j,j<p→(e j).kd=.act→Nat.testBit (mkB ops p) j=true)
  (hwant:a8e ops.toList (a1e (tmA p) (a0y (mkB ops p) p ops.toList (masks ops.toList) 0)) o=some true) {v:AV} {h':a0a}
  (hact:c1p T rec (a1e (tmA p) (a0y (mkB ops p) p ops.toList (masks ops.toList) 0)) o (hA p)=.thrown v h') (hlater:∀ k,p<k→k<ops.size→Nat.testBit (mkB ops k) p=true)
  (b:Frame) (k:List Item) (cs:List Frame) {S:Nat→Prop} {js:List Nat} (hs:Sched ops S js) :
  ∀ {nx:Nat} {E:En} {w:World} {a:Act},b2i ops p e S nx→b3p P T ops N e hA base w0 E0 h00 w00 S nx E w→b3c ops N nt e (tmA 0) d0 S nx E a →
  ∃ E2 w2 a2 v' todo,HR P base w0 E2 h' w2∧Ste E0 h00 w00 E2 h' w2∧VR E2 v v'∧a2.tmps.size=nt∧a2.defers=d0∧TR E2 (a1e (tmA 0) (dstsOf ops.toList)) a2.tmps ∧
   Steps P (lone (b.atR a (.inRegion ops js::k)) cs w) (lone { b.atR a2 todo with mode:=.panicking [{ v:=v',recovered:=false }] } cs w2):=by
 induction hs with
 |nil S h=>exact fun IS _ _=>absurd (IS.clo p (h p hp)).1 (by omega)
 |cons S i js hi hn hr h ih2 =>
  intro nx E w a IS I IT
  rcases Nat.lt_trichotomy i p with hlt|rfl|hgt
  ·obtain⟨nx1,E1,w1,a1,IS1,I1,IT1,s1⟩:=e1d ok ih X hN IS I IT hlt hn hr b js k cs
   obtain⟨E2,w2,a2,v',todo,c1,c2,c3,c4,c5,c6,c7⟩:=ih2 IS1 I1 IT1
   exact⟨E2,w2,a2,v',todo,c1,c2,c3,c4,c5,c6,s1.trans c7⟩
  ·-- here
   have hrd:=IS.ready X.edg hop (hr o hop)
   have hnx:nx=i:=by
    rcases Nat.lt_or_ge nx i with h1|h1
    ·exact absurd (hrd nx (hacts nx h1 (IS.nxa h1))) (IS.nxn nx (Nat.le_refl _) h1 (IS.nxa h1))
    ·have:=IS.nxle; omega
   subst hnx
   have ht:=b3c.tr X IS IT hp (Nat.le_refl _) hn hrd
   rw[Nat.max_self] at ht
   have hw':=a9f ht hwant
   have hopS:=c3s (base:=base) (w0:=w0) ok I.hr (b4b ht) o
   have hst:Ste E0 h00 w00 (E.sub (Dm N ops.size nx)) (hA nx) w:=e7o I.ste (fun b hb=>.inl (by have:=hlow b hb; omega))
   have fin:∀ (E2:En) (w2:World) (v':Value),HR P base w0 E2 h' w2→Ste (E.sub (Dm N ops.size nx)) (hA nx) w E2 h' w2→VR E2 v v' →
     Steps P (lone (b.atR a (.inRegion ops (nx::js)::k)) cs w) (lone { b.atR a (.inRegion ops (nx::js)::k) with mode:=.panicking [{ v:=v',recovered:=false }] } cs w2) →
     ∃ E2 w2 a2 v' todo,HR P base w0 E2 h' w2∧Ste E0 h00 w00 E2 h' w2∧VR E2 v v'∧a2.tmps.size=nt∧a2.defers=d0∧TR E2 (a1e (tmA 0) (dstsOf ops.toList)) a2.tmps ∧
      Steps P (lone (b.atR a (.inRegion ops (nx::js)::k)) cs w) (lone { b.atR a2 todo with mode:=.panicking [{ v:=v',recovered:=false }] } cs w2):=by
    intro E2 w2 v' H2 st hv hs
    refine⟨E2,w2,a,v',_,H2,hst.trans st,hv,IT.sz,IT.df,?_,hs⟩
    intro t x hx
    obtain⟨g1,g2⟩:=b2y _ _ _ _ hx
    obtain⟨x',q1,q2⟩:=IT.tm0 t x (fun j _ hd=>by
     unfold b0m at hd
     cases hoj:ops[j]? with
     |none=>rw[hoj] at hd; cases hd
     |some oj =>
      rw[hoj] at hd
      exact d3g g1 oj (by rw[Array.mem_toList_iff]; exact Array.mem_of_getElem? hoj) hd) g2
    exact⟨x',q1,q2.mono st.le⟩
   unfold c1p at hact
   split at hact
   ·cases hact
   ·cases hact
   ·rename_i f args h2 heq
    have hsem:o.semAt b.roundOf a.eval=execOp a.eval o:=Oper.semAt_eq _ _ _ (fun c=>Out.b4k (E:=E) (w:=w) (by rw[heq]; simp) (by rw[heq]; simp) c)
    rw[heq] at hopS
    obtain⟨rfl,args',r1,r2⟩:=hopS
    have hcall:=ih (.call f args (hA nx)) _ args' w (b.atR a (.inRegion ops (nx::js)::k)::cs) r2 I.hr
    have hent:=b6z (P:=P) (b:=b) (js:=js) (k:=k) (cs:=cs) hop hw' (by rw[hsem]; exact r1)
    have hret:rec (.call f args (hA nx))=.thrown v h':=by
     generalize rec (.call f args (hA nx))=r at hact
     cases r<;>simp_all [no1]
    rw[hret] at hcall
    obtain⟨_,rfl,hcall⟩:=hcall
    obtain⟨E2,w2,v',p1,p2,p3,p4⟩:=a4x.b4d hcall
    rw[Frame.raise_atR] at p4
    exact fin E2 w2 v' p1 p2 p3 (hent.trans p4)
   ·rename_i l fn tm nt' as bd h2 heq
    have hsem:o.semAt b.roundOf a.eval=execOp a.eval o:=Oper.semAt_eq _ _ _ (fun c=>Out.b4k (E:=E) (w:=w) (by rw[heq]; simp) (by rw[heq]; simp) c)
    rw[heq] at hopS
    obtain⟨rfl,hdl,tmps,r1,r2,r3⟩:=hopS
    have hcall:=ih (.round l fn tm nt' as bd (hA nx)) _ tmps w (b.atR a (.inRegion ops (nx::js)::k)) cs hdl r2 r3 I.hr
    have hent:=b6y (P:=P) (b:=b) (js:=js) (k:=k) (cs:=cs) hop hw' (by rw[hsem]; exact r1)
    have hret:rec (.round l fn tm nt' as bd (hA nx))=.thrown v h':=by
     generalize rec (.round l fn tm nt' as bd (hA nx))=r at hact
     cases r<;>simp_all [no1]
    rw[hret] at hcall
    obtain⟨_,rfl,hcall⟩:=hcall
    obtain⟨E2,w2,v',p1,p2,p3,p4⟩:=hcall
    rw[Frame.raise_atR] at p4
    exact fin E2 w2 v' p1 p2 p3 (hent.trans p4)
   ·cases hact
   ·cases hact
  ·-- later ones wait for it
   have ho:ops[i]?=some ops[i]:=by simp[hi]
   have hrd:=IS.ready X.edg ho (hr _ ho)
   exact absurd (IS.clo p (hrd p (hlater i hgt hi))).1 (by omega)
end
theorem b9x {h:a0a}{N:Nat}:∀ {n:Nat},b3e h N n=true→∀ i,i<n→h.get (N+i)=none
 |0,_,i,hi=>by omega
 |n+1,hh,i,hi=>by
  simp only[b3e,Bool.and_eq_true] at hh
  by_cases e0:i=n
  ·subst e0
   generalize h.get (N+i)=g at hh
   cases g with
   |none=>rfl
   |some o=>simp at hh
  ·exact b9x hh.2 i (by omega)
theorem c5e {rec:Task→Res}{ops:Array Oper}{n:Nat}{e:Nat→Ent}{tmA:Nat→Tr AV}{hA:Nat→a0a}{E:En}{X:Cxt}{cx:Cx}{s:St}{a:Act}{u:FrameMode}{w:World}(S:a9y P base w0 E X cx s a u w)
  (hnone:b3e s.h s.h.next ops.size=true) (TX:Txt T rec cx.nt ops n s.h.next e tmA hA) (t1:tmA 0=s.tm) (t2:hA 0={ s.h with next:=s.h.next+ops.size }) :
  ∃ nx,b2i ops n e (fun _=>False) nx∧b3p P T ops s.h.next e hA base w0 E s.h w (fun _=>False) nx E w∧b3c ops s.h.next cx.nt e (tmA 0) a.defers (fun _=>False) nx E a:=by
 have hno:=TX.hn
 obtain⟨nx,n1,n2,n3,n4⟩:=TX.next 0 (Nat.zero_le _)
 obtain⟨g1,g2,g3⟩:=TX.gap nx (x:=0) n1 n2 n3
 have hget0:∀ b,(hA 0).get b=s.h.get b:=by intro b; rw[t2]; rfl
 have hnext0:(hA 0).next=s.h.next+ops.size:=by rw[t2]
 have leD:∀ y,E.Le (E.sub (Dm s.h.next ops.size y)):=fun y =>
  ⟨fun b hb=>⟨hb,.inl (by have:=S.hr.dlt b hb; omega)⟩,fun _ _=>rfl,fun _ _=>rfl,fun _ _=>rfl⟩
 have hgetlow:∀ b,b<s.h.next→(hA nx).get b=s.h.get b:=fun b hb=>by
  rw[g1 b (fun k _ _ _=>by omega),hget0]
 have IS:b2i ops n e (fun _=>False) nx :=
  ⟨n2,fun i h1 h2=>absurd h2 (n3 i (Nat.zero_le _) h1),fun _ _ _ _ h=>h,n4,fun _ h=>h.elim⟩
 have I:b3p P T ops s.h.next e hA base w0 E s.h w (fun _=>False) nx E w:=by
  refine⟨⟨?_,?_,?_,S.hr.wd,S.hr.drawn,S.hr.bsz,fun b hb=>S.hr.blt b hb.1⟩,?_,⟨.refl E,fun _ h=>.inl h,?_,?_,Nat.le_refl _,fun _ _ _=>rfl,fun _ h=>.inl h⟩,S.hr.blt,?_,?_,?_,?_,?_,?_,?_⟩
  ·intro b hb; have:=S.hr.dlt b hb.1; rw[g3,hnext0]; omega
  ·intro b o hb ho
   rw[hgetlow b (S.hr.dlt b hb.1)] at ho
   exact OR'.mono (leD nx) hb.1 (S.hr.obj b o hb.1 ho)
  ·intro b b' o o' d d' q q'
   rw[hgetlow b (S.hr.dlt b d.1)] at q
   rw[hgetlow b' (S.hr.dlt b' d'.1)] at q'
   exact S.hr.inj b b' o o' d.1 d'.1 q q'
  ·rw[g3,hnext0]; omega
  ·rw[g3,hnext0]; omega
  ·intro b hb _; exact hgetlow b hb
  ·intro i _ _ h; exact h.elim
  ·intro i _ _ h; exact h.elim
  ·intro i h1 h2; have:=S.hr.dlt _ h2; omega
  ·intro i _ h; exact h.elim
  ·intro b hb; have:=S.hr.dlt b hb; rw[g3,hnext0]; omega
  ·intro i h1 h2 _ x hx
   obtain⟨o',x',r1,r2,r3⟩:=g2 i (Nat.zero_le _) h1 h2
   have hoi:(e i).o=o':=(TX.ent i o' (by omega) r1).1
   unfold c6u at hx
   rw[hoi,r2] at hx
   cases hx
   exact r3
  ·intro x hx i h1 h2
   obtain⟨q1,_,_⟩:=TX.gap x (x:=0) (Nat.zero_le _) (by omega) (fun k k1 k2=>n3 k k1 (by omega))
   rw[q1 _ (fun k _ _ _=>by omega),hget0]
   exact b9x hnone i h2
 have IT:b3c ops s.h.next cx.nt e (tmA 0) a.defers (fun _=>False) nx E a:=by
  refine⟨?_,fun _ _ h=>h.elim,S.sz,rfl⟩
  intro t v _ hv
  rw[t1] at hv
  obtain⟨v',q1,q2⟩:=S.tm t v hv
  exact⟨v',q1,q2.mono (leD nx)⟩
 exact⟨nx,IS,I,IT⟩
theorem c8z (ok:a0v P T) (rec:Task→Res) (ih:∀ t,a1j P base w0 t (rec t)):c8p P T base w0 rec:=by
 intro cx ops s t E X a u w k hX S
 unfold drawn
 simp only
 split
 ·trivial
 ·rename_i hc
  simp only[Bool.and_eq_true] at hc
  obtain⟨hE,hnone⟩:=hc
  split
  ·trivial
  ·rename_i v h' es hg
   split
   ·rename_i hok
    obtain⟨p,o,e,tmA,hA,hp,hop,TX,t1,t2,hacts,hwant,hact,hlater⟩:=d3s hE hg hok
    have hlen:ops.toList.length=ops.size:=by simp
    rw[hlen] at t2 hnone
    obtain⟨nx,IS,I,IT⟩:=c5e S hnone TX t1 t2
    have hsch:Region.schedule (P.follows .mixedOrders) ops t=Region.linearise .any ops t:=by
     rw[ok.mix]; rfl
    rw[hsch]
    obtain⟨E2,w2,a2,v',todo,c1,c2,c3,c4,c5,c6,c7⟩:=d0h ok ih TX rfl S.hr.dlt hp hop hacts hwant hact hlater X.b k (X.cs u) (b3i hE t) IS I IT
    rw[t1] at c6
    exact⟨E2,a2,u,w2,v',todo,⟨c4,c6,by rw[c5]; exact S.df.mono c2.le,S.pan.mono c2.le,c1⟩,c2,c3,c7⟩
   ·trivial
  ·rename_i tmF hF es hg
   split
   ·rename_i hok
    obtain⟨e,tmA,hA,TX,t1,t2,t3,t4⟩:=f2b hE hg hok
    have hlen:ops.toList.length=ops.size:=by simp
    rw[hlen] at t2 hnone
    obtain⟨nx,IS,I,IT⟩:=c5e S hnone TX t1 t2
    have hsch:Region.schedule (P.follows .mixedOrders) ops t=Region.linearise .any ops t:=by
     rw[ok.mix]; rfl
    rw[hsch]
    obtain⟨S',nx',E',w',a',c1,c2,c3,c4,c5⟩:=d7m rfl ok ih TX rfl X.b k (X.cs u) (b3i hE t) IS I IT
    have hnx:nx'=ops.size:=by
     rcases Nat.lt_or_ge nx' ops.size with h|h
     ·exact absurd (c1 nx' h) (c2.nxn nx' (Nat.le_refl _) h (c2.nxa h))
     ·have:=c2.nxle; omega
    subst hnx
    have hEq:E'.sub (Dm s.h.next ops.size ops.size)=E':=by
     unfold En.sub
     congr
     funext b
     apply propext
     exact⟨fun h=>h.1,fun h=>⟨h,by unfold Dm; omega⟩⟩
    have hr:=c3.hr
    rw[hEq,t4] at hr
    have hst:=c3.ste
    rw[t4] at hst
    refine⟨E',a',u,w',⟨c4.sz,?_,?_,S.pan.mono hst.le,hr⟩,hst,c5.trans (.one stepR_region_end)⟩
    ·intro tt v hv
     have hv:tmF.get tt=some v:=hv
     rw[← t3] at hv
     rcases TX.d2l ops.size (Nat.le_refl _) tt v hv with ⟨j,p1,p2,rfl,p4⟩|⟨p1,p2⟩
     ·obtain⟨v',q1,q2⟩:=c4.tmv j tt (c1 j p1) p2 (fun j' h1 h2=>p4 j' h2 (c2.clo j' h1).1)
      exact⟨v',q1,q2.mono (sub_le_self _ _)⟩
     ·obtain⟨v',q1,q2⟩:=c4.tm0 tt v (fun j h1=>p1 j (c2.clo j h1).1) p2
      exact⟨v',q1,q2.mono (sub_le_self _ _)⟩
    ·rw[c4.df]; exact S.df.mono hst.le
   ·trivial
theorem a7c (ok:a0v P T) (hsm:∀ f args h v h',T.sm f args h=some (v,h')→a1j P base w0 (.call f args h) (.ret v h')):∀ (n:Nat) (t:Task),a1j P base w0 t (ev T n t)
 |0,t=>f4c _ _ t
 |n+1,t=>d3o ok hsm (ev T n) (a7c ok hsm n) (c8z ok (ev T n) (a7c ok hsm n)) t
end Ev
end
section
namespace Ev
open Go Go.RowKit
variable {P:Program}{T:a0k}
def good:Res→Bool
 |.ret (.bool b) _=>b
 |.alt a b=>good a&&good b
 |_=>false
theorem b9h:∀ {r q:Res},good r=true→Lf r q→∃ h,q=.ret (.bool true) h
 |.alt a b,q,g,h=>by
  unfold good at g
  simp only[Bool.and_eq_true] at g
  exact h.elim (b9h g.1) (b9h g.2)
 |.ret v h',q,g,h=>by
  cases h
  cases v<;>simp[good] at g
  subst g
  exact⟨_,rfl⟩
 |.fin ..,_,g,_=>by simp[good] at g
 |.pan ..,_,g,_=>by simp[good] at g
 |.thrown ..,_,g,_=>by simp[good] at g
 |.dret ..,_,g,_=>by simp[good] at g
 |.no ..,_,g,_=>by simp[good] at g
def En.none:En:=⟨fun _=>0,fun _=>0,fun _=>0,fun _=>False⟩
theorem HR.start (w:World):HR P w.heap.size w En.none ⟨.nil,0⟩ w :=
 ⟨fun _ h=>h.elim,fun _ _ h=>h.elim,fun _ _ _ _ h=>h.elim,Below.refl _ _,Nat.le_refl _,Nat.le_refl _,fun _ h=>h.elim⟩
theorem b5q {α:Type}:∀ (l:List α) (n:Nat) (t:Tr α) (m:Nat),(Tr.b1k l n t).get m=if n≤m∧m<n+l.length then l[m-n]? else t.get m
 |[],n,t,m=>by simp[Tr.b1k]; omega
 |a::l,n,t,m=>by
  simp only[Tr.b1k]
  rw[b5q l (n+1) (t.set n a) m,Tr.a1d]
  simp only[List.length_cons]
  by_cases h1:m=n
  ·subst h1; rw[if_neg (by omega),if_pos rfl,if_pos (by omega)]; simp
  ·by_cases h2:n+1≤m∧m<n+1+l.length
   ·rw[if_pos h2,if_pos (by omega)]
    obtain⟨q,rfl⟩:∃ q,m=n+1+q:=⟨m-(n+1),by omega⟩
    have e:n+1+q-n=q+1:=by omega
    rw[e]; simp
   ·rw[if_neg h2,if_neg h1,if_neg (by omega)]
theorem c3g {α:Type}(l:List α) (m:Nat):(Tr.ofList l).get m=l[m]?:=by
 unfold Tr.ofList
 rw[b5q,Tr.get_nil]
 simp only[Nat.zero_le,Nat.zero_add,true_and,Nat.sub_zero]
 split
 ·rfl
 ·rename_i h; rw[List.getElem?_eq_none (by omega)]
def e3p (tt:Tr TypeInfo) (t:Nat):Option TypeDesc:=match tt.get t with
 |some i=>match i.desc with
  |.named _ u=>match tt.get u with
   |some j=>some j.desc
   |none=>Option.none
  |d=>some d
 |none=>Option.none
def listed (l:Tr Bool) (t:Nat):Bool:=match l.get t with
 |some b=>b
 |none=>true
def d6s:List (Nat×ExtK)→Nat→Option ExtK
 |[],_=>Option.none
 |(g,k)::l,f=>match Nat.beq g f with
  |true=>some k
  |false=>d6s l f
theorem c6c:∀ (l:List (Nat×ExtK)) (f:Nat) (k:ExtK),d6s l f=some k→(f,k)∈l
 |[],_,_,h=>by cases h
 |(g,k')::l,f,k,h=>by
  unfold d6s at h
  split at h
  ·rename_i hb
   have:=Nat.eq_of_beq_eq_true hb
   subst this
   cases h
   exact List.mem_cons_self ..
  ·exact List.mem_cons_of_mem _ (c6c l f k h)
def e1k (l:Tr Bool) (t:Nat):Bool:=match l.get t with
 |some b=>b
 |none=>false
def d3i (P:Program) (t:Nat):Bool:=match P.underlying t with
 |some (.slice _) => !P.packed t
 |_=>false
noncomputable def e0p (FT:Tr Func) (TT:Tr TypeInfo) (EQ ST:Tr Bool) (EX:List (Nat×ExtK)) (rt:Nat) (KD:Tr Bool):a0k :=
 { ext:=d6s EX,rt:=rt,kd:=e1k KD,alts:=true,ti:=fun t=>TT.get t,und:=e3p TT,fn:=fun f=>FT.get f,eqg:=listed EQ,stood:=listed ST,sm:=fun _ _ _=>Option.none }
def a9e (p:Nat→Bool):List Nat→Tr Bool→Tr Bool
 |[],t=>t
 |n::l,t=>a9e p l (t.set n (p n))
theorem b0u (p:Nat→Bool):∀ (l:List Nat) (t:Tr Bool) (m:Nat) (b:Bool),(a9e p l t).get m=some b→(m∈l∧b=p m)∨t.get m=some b
 |[],t,m,b,h=>.inr h
 |n::l,t,m,b,h=>by
  unfold a9e at h
  rcases b0u p l _ m b h with ⟨h1,h2⟩|h1
  ·exact .inl ⟨List.mem_cons_of_mem _ h1,h2⟩
  ·rw[Tr.a1d] at h1
   split at h1
   ·rename_i e
    subst e
    simp at h1
    exact .inl ⟨List.mem_cons_self ..,h1.symm⟩
   ·exact .inr h1
theorem e5k {FT:Tr Func}{TT:Tr TypeInfo}{EQ ST KD:Tr Bool}{le ls lk:List Nat}{EX:List (Nat×ExtK)}{rt:Nat}(hF:FT=Tr.ofList P.funcs.toList) (hT:TT=Tr.ofList P.types.toList)
  (hN : P.funcs.toList.all (fun F => !(F.name == "runtime.NumGoroutine")) = true) (hE : EQ = a9e (fun t => P.eqGuardType P.depth t) le .nil) (hS : ST = a9e (fun t => P.stoodInHeld t) ls .nil)
  (hM:P.follows .mixedOrders=true)
  (hX:∀ p,p∈EX→e3o P p.1 p.2) (hR:rt=P.globals.size) (hK:KD=a9e (d3i P) lk .nil):a0v P (e0p FT TT EQ ST EX rt KD):=by
 have info:∀ t i,TT.get t=some i→P.info? t=some i:=fun t i h=>by
  rw[hT,c3g] at h
  have h:P.types[t]?=some i:=by simpa using h
  have hlt:t<P.types.size:=(Array.getElem?_eq_some_iff.1 h).1
  unfold Tables.info?
  rw[if_pos hlt]; exact h
 refine⟨info,?_,?_,?_,?_,hM,fun f k h=>hX _ (c6c EX f k h),hR,?_⟩
 ·intro t d h
  have h:e3p TT t=some d:=h
  unfold e3p at h
  unfold Program.underlying
  split at h
  ·rename_i i hi
   rw[info t i hi]
   split at h
   ·rename_i n u hd
    split at h<;>simp at h
    rename_i j hj
    have hj:=info u j hj
    subst h
    obtain⟨⟩:=i
    simp only at hd
    subst hd
    simp[hj]
   ·rename_i hnn
    simp at h
    obtain⟨⟩:=i
    simp only at h hnn
    subst h
    split
    ·rename_i heq
     cases heq
     exact absurd rfl (hnn _ _)
    ·rename_i heq; cases heq; rfl
    ·rename_i heq; cases heq
  ·cases h
 ·intro f F h
  have h:FT.get f=some F:=h
  rw[hF,c3g] at h
  refine⟨by simpa using h,?_⟩
  have:=List.all_eq_true.1 hN F (List.mem_of_getElem? h)
  simpa using this
 ·intro t h
  have h:listed EQ t=false:=h
  unfold listed at h
  split at h
  ·rename_i b hb
   rw[hE] at hb
   rcases b0u _ _ _ _ _ hb with ⟨_,h2⟩|h2
   ·rw[← h2]; exact h
   ·rw[Tr.get_nil] at h2; cases h2
  ·cases h
 ·intro t h
  have h:listed ST t=false:=h
  unfold listed at h
  split at h
  ·rename_i b hb
   rw[hS] at hb
   rcases b0u _ _ _ _ _ hb with ⟨_,h2⟩|h2
   ·rw[← h2]; exact h
   ·rw[Tr.get_nil] at h2; cases h2
  ·cases h
 ·intro t h
  have h:e1k KD t=true:=h
  unfold e1k at h
  split at h
  ·rename_i b hb
   rw[hK] at hb
   rcases b0u _ _ _ _ _ hb with ⟨_,h2⟩|h2
   ·rw[h2] at h
    unfold d3i at h
    split at h
    ·rename_i e he; exact⟨by simpa using h,e,he⟩
    ·cases h
   ·rw[Tr.get_nil] at h2; cases h2
  ·cases h
section
open Go.ChangeShapes Go.WideShapes
variable {H:Type}{enc:TypeId×Value→H}
end
end Ev
end
