/- What the functions of this part answer at any input, told by the rules over the evaluator. Conditions: those that each theorem states. -/
import Derived.Test.YtmnhbehmjaibgaaGreatGaj
import Derived.Test.YtmnhbehmjaibgaaGreatGak
import Derived.Test.YtmnhbehmjaibgaaGreatTab
set_option linter.unusedVariables false
set_option linter.unusedSimpArgs false
open Go Ev
namespace Go.Proofs.YtmnhbehmjaibgaaGreat
set_option maxRecDepth 10000
def n32 (n:Nat):AV:=.int .u32 n
def e7l (t:Nat→Nat) (c:Nat) (b:UInt8):Nat:=t (c % 256 ^^^ b.toNat) ^^^ (c / 256)
def b5g (t:Nat→Nat):Nat→List UInt8→Nat
 |c,[]=>c
 |c,b::l=>b5g t (e7l t c b) l
theorem c6h (t:Nat→Nat) (c:Nat) (l:List UInt8) (b:UInt8):b5g t c (l++[b])=e7l t (b5g t c l) b:=by
 induction l generalizing c with
 |nil=>rfl
 |cons x l ih=>exact ih _
theorem c6d {α}{l:List α}{k:Nat}{b:α}(h:l[k]?=some b):l.take (k+1)=l.take k++[b]:=by
 rw[List.take_add_one,h]; rfl
theorem c8a (t:Nat→Nat) (ht:∀ i,i<256→t i<4294967296) (c:Nat) (hc:c<4294967296) (l:List UInt8):b5g t c l<4294967296:=by
 induction l generalizing c with
 |nil=>exact hc
 |cons b l ih =>
  refine ih _ ?_
  unfold e7l
  refine Nat.xor_lt_two_pow (n:=32) (ht _ ?_) (by omega)
  exact Nat.xor_lt_two_pow (n:=8) (by omega) b.toNat_lt
theorem d3s (t:Nat→Nat) (ht:∀ i,i<256→t i<4294967296) (tbl:List AV) (htb:∀ i,i<256→tbl[i]?=some (n32 (t i))) (c:Nat) (hc:c<4294967296) (s:List UInt8) (hlen:s.length<9223372036854775807) (h:a0a) :
  a0l TB 189 [.agg tbl,n32 c,.str s] h (fun v h'=>v=n32 (4294967295 ^^^ b5g t (4294967295 ^^^ c) s)∧Ext h h'):=by
 have hc0:4294967295 ^^^ c<4294967296:=Nat.xor_lt_two_pow (n:=32) (by decide) hc
 have hw:=c8a t ht (4294967295 ^^^ c) hc0
 refine b0l rfl rfl rfl fun tm hs=>?_
 refine a1e (a0q ?_)
 refine a0f hs rfl rfl rfl rfl fun tm hs=>?_
 refine a0f hs rfl rfl rfl rfl fun tm hs=>?_
 refine a0y ?_
 refine a1e (a0q ?_)
 refine a0f hs rfl rfl rfl rfl fun tm hs=>?_
 refine a0f hs rfl rfl (e2c rfl (d6w rfl rfl (by decide) hc)) rfl fun tm hs=>?_
 refine a0f hs rfl rfl rfl rfl fun tm hs=>?_
 refine a0y ?_
 refine a1e (a1e (a0q ?_))
 refine a0f hs rfl rfl rfl rfl fun tm hs=>?_
 refine a0f hs rfl rfl rfl rfl fun tm hs=>?_
 refine a0f hs rfl rfl rfl rfl fun tm hs=>?_
 refine a0y ?_
 refine a4j ?_
 refine b1x (fun m st=>∃ (i:Nat) (tm:Tr AV),i+m=s.length∧st=⟨tm,[],none,h.alloc (.cells 242 tbl true)⟩ ∧
  a0m tm [(1,n32 (b5g t (4294967295 ^^^ c) (s.take i))),(2,.str s),(3,.ptr h.next 0),(11,.int .i64 s.length),(12,.int .i64 i)]) (m:=s.length)
  ⟨0,_,by omega,rfl,hs.cons rfl (hs.cons rfl (hs.cons rfl (hs.cons rfl (hs.cons rfl (a0m.nil _)))))⟩ ?_
 rintro m _ ⟨i,tm,him,rfl,hs⟩ next
 refine a1e (a0q ?_)
 refine a0f hs rfl rfl rfl rfl fun tm hs=>?_
 refine a0y (a1e ?_)
 refine b5m hs rfl (fun hlt=>?_) (fun hge=>?_)
 ·have hlt:i<s.length:=by simpa using hlt
  have hb:s[i]?=some s[i]:=by simp[hlt]
  have hxl:b5g t (4294967295 ^^^ c) (s.take i) % 256 ^^^ s[i].toNat<256:=Nat.xor_lt_two_pow (n:=8) (by omega) s[i].toNat_lt
  refine b2k (a1e (a4j (a1e (a0q ?_))))
  refine a0f hs rfl rfl rfl rfl fun tm hs=>?_
  refine a0f hs rfl rfl rfl rfl fun tm hs=>?_
  refine a0y (a0q ?_)
  refine a0f hs rfl rfl rfl rfl fun tm hs=>?_
  refine a0f hs rfl rfl (c1p rfl rfl rfl (c1s rfl _)) rfl fun tm hs=>?_
  refine a0f hs rfl rfl rfl rfl fun tm hs=>?_
  refine a0f hs rfl rfl rfl rfl fun tm hs=>?_
  refine a0f hs rfl rfl (b4j rfl rfl rfl i rfl hb) rfl fun tm hs=>?_
  refine a0f hs rfl rfl (a6k rfl rfl (b7j rfl (Nat.mod_lt _ (by decide)) s[i].toNat_lt) rfl) rfl fun tm hs=>?_
  refine a0f hs rfl rfl (b2t (sz:=1) rfl rfl rfl rfl _ rfl hxl) rfl fun tm hs=>?_
  refine a0f hs rfl rfl (c3m (v:=n32 (t (b5g t (4294967295 ^^^ c) (s.take i) % 256 ^^^ s[i].toNat))) rfl rfl rfl (a0s _ _) (by simpa using htb _ hxl)) rfl fun tm hs=>?_
  refine a0f hs rfl rfl rfl rfl fun tm hs=>?_
  refine a0f hs rfl rfl (a6k rfl rfl (b9z (y:=8) (by decide)) rfl) rfl fun tm hs=>?_
  have hq:=hw (s.take i)
  refine a0f hs rfl rfl (a6k rfl rfl (b7j rfl (ht _ hxl) (show _ / 2 ^ 8<2 ^ 32 by omega)) rfl) rfl fun tm hs=>?_
  refine a0f hs rfl rfl rfl rfl fun tm hs=>?_
  refine a0y (b6f (a0q ?_))
  refine a0f hs rfl rfl (a6k rfl rfl (a8a (z:=((i+1:Nat):Int)) (by simp) (by omega) (by omega)) rfl) rfl fun tm hs=>?_
  refine a0f hs rfl rfl rfl rfl fun tm hs=>?_
  refine a0y (next (m-1) _ (by omega) ⟨i+1,tm,by omega,rfl,?_⟩)
  rw[c6d hb,c6h]
  exact hs.cons rfl (hs.cons rfl (hs.cons rfl (hs.cons rfl (hs.cons rfl (a0m.nil _)))))
 ·have hge:s.length≤i:=by simpa using hge
  refine b2a rfl (a1e (a0q ?_))
  refine a0f hs rfl rfl rfl rfl fun tm hs=>?_
  refine a0f hs rfl rfl (e2c rfl (d6w rfl rfl (by decide) (hw _))) rfl fun tm hs=>?_
  refine a0f hs rfl rfl rfl rfl fun tm hs=>?_
  refine a0y (b2b (a3a hs rfl ⟨?_,Ext.alloc _ _⟩))
  rw[List.take_of_length_le hge]; rfl
def c7z (c:Nat):Nat:=if c % 2=1 then c / 2 ^^^ 2197175160 else c / 2
def b0i:Nat→Nat→Nat
 |0,c=>c
 |n+1,c=>c7z (b0i n c)
def b3k (i:Nat):Nat:=b0i 8 i
theorem e7f {c:Nat}(h:c<4294967296):c7z c<4294967296:=by
 unfold c7z
 split
 ·exact Nat.xor_lt_two_pow (n:=32) (by omega) (by decide)
 ·omega
theorem c1k {c:Nat}(h:c<4294967296):∀ n,b0i n c<4294967296
 |0=>h
 |n+1=>e7f (c1k h n)
theorem c1i (i:Nat) (h:i<256):b3k i<4294967296:=c1k (by omega) 8
def a4v:List AV:=(List.range 256).map fun i=>n32 (b3k i)
theorem c1n (i:Nat) (h:i<256):a4v[i]?=some (n32 (b3k i)):=by
 unfold a4v
 simp[h]
def pre (i:Nat):List AV:=(List.range 256).map fun j=>n32 (if j<i then b3k j else 0)
theorem a2w (i:Nat):(pre i).length=256:=by simp[pre]
theorem c7b (i:Nat):(pre i).all AV.one=true:=by simp[pre,n32,AV.one]
theorem d7h (i:Nat) (h:i<256):(pre i).set i (n32 (b3k i))=pre (i+1):=by
 apply List.ext_getElem?
 intro j
 rw[List.getElem?_set]
 unfold pre
 simp only[List.getElem?_map,List.length_map,List.length_range]
 by_cases hj:j<256
 ·by_cases e:i=j
  ·subst e; simp[h]
  ·have:(j<i+1)=(j<i):=by rw[eq_iff_iff]; omega
   have hr:(List.range 256)[j]?=some j:=by rw[List.getElem?_range hj]
   rw[if_neg e,hr]
   simp only[Option.map_some,this]
 ·have:List.range 256=List.range 256:=rfl
  rw[if_neg (by omega),List.getElem?_eq_none (by simp; omega)]; rfl
theorem a4b:pre 256=a4v:=by
 unfold pre a4v
 apply List.map_congr_left
 intro j hj
 rw[if_pos (by simpa using hj)]
theorem c3e:pre 0=List.replicate 256 (.int .u32 0):=rfl
theorem e8d (n:Nat):∃ m:Nat,unA .neg (.int .u32 ((n % 2:Nat):Int))=some (.int .u32 (m:Int))∧m<4294967296∧∀ q:Nat,q / 2 ^^^ (2197175160 &&& m)=(if n % 2=1 then q / 2 ^^^ 2197175160 else q / 2):=by
 rcases Nat.mod_two_eq_zero_or_one n with h|h
 ·exact⟨0,by rw[h]; rfl,by decide,fun q=>by rw[if_neg (by omega)]; simp⟩
 ·exact⟨4294967295,by rw[h]; rfl,by decide,fun q=>by rw[if_pos h]; rfl⟩
theorem d1f (h:a0a):a0l TB 190 [] h (fun v h'=>v=.agg a4v∧Ext h h'):=by
 refine b0l rfl rfl rfl fun tm hs=>?_
 refine a1e (a0q ?_)
 refine a0f (h':=h.alloc (.cells 242 (pre 0) true)) hs rfl rfl (by rw[c3e]; rfl) rfl fun tm hs=>?_
 refine a0y (a1e (a1e (a0q ?_)))
 refine a0f hs rfl rfl rfl rfl fun tm hs=>?_
 refine a0y (a4j ?_)
 refine b1x (fun m st=>∃ (i:Nat) (tm:Tr AV) (h1:a0a),i+m=256∧st=⟨tm,[],none,h1⟩∧Ext h h1∧h1.get h.next=some (.cells 242 (pre i) true) ∧
  a0m tm [(0,.ptr h.next 0),(3,.int .i64 i)]) (m:=256)
  ⟨0,_,_,by omega,rfl,Ext.alloc _ _,a0s _ _,hs.cons rfl (hs.cons rfl (a0m.nil _))⟩ ?_
 rintro m _ ⟨i,tm,h1,him,rfl,he,hg,hs⟩ next
 refine a1e (a0q ?_)
 refine a0f hs rfl rfl rfl rfl fun tm hs=>?_
 refine a0y (a1e ?_)
 refine b5m hs rfl (fun hlt=>?_) (fun hge=>?_)
 ·have hlt:i<256:=by simp at hlt; omega
  refine b2k (a1e (a4j (a1e (a0q ?_))))
  refine a0f hs rfl rfl rfl rfl fun tm hs=>?_
  refine a0f hs rfl rfl rfl rfl fun tm hs=>?_
  refine a0y (a1e (a0q ?_))
  refine a0f hs rfl rfl rfl rfl fun tm hs=>?_
  refine a0f hs rfl rfl (c1p (z:=(i:Int)) rfl rfl rfl (b6g rfl _ (show i<2 ^ 32 by omega))) rfl fun tm hs=>?_
  refine a0f hs rfl rfl rfl rfl fun tm hs=>?_
  refine a0y (a1e (a1e (a0q ?_)))
  refine a0f hs rfl rfl rfl rfl fun tm hs=>?_
  refine a0y (a4j ?_)
  refine b1x (fun m st=>∃ (j:Nat) (tm:Tr AV),j+m=8∧st=⟨tm,[],none,h1⟩ ∧
   a0m tm [(0,.ptr h.next 0),(1,.int .i64 i),(2,n32 (b0i j i)),(3,.int .i64 i),(8,.int .i64 j)]) (m:=8)
   ⟨0,_,by omega,rfl,hs.cons rfl (hs.cons rfl (hs.cons rfl (hs.cons rfl (hs.cons rfl (a0m.nil _)))))⟩ ?_
  rintro m' _ ⟨j,tm,hjm,rfl,hs⟩ next2
  refine a1e (a0q ?_)
  refine a0f hs rfl rfl rfl rfl fun tm hs=>?_
  refine a0y (a1e ?_)
  refine b5m hs rfl (fun hlt2=>?_) (fun hge2=>?_)
  ·have hlt2:j<8:=by simp at hlt2; omega
   have hcl:b0i j i<4294967296:=c1k (by omega) j
   obtain⟨n1,q1,q2,q3⟩:=e8d (b0i j i)
   refine b2k (a1e (a4j (a0q ?_)))
   refine a0f hs rfl rfl rfl rfl fun tm hs=>?_
   refine a0f hs rfl rfl (a6k rfl rfl (b9z (y:=1) (by decide)) rfl) rfl fun tm hs=>?_
   refine a0f hs rfl rfl rfl rfl fun tm hs=>?_
   refine a0f (v:=.int .u32 ((b0i j i % 2:Nat):Int)) hs rfl rfl (a6k rfl rfl (by have:=d6g (T:=TB) (t:=22) (k:=.u32) (x:=b0i j i) (y:=1) rfl hcl (by decide); rw[Nat.and_one_is_mod] at this; exact this) rfl) rfl fun tm hs=>?_
   refine a0f hs rfl rfl (e2c rfl q1) rfl fun tm hs=>?_
   refine a0f hs rfl rfl (a6k rfl rfl (d6g (x:=2197175160) rfl (by decide) q2) rfl) rfl fun tm hs=>?_
   refine a0f (v:=n32 (b0i (j+1) i)) hs rfl rfl (a6k rfl rfl (by
    have:=b7j (T:=TB) (t:=22) (k:=.u32) (x:=b0i j i / 2) (y:=2197175160 &&& n1) rfl (show _<2 ^ 32 by omega) (Nat.and_lt_two_pow _ q2)
    rw[q3] at this
    exact this) rfl) rfl fun tm hs=>?_
   refine a0f hs rfl rfl rfl rfl fun tm hs=>?_
   refine a0y (b6f (a0q ?_))
   refine a0f hs rfl rfl (a6k rfl rfl (a8a (z:=((j+1:Nat):Int)) (by simp) (by omega) (by omega)) rfl) rfl fun tm hs=>?_
   refine a0f hs rfl rfl rfl rfl fun tm hs=>?_
   exact a0y (next2 (m'-1) _ (by omega) ⟨j+1,tm,by omega,rfl,hs.cons rfl (hs.cons rfl (hs.cons rfl (hs.cons rfl (hs.cons rfl (a0m.nil _)))))⟩)
  ·have hge2:j=8:=by simp at hge2; omega
   subst hge2
   refine b2a rfl (a0q ?_)
   refine a0f hs rfl rfl rfl rfl fun tm hs=>?_
   refine a0f hs rfl rfl rfl rfl fun tm hs=>?_
   refine a0f hs rfl rfl (b2t (sz:=1) rfl rfl rfl rfl i rfl hlt) rfl fun tm hs=>?_
   refine b1j hs rfl rfl (c2j (off:=0+i*1) rfl rfl rfl rfl rfl hg (by rw[a2w]; omega)) ?_
   refine a0y (b6f (a0q ?_))
   refine a0f hs rfl rfl (a6k rfl rfl (a8a (z:=((i+1:Nat):Int)) (by simp) (by omega) (by omega)) rfl) rfl fun tm hs=>?_
   refine a0f hs rfl rfl rfl rfl fun tm hs=>?_
   refine a0y (next (m-1) _ (by omega) ⟨i+1,tm,_,by omega,rfl,he.set (Nat.le_refl _) hg _,?_,hs.cons rfl (hs.cons rfl (a0m.nil _))⟩)
   rw[a0a.a1c,if_pos rfl]
   have e0:0+i*1=i:=by omega
   rw[e0,← d7h i hlt]; rfl
 ·have hge:i=256:=by simp at hge; omega
  subst hge
  refine b2a rfl (a1e (a0q ?_))
  refine a0f hs rfl rfl (c1l (n:=256) rfl rfl rfl hg (by rw[a2w]; decide)) rfl fun tm hs=>?_
  have e1:((pre 256).drop 0).take 256=a4v:=by rw[← a4b,List.drop_zero,List.take_of_length_le (by rw[a2w]; decide)]
  rw[e1] at hs
  refine b1j hs rfl rfl (b8e (n:=256) rfl rfl rfl (by rw[← a4b,a2w]) (by rw[← a4b]; exact c7b _) hg (by rw[a2w]; decide)) ?_
  refine a0y (b2b (c6m (v:=.agg a4v) hs rfl ?_ ⟨rfl,he.set (Nat.le_refl _) hg _⟩))
  have:=b0k (T:=TB) (t:=242) (h:=h1.set h.next (.cells 242 (over (pre 256) 0 a4v) true)) (b:=h.next) (off:=0) (n:=256) (cs:=over (pre 256) 0 a4v) (e:=242) (rw:=true) rfl rfl (by rw[a0a.a1c,if_pos rfl]) (by rw[a4b,b0z _ _ rfl,← a4b,a2w]; decide)
  rw[this,a4b,b0z _ _ rfl,List.drop_zero,List.take_of_length_le (by rw[← a4b,a2w]; decide)]
theorem c2c (c:Nat) (hc:c<4294967296) (s:List UInt8) (hlen:s.length<9223372036854775807) (h:a0a) :
  a0l TB 144 [n32 c,.str s] h (fun v h'=>v=n32 (4294967295 ^^^ b5g b3k (4294967295 ^^^ c) s)∧Ext h h'):=by
 refine b0l rfl rfl rfl fun tm hs=>?_
 refine a1e (a0q ?_)
 refine a0f hs rfl rfl rfl rfl fun tm hs=>?_
 refine a0y (a1e (a0q ?_))
 refine a9o hs rfl rfl rfl rfl (d1f _) ?_
 rintro _ h1 ⟨rfl,he⟩ tm hs
 refine a0f hs rfl rfl rfl rfl fun tm hs=>?_
 refine a0f hs rfl rfl rfl rfl fun tm hs=>?_
 refine a9o hs rfl rfl rfl rfl (d3s b3k c1i a4v c1n c hc s hlen _) ?_
 rintro _ h2 ⟨rfl,he2⟩ tm hs
 refine a0f hs rfl rfl rfl rfl fun tm hs=>?_
 exact a0y (b2b (a3a hs rfl ⟨rfl,he.trans he2⟩))
theorem e3x (s:List UInt8) (hlen:s.length<9223372036854775807) (h:a0a) :
  a0l TB 105 [.str s] h (fun v h'=>v=n32 (4294967295 ^^^ b5g b3k 4294967295 s)∧Ext h h'):=by
 refine b0l rfl rfl rfl fun tm hs=>?_
 refine a1e (a0q ?_)
 refine a0f hs rfl rfl rfl rfl fun tm hs=>?_
 refine a0y (a1e (a0q ?_))
 refine a0f hs rfl rfl rfl rfl fun tm hs=>?_
 refine a9o hs rfl rfl rfl rfl (c2c 0 (by decide) s hlen _) ?_
 rintro _ h1 ⟨rfl,he⟩ tm hs
 refine a0f hs rfl rfl rfl rfl fun tm hs=>?_
 exact a0y (b2b (a3a hs rfl ⟨rfl,he⟩))
theorem d4w (c:Nat) (hc:c<4294967296) (h:a0a):a0l TB 211 [n32 c] h (fun v h'=>v=n32 (b0i 8 c)∧h'=h):=by
 refine b0l rfl rfl rfl fun tm hs=>?_
 refine a1e (a0q ?_)
 refine a0f hs rfl rfl rfl rfl fun tm hs=>?_
 refine a0y (a1e (a1e (a0q ?_)))
 refine a0f hs rfl rfl rfl rfl fun tm hs=>?_
 refine a0y (a4j ?_)
 refine b1x (fun m st=>∃ (j:Nat) (tm:Tr AV),j+m=8∧st=⟨tm,[],none,h⟩∧a0m tm [(0,n32 (b0i j c)),(3,.int .i64 j)]) (m:=8)
  ⟨0,_,by omega,rfl,hs.cons rfl (hs.cons rfl (a0m.nil _))⟩ ?_
 rintro m _ ⟨j,tm,hjm,rfl,hs⟩ next
 have hcl:b0i j c<4294967296:=c1k hc j
 refine a1e (a1e (a0q ?_))
 refine a0f hs rfl rfl rfl rfl fun tm hs=>?_
 refine a0f hs rfl rfl rfl rfl fun tm hs=>?_
 refine a0y ?_
 refine b5m hs rfl (fun hlt=>?_) (fun hge=>?_)
 ·have hlt:j<8:=by simp at hlt; omega
  refine b2k (a1e (a4j (a1e (a0q ?_))))
  refine a0f hs rfl rfl rfl rfl fun tm hs=>?_
  refine a0f (v:=.int .u32 ((b0i j c % 2:Nat):Int)) hs rfl rfl (a6k rfl rfl (by have:=d6g (T:=TB) (t:=22) (k:=.u32) (x:=b0i j c) (y:=1) rfl hcl (by decide); rw[Nat.and_one_is_mod] at this; exact this) rfl) rfl fun tm hs=>?_
  refine a0f hs rfl rfl rfl rfl fun tm hs=>?_
  refine a0y ?_
  refine e6d (fun st=>∃ tm,st=⟨tm,[],none,h⟩∧a0m tm [(0,n32 (b0i (j+1) c)),(3,.int .i64 j)]) ?_ fun join=>?_
  ·rintro _ ⟨tm,rfl,hs⟩
   refine b6f (a0q ?_)
   refine a0f hs rfl rfl rfl rfl fun tm hs=>?_
   refine a0f hs rfl rfl (a6k rfl rfl (a8a (z:=((j+1:Nat):Int)) (by simp) (by omega) (by omega)) rfl) rfl fun tm hs=>?_
   refine a0f hs rfl rfl rfl rfl fun tm hs=>?_
   exact a0y (next (m-1) _ (by omega) ⟨j+1,tm,by omega,rfl,hs.cons rfl (hs.cons rfl (a0m.nil _))⟩)
  ·refine b5m hs rfl (fun ho=>?_) (fun ho=>?_)
   ·have ho:b0i j c % 2=1:=by simp at ho; omega
    have e:b0i (j+1) c=b0i j c / 2 ^^^ 2197175160:=by show c7z _=_; unfold c7z; rw[if_pos ho]
    refine a0q ?_
    refine a0f hs rfl rfl rfl rfl fun tm hs=>?_
    refine a0f hs rfl rfl (a6k rfl rfl (b9z (y:=1) (by decide)) rfl) rfl fun tm hs=>?_
    refine a0f hs rfl rfl (a6k rfl rfl (b7j (y:=2197175160) rfl (show _ / 2 ^ 1<2 ^ 32 by omega) (by decide)) rfl) rfl fun tm hs=>?_
    refine a0f hs rfl rfl rfl rfl fun tm hs=>?_
    refine a0y (join _ ⟨tm,rfl,?_⟩)
    rw[e]
    exact hs.cons rfl (hs.cons rfl (a0m.nil _))
   ·have ho:¬ b0i j c % 2=1:=by simp at ho; omega
    have e:b0i (j+1) c=b0i j c / 2:=by show c7z _=_; unfold c7z; rw[if_neg ho]
    refine a0q ?_
    refine a0f hs rfl rfl rfl rfl fun tm hs=>?_
    refine a0f hs rfl rfl (a6k rfl rfl (b9z (y:=1) (by decide)) rfl) rfl fun tm hs=>?_
    refine a0f hs rfl rfl rfl rfl fun tm hs=>?_
    refine a0y (join _ ⟨tm,rfl,?_⟩)
    rw[e]
    exact hs.cons rfl (hs.cons rfl (a0m.nil _))
 ·have hge:j=8:=by simp at hge; omega
  subst hge
  refine b2a rfl (a1e (a0q ?_))
  refine a0f hs rfl rfl rfl rfl fun tm hs=>?_
  refine a0f hs rfl rfl rfl rfl fun tm hs=>?_
  exact a0y (b2b (a3a hs rfl ⟨rfl,rfl⟩))
theorem c8t (h:a0a):a0l TB 197 [] h (fun v h'=>v=.agg a4v∧Ext h h'):=by
 refine b0l rfl rfl rfl fun tm hs=>?_
 refine a1e (a0q ?_)
 refine a0f (h':=h.alloc (.cells 242 (pre 0) true)) hs rfl rfl (by rw[c3e]; rfl) rfl fun tm hs=>?_
 refine a0y (a1e (a0q ?_))
 refine a0f (h':=(h.alloc (.cells 242 (pre 0) true)).alloc (.cells 242 (pre 0) true)) hs rfl rfl (by rw[c3e]; rfl) rfl fun tm hs=>?_
 refine a0y (a1e (a1e (a0q ?_)))
 refine a0f hs rfl rfl rfl rfl fun tm hs=>?_
 refine a0y (a4j ?_)
 have hnx:(h.alloc (.cells 242 (pre 0) true)).next=h.next+1:=rfl
 refine b1x (fun m st=>∃ (i:Nat) (tm:Tr AV) (h1:a0a),i+m=256∧st=⟨tm,[],none,h1⟩∧Ext h h1∧h1.get h.next=some (.cells 242 (pre 0) true)∧h1.get (h.next+1)=some (.cells 242 (pre i) true) ∧
  a0m tm [(0,.ptr h.next 0),(1,.ptr (h.next+1) 0),(2,.int .i64 i)]) (m:=256)
  ⟨0,_,_,by omega,rfl,(Ext.alloc _ _).trans (Ext.alloc _ _),by rw[a0a.a3r,if_neg (by rw[hnx]; omega)]; exact a0s _ _,a0s _ _,hs.cons rfl (hs.cons rfl (hs.cons rfl (a0m.nil _)))⟩ ?_
 rintro m _ ⟨i,tm,h1,him,rfl,he,hg0,hg,hs⟩ next
 refine a1e (a1e (a0q ?_))
 refine a0f hs rfl rfl rfl rfl fun tm hs=>?_
 refine a0f hs rfl rfl rfl rfl fun tm hs=>?_
 refine a0y ?_
 refine b5m hs rfl (fun hlt=>?_) (fun hge=>?_)
 ·have hlt:i<256:=by simp at hlt; omega
  refine b2k (a1e (a4j (a0q ?_)))
  refine a0f hs rfl rfl rfl rfl fun tm hs=>?_
  refine a0f hs rfl rfl rfl rfl fun tm hs=>?_
  refine a0f hs rfl rfl (c1p (z:=(i:Int)) rfl rfl rfl (b6g rfl _ (show i<2 ^ 32 by omega))) rfl fun tm hs=>?_
  refine a9o hs rfl rfl rfl rfl (d4w i (by omega) _) ?_
  rintro _ _ ⟨rfl,rfl⟩ tm hs
  refine a0f hs rfl rfl (b2t (sz:=1) rfl rfl rfl rfl i rfl hlt) rfl fun tm hs=>?_
  refine b1j hs rfl rfl (c2j (off:=0+i*1) rfl rfl rfl rfl rfl hg (by rw[a2w]; omega)) ?_
  refine a0y (b6f (a0q ?_))
  refine a0f hs rfl rfl rfl rfl fun tm hs=>?_
  refine a0f hs rfl rfl (a6k rfl rfl (a8a (z:=((i+1:Nat):Int)) (by simp) (by omega) (by omega)) rfl) rfl fun tm hs=>?_
  refine a0f hs rfl rfl rfl rfl fun tm hs=>?_
  refine a0y (next (m-1) _ (by omega) ⟨i+1,tm,_,by omega,rfl,he.set (by omega) hg _,by rw[a0a.a1c,if_neg (by omega)]; exact hg0,?_,hs.cons rfl (hs.cons rfl (hs.cons rfl (a0m.nil _)))⟩)
  rw[a0a.a1c,if_pos rfl]
  have e0:0+i*1=i:=by omega
  rw[e0,← d7h i hlt]; rfl
 ·have hge:i=256:=by simp at hge; omega
  subst hge
  refine b2a rfl (a1e (a0q ?_))
  refine a0f hs rfl rfl (c1l (n:=256) rfl rfl rfl hg (by rw[a2w]; decide)) rfl fun tm hs=>?_
  have e1:((pre 256).drop 0).take 256=a4v:=by rw[← a4b,List.drop_zero,List.take_of_length_le (by rw[a2w]; decide)]
  rw[e1] at hs
  refine b1j hs rfl rfl (b8e (n:=256) rfl rfl rfl (by rw[← a4b,a2w]) (by rw[← a4b]; exact c7b _) hg0 (by rw[a2w]; decide)) ?_
  refine a0y (b2b (c6m (v:=.agg a4v) hs rfl ?_ ⟨rfl,he.set (Nat.le_refl _) hg0 _⟩))
  have:=b0k (T:=TB) (t:=242) (h:=h1.set h.next (.cells 242 (over (pre 0) 0 a4v) true)) (b:=h.next) (off:=0) (n:=256) (cs:=over (pre 0) 0 a4v) (e:=242) (rw:=true) rfl rfl (by rw[a0a.a1c,if_pos rfl]) (by rw[b0z _ _ (by rw[← a4b,a2w,a2w]),← a4b,a2w]; decide)
  rw[this,b0z _ _ (by rw[← a4b,a2w,a2w]),List.drop_zero,List.take_of_length_le (by rw[← a4b,a2w]; decide)]
theorem c0a (c:Nat) (hc:c<4294967296) (s:List UInt8) (hlen:s.length<9223372036854775807) (h:a0a) :
  a0l TB 160 [n32 c,.str s] h (fun v h'=>v=n32 (4294967295 ^^^ b5g b3k (4294967295 ^^^ c) s)∧Ext h h'):=by
 have hc0:4294967295 ^^^ c<4294967296:=Nat.xor_lt_two_pow (n:=32) (by decide) hc
 have hw:=c8a b3k c1i (4294967295 ^^^ c) hc0
 have hz:List.replicate 256 (AV.int .u32 0)=pre 0:=rfl
 refine b0l rfl rfl rfl fun tm hs=>?_
 refine a1e (a0q ?_)
 refine a0f hs rfl rfl rfl rfl fun tm hs=>?_
 refine a0y (a1e (a0q ?_))
 refine a9o hs rfl rfl rfl rfl (c8t _) ?_
 rintro _ h1 ⟨rfl,he⟩ tm hs
 refine a0f (h':=h1.alloc (.cells 242 (pre 0) true)) hs rfl rfl (by rw[← hz]; rfl) rfl fun tm hs=>?_
 refine b1j hs rfl rfl (b8e (n:=256) rfl rfl rfl (by rw[← a4b,a2w]) (by rw[← a4b]; exact c7b _) (a0s _ _) (by rw[a2w]; decide)) ?_
 have hg:(a0a.set (h1.alloc (.cells 242 (pre 0) true)) h1.next (.cells 242 (over (pre 0) 0 a4v) true)).get h1.next=some (.cells 242 a4v true):=by
  rw[a0a.a1c,if_pos rfl,b0z _ _ (by rw[← a4b,a2w,a2w])]
 have he2:Ext h (a0a.set (h1.alloc (.cells 242 (pre 0) true)) h1.next (.cells 242 (over (pre 0) 0 a4v) true)) :=
  (he.trans (Ext.alloc _ _)).set he.nx (a0s _ _) _
 generalize a0a.set (h1.alloc (.cells 242 (pre 0) true)) h1.next (.cells 242 (over (pre 0) 0 a4v) true)=h2 at hg he2
 refine a0y (a1e (a0q ?_))
 refine a0f hs rfl rfl rfl rfl fun tm hs=>?_
 refine a0f hs rfl rfl (e2c rfl (d6w rfl rfl (by decide) hc)) rfl fun tm hs=>?_
 refine a0f hs rfl rfl rfl rfl fun tm hs=>?_
 refine a0y (a1e (a1e (a0q ?_)))
 refine a0f hs rfl rfl rfl rfl fun tm hs=>?_
 refine a0y (a4j ?_)
 refine b1x (fun m st=>∃ (i:Nat) (tm:Tr AV),i+m=s.length∧st=⟨tm,[],none,h2⟩ ∧
  a0m tm [(1,.str s),(5,.ptr h1.next 0),(6,n32 (b5g b3k (4294967295 ^^^ c) (s.take i))),(7,.int .i64 i)]) (m:=s.length)
  ⟨0,_,by omega,rfl,hs.cons rfl (hs.cons rfl (hs.cons rfl (hs.cons rfl (a0m.nil _))))⟩ ?_
 rintro m _ ⟨i,tm,him,rfl,hs⟩ next
 refine a1e (a1e (a0q ?_))
 refine a0f hs rfl rfl rfl rfl fun tm hs=>?_
 refine a0f hs rfl rfl rfl rfl fun tm hs=>?_
 refine a0f hs rfl rfl rfl rfl fun tm hs=>?_
 refine a0f hs rfl rfl rfl rfl fun tm hs=>?_
 refine a0y ?_
 refine b5m hs rfl (fun hlt=>?_) (fun hge=>?_)
 ·have hlt:i<s.length:=by simpa using hlt
  have hb:s[i]?=some s[i]:=by simp[hlt]
  have hxl:b5g b3k (4294967295 ^^^ c) (s.take i) % 256 ^^^ s[i].toNat<256:=Nat.xor_lt_two_pow (n:=8) (by omega) s[i].toNat_lt
  have hq:=hw (s.take i)
  refine b2k (a1e (a4j (a0q ?_)))
  refine a0f hs rfl rfl rfl rfl fun tm hs=>?_
  refine a0f hs rfl rfl (a6k rfl rfl (b9z (y:=8) (by decide)) rfl) rfl fun tm hs=>?_
  refine a0f hs rfl rfl rfl rfl fun tm hs=>?_
  refine a0f hs rfl rfl (c1p rfl rfl rfl (c1s rfl _)) rfl fun tm hs=>?_
  refine a0f hs rfl rfl rfl rfl fun tm hs=>?_
  refine a0f hs rfl rfl rfl rfl fun tm hs=>?_
  refine a0f hs rfl rfl (b4j rfl rfl rfl i rfl hb) rfl fun tm hs=>?_
  refine a0f hs rfl rfl (a6k rfl rfl (b7j rfl (Nat.mod_lt _ (by decide)) s[i].toNat_lt) rfl) rfl fun tm hs=>?_
  refine a0f hs rfl rfl (b2t (sz:=1) rfl rfl rfl rfl _ rfl hxl) rfl fun tm hs=>?_
  refine a0f hs rfl rfl (c3m (v:=n32 (b3k (b5g b3k (4294967295 ^^^ c) (s.take i) % 256 ^^^ s[i].toNat))) rfl rfl rfl hg (by simpa using c1n _ hxl)) rfl fun tm hs=>?_
  refine a0f hs rfl rfl (a6k rfl rfl (b7j rfl (show _ / 2 ^ 8<2 ^ 32 by omega) (c1i _ hxl)) rfl) rfl fun tm hs=>?_
  refine a0f hs rfl rfl rfl rfl fun tm hs=>?_
  refine a0y (b6f (a0q ?_))
  refine a0f hs rfl rfl rfl rfl fun tm hs=>?_
  refine a0f hs rfl rfl (a6k rfl rfl (a8a (z:=((i+1:Nat):Int)) (by simp) (by omega) (by omega)) rfl) rfl fun tm hs=>?_
  refine a0f hs rfl rfl rfl rfl fun tm hs=>?_
  refine a0y (next (m-1) _ (by omega) ⟨i+1,tm,by omega,rfl,?_⟩)
  rw[c6d hb,c6h,e7l,Nat.xor_comm (b3k _)]
  exact hs.cons rfl (hs.cons rfl (hs.cons rfl (hs.cons rfl (a0m.nil _))))
 ·have hge:s.length≤i:=by simpa using hge
  refine b2a rfl (a1e (a0q ?_))
  refine a0f hs rfl rfl rfl rfl fun tm hs=>?_
  refine a0f hs rfl rfl (e2c rfl (d6w rfl rfl (by decide) (hw _))) rfl fun tm hs=>?_
  refine a0f hs rfl rfl rfl rfl fun tm hs=>?_
  refine a0y (b2b (a3a hs rfl ⟨?_,he2⟩))
  rw[List.take_of_length_le hge]; rfl
theorem d9c (s:List UInt8) (hlen:s.length<9223372036854775807) (h:a0a) :
  a0l TB 117 [.str s] h (fun v h'=>v=n32 (4294967295 ^^^ b5g b3k 4294967295 s)∧Ext h h'):=by
 refine b0l rfl rfl rfl fun tm hs=>?_
 refine a1e (a0q ?_)
 refine a0f hs rfl rfl rfl rfl fun tm hs=>?_
 refine a0y (a1e (a0q ?_))
 refine a0f hs rfl rfl rfl rfl fun tm hs=>?_
 refine a9o hs rfl rfl rfl rfl (c0a 0 (by decide) s hlen _) ?_
 rintro _ h1 ⟨rfl,he⟩ tm hs
 refine a0f hs rfl rfl rfl rfl fun tm hs=>?_
 exact a0y (b2b (a3a hs rfl ⟨rfl,he⟩))
def b5l (c:Nat):Nat:=match Nat.beq (Nat.mod c 2) 1 with
 |true=>Nat.xor (Nat.div c 2) 2197175160
 |false=>Nat.div c 2
theorem e0t (c:Nat):b5l c=c7z c:=by
 unfold b5l c7z
 have e1:Nat.mod c 2=c % 2:=rfl
 have e2:Nat.div c 2=c / 2:=rfl
 have e3:Nat.xor (c / 2) 2197175160=(c / 2) ^^^ 2197175160:=rfl
 rw[e1,e2,e3]
 cases h:Nat.beq (c % 2) 1 with
 |true=>rw[if_pos (Nat.eq_of_beq_eq_true h)]
 |false=>rw[if_neg (fun e=>by rw[e] at h; cases h)]
def d6d (i:Nat):Nat:=b5l (b5l (b5l (b5l (b5l (b5l (b5l (b5l i)))))))
theorem e2t (i:Nat):d6d i=b3k i:=by
 unfold d6d
 simp only[e0t]
 rfl
def c3i:Nat→List UInt8→Nat
 |c,[]=>c
 |c,b::l=>c3i (Nat.xor (d6d (Nat.xor (Nat.mod c 256) b.toNat)) (Nat.div c 256)) l
theorem b7k:∀ (l:List UInt8) (c:Nat),c3i c l=b5g b3k c l
 |[],_=>rfl
 |b::l,c=>by
  have e:c3i c (b::l)=c3i (d6d (c % 256 ^^^ b.toNat) ^^^ c / 256) l:=rfl
  rw[e,b7k l,e2t]
  rfl
def b1d (f:FuncId) (args:List AV) (h:a0a):Option (AV×a0a):=match args with
 |[.str s]=>match Nat.beq f 105,Nat.beq f 117 with
  |false,false=>none
  |_,_=>match Nat.ble s.length 1000000 with
   |true=>some (.int .u32 (Int.ofNat (Nat.xor 4294967295 (c3i 4294967295 s))),h)
   |false=>none
 |[.int .u32 (.ofNat c),.str s]=>match Nat.beq f 144,Nat.beq f 160 with
  |false,false=>none
  |_,_=>match Nat.ble s.length 1000000,Nat.blt c 4294967296 with
   |true,true=>some (.int .u32 (Int.ofNat (Nat.xor 4294967295 (c3i (Nat.xor 4294967295 c) s))),h)
   |_,_=>none
 |_=>none
theorem b0h (base:Nat) (w0:World) (f:FuncId) (args:List AV) (h:a0a) (v:AV) (h':a0a) (e:b1d f args h=some (v,h')):a1i Tryz.prog base w0 (.call f args h) (.ret v h'):=by
 unfold b1d at e
 split at e
 ·rename_i s
  have key:f=105∨f=117:=by
   cases h1:Nat.beq f 105 with
   |true=>exact .inl (Nat.eq_of_beq_eq_true h1)
   |false=>cases h2:Nat.beq f 117 with
    |true=>exact .inr (Nat.eq_of_beq_eq_true h2)
    |false=>rw[h1,h2] at e; cases e
  split at e
  ·cases e
  ·split at e
   ·rename_i hl
    have hl:=Nat.le_of_ble_eq_true hl
    simp only[Option.some.injEq,Prod.mk.injEq] at e
    obtain⟨rfl,rfl⟩:=e
    rw[b7k]
    rcases key with rfl|rfl
    ·exact b0p b0q (fun _ _ _=>rfl) (e3x s (by omega) h) rfl
    ·exact b0p b0q (fun _ _ _=>rfl) (d9c s (by omega) h) rfl
   ·cases e
 ·rename_i c s
  have key:f=144∨f=160:=by
   cases h1:Nat.beq f 144 with
   |true=>exact .inl (Nat.eq_of_beq_eq_true h1)
   |false=>cases h2:Nat.beq f 160 with
    |true=>exact .inr (Nat.eq_of_beq_eq_true h2)
    |false=>rw[h1,h2] at e; cases e
  split at e
  ·cases e
  ·split at e
   ·rename_i hl hc
    have hl:=Nat.le_of_ble_eq_true hl
    have hc:=a6h hc
    simp only[Option.some.injEq,Prod.mk.injEq] at e
    obtain⟨rfl,rfl⟩:=e
    rw[b7k]
    rcases key with rfl|rfl
    ·exact b0p b0q (fun _ _ _=>rfl) (c2c c hc s (by omega) h) rfl
    ·exact b0p b0q (fun _ _ _=>rfl) (c0a c hc s (by omega) h) rfl
   ·cases e
 ·cases e
end Go.Proofs.YtmnhbehmjaibgaaGreat
