/- What the functions of this part answer at any input, told by the rules over the evaluator. Conditions: those that each theorem states. -/
import Derived.Test.YtejfbaecadbdiaaGreatGaj
import Derived.Test.YtejfbaecadbdiaaGreatGak
import Derived.Test.YtejfbaecadbdiaaGreatTab
set_option linter.unusedVariables false
set_option linter.unusedSimpArgs false
open Go Ev
namespace Go.Proofs.YtejfbaecadbdiaaGreat
set_option maxRecDepth 10000
def n32 (n:Nat):AV:=.int .u32 n
def e8j (t:Nat→Nat) (c:Nat) (b:UInt8):Nat:=t (c % 256 ^^^ b.toNat) ^^^ (c / 256)
def b5k (t:Nat→Nat):Nat→List UInt8→Nat
 |c,[]=>c
 |c,b::l=>b5k t (e8j t c b) l
theorem c4x (t:Nat→Nat) (c:Nat) (l:List UInt8) (b:UInt8):b5k t c (l++[b])=e8j t (b5k t c l) b:=by
 induction l generalizing c with
 |nil=>rfl
 |cons x l ih=>exact ih _
theorem c4z {α}{l:List α}{k:Nat}{b:α}(h:l[k]?=some b):l.take (k+1)=l.take k++[b]:=by
 rw[List.take_add_one,h]; rfl
theorem c7r (t:Nat→Nat) (ht:∀ i,i<256→t i<4294967296) (c:Nat) (hc:c<4294967296) (l:List UInt8):b5k t c l<4294967296:=by
 induction l generalizing c with
 |nil=>exact hc
 |cons b l ih =>
  refine ih _ ?_
  unfold e8j
  refine Nat.xor_lt_two_pow (n:=32) (ht _ ?_) (by omega)
  exact Nat.xor_lt_two_pow (n:=8) (by omega) b.toNat_lt
theorem d2n (t:Nat→Nat) (ht:∀ i,i<256→t i<4294967296) (tbl:List AV) (htb:∀ i,i<256→tbl[i]?=some (n32 (t i))) (c:Nat) (hc:c<4294967296) (s:List UInt8) (hlen:s.length<9223372036854775807) (h:a0a) :
  a0l TB 175 [.agg tbl,n32 c,.str s] h (fun v h'=>v=n32 (4294967295 ^^^ b5k t (4294967295 ^^^ c) s)∧Ext h h'):=by
 have hc0:4294967295 ^^^ c<4294967296:=Nat.xor_lt_two_pow (n:=32) (by decide) hc
 have hw:=c7r t ht (4294967295 ^^^ c) hc0
 refine b0t rfl rfl rfl fun tm hs=>?_
 refine a1f (a0q ?_)
 refine a0f hs rfl rfl rfl rfl fun tm hs=>?_
 refine a0f hs rfl rfl rfl rfl fun tm hs=>?_
 refine a0z ?_
 refine a1f (a0q ?_)
 refine a0f hs rfl rfl rfl rfl fun tm hs=>?_
 refine a0f hs rfl rfl (e1a rfl (d6g rfl rfl (by decide) hc)) rfl fun tm hs=>?_
 refine a0f hs rfl rfl rfl rfl fun tm hs=>?_
 refine a0z ?_
 refine a1f (a1f (a0q ?_))
 refine a0f hs rfl rfl rfl rfl fun tm hs=>?_
 refine a0f hs rfl rfl rfl rfl fun tm hs=>?_
 refine a0f hs rfl rfl rfl rfl fun tm hs=>?_
 refine a0z ?_
 refine a4p ?_
 refine b2d (fun m st=>∃ (i:Nat) (tm:Tr AV),i+m=s.length∧st=⟨tm,[],none,h.alloc (.cells 193 tbl true)⟩ ∧
  a0m tm [(1,n32 (b5k t (4294967295 ^^^ c) (s.take i))),(2,.str s),(3,.ptr h.next 0),(11,.int .i64 s.length),(12,.int .i64 i)]) (m:=s.length)
  ⟨0,_,by omega,rfl,hs.cons rfl (hs.cons rfl (hs.cons rfl (hs.cons rfl (hs.cons rfl (a0m.nil _)))))⟩ ?_
 rintro m _ ⟨i,tm,him,rfl,hs⟩ next
 refine a1f (a0q ?_)
 refine a0f hs rfl rfl rfl rfl fun tm hs=>?_
 refine a0z (a1f ?_)
 refine b5o hs rfl (fun hlt=>?_) (fun hge=>?_)
 ·have hlt:i<s.length:=by simpa using hlt
  have hb:s[i]?=some s[i]:=by simp[hlt]
  have hxl:b5k t (4294967295 ^^^ c) (s.take i) % 256 ^^^ s[i].toNat<256:=Nat.xor_lt_two_pow (n:=8) (by omega) s[i].toNat_lt
  refine b2u (a1f (a4p (a1f (a0q ?_))))
  refine a0f hs rfl rfl rfl rfl fun tm hs=>?_
  refine a0f hs rfl rfl rfl rfl fun tm hs=>?_
  refine a0z (a0q ?_)
  refine a0f hs rfl rfl rfl rfl fun tm hs=>?_
  refine a0f hs rfl rfl (c3n rfl rfl rfl (c1v rfl _)) rfl fun tm hs=>?_
  refine a0f hs rfl rfl rfl rfl fun tm hs=>?_
  refine a0f hs rfl rfl rfl rfl fun tm hs=>?_
  refine a0f hs rfl rfl (b3u rfl rfl rfl i rfl hb) rfl fun tm hs=>?_
  refine a0f hs rfl rfl (a6n rfl rfl (b8g rfl (Nat.mod_lt _ (by decide)) s[i].toNat_lt) rfl) rfl fun tm hs=>?_
  refine a0f hs rfl rfl (b3d (sz:=1) rfl rfl rfl rfl _ rfl hxl) rfl fun tm hs=>?_
  refine a0f hs rfl rfl (c2b (v:=n32 (t (b5k t (4294967295 ^^^ c) (s.take i) % 256 ^^^ s[i].toNat))) rfl rfl rfl (a0t _ _) (by simpa using htb _ hxl)) rfl fun tm hs=>?_
  refine a0f hs rfl rfl rfl rfl fun tm hs=>?_
  refine a0f hs rfl rfl (a6n rfl rfl (b9z (y:=8) (by decide)) rfl) rfl fun tm hs=>?_
  have hq:=hw (s.take i)
  refine a0f hs rfl rfl (a6n rfl rfl (b8g rfl (ht _ hxl) (show _ / 2 ^ 8<2 ^ 32 by omega)) rfl) rfl fun tm hs=>?_
  refine a0f hs rfl rfl rfl rfl fun tm hs=>?_
  refine a0z (b6s (a0q ?_))
  refine a0f hs rfl rfl (a6n rfl rfl (a8b (z:=((i+1:Nat):Int)) (by simp) (by omega) (by omega)) rfl) rfl fun tm hs=>?_
  refine a0f hs rfl rfl rfl rfl fun tm hs=>?_
  refine a0z (next (m-1) _ (by omega) ⟨i+1,tm,by omega,rfl,?_⟩)
  rw[c4z hb,c4x]
  exact hs.cons rfl (hs.cons rfl (hs.cons rfl (hs.cons rfl (hs.cons rfl (a0m.nil _)))))
 ·have hge:s.length≤i:=by simpa using hge
  refine b2l rfl (a1f (a0q ?_))
  refine a0f hs rfl rfl rfl rfl fun tm hs=>?_
  refine a0f hs rfl rfl (e1a rfl (d6g rfl rfl (by decide) (hw _))) rfl fun tm hs=>?_
  refine a0f hs rfl rfl rfl rfl fun tm hs=>?_
  refine a0z (b3a (a3o hs rfl ⟨?_,Ext.alloc _ _⟩))
  rw[List.take_of_length_le hge]; rfl
def c7e (c:Nat):Nat:=if c % 2=1 then c / 2 ^^^ 2197175160 else c / 2
def b0k:Nat→Nat→Nat
 |0,c=>c
 |n+1,c=>c7e (b0k n c)
def b3o (i:Nat):Nat:=b0k 8 i
theorem e5m {c:Nat}(h:c<4294967296):c7e c<4294967296:=by
 unfold c7e
 split
 ·exact Nat.xor_lt_two_pow (n:=32) (by omega) (by decide)
 ·omega
theorem c0v {c:Nat}(h:c<4294967296):∀ n,b0k n c<4294967296
 |0=>h
 |n+1=>e5m (c0v h n)
theorem c0y (i:Nat) (h:i<256):b3o i<4294967296:=c0v (by omega) 8
def a5g:List AV:=(List.range 256).map fun i=>n32 (b3o i)
theorem c3j (i:Nat) (h:i<256):a5g[i]?=some (n32 (b3o i)):=by
 unfold a5g
 simp[h]
def pre (i:Nat):List AV:=(List.range 256).map fun j=>n32 (if j<i then b3o j else 0)
theorem a2z (i:Nat):(pre i).length=256:=by simp[pre]
theorem c8l (i:Nat):(pre i).all AV.one=true:=by simp[pre,n32,AV.one]
theorem d6p (i:Nat) (h:i<256):(pre i).set i (n32 (b3o i))=pre (i+1):=by
 apply List.ext_getElem?
 intro j
 rw[List.getElem?_set]
 unfold pre
 simp only[List.getElem?_map,List.length_map,List.length_range]
 by_cases hj:j<256
 ·by_cases e:i=j
  ·subst e; simp[h]
  ·have:(j<i+1)=(j<i):=by rw[eq_iff_iff]; omega
   have hr:(List.range 256)[j]?=some j:=by rw[List.getElem?_range hj]
   rw[if_neg e,hr]
   simp only[Option.map_some,this]
 ·have:List.range 256=List.range 256:=rfl
  rw[if_neg (by omega),List.getElem?_eq_none (by simp; omega)]; rfl
theorem a4i:pre 256=a5g:=by
 unfold pre a5g
 apply List.map_congr_left
 intro j hj
 rw[if_pos (by simpa using hj)]
theorem c2w:pre 0=List.replicate 256 (.int .u32 0):=rfl
theorem e8a (n:Nat):∃ m:Nat,unA .neg (.int .u32 ((n % 2:Nat):Int))=some (.int .u32 (m:Int))∧m<4294967296∧∀ q:Nat,q / 2 ^^^ (2197175160 &&& m)=(if n % 2=1 then q / 2 ^^^ 2197175160 else q / 2):=by
 rcases Nat.mod_two_eq_zero_or_one n with h|h
 ·exact⟨0,by rw[h]; rfl,by decide,fun q=>by rw[if_neg (by omega)]; simp⟩
 ·exact⟨4294967295,by rw[h]; rfl,by decide,fun q=>by rw[if_pos h]; rfl⟩
theorem c9o (h:a0a):a0l TB 176 [] h (fun v h'=>v=.agg a5g∧Ext h h'):=by
 refine b0t rfl rfl rfl fun tm hs=>?_
 refine a1f (a0q ?_)
 refine a0f (h':=h.alloc (.cells 193 (pre 0) true)) hs rfl rfl (by rw[c2w]; rfl) rfl fun tm hs=>?_
 refine a0z (a1f (a1f (a0q ?_)))
 refine a0f hs rfl rfl rfl rfl fun tm hs=>?_
 refine a0z (a4p ?_)
 refine b2d (fun m st=>∃ (i:Nat) (tm:Tr AV) (h1:a0a),i+m=256∧st=⟨tm,[],none,h1⟩∧Ext h h1∧h1.get h.next=some (.cells 193 (pre i) true) ∧
  a0m tm [(0,.ptr h.next 0),(3,.int .i64 i)]) (m:=256)
  ⟨0,_,_,by omega,rfl,Ext.alloc _ _,a0t _ _,hs.cons rfl (hs.cons rfl (a0m.nil _))⟩ ?_
 rintro m _ ⟨i,tm,h1,him,rfl,he,hg,hs⟩ next
 refine a1f (a0q ?_)
 refine a0f hs rfl rfl rfl rfl fun tm hs=>?_
 refine a0z (a1f ?_)
 refine b5o hs rfl (fun hlt=>?_) (fun hge=>?_)
 ·have hlt:i<256:=by simp at hlt; omega
  refine b2u (a1f (a4p (a1f (a0q ?_))))
  refine a0f hs rfl rfl rfl rfl fun tm hs=>?_
  refine a0f hs rfl rfl rfl rfl fun tm hs=>?_
  refine a0z (a1f (a0q ?_))
  refine a0f hs rfl rfl rfl rfl fun tm hs=>?_
  refine a0f hs rfl rfl (c3n (z:=(i:Int)) rfl rfl rfl (b6l rfl _ (show i<2 ^ 32 by omega))) rfl fun tm hs=>?_
  refine a0f hs rfl rfl rfl rfl fun tm hs=>?_
  refine a0z (a1f (a1f (a0q ?_)))
  refine a0f hs rfl rfl rfl rfl fun tm hs=>?_
  refine a0z (a4p ?_)
  refine b2d (fun m st=>∃ (j:Nat) (tm:Tr AV),j+m=8∧st=⟨tm,[],none,h1⟩ ∧
   a0m tm [(0,.ptr h.next 0),(1,.int .i64 i),(2,n32 (b0k j i)),(3,.int .i64 i),(8,.int .i64 j)]) (m:=8)
   ⟨0,_,by omega,rfl,hs.cons rfl (hs.cons rfl (hs.cons rfl (hs.cons rfl (hs.cons rfl (a0m.nil _)))))⟩ ?_
  rintro m' _ ⟨j,tm,hjm,rfl,hs⟩ next2
  refine a1f (a0q ?_)
  refine a0f hs rfl rfl rfl rfl fun tm hs=>?_
  refine a0z (a1f ?_)
  refine b5o hs rfl (fun hlt2=>?_) (fun hge2=>?_)
  ·have hlt2:j<8:=by simp at hlt2; omega
   have hcl:b0k j i<4294967296:=c0v (by omega) j
   obtain⟨n1,q1,q2,q3⟩:=e8a (b0k j i)
   refine b2u (a1f (a4p (a0q ?_)))
   refine a0f hs rfl rfl rfl rfl fun tm hs=>?_
   refine a0f hs rfl rfl (a6n rfl rfl (b9z (y:=1) (by decide)) rfl) rfl fun tm hs=>?_
   refine a0f hs rfl rfl rfl rfl fun tm hs=>?_
   refine a0f (v:=.int .u32 ((b0k j i % 2:Nat):Int)) hs rfl rfl (a6n rfl rfl (by have:=d0p (T:=TB) (t:=29) (k:=.u32) (x:=b0k j i) (y:=1) rfl hcl (by decide); rw[Nat.and_one_is_mod] at this; exact this) rfl) rfl fun tm hs=>?_
   refine a0f hs rfl rfl (e1a rfl q1) rfl fun tm hs=>?_
   refine a0f hs rfl rfl (a6n rfl rfl (d0p (x:=2197175160) rfl (by decide) q2) rfl) rfl fun tm hs=>?_
   refine a0f (v:=n32 (b0k (j+1) i)) hs rfl rfl (a6n rfl rfl (by
    have:=b8g (T:=TB) (t:=29) (k:=.u32) (x:=b0k j i / 2) (y:=2197175160 &&& n1) rfl (show _<2 ^ 32 by omega) (Nat.and_lt_two_pow _ q2)
    rw[q3] at this
    exact this) rfl) rfl fun tm hs=>?_
   refine a0f hs rfl rfl rfl rfl fun tm hs=>?_
   refine a0z (b6s (a0q ?_))
   refine a0f hs rfl rfl (a6n rfl rfl (a8b (z:=((j+1:Nat):Int)) (by simp) (by omega) (by omega)) rfl) rfl fun tm hs=>?_
   refine a0f hs rfl rfl rfl rfl fun tm hs=>?_
   exact a0z (next2 (m'-1) _ (by omega) ⟨j+1,tm,by omega,rfl,hs.cons rfl (hs.cons rfl (hs.cons rfl (hs.cons rfl (hs.cons rfl (a0m.nil _)))))⟩)
  ·have hge2:j=8:=by simp at hge2; omega
   subst hge2
   refine b2l rfl (a0q ?_)
   refine a0f hs rfl rfl rfl rfl fun tm hs=>?_
   refine a0f hs rfl rfl rfl rfl fun tm hs=>?_
   refine a0f hs rfl rfl (b3d (sz:=1) rfl rfl rfl rfl i rfl hlt) rfl fun tm hs=>?_
   refine b1m hs rfl rfl (c2f (off:=0+i*1) rfl rfl rfl rfl rfl hg (by rw[a2z]; omega)) ?_
   refine a0z (b6s (a0q ?_))
   refine a0f hs rfl rfl (a6n rfl rfl (a8b (z:=((i+1:Nat):Int)) (by simp) (by omega) (by omega)) rfl) rfl fun tm hs=>?_
   refine a0f hs rfl rfl rfl rfl fun tm hs=>?_
   refine a0z (next (m-1) _ (by omega) ⟨i+1,tm,_,by omega,rfl,he.set (Nat.le_refl _) hg _,?_,hs.cons rfl (hs.cons rfl (a0m.nil _))⟩)
   rw[a0a.a1d,if_pos rfl]
   have e0:0+i*1=i:=by omega
   rw[e0,← d6p i hlt]; rfl
 ·have hge:i=256:=by simp at hge; omega
  subst hge
  refine b2l rfl (a1f (a0q ?_))
  refine a0f hs rfl rfl (c1f (n:=256) rfl rfl rfl hg (by rw[a2z]; decide)) rfl fun tm hs=>?_
  have e1:((pre 256).drop 0).take 256=a5g:=by rw[← a4i,List.drop_zero,List.take_of_length_le (by rw[a2z]; decide)]
  rw[e1] at hs
  refine b1m hs rfl rfl (b8l (n:=256) rfl rfl rfl (by rw[← a4i,a2z]) (by rw[← a4i]; exact c8l _) hg (by rw[a2z]; decide)) ?_
  refine a0z (b3a (c4u (v:=.agg a5g) hs rfl ?_ ⟨rfl,he.set (Nat.le_refl _) hg _⟩))
  have:=b0p (T:=TB) (t:=193) (h:=h1.set h.next (.cells 193 (over (pre 256) 0 a5g) true)) (b:=h.next) (off:=0) (n:=256) (cs:=over (pre 256) 0 a5g) (e:=193) (rw:=true) rfl rfl (by rw[a0a.a1d,if_pos rfl]) (by rw[a4i,b1r _ _ rfl,← a4i,a2z]; decide)
  rw[this,a4i,b1r _ _ rfl,List.drop_zero,List.take_of_length_le (by rw[← a4i,a2z]; decide)]
theorem c2p (c:Nat) (hc:c<4294967296) (s:List UInt8) (hlen:s.length<9223372036854775807) (h:a0a) :
  a0l TB 151 [n32 c,.str s] h (fun v h'=>v=n32 (4294967295 ^^^ b5k b3o (4294967295 ^^^ c) s)∧Ext h h'):=by
 refine b0t rfl rfl rfl fun tm hs=>?_
 refine a1f (a0q ?_)
 refine a0f hs rfl rfl rfl rfl fun tm hs=>?_
 refine a0z (a1f (a0q ?_))
 refine a9z hs rfl rfl rfl rfl (c9o _) ?_
 rintro _ h1 ⟨rfl,he⟩ tm hs
 refine a0f hs rfl rfl rfl rfl fun tm hs=>?_
 refine a0f hs rfl rfl rfl rfl fun tm hs=>?_
 refine a9z hs rfl rfl rfl rfl (d2n b3o c0y a5g c3j c hc s hlen _) ?_
 rintro _ h2 ⟨rfl,he2⟩ tm hs
 refine a0f hs rfl rfl rfl rfl fun tm hs=>?_
 exact a0z (b3a (a3o hs rfl ⟨rfl,he.trans he2⟩))
theorem e0k (s:List UInt8) (hlen:s.length<9223372036854775807) (h:a0a) :
  a0l TB 121 [.str s] h (fun v h'=>v=n32 (4294967295 ^^^ b5k b3o 4294967295 s)∧Ext h h'):=by
 refine b0t rfl rfl rfl fun tm hs=>?_
 refine a1f (a0q ?_)
 refine a0f hs rfl rfl rfl rfl fun tm hs=>?_
 refine a0z (a1f (a0q ?_))
 refine a0f hs rfl rfl rfl rfl fun tm hs=>?_
 refine a9z hs rfl rfl rfl rfl (c2p 0 (by decide) s hlen _) ?_
 rintro _ h1 ⟨rfl,he⟩ tm hs
 refine a0f hs rfl rfl rfl rfl fun tm hs=>?_
 exact a0z (b3a (a3o hs rfl ⟨rfl,he⟩))
theorem d4q (c:Nat) (hc:c<4294967296) (h:a0a):a0l TB 148 [n32 c] h (fun v h'=>v=n32 (b0k 8 c)∧h'=h):=by
 refine b0t rfl rfl rfl fun tm hs=>?_
 refine a1f (a0q ?_)
 refine a0f hs rfl rfl rfl rfl fun tm hs=>?_
 refine a0z (a1f (a1f (a0q ?_)))
 refine a0f hs rfl rfl rfl rfl fun tm hs=>?_
 refine a0z (a4p ?_)
 refine b2d (fun m st=>∃ (j:Nat) (tm:Tr AV),j+m=8∧st=⟨tm,[],none,h⟩∧a0m tm [(0,n32 (b0k j c)),(3,.int .i64 j)]) (m:=8)
  ⟨0,_,by omega,rfl,hs.cons rfl (hs.cons rfl (a0m.nil _))⟩ ?_
 rintro m _ ⟨j,tm,hjm,rfl,hs⟩ next
 have hcl:b0k j c<4294967296:=c0v hc j
 refine a1f (a1f (a0q ?_))
 refine a0f hs rfl rfl rfl rfl fun tm hs=>?_
 refine a0f hs rfl rfl rfl rfl fun tm hs=>?_
 refine a0z ?_
 refine b5o hs rfl (fun hlt=>?_) (fun hge=>?_)
 ·have hlt:j<8:=by simp at hlt; omega
  refine b2u (a1f (a4p (a1f (a0q ?_))))
  refine a0f hs rfl rfl rfl rfl fun tm hs=>?_
  refine a0f (v:=.int .u32 ((b0k j c % 2:Nat):Int)) hs rfl rfl (a6n rfl rfl (by have:=d0p (T:=TB) (t:=29) (k:=.u32) (x:=b0k j c) (y:=1) rfl hcl (by decide); rw[Nat.and_one_is_mod] at this; exact this) rfl) rfl fun tm hs=>?_
  refine a0f hs rfl rfl rfl rfl fun tm hs=>?_
  refine a0z ?_
  refine e8k (fun st=>∃ tm,st=⟨tm,[],none,h⟩∧a0m tm [(0,n32 (b0k (j+1) c)),(3,.int .i64 j)]) ?_ fun join=>?_
  ·rintro _ ⟨tm,rfl,hs⟩
   refine b6s (a0q ?_)
   refine a0f hs rfl rfl rfl rfl fun tm hs=>?_
   refine a0f hs rfl rfl (a6n rfl rfl (a8b (z:=((j+1:Nat):Int)) (by simp) (by omega) (by omega)) rfl) rfl fun tm hs=>?_
   refine a0f hs rfl rfl rfl rfl fun tm hs=>?_
   exact a0z (next (m-1) _ (by omega) ⟨j+1,tm,by omega,rfl,hs.cons rfl (hs.cons rfl (a0m.nil _))⟩)
  ·refine b5o hs rfl (fun ho=>?_) (fun ho=>?_)
   ·have ho:b0k j c % 2=1:=by simp at ho; omega
    have e:b0k (j+1) c=b0k j c / 2 ^^^ 2197175160:=by show c7e _=_; unfold c7e; rw[if_pos ho]
    refine a0q ?_
    refine a0f hs rfl rfl rfl rfl fun tm hs=>?_
    refine a0f hs rfl rfl (a6n rfl rfl (b9z (y:=1) (by decide)) rfl) rfl fun tm hs=>?_
    refine a0f hs rfl rfl (a6n rfl rfl (b8g (y:=2197175160) rfl (show _ / 2 ^ 1<2 ^ 32 by omega) (by decide)) rfl) rfl fun tm hs=>?_
    refine a0f hs rfl rfl rfl rfl fun tm hs=>?_
    refine a0z (join _ ⟨tm,rfl,?_⟩)
    rw[e]
    exact hs.cons rfl (hs.cons rfl (a0m.nil _))
   ·have ho:¬ b0k j c % 2=1:=by simp at ho; omega
    have e:b0k (j+1) c=b0k j c / 2:=by show c7e _=_; unfold c7e; rw[if_neg ho]
    refine a0q ?_
    refine a0f hs rfl rfl rfl rfl fun tm hs=>?_
    refine a0f hs rfl rfl (a6n rfl rfl (b9z (y:=1) (by decide)) rfl) rfl fun tm hs=>?_
    refine a0f hs rfl rfl rfl rfl fun tm hs=>?_
    refine a0z (join _ ⟨tm,rfl,?_⟩)
    rw[e]
    exact hs.cons rfl (hs.cons rfl (a0m.nil _))
 ·have hge:j=8:=by simp at hge; omega
  subst hge
  refine b2l rfl (a1f (a0q ?_))
  refine a0f hs rfl rfl rfl rfl fun tm hs=>?_
  refine a0f hs rfl rfl rfl rfl fun tm hs=>?_
  exact a0z (b3a (a3o hs rfl ⟨rfl,rfl⟩))
theorem c8t (h:a0a):a0l TB 115 [] h (fun v h'=>v=.agg a5g∧Ext h h'):=by
 refine b0t rfl rfl rfl fun tm hs=>?_
 refine a1f (a0q ?_)
 refine a0f (h':=h.alloc (.cells 193 (pre 0) true)) hs rfl rfl (by rw[c2w]; rfl) rfl fun tm hs=>?_
 refine a0z (a1f (a0q ?_))
 refine a0f (h':=(h.alloc (.cells 193 (pre 0) true)).alloc (.cells 193 (pre 0) true)) hs rfl rfl (by rw[c2w]; rfl) rfl fun tm hs=>?_
 refine a0z (a1f (a1f (a0q ?_)))
 refine a0f hs rfl rfl rfl rfl fun tm hs=>?_
 refine a0z (a4p ?_)
 have hnx:(h.alloc (.cells 193 (pre 0) true)).next=h.next+1:=rfl
 refine b2d (fun m st=>∃ (i:Nat) (tm:Tr AV) (h1:a0a),i+m=256∧st=⟨tm,[],none,h1⟩∧Ext h h1∧h1.get h.next=some (.cells 193 (pre 0) true)∧h1.get (h.next+1)=some (.cells 193 (pre i) true) ∧
  a0m tm [(0,.ptr h.next 0),(1,.ptr (h.next+1) 0),(2,.int .i64 i)]) (m:=256)
  ⟨0,_,_,by omega,rfl,(Ext.alloc _ _).trans (Ext.alloc _ _),by rw[a0a.a4f,if_neg (by rw[hnx]; omega)]; exact a0t _ _,a0t _ _,hs.cons rfl (hs.cons rfl (hs.cons rfl (a0m.nil _)))⟩ ?_
 rintro m _ ⟨i,tm,h1,him,rfl,he,hg0,hg,hs⟩ next
 refine a1f (a1f (a0q ?_))
 refine a0f hs rfl rfl rfl rfl fun tm hs=>?_
 refine a0f hs rfl rfl rfl rfl fun tm hs=>?_
 refine a0z ?_
 refine b5o hs rfl (fun hlt=>?_) (fun hge=>?_)
 ·have hlt:i<256:=by simp at hlt; omega
  refine b2u (a1f (a4p (a0q ?_)))
  refine a0f hs rfl rfl rfl rfl fun tm hs=>?_
  refine a0f hs rfl rfl rfl rfl fun tm hs=>?_
  refine a0f hs rfl rfl (c3n (z:=(i:Int)) rfl rfl rfl (b6l rfl _ (show i<2 ^ 32 by omega))) rfl fun tm hs=>?_
  refine a9z hs rfl rfl rfl rfl (d4q i (by omega) _) ?_
  rintro _ _ ⟨rfl,rfl⟩ tm hs
  refine a0f hs rfl rfl (b3d (sz:=1) rfl rfl rfl rfl i rfl hlt) rfl fun tm hs=>?_
  refine b1m hs rfl rfl (c2f (off:=0+i*1) rfl rfl rfl rfl rfl hg (by rw[a2z]; omega)) ?_
  refine a0z (b6s (a0q ?_))
  refine a0f hs rfl rfl rfl rfl fun tm hs=>?_
  refine a0f hs rfl rfl (a6n rfl rfl (a8b (z:=((i+1:Nat):Int)) (by simp) (by omega) (by omega)) rfl) rfl fun tm hs=>?_
  refine a0f hs rfl rfl rfl rfl fun tm hs=>?_
  refine a0z (next (m-1) _ (by omega) ⟨i+1,tm,_,by omega,rfl,he.set (by omega) hg _,by rw[a0a.a1d,if_neg (by omega)]; exact hg0,?_,hs.cons rfl (hs.cons rfl (hs.cons rfl (a0m.nil _)))⟩)
  rw[a0a.a1d,if_pos rfl]
  have e0:0+i*1=i:=by omega
  rw[e0,← d6p i hlt]; rfl
 ·have hge:i=256:=by simp at hge; omega
  subst hge
  refine b2l rfl (a1f (a0q ?_))
  refine a0f hs rfl rfl (c1f (n:=256) rfl rfl rfl hg (by rw[a2z]; decide)) rfl fun tm hs=>?_
  have e1:((pre 256).drop 0).take 256=a5g:=by rw[← a4i,List.drop_zero,List.take_of_length_le (by rw[a2z]; decide)]
  rw[e1] at hs
  refine b1m hs rfl rfl (b8l (n:=256) rfl rfl rfl (by rw[← a4i,a2z]) (by rw[← a4i]; exact c8l _) hg0 (by rw[a2z]; decide)) ?_
  refine a0z (b3a (c4u (v:=.agg a5g) hs rfl ?_ ⟨rfl,he.set (Nat.le_refl _) hg0 _⟩))
  have:=b0p (T:=TB) (t:=193) (h:=h1.set h.next (.cells 193 (over (pre 0) 0 a5g) true)) (b:=h.next) (off:=0) (n:=256) (cs:=over (pre 0) 0 a5g) (e:=193) (rw:=true) rfl rfl (by rw[a0a.a1d,if_pos rfl]) (by rw[b1r _ _ (by rw[← a4i,a2z,a2z]),← a4i,a2z]; decide)
  rw[this,b1r _ _ (by rw[← a4i,a2z,a2z]),List.drop_zero,List.take_of_length_le (by rw[← a4i,a2z]; decide)]
theorem c0c (c:Nat) (hc:c<4294967296) (s:List UInt8) (hlen:s.length<9223372036854775807) (h:a0a) :
  a0l TB 90 [n32 c,.str s] h (fun v h'=>v=n32 (4294967295 ^^^ b5k b3o (4294967295 ^^^ c) s)∧Ext h h'):=by
 have hc0:4294967295 ^^^ c<4294967296:=Nat.xor_lt_two_pow (n:=32) (by decide) hc
 have hw:=c7r b3o c0y (4294967295 ^^^ c) hc0
 have hz:List.replicate 256 (AV.int .u32 0)=pre 0:=rfl
 refine b0t rfl rfl rfl fun tm hs=>?_
 refine a1f (a0q ?_)
 refine a0f hs rfl rfl rfl rfl fun tm hs=>?_
 refine a0z (a1f (a0q ?_))
 refine a9z hs rfl rfl rfl rfl (c8t _) ?_
 rintro _ h1 ⟨rfl,he⟩ tm hs
 refine a0f (h':=h1.alloc (.cells 193 (pre 0) true)) hs rfl rfl (by rw[← hz]; rfl) rfl fun tm hs=>?_
 refine b1m hs rfl rfl (b8l (n:=256) rfl rfl rfl (by rw[← a4i,a2z]) (by rw[← a4i]; exact c8l _) (a0t _ _) (by rw[a2z]; decide)) ?_
 have hg:(a0a.set (h1.alloc (.cells 193 (pre 0) true)) h1.next (.cells 193 (over (pre 0) 0 a5g) true)).get h1.next=some (.cells 193 a5g true):=by
  rw[a0a.a1d,if_pos rfl,b1r _ _ (by rw[← a4i,a2z,a2z])]
 have he2:Ext h (a0a.set (h1.alloc (.cells 193 (pre 0) true)) h1.next (.cells 193 (over (pre 0) 0 a5g) true)) :=
  (he.trans (Ext.alloc _ _)).set he.nx (a0t _ _) _
 generalize a0a.set (h1.alloc (.cells 193 (pre 0) true)) h1.next (.cells 193 (over (pre 0) 0 a5g) true)=h2 at hg he2
 refine a0z (a1f (a0q ?_))
 refine a0f hs rfl rfl rfl rfl fun tm hs=>?_
 refine a0f hs rfl rfl (e1a rfl (d6g rfl rfl (by decide) hc)) rfl fun tm hs=>?_
 refine a0f hs rfl rfl rfl rfl fun tm hs=>?_
 refine a0z (a1f (a1f (a0q ?_)))
 refine a0f hs rfl rfl rfl rfl fun tm hs=>?_
 refine a0z (a4p ?_)
 refine b2d (fun m st=>∃ (i:Nat) (tm:Tr AV),i+m=s.length∧st=⟨tm,[],none,h2⟩ ∧
  a0m tm [(1,.str s),(5,.ptr h1.next 0),(6,n32 (b5k b3o (4294967295 ^^^ c) (s.take i))),(7,.int .i64 i)]) (m:=s.length)
  ⟨0,_,by omega,rfl,hs.cons rfl (hs.cons rfl (hs.cons rfl (hs.cons rfl (a0m.nil _))))⟩ ?_
 rintro m _ ⟨i,tm,him,rfl,hs⟩ next
 refine a1f (a1f (a0q ?_))
 refine a0f hs rfl rfl rfl rfl fun tm hs=>?_
 refine a0f hs rfl rfl rfl rfl fun tm hs=>?_
 refine a0f hs rfl rfl rfl rfl fun tm hs=>?_
 refine a0f hs rfl rfl rfl rfl fun tm hs=>?_
 refine a0z ?_
 refine b5o hs rfl (fun hlt=>?_) (fun hge=>?_)
 ·have hlt:i<s.length:=by simpa using hlt
  have hb:s[i]?=some s[i]:=by simp[hlt]
  have hxl:b5k b3o (4294967295 ^^^ c) (s.take i) % 256 ^^^ s[i].toNat<256:=Nat.xor_lt_two_pow (n:=8) (by omega) s[i].toNat_lt
  have hq:=hw (s.take i)
  refine b2u (a1f (a4p (a0q ?_)))
  refine a0f hs rfl rfl rfl rfl fun tm hs=>?_
  refine a0f hs rfl rfl (a6n rfl rfl (b9z (y:=8) (by decide)) rfl) rfl fun tm hs=>?_
  refine a0f hs rfl rfl rfl rfl fun tm hs=>?_
  refine a0f hs rfl rfl (c3n rfl rfl rfl (c1v rfl _)) rfl fun tm hs=>?_
  refine a0f hs rfl rfl rfl rfl fun tm hs=>?_
  refine a0f hs rfl rfl rfl rfl fun tm hs=>?_
  refine a0f hs rfl rfl (b3u rfl rfl rfl i rfl hb) rfl fun tm hs=>?_
  refine a0f hs rfl rfl (a6n rfl rfl (b8g rfl (Nat.mod_lt _ (by decide)) s[i].toNat_lt) rfl) rfl fun tm hs=>?_
  refine a0f hs rfl rfl (b3d (sz:=1) rfl rfl rfl rfl _ rfl hxl) rfl fun tm hs=>?_
  refine a0f hs rfl rfl (c2b (v:=n32 (b3o (b5k b3o (4294967295 ^^^ c) (s.take i) % 256 ^^^ s[i].toNat))) rfl rfl rfl hg (by simpa using c3j _ hxl)) rfl fun tm hs=>?_
  refine a0f hs rfl rfl (a6n rfl rfl (b8g rfl (show _ / 2 ^ 8<2 ^ 32 by omega) (c0y _ hxl)) rfl) rfl fun tm hs=>?_
  refine a0f hs rfl rfl rfl rfl fun tm hs=>?_
  refine a0z (b6s (a0q ?_))
  refine a0f hs rfl rfl rfl rfl fun tm hs=>?_
  refine a0f hs rfl rfl (a6n rfl rfl (a8b (z:=((i+1:Nat):Int)) (by simp) (by omega) (by omega)) rfl) rfl fun tm hs=>?_
  refine a0f hs rfl rfl rfl rfl fun tm hs=>?_
  refine a0z (next (m-1) _ (by omega) ⟨i+1,tm,by omega,rfl,?_⟩)
  rw[c4z hb,c4x,e8j,Nat.xor_comm (b3o _)]
  exact hs.cons rfl (hs.cons rfl (hs.cons rfl (hs.cons rfl (a0m.nil _))))
 ·have hge:s.length≤i:=by simpa using hge
  refine b2l rfl (a1f (a0q ?_))
  refine a0f hs rfl rfl rfl rfl fun tm hs=>?_
  refine a0f hs rfl rfl (e1a rfl (d6g rfl rfl (by decide) (hw _))) rfl fun tm hs=>?_
  refine a0f hs rfl rfl rfl rfl fun tm hs=>?_
  refine a0z (b3a (a3o hs rfl ⟨?_,he2⟩))
  rw[List.take_of_length_le hge]; rfl
theorem d7t (s:List UInt8) (hlen:s.length<9223372036854775807) (h:a0a) :
  a0l TB 54 [.str s] h (fun v h'=>v=n32 (4294967295 ^^^ b5k b3o 4294967295 s)∧Ext h h'):=by
 refine b0t rfl rfl rfl fun tm hs=>?_
 refine a1f (a0q ?_)
 refine a0f hs rfl rfl rfl rfl fun tm hs=>?_
 refine a0z (a1f (a0q ?_))
 refine a0f hs rfl rfl rfl rfl fun tm hs=>?_
 refine a9z hs rfl rfl rfl rfl (c0c 0 (by decide) s hlen _) ?_
 rintro _ h1 ⟨rfl,he⟩ tm hs
 refine a0f hs rfl rfl rfl rfl fun tm hs=>?_
 exact a0z (b3a (a3o hs rfl ⟨rfl,he⟩))
def b5u (c:Nat):Nat:=match Nat.beq (Nat.mod c 2) 1 with
 |true=>Nat.xor (Nat.div c 2) 2197175160
 |false=>Nat.div c 2
theorem e1z (c:Nat):b5u c=c7e c:=by
 unfold b5u c7e
 have e1:Nat.mod c 2=c % 2:=rfl
 have e2:Nat.div c 2=c / 2:=rfl
 have e3:Nat.xor (c / 2) 2197175160=(c / 2) ^^^ 2197175160:=rfl
 rw[e1,e2,e3]
 cases h:Nat.beq (c % 2) 1 with
 |true=>rw[if_pos (Nat.eq_of_beq_eq_true h)]
 |false=>rw[if_neg (fun e=>by rw[e] at h; cases h)]
def d6y (i:Nat):Nat:=b5u (b5u (b5u (b5u (b5u (b5u (b5u (b5u i)))))))
theorem e2n (i:Nat):d6y i=b3o i:=by
 unfold d6y
 simp only[e1z]
 rfl
def c4e:Nat→List UInt8→Nat
 |c,[]=>c
 |c,b::l=>c4e (Nat.xor (d6y (Nat.xor (Nat.mod c 256) b.toNat)) (Nat.div c 256)) l
theorem b8j:∀ (l:List UInt8) (c:Nat),c4e c l=b5k b3o c l
 |[],_=>rfl
 |b::l,c=>by
  have e:c4e c (b::l)=c4e (d6y (c % 256 ^^^ b.toNat) ^^^ c / 256) l:=rfl
  rw[e,b8j l,e2n]
  rfl
def b1d (f:FuncId) (args:List AV) (h:a0a):Option (AV×a0a):=match args with
 |[.str s]=>match Nat.beq f 121,Nat.beq f 54 with
  |false,false=>none
  |_,_=>match Nat.ble s.length 1000000 with
   |true=>some (.int .u32 (Int.ofNat (Nat.xor 4294967295 (c4e 4294967295 s))),h)
   |false=>none
 |[.int .u32 (.ofNat c),.str s]=>match Nat.beq f 151,Nat.beq f 90 with
  |false,false=>none
  |_,_=>match Nat.ble s.length 1000000,Nat.blt c 4294967296 with
   |true,true=>some (.int .u32 (Int.ofNat (Nat.xor 4294967295 (c4e (Nat.xor 4294967295 c) s))),h)
   |_,_=>none
 |_=>none
theorem a9o (base:Nat) (w0:World) (f:FuncId) (args:List AV) (h:a0a) (v:AV) (h':a0a) (e:b1d f args h=some (v,h')):a1j Tryz.prog base w0 (.call f args h) (.ret v h'):=by
 unfold b1d at e
 split at e
 ·rename_i s
  have key:f=121∨f=54:=by
   cases h1:Nat.beq f 121 with
   |true=>exact .inl (Nat.eq_of_beq_eq_true h1)
   |false=>cases h2:Nat.beq f 54 with
    |true=>exact .inr (Nat.eq_of_beq_eq_true h2)
    |false=>rw[h1,h2] at e; cases e
  split at e
  ·cases e
  ·split at e
   ·rename_i hl
    have hl:=Nat.le_of_ble_eq_true hl
    simp only[Option.some.injEq,Prod.mk.injEq] at e
    obtain⟨rfl,rfl⟩:=e
    rw[b8j]
    rcases key with rfl|rfl
    ·exact b0r b0s (fun _ _ _=>rfl) (e0k s (by omega) h) rfl
    ·exact b0r b0s (fun _ _ _=>rfl) (d7t s (by omega) h) rfl
   ·cases e
 ·rename_i c s
  have key:f=151∨f=90:=by
   cases h1:Nat.beq f 151 with
   |true=>exact .inl (Nat.eq_of_beq_eq_true h1)
   |false=>cases h2:Nat.beq f 90 with
    |true=>exact .inr (Nat.eq_of_beq_eq_true h2)
    |false=>rw[h1,h2] at e; cases e
  split at e
  ·cases e
  ·split at e
   ·rename_i hl hc
    have hl:=Nat.le_of_ble_eq_true hl
    have hc:=a6h hc
    simp only[Option.some.injEq,Prod.mk.injEq] at e
    obtain⟨rfl,rfl⟩:=e
    rw[b8j]
    rcases key with rfl|rfl
    ·exact b0r b0s (fun _ _ _=>rfl) (c2p c hc s (by omega) h) rfl
    ·exact b0r b0s (fun _ _ _=>rfl) (c0c c hc s (by omega) h) rfl
   ·cases e
 ·cases e
end Go.Proofs.YtejfbaecadbdiaaGreat
