/- What the functions of this part answer at any input, told by the rules over the evaluator. Conditions: those that each theorem states. -/
import Derived.Test.YtmnhbehmjaibgaaGreatGaj
import Derived.Test.YtmnhbehmjaibgaaGreatGak
import Derived.Test.YtmnhbehmjaibgaaGreatTab
set_option linter.unusedVariables false
set_option linter.unusedSimpArgs false
open Go Ev
namespace Go.Proofs.YtmnhbehmjaibgaaGreat
set_option maxRecDepth 10000
def n32 (n:Nat):AV:=.int .u32 n
def crcB (t:Nat→Nat) (c:Nat) (b:UInt8):Nat:=t (c % 256 ^^^ b.toNat) ^^^ (c / 256)
def crcW (t:Nat→Nat):Nat→List UInt8→Nat
 |c,[]=>c
 |c,b::l=>crcW t (crcB t c b) l
theorem crcW_snoc (t:Nat→Nat) (c:Nat) (l:List UInt8) (b:UInt8):crcW t c (l++[b])=crcB t (crcW t c l) b:=by
 induction l generalizing c with
 |nil=>rfl
 |cons x l ih=>exact ih _
theorem take_snoc {α}{l:List α}{k:Nat}{b:α}(h:l[k]?=some b):l.take (k+1)=l.take k++[b]:=by
 rw[List.take_add_one,h]; rfl
theorem crcW_lt (t:Nat→Nat) (ht:∀ i,i<256→t i<4294967296) (c:Nat) (hc:c<4294967296) (l:List UInt8):crcW t c l<4294967296:=by
 induction l generalizing c with
 |nil=>exact hc
 |cons b l ih =>
  refine ih _ ?_
  unfold crcB
  refine Nat.xor_lt_two_pow (n:=32) (ht _ ?_) (by omega)
  exact Nat.xor_lt_two_pow (n:=8) (by omega) b.toNat_lt
theorem with_gives (t:Nat→Nat) (ht:∀ i,i<256→t i<4294967296) (tbl:List AV) (htb:∀ i,i<256→tbl[i]?=some (n32 (t i))) (c:Nat) (hc:c<4294967296) (s:List UInt8) (hlen:s.length<9223372036854775807) (h:Heap) :
  Gives TB 189 [.agg tbl,n32 c,.str s] h (fun v h'=>v=n32 (4294967295 ^^^ crcW t (4294967295 ^^^ c) s)∧Ext h h'):=by
 have hc0:4294967295 ^^^ c<4294967296:=Nat.xor_lt_two_pow (n:=32) (by decide) hc
 have hw:=crcW_lt t ht (4294967295 ^^^ c) hc0
 refine call_of rfl rfl rfl fun tm hs=>?_
 refine go_seq (go_region ?_)
 refine ops_val hs rfl rfl rfl rfl fun tm hs=>?_
 refine ops_val hs rfl rfl rfl rfl fun tm hs=>?_
 refine ops_nil ?_
 refine go_seq (go_region ?_)
 refine ops_val hs rfl rfl rfl rfl fun tm hs=>?_
 refine ops_val hs rfl rfl (o_un rfl (u_not rfl rfl (by decide) hc)) rfl fun tm hs=>?_
 refine ops_val hs rfl rfl rfl rfl fun tm hs=>?_
 refine ops_nil ?_
 refine go_seq (go_seq (go_region ?_))
 refine ops_val hs rfl rfl rfl rfl fun tm hs=>?_
 refine ops_val hs rfl rfl rfl rfl fun tm hs=>?_
 refine ops_val hs rfl rfl rfl rfl fun tm hs=>?_
 refine ops_nil ?_
 refine go_block ?_
 refine go_loop (fun m st=>∃ (i:Nat) (tm:Tr AV),i+m=s.length∧st=⟨tm,[],none,h.alloc (.cells 242 tbl true)⟩ ∧
  Sees tm [(1,n32 (crcW t (4294967295 ^^^ c) (s.take i))),(2,.str s),(3,.ptr h.next 0),(11,.int .i64 s.length),(12,.int .i64 i)]) (m:=s.length)
  ⟨0,_,by omega,rfl,hs.cons rfl (hs.cons rfl (hs.cons rfl (hs.cons rfl (hs.cons rfl (Sees.nil _)))))⟩ ?_
 rintro m _ ⟨i,tm,him,rfl,hs⟩ next
 refine go_seq (go_region ?_)
 refine ops_val hs rfl rfl rfl rfl fun tm hs=>?_
 refine ops_nil (go_seq ?_)
 refine go_if hs rfl (fun hlt=>?_) (fun hge=>?_)
 ·have hlt:i<s.length:=by simpa using hlt
  have hb:s[i]?=some s[i]:=by simp[hlt]
  have hxl:crcW t (4294967295 ^^^ c) (s.take i) % 256 ^^^ s[i].toNat<256:=Nat.xor_lt_two_pow (n:=8) (by omega) s[i].toNat_lt
  refine go_skip (go_seq (go_block (go_seq (go_region ?_))))
  refine ops_val hs rfl rfl rfl rfl fun tm hs=>?_
  refine ops_val hs rfl rfl rfl rfl fun tm hs=>?_
  refine ops_nil (go_region ?_)
  refine ops_val hs rfl rfl rfl rfl fun tm hs=>?_
  refine ops_val hs rfl rfl (o_conv rfl rfl rfl (wrap_u_mod rfl _)) rfl fun tm hs=>?_
  refine ops_val hs rfl rfl rfl rfl fun tm hs=>?_
  refine ops_val hs rfl rfl rfl rfl fun tm hs=>?_
  refine ops_val hs rfl rfl (o_index_str rfl rfl rfl i rfl hb) rfl fun tm hs=>?_
  refine ops_val hs rfl rfl (o_bin rfl rfl (b_xor rfl (Nat.mod_lt _ (by decide)) s[i].toNat_lt) rfl) rfl fun tm hs=>?_
  refine ops_val hs rfl rfl (o_addr_arr (sz:=1) rfl rfl rfl rfl _ rfl hxl) rfl fun tm hs=>?_
  refine ops_val hs rfl rfl (o_load (v:=n32 (t (crcW t (4294967295 ^^^ c) (s.take i) % 256 ^^^ s[i].toNat))) rfl rfl rfl (get_new _ _) (by simpa using htb _ hxl)) rfl fun tm hs=>?_
  refine ops_val hs rfl rfl rfl rfl fun tm hs=>?_
  refine ops_val hs rfl rfl (o_bin rfl rfl (b_shr (y:=8) (by decide)) rfl) rfl fun tm hs=>?_
  have hq:=hw (s.take i)
  refine ops_val hs rfl rfl (o_bin rfl rfl (b_xor rfl (ht _ hxl) (show _ / 2 ^ 8<2 ^ 32 by omega)) rfl) rfl fun tm hs=>?_
  refine ops_val hs rfl rfl rfl rfl fun tm hs=>?_
  refine ops_nil (go_blk (go_region ?_))
  refine ops_val hs rfl rfl (o_bin rfl rfl (b_add_i64 (z:=((i+1:Nat):Int)) (by simp) (by omega) (by omega)) rfl) rfl fun tm hs=>?_
  refine ops_val hs rfl rfl rfl rfl fun tm hs=>?_
  refine ops_nil (next (m-1) _ (by omega) ⟨i+1,tm,by omega,rfl,?_⟩)
  rw[take_snoc hb,crcW_snoc]
  exact hs.cons rfl (hs.cons rfl (hs.cons rfl (hs.cons rfl (hs.cons rfl (Sees.nil _)))))
 ·have hge:s.length≤i:=by simpa using hge
  refine go_exit rfl (go_seq (go_region ?_))
  refine ops_val hs rfl rfl rfl rfl fun tm hs=>?_
  refine ops_val hs rfl rfl (o_un rfl (u_not rfl rfl (by decide) (hw _))) rfl fun tm hs=>?_
  refine ops_val hs rfl rfl rfl rfl fun tm hs=>?_
  refine ops_nil (go_ret (ends_ret hs rfl ⟨?_,Ext.alloc _ _⟩))
  rw[List.take_of_length_le hge]; rfl
def crcS (c:Nat):Nat:=if c % 2=1 then c / 2 ^^^ 2197175160 else c / 2
def crcR:Nat→Nat→Nat
 |0,c=>c
 |n+1,c=>crcS (crcR n c)
def crcT (i:Nat):Nat:=crcR 8 i
theorem crcS_lt {c:Nat}(h:c<4294967296):crcS c<4294967296:=by
 unfold crcS
 split
 ·exact Nat.xor_lt_two_pow (n:=32) (by omega) (by decide)
 ·omega
theorem crcR_lt {c:Nat}(h:c<4294967296):∀ n,crcR n c<4294967296
 |0=>h
 |n+1=>crcS_lt (crcR_lt h n)
theorem crcT_lt (i:Nat) (h:i<256):crcT i<4294967296:=crcR_lt (by omega) 8
def crcTbl:List AV:=(List.range 256).map fun i=>n32 (crcT i)
theorem crcTbl_get (i:Nat) (h:i<256):crcTbl[i]?=some (n32 (crcT i)):=by
 unfold crcTbl
 simp[h]
def pre (i:Nat):List AV:=(List.range 256).map fun j=>n32 (if j<i then crcT j else 0)
theorem pre_len (i:Nat):(pre i).length=256:=by simp[pre]
theorem pre_all (i:Nat):(pre i).all AV.one=true:=by simp[pre,n32,AV.one]
theorem pre_set (i:Nat) (h:i<256):(pre i).set i (n32 (crcT i))=pre (i+1):=by
 apply List.ext_getElem?
 intro j
 rw[List.getElem?_set]
 unfold pre
 simp only[List.getElem?_map,List.length_map,List.length_range]
 by_cases hj:j<256
 ·by_cases e:i=j
  ·subst e; simp[h]
  ·have:(j<i+1)=(j<i):=by rw[eq_iff_iff]; omega
   have hr:(List.range 256)[j]?=some j:=by rw[List.getElem?_range hj]
   rw[if_neg e,hr]
   simp only[Option.map_some,this]
 ·have:List.range 256=List.range 256:=rfl
  rw[if_neg (by omega),List.getElem?_eq_none (by simp; omega)]; rfl
theorem pre_end:pre 256=crcTbl:=by
 unfold pre crcTbl
 apply List.map_congr_left
 intro j hj
 rw[if_pos (by simpa using hj)]
theorem pre_zero:pre 0=List.replicate 256 (.int .u32 0):=rfl
theorem neg_and (n:Nat):∃ m:Nat,unA .neg (.int .u32 ((n % 2:Nat):Int))=some (.int .u32 (m:Int))∧m<4294967296∧∀ q:Nat,q / 2 ^^^ (2197175160 &&& m)=(if n % 2=1 then q / 2 ^^^ 2197175160 else q / 2):=by
 rcases Nat.mod_two_eq_zero_or_one n with h|h
 ·exact⟨0,by rw[h]; rfl,by decide,fun q=>by rw[if_neg (by omega)]; simp⟩
 ·exact⟨4294967295,by rw[h]; rfl,by decide,fun q=>by rw[if_pos h]; rfl⟩
theorem table_gives (h:Heap):Gives TB 190 [] h (fun v h'=>v=.agg crcTbl∧Ext h h'):=by
 refine call_of rfl rfl rfl fun tm hs=>?_
 refine go_seq (go_region ?_)
 refine ops_val (h':=h.alloc (.cells 242 (pre 0) true)) hs rfl rfl (by rw[pre_zero]; rfl) rfl fun tm hs=>?_
 refine ops_nil (go_seq (go_seq (go_region ?_)))
 refine ops_val hs rfl rfl rfl rfl fun tm hs=>?_
 refine ops_nil (go_block ?_)
 refine go_loop (fun m st=>∃ (i:Nat) (tm:Tr AV) (h1:Heap),i+m=256∧st=⟨tm,[],none,h1⟩∧Ext h h1∧h1.get h.next=some (.cells 242 (pre i) true) ∧
  Sees tm [(0,.ptr h.next 0),(3,.int .i64 i)]) (m:=256)
  ⟨0,_,_,by omega,rfl,Ext.alloc _ _,get_new _ _,hs.cons rfl (hs.cons rfl (Sees.nil _))⟩ ?_
 rintro m _ ⟨i,tm,h1,him,rfl,he,hg,hs⟩ next
 refine go_seq (go_region ?_)
 refine ops_val hs rfl rfl rfl rfl fun tm hs=>?_
 refine ops_nil (go_seq ?_)
 refine go_if hs rfl (fun hlt=>?_) (fun hge=>?_)
 ·have hlt:i<256:=by simp at hlt; omega
  refine go_skip (go_seq (go_block (go_seq (go_region ?_))))
  refine ops_val hs rfl rfl rfl rfl fun tm hs=>?_
  refine ops_val hs rfl rfl rfl rfl fun tm hs=>?_
  refine ops_nil (go_seq (go_region ?_))
  refine ops_val hs rfl rfl rfl rfl fun tm hs=>?_
  refine ops_val hs rfl rfl (o_conv (z:=(i:Int)) rfl rfl rfl (wrap_u rfl _ (show i<2 ^ 32 by omega))) rfl fun tm hs=>?_
  refine ops_val hs rfl rfl rfl rfl fun tm hs=>?_
  refine ops_nil (go_seq (go_seq (go_region ?_)))
  refine ops_val hs rfl rfl rfl rfl fun tm hs=>?_
  refine ops_nil (go_block ?_)
  refine go_loop (fun m st=>∃ (j:Nat) (tm:Tr AV),j+m=8∧st=⟨tm,[],none,h1⟩ ∧
   Sees tm [(0,.ptr h.next 0),(1,.int .i64 i),(2,n32 (crcR j i)),(3,.int .i64 i),(8,.int .i64 j)]) (m:=8)
   ⟨0,_,by omega,rfl,hs.cons rfl (hs.cons rfl (hs.cons rfl (hs.cons rfl (hs.cons rfl (Sees.nil _)))))⟩ ?_
  rintro m' _ ⟨j,tm,hjm,rfl,hs⟩ next2
  refine go_seq (go_region ?_)
  refine ops_val hs rfl rfl rfl rfl fun tm hs=>?_
  refine ops_nil (go_seq ?_)
  refine go_if hs rfl (fun hlt2=>?_) (fun hge2=>?_)
  ·have hlt2:j<8:=by simp at hlt2; omega
   have hcl:crcR j i<4294967296:=crcR_lt (by omega) j
   obtain⟨n1,q1,q2,q3⟩:=neg_and (crcR j i)
   refine go_skip (go_seq (go_block (go_region ?_)))
   refine ops_val hs rfl rfl rfl rfl fun tm hs=>?_
   refine ops_val hs rfl rfl (o_bin rfl rfl (b_shr (y:=1) (by decide)) rfl) rfl fun tm hs=>?_
   refine ops_val hs rfl rfl rfl rfl fun tm hs=>?_
   refine ops_val (v:=.int .u32 ((crcR j i % 2:Nat):Int)) hs rfl rfl (o_bin rfl rfl (by have:=b_and (T:=TB) (t:=22) (k:=.u32) (x:=crcR j i) (y:=1) rfl hcl (by decide); rw[Nat.and_one_is_mod] at this; exact this) rfl) rfl fun tm hs=>?_
   refine ops_val hs rfl rfl (o_un rfl q1) rfl fun tm hs=>?_
   refine ops_val hs rfl rfl (o_bin rfl rfl (b_and (x:=2197175160) rfl (by decide) q2) rfl) rfl fun tm hs=>?_
   refine ops_val (v:=n32 (crcR (j+1) i)) hs rfl rfl (o_bin rfl rfl (by
    have:=b_xor (T:=TB) (t:=22) (k:=.u32) (x:=crcR j i / 2) (y:=2197175160 &&& n1) rfl (show _<2 ^ 32 by omega) (Nat.and_lt_two_pow _ q2)
    rw[q3] at this
    exact this) rfl) rfl fun tm hs=>?_
   refine ops_val hs rfl rfl rfl rfl fun tm hs=>?_
   refine ops_nil (go_blk (go_region ?_))
   refine ops_val hs rfl rfl (o_bin rfl rfl (b_add_i64 (z:=((j+1:Nat):Int)) (by simp) (by omega) (by omega)) rfl) rfl fun tm hs=>?_
   refine ops_val hs rfl rfl rfl rfl fun tm hs=>?_
   exact ops_nil (next2 (m'-1) _ (by omega) ⟨j+1,tm,by omega,rfl,hs.cons rfl (hs.cons rfl (hs.cons rfl (hs.cons rfl (hs.cons rfl (Sees.nil _)))))⟩)
  ·have hge2:j=8:=by simp at hge2; omega
   subst hge2
   refine go_exit rfl (go_region ?_)
   refine ops_val hs rfl rfl rfl rfl fun tm hs=>?_
   refine ops_val hs rfl rfl rfl rfl fun tm hs=>?_
   refine ops_val hs rfl rfl (o_addr_arr (sz:=1) rfl rfl rfl rfl i rfl hlt) rfl fun tm hs=>?_
   refine ops_skip hs rfl rfl (o_store1 (off:=0+i*1) rfl rfl rfl rfl rfl hg (by rw[pre_len]; omega)) ?_
   refine ops_nil (go_blk (go_region ?_))
   refine ops_val hs rfl rfl (o_bin rfl rfl (b_add_i64 (z:=((i+1:Nat):Int)) (by simp) (by omega) (by omega)) rfl) rfl fun tm hs=>?_
   refine ops_val hs rfl rfl rfl rfl fun tm hs=>?_
   refine ops_nil (next (m-1) _ (by omega) ⟨i+1,tm,_,by omega,rfl,he.set (Nat.le_refl _) hg _,?_,hs.cons rfl (hs.cons rfl (Sees.nil _))⟩)
   rw[Heap.get_set,if_pos rfl]
   have e0:0+i*1=i:=by omega
   rw[e0,← pre_set i hlt]; rfl
 ·have hge:i=256:=by simp at hge; omega
  subst hge
  refine go_exit rfl (go_seq (go_region ?_))
  refine ops_val hs rfl rfl (o_loadN (n:=256) rfl rfl rfl hg (by rw[pre_len]; decide)) rfl fun tm hs=>?_
  have e1:((pre 256).drop 0).take 256=crcTbl:=by rw[← pre_end,List.drop_zero,List.take_of_length_le (by rw[pre_len]; decide)]
  rw[e1] at hs
  refine ops_skip hs rfl rfl (o_storeN (n:=256) rfl rfl rfl (by rw[← pre_end,pre_len]) (by rw[← pre_end]; exact pre_all _) hg (by rw[pre_len]; decide)) ?_
  refine ops_nil (go_ret (ends_cell (v:=.agg crcTbl) hs rfl ?_ ⟨rfl,he.set (Nat.le_refl _) hg _⟩))
  have:=loadVar_agg (T:=TB) (t:=242) (h:=h1.set h.next (.cells 242 (over (pre 256) 0 crcTbl) true)) (b:=h.next) (off:=0) (n:=256) (cs:=over (pre 256) 0 crcTbl) (e:=242) (rw:=true) rfl rfl (by rw[Heap.get_set,if_pos rfl]) (by rw[pre_end,over_all _ _ rfl,← pre_end,pre_len]; decide)
  rw[this,pre_end,over_all _ _ rfl,List.drop_zero,List.take_of_length_le (by rw[← pre_end,pre_len]; decide)]
theorem more_gives (c:Nat) (hc:c<4294967296) (s:List UInt8) (hlen:s.length<9223372036854775807) (h:Heap) :
  Gives TB 144 [n32 c,.str s] h (fun v h'=>v=n32 (4294967295 ^^^ crcW crcT (4294967295 ^^^ c) s)∧Ext h h'):=by
 refine call_of rfl rfl rfl fun tm hs=>?_
 refine go_seq (go_region ?_)
 refine ops_val hs rfl rfl rfl rfl fun tm hs=>?_
 refine ops_nil (go_seq (go_region ?_))
 refine ops_call hs rfl rfl rfl rfl (table_gives _) ?_
 rintro _ h1 ⟨rfl,he⟩ tm hs
 refine ops_val hs rfl rfl rfl rfl fun tm hs=>?_
 refine ops_val hs rfl rfl rfl rfl fun tm hs=>?_
 refine ops_call hs rfl rfl rfl rfl (with_gives crcT crcT_lt crcTbl crcTbl_get c hc s hlen _) ?_
 rintro _ h2 ⟨rfl,he2⟩ tm hs
 refine ops_val hs rfl rfl rfl rfl fun tm hs=>?_
 exact ops_nil (go_ret (ends_ret hs rfl ⟨rfl,he.trans he2⟩))
theorem of_gives (s:List UInt8) (hlen:s.length<9223372036854775807) (h:Heap) :
  Gives TB 105 [.str s] h (fun v h'=>v=n32 (4294967295 ^^^ crcW crcT 4294967295 s)∧Ext h h'):=by
 refine call_of rfl rfl rfl fun tm hs=>?_
 refine go_seq (go_region ?_)
 refine ops_val hs rfl rfl rfl rfl fun tm hs=>?_
 refine ops_nil (go_seq (go_region ?_))
 refine ops_val hs rfl rfl rfl rfl fun tm hs=>?_
 refine ops_call hs rfl rfl rfl rfl (more_gives 0 (by decide) s hlen _) ?_
 rintro _ h1 ⟨rfl,he⟩ tm hs
 refine ops_val hs rfl rfl rfl rfl fun tm hs=>?_
 exact ops_nil (go_ret (ends_ret hs rfl ⟨rfl,he⟩))
theorem step_gives (c:Nat) (hc:c<4294967296) (h:Heap):Gives TB 211 [n32 c] h (fun v h'=>v=n32 (crcR 8 c)∧h'=h):=by
 refine call_of rfl rfl rfl fun tm hs=>?_
 refine go_seq (go_region ?_)
 refine ops_val hs rfl rfl rfl rfl fun tm hs=>?_
 refine ops_nil (go_seq (go_seq (go_region ?_)))
 refine ops_val hs rfl rfl rfl rfl fun tm hs=>?_
 refine ops_nil (go_block ?_)
 refine go_loop (fun m st=>∃ (j:Nat) (tm:Tr AV),j+m=8∧st=⟨tm,[],none,h⟩∧Sees tm [(0,n32 (crcR j c)),(3,.int .i64 j)]) (m:=8)
  ⟨0,_,by omega,rfl,hs.cons rfl (hs.cons rfl (Sees.nil _))⟩ ?_
 rintro m _ ⟨j,tm,hjm,rfl,hs⟩ next
 have hcl:crcR j c<4294967296:=crcR_lt hc j
 refine go_seq (go_seq (go_region ?_))
 refine ops_val hs rfl rfl rfl rfl fun tm hs=>?_
 refine ops_val hs rfl rfl rfl rfl fun tm hs=>?_
 refine ops_nil ?_
 refine go_if hs rfl (fun hlt=>?_) (fun hge=>?_)
 ·have hlt:j<8:=by simp at hlt; omega
  refine go_skip (go_seq (go_block (go_seq (go_region ?_))))
  refine ops_val hs rfl rfl rfl rfl fun tm hs=>?_
  refine ops_val (v:=.int .u32 ((crcR j c % 2:Nat):Int)) hs rfl rfl (o_bin rfl rfl (by have:=b_and (T:=TB) (t:=22) (k:=.u32) (x:=crcR j c) (y:=1) rfl hcl (by decide); rw[Nat.and_one_is_mod] at this; exact this) rfl) rfl fun tm hs=>?_
  refine ops_val hs rfl rfl rfl rfl fun tm hs=>?_
  refine ops_nil ?_
  refine go_join (fun st=>∃ tm,st=⟨tm,[],none,h⟩∧Sees tm [(0,n32 (crcR (j+1) c)),(3,.int .i64 j)]) ?_ fun join=>?_
  ·rintro _ ⟨tm,rfl,hs⟩
   refine go_blk (go_region ?_)
   refine ops_val hs rfl rfl rfl rfl fun tm hs=>?_
   refine ops_val hs rfl rfl (o_bin rfl rfl (b_add_i64 (z:=((j+1:Nat):Int)) (by simp) (by omega) (by omega)) rfl) rfl fun tm hs=>?_
   refine ops_val hs rfl rfl rfl rfl fun tm hs=>?_
   exact ops_nil (next (m-1) _ (by omega) ⟨j+1,tm,by omega,rfl,hs.cons rfl (hs.cons rfl (Sees.nil _))⟩)
  ·refine go_if hs rfl (fun ho=>?_) (fun ho=>?_)
   ·have ho:crcR j c % 2=1:=by simp at ho; omega
    have e:crcR (j+1) c=crcR j c / 2 ^^^ 2197175160:=by show crcS _=_; unfold crcS; rw[if_pos ho]
    refine go_region ?_
    refine ops_val hs rfl rfl rfl rfl fun tm hs=>?_
    refine ops_val hs rfl rfl (o_bin rfl rfl (b_shr (y:=1) (by decide)) rfl) rfl fun tm hs=>?_
    refine ops_val hs rfl rfl (o_bin rfl rfl (b_xor (y:=2197175160) rfl (show _ / 2 ^ 1<2 ^ 32 by omega) (by decide)) rfl) rfl fun tm hs=>?_
    refine ops_val hs rfl rfl rfl rfl fun tm hs=>?_
    refine ops_nil (join _ ⟨tm,rfl,?_⟩)
    rw[e]
    exact hs.cons rfl (hs.cons rfl (Sees.nil _))
   ·have ho:¬ crcR j c % 2=1:=by simp at ho; omega
    have e:crcR (j+1) c=crcR j c / 2:=by show crcS _=_; unfold crcS; rw[if_neg ho]
    refine go_region ?_
    refine ops_val hs rfl rfl rfl rfl fun tm hs=>?_
    refine ops_val hs rfl rfl (o_bin rfl rfl (b_shr (y:=1) (by decide)) rfl) rfl fun tm hs=>?_
    refine ops_val hs rfl rfl rfl rfl fun tm hs=>?_
    refine ops_nil (join _ ⟨tm,rfl,?_⟩)
    rw[e]
    exact hs.cons rfl (hs.cons rfl (Sees.nil _))
 ·have hge:j=8:=by simp at hge; omega
  subst hge
  refine go_exit rfl (go_seq (go_region ?_))
  refine ops_val hs rfl rfl rfl rfl fun tm hs=>?_
  refine ops_val hs rfl rfl rfl rfl fun tm hs=>?_
  exact ops_nil (go_ret (ends_ret hs rfl ⟨rfl,rfl⟩))
theorem rtable_gives (h:Heap):Gives TB 197 [] h (fun v h'=>v=.agg crcTbl∧Ext h h'):=by
 refine call_of rfl rfl rfl fun tm hs=>?_
 refine go_seq (go_region ?_)
 refine ops_val (h':=h.alloc (.cells 242 (pre 0) true)) hs rfl rfl (by rw[pre_zero]; rfl) rfl fun tm hs=>?_
 refine ops_nil (go_seq (go_region ?_))
 refine ops_val (h':=(h.alloc (.cells 242 (pre 0) true)).alloc (.cells 242 (pre 0) true)) hs rfl rfl (by rw[pre_zero]; rfl) rfl fun tm hs=>?_
 refine ops_nil (go_seq (go_seq (go_region ?_)))
 refine ops_val hs rfl rfl rfl rfl fun tm hs=>?_
 refine ops_nil (go_block ?_)
 have hnx:(h.alloc (.cells 242 (pre 0) true)).next=h.next+1:=rfl
 refine go_loop (fun m st=>∃ (i:Nat) (tm:Tr AV) (h1:Heap),i+m=256∧st=⟨tm,[],none,h1⟩∧Ext h h1∧h1.get h.next=some (.cells 242 (pre 0) true)∧h1.get (h.next+1)=some (.cells 242 (pre i) true) ∧
  Sees tm [(0,.ptr h.next 0),(1,.ptr (h.next+1) 0),(2,.int .i64 i)]) (m:=256)
  ⟨0,_,_,by omega,rfl,(Ext.alloc _ _).trans (Ext.alloc _ _),by rw[Heap.get_alloc,if_neg (by rw[hnx]; omega)]; exact get_new _ _,get_new _ _,hs.cons rfl (hs.cons rfl (hs.cons rfl (Sees.nil _)))⟩ ?_
 rintro m _ ⟨i,tm,h1,him,rfl,he,hg0,hg,hs⟩ next
 refine go_seq (go_seq (go_region ?_))
 refine ops_val hs rfl rfl rfl rfl fun tm hs=>?_
 refine ops_val hs rfl rfl rfl rfl fun tm hs=>?_
 refine ops_nil ?_
 refine go_if hs rfl (fun hlt=>?_) (fun hge=>?_)
 ·have hlt:i<256:=by simp at hlt; omega
  refine go_skip (go_seq (go_block (go_region ?_)))
  refine ops_val hs rfl rfl rfl rfl fun tm hs=>?_
  refine ops_val hs rfl rfl rfl rfl fun tm hs=>?_
  refine ops_val hs rfl rfl (o_conv (z:=(i:Int)) rfl rfl rfl (wrap_u rfl _ (show i<2 ^ 32 by omega))) rfl fun tm hs=>?_
  refine ops_call hs rfl rfl rfl rfl (step_gives i (by omega) _) ?_
  rintro _ _ ⟨rfl,rfl⟩ tm hs
  refine ops_val hs rfl rfl (o_addr_arr (sz:=1) rfl rfl rfl rfl i rfl hlt) rfl fun tm hs=>?_
  refine ops_skip hs rfl rfl (o_store1 (off:=0+i*1) rfl rfl rfl rfl rfl hg (by rw[pre_len]; omega)) ?_
  refine ops_nil (go_blk (go_region ?_))
  refine ops_val hs rfl rfl rfl rfl fun tm hs=>?_
  refine ops_val hs rfl rfl (o_bin rfl rfl (b_add_i64 (z:=((i+1:Nat):Int)) (by simp) (by omega) (by omega)) rfl) rfl fun tm hs=>?_
  refine ops_val hs rfl rfl rfl rfl fun tm hs=>?_
  refine ops_nil (next (m-1) _ (by omega) ⟨i+1,tm,_,by omega,rfl,he.set (by omega) hg _,by rw[Heap.get_set,if_neg (by omega)]; exact hg0,?_,hs.cons rfl (hs.cons rfl (hs.cons rfl (Sees.nil _)))⟩)
  rw[Heap.get_set,if_pos rfl]
  have e0:0+i*1=i:=by omega
  rw[e0,← pre_set i hlt]; rfl
 ·have hge:i=256:=by simp at hge; omega
  subst hge
  refine go_exit rfl (go_seq (go_region ?_))
  refine ops_val hs rfl rfl (o_loadN (n:=256) rfl rfl rfl hg (by rw[pre_len]; decide)) rfl fun tm hs=>?_
  have e1:((pre 256).drop 0).take 256=crcTbl:=by rw[← pre_end,List.drop_zero,List.take_of_length_le (by rw[pre_len]; decide)]
  rw[e1] at hs
  refine ops_skip hs rfl rfl (o_storeN (n:=256) rfl rfl rfl (by rw[← pre_end,pre_len]) (by rw[← pre_end]; exact pre_all _) hg0 (by rw[pre_len]; decide)) ?_
  refine ops_nil (go_ret (ends_cell (v:=.agg crcTbl) hs rfl ?_ ⟨rfl,he.set (Nat.le_refl _) hg0 _⟩))
  have:=loadVar_agg (T:=TB) (t:=242) (h:=h1.set h.next (.cells 242 (over (pre 0) 0 crcTbl) true)) (b:=h.next) (off:=0) (n:=256) (cs:=over (pre 0) 0 crcTbl) (e:=242) (rw:=true) rfl rfl (by rw[Heap.get_set,if_pos rfl]) (by rw[over_all _ _ (by rw[← pre_end,pre_len,pre_len]),← pre_end,pre_len]; decide)
  rw[this,over_all _ _ (by rw[← pre_end,pre_len,pre_len]),List.drop_zero,List.take_of_length_le (by rw[← pre_end,pre_len]; decide)]
theorem rmore_gives (c:Nat) (hc:c<4294967296) (s:List UInt8) (hlen:s.length<9223372036854775807) (h:Heap) :
  Gives TB 160 [n32 c,.str s] h (fun v h'=>v=n32 (4294967295 ^^^ crcW crcT (4294967295 ^^^ c) s)∧Ext h h'):=by
 have hc0:4294967295 ^^^ c<4294967296:=Nat.xor_lt_two_pow (n:=32) (by decide) hc
 have hw:=crcW_lt crcT crcT_lt (4294967295 ^^^ c) hc0
 have hz:List.replicate 256 (AV.int .u32 0)=pre 0:=rfl
 refine call_of rfl rfl rfl fun tm hs=>?_
 refine go_seq (go_region ?_)
 refine ops_val hs rfl rfl rfl rfl fun tm hs=>?_
 refine ops_nil (go_seq (go_region ?_))
 refine ops_call hs rfl rfl rfl rfl (rtable_gives _) ?_
 rintro _ h1 ⟨rfl,he⟩ tm hs
 refine ops_val (h':=h1.alloc (.cells 242 (pre 0) true)) hs rfl rfl (by rw[← hz]; rfl) rfl fun tm hs=>?_
 refine ops_skip hs rfl rfl (o_storeN (n:=256) rfl rfl rfl (by rw[← pre_end,pre_len]) (by rw[← pre_end]; exact pre_all _) (get_new _ _) (by rw[pre_len]; decide)) ?_
 have hg:(Heap.set (h1.alloc (.cells 242 (pre 0) true)) h1.next (.cells 242 (over (pre 0) 0 crcTbl) true)).get h1.next=some (.cells 242 crcTbl true):=by
  rw[Heap.get_set,if_pos rfl,over_all _ _ (by rw[← pre_end,pre_len,pre_len])]
 have he2:Ext h (Heap.set (h1.alloc (.cells 242 (pre 0) true)) h1.next (.cells 242 (over (pre 0) 0 crcTbl) true)) :=
  (he.trans (Ext.alloc _ _)).set he.nx (get_new _ _) _
 generalize Heap.set (h1.alloc (.cells 242 (pre 0) true)) h1.next (.cells 242 (over (pre 0) 0 crcTbl) true)=h2 at hg he2
 refine ops_nil (go_seq (go_region ?_))
 refine ops_val hs rfl rfl rfl rfl fun tm hs=>?_
 refine ops_val hs rfl rfl (o_un rfl (u_not rfl rfl (by decide) hc)) rfl fun tm hs=>?_
 refine ops_val hs rfl rfl rfl rfl fun tm hs=>?_
 refine ops_nil (go_seq (go_seq (go_region ?_)))
 refine ops_val hs rfl rfl rfl rfl fun tm hs=>?_
 refine ops_nil (go_block ?_)
 refine go_loop (fun m st=>∃ (i:Nat) (tm:Tr AV),i+m=s.length∧st=⟨tm,[],none,h2⟩ ∧
  Sees tm [(1,.str s),(5,.ptr h1.next 0),(6,n32 (crcW crcT (4294967295 ^^^ c) (s.take i))),(7,.int .i64 i)]) (m:=s.length)
  ⟨0,_,by omega,rfl,hs.cons rfl (hs.cons rfl (hs.cons rfl (hs.cons rfl (Sees.nil _))))⟩ ?_
 rintro m _ ⟨i,tm,him,rfl,hs⟩ next
 refine go_seq (go_seq (go_region ?_))
 refine ops_val hs rfl rfl rfl rfl fun tm hs=>?_
 refine ops_val hs rfl rfl rfl rfl fun tm hs=>?_
 refine ops_val hs rfl rfl rfl rfl fun tm hs=>?_
 refine ops_val hs rfl rfl rfl rfl fun tm hs=>?_
 refine ops_nil ?_
 refine go_if hs rfl (fun hlt=>?_) (fun hge=>?_)
 ·have hlt:i<s.length:=by simpa using hlt
  have hb:s[i]?=some s[i]:=by simp[hlt]
  have hxl:crcW crcT (4294967295 ^^^ c) (s.take i) % 256 ^^^ s[i].toNat<256:=Nat.xor_lt_two_pow (n:=8) (by omega) s[i].toNat_lt
  have hq:=hw (s.take i)
  refine go_skip (go_seq (go_block (go_region ?_)))
  refine ops_val hs rfl rfl rfl rfl fun tm hs=>?_
  refine ops_val hs rfl rfl (o_bin rfl rfl (b_shr (y:=8) (by decide)) rfl) rfl fun tm hs=>?_
  refine ops_val hs rfl rfl rfl rfl fun tm hs=>?_
  refine ops_val hs rfl rfl (o_conv rfl rfl rfl (wrap_u_mod rfl _)) rfl fun tm hs=>?_
  refine ops_val hs rfl rfl rfl rfl fun tm hs=>?_
  refine ops_val hs rfl rfl rfl rfl fun tm hs=>?_
  refine ops_val hs rfl rfl (o_index_str rfl rfl rfl i rfl hb) rfl fun tm hs=>?_
  refine ops_val hs rfl rfl (o_bin rfl rfl (b_xor rfl (Nat.mod_lt _ (by decide)) s[i].toNat_lt) rfl) rfl fun tm hs=>?_
  refine ops_val hs rfl rfl (o_addr_arr (sz:=1) rfl rfl rfl rfl _ rfl hxl) rfl fun tm hs=>?_
  refine ops_val hs rfl rfl (o_load (v:=n32 (crcT (crcW crcT (4294967295 ^^^ c) (s.take i) % 256 ^^^ s[i].toNat))) rfl rfl rfl hg (by simpa using crcTbl_get _ hxl)) rfl fun tm hs=>?_
  refine ops_val hs rfl rfl (o_bin rfl rfl (b_xor rfl (show _ / 2 ^ 8<2 ^ 32 by omega) (crcT_lt _ hxl)) rfl) rfl fun tm hs=>?_
  refine ops_val hs rfl rfl rfl rfl fun tm hs=>?_
  refine ops_nil (go_blk (go_region ?_))
  refine ops_val hs rfl rfl rfl rfl fun tm hs=>?_
  refine ops_val hs rfl rfl (o_bin rfl rfl (b_add_i64 (z:=((i+1:Nat):Int)) (by simp) (by omega) (by omega)) rfl) rfl fun tm hs=>?_
  refine ops_val hs rfl rfl rfl rfl fun tm hs=>?_
  refine ops_nil (next (m-1) _ (by omega) ⟨i+1,tm,by omega,rfl,?_⟩)
  rw[take_snoc hb,crcW_snoc,crcB,Nat.xor_comm (crcT _)]
  exact hs.cons rfl (hs.cons rfl (hs.cons rfl (hs.cons rfl (Sees.nil _))))
 ·have hge:s.length≤i:=by simpa using hge
  refine go_exit rfl (go_seq (go_region ?_))
  refine ops_val hs rfl rfl rfl rfl fun tm hs=>?_
  refine ops_val hs rfl rfl (o_un rfl (u_not rfl rfl (by decide) (hw _))) rfl fun tm hs=>?_
  refine ops_val hs rfl rfl rfl rfl fun tm hs=>?_
  refine ops_nil (go_ret (ends_ret hs rfl ⟨?_,he2⟩))
  rw[List.take_of_length_le hge]; rfl
theorem rof_gives (s:List UInt8) (hlen:s.length<9223372036854775807) (h:Heap) :
  Gives TB 117 [.str s] h (fun v h'=>v=n32 (4294967295 ^^^ crcW crcT 4294967295 s)∧Ext h h'):=by
 refine call_of rfl rfl rfl fun tm hs=>?_
 refine go_seq (go_region ?_)
 refine ops_val hs rfl rfl rfl rfl fun tm hs=>?_
 refine ops_nil (go_seq (go_region ?_))
 refine ops_val hs rfl rfl rfl rfl fun tm hs=>?_
 refine ops_call hs rfl rfl rfl rfl (rmore_gives 0 (by decide) s hlen _) ?_
 rintro _ h1 ⟨rfl,he⟩ tm hs
 refine ops_val hs rfl rfl rfl rfl fun tm hs=>?_
 exact ops_nil (go_ret (ends_ret hs rfl ⟨rfl,he⟩))
def crcSF (c:Nat):Nat:=match Nat.beq (Nat.mod c 2) 1 with
 |true=>Nat.xor (Nat.div c 2) 2197175160
 |false=>Nat.div c 2
theorem crcSF_eq (c:Nat):crcSF c=crcS c:=by
 unfold crcSF crcS
 have e1:Nat.mod c 2=c % 2:=rfl
 have e2:Nat.div c 2=c / 2:=rfl
 have e3:Nat.xor (c / 2) 2197175160=(c / 2) ^^^ 2197175160:=rfl
 rw[e1,e2,e3]
 cases h:Nat.beq (c % 2) 1 with
 |true=>rw[if_pos (Nat.eq_of_beq_eq_true h)]
 |false=>rw[if_neg (fun e=>by rw[e] at h; cases h)]
def crcTF (i:Nat):Nat:=crcSF (crcSF (crcSF (crcSF (crcSF (crcSF (crcSF (crcSF i)))))))
theorem crcTF_eq (i:Nat):crcTF i=crcT i:=by
 unfold crcTF
 simp only[crcSF_eq]
 rfl
def crcWF:Nat→List UInt8→Nat
 |c,[]=>c
 |c,b::l=>crcWF (Nat.xor (crcTF (Nat.xor (Nat.mod c 256) b.toNat)) (Nat.div c 256)) l
theorem crcWF_eq:∀ (l:List UInt8) (c:Nat),crcWF c l=crcW crcT c l
 |[],_=>rfl
 |b::l,c=>by
  have e:crcWF c (b::l)=crcWF (crcTF (c % 256 ^^^ b.toNat) ^^^ c / 256) l:=rfl
  rw[e,crcWF_eq l,crcTF_eq]
  rfl
def crcSm (f:FuncId) (args:List AV) (h:Heap):Option (AV×Heap):=match args with
 |[.str s]=>match Nat.beq f 105,Nat.beq f 117 with
  |false,false=>none
  |_,_=>match Nat.ble s.length 1000000 with
   |true=>some (.int .u32 (Int.ofNat (Nat.xor 4294967295 (crcWF 4294967295 s))),h)
   |false=>none
 |[.int .u32 (.ofNat c),.str s]=>match Nat.beq f 144,Nat.beq f 160 with
  |false,false=>none
  |_,_=>match Nat.ble s.length 1000000,Nat.blt c 4294967296 with
   |true,true=>some (.int .u32 (Int.ofNat (Nat.xor 4294967295 (crcWF (Nat.xor 4294967295 c) s))),h)
   |_,_=>none
 |_=>none
theorem crcSm_ok (base:Nat) (w0:World) (f:FuncId) (args:List AV) (h:Heap) (v:AV) (h':Heap) (e:crcSm f args h=some (v,h')):TaskOK Tryz.prog base w0 (.call f args h) (.ret v h'):=by
 unfold crcSm at e
 split at e
 ·rename_i s
  have key:f=105∨f=117:=by
   cases h1:Nat.beq f 105 with
   |true=>exact .inl (Nat.eq_of_beq_eq_true h1)
   |false=>cases h2:Nat.beq f 117 with
    |true=>exact .inr (Nat.eq_of_beq_eq_true h2)
    |false=>rw[h1,h2] at e; cases e
  split at e
  ·cases e
  ·split at e
   ·rename_i hl
    have hl:=Nat.le_of_ble_eq_true hl
    simp only[Option.some.injEq,Prod.mk.injEq] at e
    obtain⟨rfl,rfl⟩:=e
    rw[crcWF_eq]
    rcases key with rfl|rfl
    ·exact sm_of_gives TB_ok (fun _ _ _=>rfl) (of_gives s (by omega) h) rfl
    ·exact sm_of_gives TB_ok (fun _ _ _=>rfl) (rof_gives s (by omega) h) rfl
   ·cases e
 ·rename_i c s
  have key:f=144∨f=160:=by
   cases h1:Nat.beq f 144 with
   |true=>exact .inl (Nat.eq_of_beq_eq_true h1)
   |false=>cases h2:Nat.beq f 160 with
    |true=>exact .inr (Nat.eq_of_beq_eq_true h2)
    |false=>rw[h1,h2] at e; cases e
  split at e
  ·cases e
  ·split at e
   ·rename_i hl hc
    have hl:=Nat.le_of_ble_eq_true hl
    have hc:=blt_lt hc
    simp only[Option.some.injEq,Prod.mk.injEq] at e
    obtain⟨rfl,rfl⟩:=e
    rw[crcWF_eq]
    rcases key with rfl|rfl
    ·exact sm_of_gives TB_ok (fun _ _ _=>rfl) (more_gives c hc s (by omega) h) rfl
    ·exact sm_of_gives TB_ok (fun _ _ _=>rfl) (rmore_gives c hc s (by omega) h) rfl
   ·cases e
 ·cases e
end Go.Proofs.YtmnhbehmjaibgaaGreat
