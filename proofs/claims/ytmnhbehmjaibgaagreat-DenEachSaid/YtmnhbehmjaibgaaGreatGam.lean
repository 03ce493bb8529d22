/- A part of an evaluator of the program's form in Lean, of the proof that what it says of a call is what the machine does, and of the rules by which proofs walk over it. Conditions: those that each theorem states. -/
import Derived.Test.YtmnhbehmjaibgaaGreatGaj
set_option linter.unusedVariables false
set_option linter.unusedSimpArgs false
section
namespace Ev
open Go
variable {T:Tabs}{ρ:Operand→Option AV}{h h':Heap}{dst:Option Tmp}{ty:TypeId}{pos:String}{aft:Array Edge}{gd:Option (Nat×Bool)}{t:TypeId}{x ix a y z:Operand}{k:IntKind}{i j:Int}
theorem b_lss_t (h:i<j):binA T .lss t (.int k i) (.int k j)=some (.bool true):=by simp[binA,intOp,h]
theorem b_lss_f (h:¬ i<j):binA T .lss t (.int k i) (.int k j)=some (.bool false):=by simp[binA,intOp]; omega
theorem b_leq_t (h:i≤j):binA T .leq t (.int k i) (.int k j)=some (.bool true):=by simp[binA,intOp,h]
theorem b_leq_f (h:¬ i≤j):binA T .leq t (.int k i) (.int k j)=some (.bool false):=by simp[binA,intOp]; omega
theorem b_gtr_t (h:j<i):binA T .gtr t (.int k i) (.int k j)=some (.bool true):=by simp[binA,intOp,h]
theorem b_gtr_f (h:¬ j<i):binA T .gtr t (.int k i) (.int k j)=some (.bool false):=by simp[binA,intOp]; omega
theorem b_geq_t (h:j≤i):binA T .geq t (.int k i) (.int k j)=some (.bool true):=by simp[binA,intOp,h]
theorem b_geq_f (h:¬ j≤i):binA T .geq t (.int k i) (.int k j)=some (.bool false):=by simp[binA,intOp]; omega
theorem b_eql_t (h:i=j):binA T .eql t (.int k i) (.int k j)=some (.bool true):=by simp[binA,intOp,h]
theorem b_eql_f (h:i≠j):binA T .eql t (.int k i) (.int k j)=some (.bool false):=by simp[binA,intOp,h]
theorem b_neq_t (h:i≠j):binA T .neq t (.int k i) (.int k j)=some (.bool true):=by simp[binA,intOp,h]
theorem b_neq_f (h:i=j):binA T .neq t (.int k i) (.int k j)=some (.bool false):=by simp[binA,intOp,h]
theorem b_lss_d:binA T .lss t (.int k i) (.int k j)=some (.bool (decide (i<j))):=by simp[binA,intOp]
theorem b_leq_d:binA T .leq t (.int k i) (.int k j)=some (.bool (decide (i≤j))):=by simp[binA,intOp]
theorem b_gtr_d:binA T .gtr t (.int k i) (.int k j)=some (.bool (decide (j<i))):=by simp[binA,intOp]
theorem b_geq_d:binA T .geq t (.int k i) (.int k j)=some (.bool (decide (j≤i))):=by simp[binA,intOp]
theorem b_eql_d:binA T .eql t (.int k i) (.int k j)=some (.bool (decide (i=j))):=by simp[binA,intOp]; rfl
theorem b_neq_d:binA T .neq t (.int k i) (.int k j)=some (.bool (decide (i≠j))):=by simp[binA,intOp]; by_cases e:i=j<;>simp[e]
theorem bytesEq_iff {x y:List UInt8}:bytesEq x y=true↔x=y:=by rw[bytesEq_eq]; simp
theorem bytesEq_no {x y:List UInt8}(h:x≠y):bytesEq x y=false:=by
 cases e:bytesEq x y with
 |false=>rfl
 |true=>exact absurd (bytesEq_iff.mp e) h
theorem b_eqs_t {a b:List UInt8}(e:a=b):binA T .eql t (.str a) (.str b)=some (.bool true):=by
 show some (AV.bool (bytesEq a b))=_
 rw[bytesEq_iff.mpr e]
theorem b_eqs_f {a b:List UInt8}(e:a≠b):binA T .eql t (.str a) (.str b)=some (.bool false):=by
 show some (AV.bool (bytesEq a b))=_
 rw[bytesEq_no e]
theorem b_nes_t {a b:List UInt8}(e:a≠b):binA T .neq t (.str a) (.str b)=some (.bool true):=by
 show some (AV.bool (!bytesEq a b))=_
 rw[bytesEq_no e]; rfl
theorem b_nes_f {a b:List UInt8}(e:a=b):binA T .neq t (.str a) (.str b)=some (.bool false):=by
 show some (AV.bool (!bytesEq a b))=_
 rw[bytesEq_iff.mpr e]; rfl
theorem b_cat {a b:List UInt8}(e:a.length+b.length≤140737488355328):binA T .add t (.str a) (.str b)=some (.str (a++b)):=by
 show(if _ then _ else _)=_
 rw[if_pos e]
theorem wrap_u8 (h1:0≤i) (h2:i<256):IntKind.u8.wrap i=i:=by
 unfold IntKind.wrap
 simp only[IntKind.bits,IntKind.signed]
 simp
 omega
theorem wrap_u32 (h1:0≤i) (h2:i<4294967296):IntKind.u32.wrap i=i:=by
 unfold IntKind.wrap
 simp only[IntKind.bits,IntKind.signed]
 simp
 omega
theorem wrap_u64 (h1:0≤i) (h2:i<18446744073709551616):IntKind.u64.wrap i=i:=by
 unfold IntKind.wrap
 simp only[IntKind.bits,IntKind.signed]
 simp
 omega
theorem b_mul_i64 {z:Int}(hz:i*j=z) (h1 : -9223372036854775808≤z) (h2:z<9223372036854775808):binA T .mul t (.int .i64 i) (.int .i64 j)=some (.int .i64 z):=by
 subst hz
 simp only[binA,if_true,intOp,wrap_i64 h1 h2]
theorem b_quo_i64 {z:Int}(hj:j≠0) (hz:i.tdiv j=z) (h1 : -9223372036854775808≤z) (h2:z<9223372036854775808):binA T .quo t (.int .i64 i) (.int .i64 j)=some (.int .i64 z):=by
 subst hz
 simp only[binA,if_true,intOp,if_neg hj,wrap_i64 h1 h2]
theorem b_rem (hj:j≠0):binA T .rem t (.int k i) (.int k j)=some (.int k (i.tmod j)):=by
 simp only[binA,if_true,intOp,if_neg hj]
theorem b_add_u32 {z:Int}(hz:i+j=z) (h1:0≤z) (h2:z<4294967296):binA T .add t (.int .u32 i) (.int .u32 j)=some (.int .u32 z):=by
 subst hz
 simp only[binA,if_true,intOp,wrap_u32 h1 h2]
theorem b_sub_u32 {z:Int}(hz:i-j=z) (h1:0≤z) (h2:z<4294967296):binA T .sub t (.int .u32 i) (.int .u32 j)=some (.int .u32 z):=by
 subst hz
 simp only[binA,if_true,intOp,wrap_u32 h1 h2]
theorem b_add_u64 {z:Int}(hz:i+j=z) (h1:0≤z) (h2:z<18446744073709551616):binA T .add t (.int .u64 i) (.int .u64 j)=some (.int .u64 z):=by
 subst hz
 simp only[binA,if_true,intOp,wrap_u64 h1 h2]
theorem o_ix_nat {s:List UInt8}{n:Nat}(ht:T.und t=some .string) (hx:ρ x=some (.str s)) (hi:ρ ix=some (.int k (n:Int))) (hn:n<s.length) :
  opA T ρ ⟨dst,.index t x ix,ty,pos,aft,gd⟩ h=.val (.int .u8 ((s.getD n 0).toNat:Nat)) h :=
 o_index_str ht hx hi n rfl (by rw[List.getElem?_eq_getElem hn]; simp[List.getD,List.getElem?_eq_getElem hn])
theorem o_sub_to {s:List UInt8}{n:Nat}(hx:ρ x=some (.str s)) (hy:ρ y=some (.int .i64 n)) (ht:T.und t=some .string) (hk:n≤s.length) :
  opA T ρ ⟨dst,.slice t x none (some y) none,ty,pos,aft,gd⟩ h=.val (.str (s.take n)) h:=by
 have hk1:(n:Int)≤s.length:=by omega
 simp[opA,optOp,hx,hy,sliceA,ht,boundsA,mxA,hiA,loA,boundA,hk,rv,cut]
theorem o_sub_from {s:List UInt8}{n:Nat}(hx:ρ x=some (.str s)) (hy:ρ y=some (.int .i64 n)) (ht:T.und t=some .string) (hk:n≤s.length) :
  opA T ρ ⟨dst,.slice t x (some y) none none,ty,pos,aft,gd⟩ h=.val (.str (s.drop n)) h:=by
 have hk1:(n:Int)≤s.length:=by omega
 have e:(s.drop n).take (s.length-n)=s.drop n:=List.take_of_length_le (by rw[List.length_drop]; exact Nat.le_refl _)
 simp[opA,optOp,hx,hy,sliceA,ht,boundsA,mxA,hiA,loA,boundA,hk,rv,cut,e]
theorem o_sub_both {s:List UInt8}{n m:Nat}(hx:ρ x=some (.str s)) (hy:ρ y=some (.int .i64 n)) (hz:ρ z=some (.int .i64 m)) (ht:T.und t=some .string) (hn:n≤m) (hm:m≤s.length) :
  opA T ρ ⟨dst,.slice t x (some y) (some z) none,ty,pos,aft,gd⟩ h=.val (.str ((s.drop n).take (m-n))) h:=by
 have hb:boundsA s.length s.length (some (.int .i64 n)) (some (.int .i64 (m:Int))) none=some (n,m,s.length):=by
  simp only[boundsA,mxA,hiA,loA,boundA]
  rw[if_pos ⟨by omega,by omega⟩]
  simp only[Int.toNat_natCast]
  rw[if_pos ⟨by omega,by omega⟩]
 simp only[opA,optOp,hx,hy,hz,sliceA,ht,hb,cut,rv]
variable {cx:Cx}{ks:List K}{Q:Res→Prop}{s:St}{L:List (Nat×AV)}
theorem go_ift (hs:Sees s.tm L){x:Operand}{a b:Code}(hx:envL L x=some (.bool true)) (g:Goes T cx (.code a::ks) s Q):Goes T cx (.code (.cond x a b)::ks) s Q :=
 go_if hs hx (fun _=>g) (fun hc=>by cases hc)
theorem go_iff {a b:Code}(hs:Sees s.tm L){x:Operand}(hx:envL L x=some (.bool false)) (g:Goes T cx (.code b::ks) s Q):Goes T cx (.code (.cond x a b)::ks) s Q :=
 go_if hs hx (fun hc=>by cases hc) (fun _=>g)
theorem Heap.gs (h:Heap) (b:Nat) (o:AObj):(h.set b o).get b=some o:=by rw[Heap.get_set,if_pos rfl]
theorem Heap.gn (h:Heap) (b c:Nat) (o:AObj) (n:b≠c):(h.set c o).get b=h.get b:=by rw[Heap.get_set,if_neg n]
theorem gives_sm {f:FuncId}{args:List AV}{v:AV}(e:T.sm f args h=some (v,h')):Gives T f args h (fun u h2=>u=v∧h2=h') :=
 ⟨.ret v h',.now fun _=>by simp only[step,e],v,h',rfl,rfl,rfl⟩
end Ev
end
section
namespace Ev
open Go
variable {T:Tabs}{nt:Nat}{all rest:List Oper}{ms:List Nat}{N m:Nat}{o:Oper}{mr:List Nat}{i:Nat}{tm:Tr AV}{h h':Heap}{acc:List Ent}{K:Tr AV→Heap→Prop}{d:Nat}{v:AV}{L:List (Nat×AV)}{sl:List Tmp}{hl:List (List Tmp)}
def hidsAux (all:List Oper) (ms:List Nat):List Oper→List Nat→Nat→List (List Tmp)
 |[],_,_=>[]
 |_::rest,mr,i=>slotsOut ((nth mr 0).getD 0) i all ms 0::hidsAux all ms rest (mr.drop 1) (i+1)
def DH (T:Tabs) (nt:Nat) (all:List Oper) (ms:List Nat) (N:Nat) (rest:List Oper) (mr:List Nat) (hl:List (List Tmp)) (i:Nat) (tm:Tr AV) (h:Heap) (acc:List Ent) (K:Tr AV→Heap→Prop):Prop :=
 hl=hidsAux all ms rest mr i→DG T nt all ms N rest mr i tm h acc K
theorem hids_cons (e:sl::hl=hidsAux all ms (o::rest) (m::mr) i):sl=slotsOut ((nth (m::mr) 0).getD 0) i all ms 0∧hl=hidsAux all ms rest mr (i+1):=by
 have e:sl::hl=slotsOut ((nth (m::mr) 0).getD 0) i all ms 0::hidsAux all ms rest mr (i+1):=e
 simpa using e
theorem dh_nil {l:List (Ent×Heap)}(hm:MsOk ms acc.reverse 0) (hl':todo ms acc.reverse 0=some l) (hk:AllSame T l) (k:K tm h):DH T nt all ms N [] mr hl i tm h acc K :=
 fun _=>dg_nil hm hl' hk k
theorem dh_no (hs:Sees tm L) (hw:wantedL all (hide L sl) o=some false) (hd:o.dst=some d) (hn:Nat.blt d nt=true)
  (c:∀ tmr tm',Sees tmr (hide L sl)→Sees tm' ((d,undefA)::L)→DH T nt all ms N rest mr hl (i+1) tm' h (⟨o,m,.pure,false,tmr,h,undefA,h⟩::acc) K):DH T nt all ms N (o::rest) (m::mr) (sl::hl) i tm h acc K:=by
 intro e
 obtain⟨rfl,e2⟩:=hids_cons e
 exact dg_no (mr:=m::mr) hs hw hd hn fun tmr tm' a b=>c tmr tm' a b e2
theorem dh_val (hs:Sees tm L) (hw:wantedL all (hide L sl) o=some true) (hd:o.dst=some d) (hn:Nat.blt d nt=true) (hk:quietKd (kindOf T o.op)=true) (ho:opA T (envL (hide L sl)) o h=.val v h')
  (c:∀ tmr tm',Sees tmr (hide L sl)→Sees tm' ((d,v)::L)→DH T nt all ms N rest mr hl (i+1) tm' h (⟨o,m,.read,true,tmr,h,v,h⟩::acc) K):DH T nt all ms N (o::rest) (m::mr) (sl::hl) i tm h acc K:=by
 intro e
 obtain⟨rfl,e2⟩:=hids_cons e
 exact dg_val (mr:=m::mr) hs hw hd hn hk ho fun tmr tm' a b=>c tmr tm' a b e2
theorem dh_alloc {a:AObj}(hs:Sees tm L) (hw:wantedL all (hide L sl) o=some true) (hd:o.dst=some d) (hn:Nat.blt d nt=true) (hk:kindOf T o.op=.alloc) (ho:newOf T (envL (hide L sl)) o (N+i)=some (v,a))
  (c:∀ tmr tm',Sees tmr (hide L sl)→Sees tm' ((d,v)::L)→DH T nt all ms N rest mr hl (i+1) tm' (h.set (N+i) a) (⟨o,m,.alloc,true,tmr,h,v,h.set (N+i) a⟩::acc) K):DH T nt all ms N (o::rest) (m::mr) (sl::hl) i tm h acc K:=by
 intro e
 obtain⟨rfl,e2⟩:=hids_cons e
 exact dg_alloc (mr:=m::mr) hs hw hd hn hk ho fun tmr tm' a b=>c tmr tm' a b e2
theorem dh_act (hs:Sees tm L) (hw:wantedL all (hide L sl) o=some true) (hd:o.dst=some d) (hn:Nat.blt d nt=true) (hk:kindOf T o.op=.act) (ho:opA T (envL (hide L sl)) o h=.val v h')
  (c:∀ tmr tm',Sees tmr (hide L sl)→Sees tm' ((d,v)::L)→DH T nt all ms N rest mr hl (i+1) tm' h' (⟨o,m,.act,true,tmr,h,v,h'⟩::acc) K):DH T nt all ms N (o::rest) (m::mr) (sl::hl) i tm h acc K:=by
 intro e
 obtain⟨rfl,e2⟩:=hids_cons e
 exact dg_act (mr:=m::mr) hs hw hd hn hk ho fun tmr tm' a b=>c tmr tm' a b e2
theorem dh_skip (hs:Sees tm L) (hw:wantedL all (hide L sl) o=some true) (hd:o.dst=none) (hk:kindOf T o.op=.act) (ho:opA T (envL (hide L sl)) o h=.skip h')
  (c:∀ tmr,Sees tmr (hide L sl)→DH T nt all ms N rest mr hl (i+1) tm h' (⟨o,m,.act,true,tmr,h,undefA,h'⟩::acc) K):DH T nt all ms N (o::rest) (m::mr) (sl::hl) i tm h acc K:=by
 intro e
 obtain⟨rfl,e2⟩:=hids_cons e
 exact dg_skip (mr:=m::mr) hs hw hd hk ho fun tmr a=>c tmr a e2
theorem dh_call {f:FuncId}{args:List AV}{P:AV→Heap→Prop}(hs:Sees tm L) (hw:wantedL all (hide L sl) o=some true) (hd:o.dst=some d) (hn:Nat.blt d nt=true) (hk:kindOf T o.op=.act)
  (ho:opA T (envL (hide L sl)) o h=.enter f args h') (g:∃ v h2,Says T (.call f args h') (.ret v h2)∧P v h2)
  (c:∀ v h2,P v h2→∀ tmr tm',Sees tmr (hide L sl)→Sees tm' ((d,v)::L)→DH T nt all ms N rest mr hl (i+1) tm' h2 (⟨o,m,.act,true,tmr,h,v,h2⟩::acc) K):DH T nt all ms N (o::rest) (m::mr) (sl::hl) i tm h acc K:=by
 intro e
 obtain⟨rfl,e2⟩:=hids_cons e
 exact dg_call (mr:=m::mr) hs hw hd hn hk ho g fun v h2 p tmr tm' a b=>c v h2 p tmr tm' a b e2
theorem go_drawn_h {cx:Cx}{k:List Ev.K}{Q:Res→Prop}{i:Nat}{ops:Array Oper}{df:List ADef}{pan:Option (AV×Bool)}(hm:masks ops.toList=ms) (hh:hidsAux ops.toList ms ops.toList ms 0=hl) (he:edgesAll ops.toList 0=true) (hk:h.ok)
  (g:DH T cx.nt ops.toList ms h.next ops.toList ms hl 0 tm { h with next:=h.next+ops.toList.length } [] (fun tm' h'=>Goes T cx k ⟨tm',df,pan,h'⟩ Q)) :
  Goes T cx (.code (.region i ops true)::k) ⟨tm,df,pan,h⟩ Q:=by
 subst hm
 exact go_drawn he hk (g hh.symm)
end Ev
end
section
namespace Ev
open Go
variable {T:Tabs}{cx:Cx}{k:List K}{Q:Res→Prop}{all rest:List Oper}{o:Oper}{tm:Tr AV}{df:List ADef}{pan:Option (AV×Bool)}{h h':Heap}{L:List (Nat×AV)}{v:AV}{d:Nat}{f:FuncId}
def EndsL (T:Tabs) (f:FuncId) (Q:Res→Prop):Res→Prop
 |.fin .normal s=>Wp T (.leave f s.tm s.df none s.h) Q
 |.fin .ret s=>Wp T (.leave f s.tm s.df none s.h) Q
 |.pan v s=>Wp T (.leave f s.tm s.df (some (v,false)) s.h) Q
 |_=>False
theorem leave_ret {F:Func}{vs:List AV}(hs:Sees tm L) (hF:T.fn f=some F) (hr:resultsL T L h F.results.toList=some vs) (p:Q (.ret (oneOf vs) h)):Wp T (.leave f tm [] none h) Q :=
 Wp.now (r:=.ret (oneOf vs) h) (fun _=>by simp only[step,hF,results_of hs _ vs hr]) p
end Ev
namespace Ev
open Go
variable {T:Tabs}{L:List (Nat×AV)}
theorem Heap.ok_more {h:Heap}(k:h.ok) (n:Nat):Heap.ok { h with next:=h.next+n }:=fun b hb=>k b (by have:h.next+n≤b:=hb; omega)
theorem Ext.more {a h:Heap}(e:Ext a h) (k:h.ok) (n:Nat):Ext a { h with next:=h.next+n }:=⟨by show a.next≤h.next+n; have:=e.nx; omega,fun b hb=>e.old b hb,fun _=>Heap.ok_more k n⟩
end Ev
end
section
namespace Ev
open Go
variable {T:Tabs}{ρ:Operand→Option AV}{h h':Heap}{dst:Option Tmp}{ty:TypeId}{pos:String}{aft:Array Edge}{gd:Option (Nat×Bool)}{t:TypeId}{x ix a y z:Operand}{kd:IntKind}{i j:Int}{o:Oper}{op:BinOp}
theorem c_eqs_t {a b:List UInt8}(ho:op=.eql) (e:a=b):binA T op t (.str a) (.str b)=some (.bool true):=by subst ho; exact b_eqs_t e
theorem c_eqs_f {a b:List UInt8}(ho:op=.eql) (e:a≠b):binA T op t (.str a) (.str b)=some (.bool false):=by subst ho; exact b_eqs_f e
theorem c_nes_t {a b:List UInt8}(ho:op=.neq) (e:a≠b):binA T op t (.str a) (.str b)=some (.bool true):=by subst ho; exact b_nes_t e
theorem c_nes_f {a b:List UInt8}(ho:op=.neq) (e:a=b):binA T op t (.str a) (.str b)=some (.bool false):=by subst ho; exact b_nes_f e
theorem c_lss_d (ho:op=.lss):binA T op t (.int kd i) (.int kd j)=some (.bool (decide (i<j))):=by subst ho; exact b_lss_d
theorem c_leq_d (ho:op=.leq):binA T op t (.int kd i) (.int kd j)=some (.bool (decide (i≤j))):=by subst ho; exact b_leq_d
theorem c_gtr_d (ho:op=.gtr):binA T op t (.int kd i) (.int kd j)=some (.bool (decide (j<i))):=by subst ho; exact b_gtr_d
theorem c_geq_d (ho:op=.geq):binA T op t (.int kd i) (.int kd j)=some (.bool (decide (j≤i))):=by subst ho; exact b_geq_d
theorem c_eql_d (ho:op=.eql):binA T op t (.int kd i) (.int kd j)=some (.bool (decide (i=j))):=by subst ho; exact b_eql_d
theorem c_neq_d (ho:op=.neq):binA T op t (.int kd i) (.int kd j)=some (.bool (decide (i≠j))):=by subst ho; exact b_neq_d
theorem c_lss_s {a b:List UInt8}(ho:op=.lss):binA T op t (.str a) (.str b)=some (.bool (bytesLess a b)):=by subst ho; rfl
theorem c_leq_s {a b:List UInt8}(ho:op=.leq):binA T op t (.str a) (.str b)=some (.bool (bytesLess a b||bytesEq a b)):=by subst ho; rfl
theorem c_gtr_s {a b:List UInt8}(ho:op=.gtr):binA T op t (.str a) (.str b)=some (.bool (!(bytesLess a b||bytesEq a b))):=by subst ho; rfl
theorem c_geq_s {a b:List UInt8}(ho:op=.geq):binA T op t (.str a) (.str b)=some (.bool (!bytesLess a b)):=by subst ho; rfl
theorem c_eql_s {a b:List UInt8}(ho:op=.eql):binA T op t (.str a) (.str b)=some (.bool (bytesEq a b)):=by subst ho; rfl
theorem c_neq_s {a b:List UInt8}(ho:op=.neq):binA T op t (.str a) (.str b)=some (.bool (!bytesEq a b)):=by subst ho; rfl
theorem c_cat {a b:List UInt8}(ho:op=.add) (e:a.length+b.length≤140737488355328):binA T op t (.str a) (.str b)=some (.str (a++b)):=by subst ho; exact b_cat e
theorem c_add {z:Int}(ho:op=.add) (hk:kd=.i64) (hz:i+j=z) (h1 : -9223372036854775808≤z) (h2:z<9223372036854775808):binA T op t (.int kd i) (.int kd j)=some (.int kd z):=by subst ho hk; exact b_add_i64 hz h1 h2
theorem c_sub {z:Int}(ho:op=.sub) (hk:kd=.i64) (hz:i-j=z) (h1 : -9223372036854775808≤z) (h2:z<9223372036854775808):binA T op t (.int kd i) (.int kd j)=some (.int kd z):=by subst ho hk; exact b_sub_i64 hz h1 h2
theorem c_mul {z:Int}(ho:op=.mul) (hk:kd=.i64) (hz:i*j=z) (h1 : -9223372036854775808≤z) (h2:z<9223372036854775808):binA T op t (.int kd i) (.int kd j)=some (.int kd z):=by subst ho hk; exact b_mul_i64 hz h1 h2
theorem c_quo {z:Int}(ho:op=.quo) (hk:kd=.i64) (hj:j≠0) (hz:i.tdiv j=z) (h1 : -9223372036854775808≤z) (h2:z<9223372036854775808):binA T op t (.int kd i) (.int kd j)=some (.int kd z):=by subst ho hk; exact b_quo_i64 hj hz h1 h2
theorem c_rem (ho:op=.rem) (hj:j≠0):binA T op t (.int kd i) (.int kd j)=some (.int kd (i.tmod j)):=by subst ho; exact b_rem hj
theorem c_add32 {z:Int}(ho:op=.add) (hk:kd=.u32) (hz:i+j=z) (h1:0≤z) (h2:z<4294967296):binA T op t (.int kd i) (.int kd j)=some (.int kd z):=by subst ho hk; exact b_add_u32 hz h1 h2
theorem c_sub32 {z:Int}(ho:op=.sub) (hk:kd=.u32) (hz:i-j=z) (h1:0≤z) (h2:z<4294967296):binA T op t (.int kd i) (.int kd j)=some (.int kd z):=by subst ho hk; exact b_sub_u32 hz h1 h2
theorem c_add64 {z:Int}(ho:op=.add) (hk:kd=.u64) (hz:i+j=z) (h1:0≤z) (h2:z<18446744073709551616):binA T op t (.int kd i) (.int kd j)=some (.int kd z):=by subst ho hk; exact b_add_u64 hz h1 h2
theorem k_bin {u:TypeId}{a b v:AV}(ho:o.op=.binOp op t x y u) (hx:ρ x=some a) (hy:ρ y=some b) (hv:binA T op t a b=some v) (hg:guardEq T op t x y a b=true):opA T ρ o h=.val v h:=by
 cases o; cases ho; exact o_bin hx hy hv hg
theorem k_conv {src:TypeId}{k k':IntKind}{n:Int}{d:TypeDesc}{z:Int}(ho:o.op=.convert src t x) (hx:ρ x=some (.int k n)) (hs:T.und src=some d) (hd:T.und t=some (.int k')) (hz:k'.wrap n=z):opA T ρ o h=.val (.int k' z) h:=by
 cases o; cases ho; exact o_conv hx hs hd hz
theorem wr_u64 {k:IntKind}(hk:k=.u64) (h1:0≤i) (h2:i<18446744073709551616):k.wrap i=i:=by subst hk; exact wrap_u64 h1 h2
theorem wr_u32 {k:IntKind}(hk:k=.u32) (h1:0≤i) (h2:i<4294967296):k.wrap i=i:=by subst hk; exact wrap_u32 h1 h2
theorem wr_u8 {k:IntKind}(hk:k=.u8) (h1:0≤i) (h2:i<256):k.wrap i=i:=by subst hk; exact wrap_u8 h1 h2
theorem wr_i64 {k:IntKind}(hk:k=.i64) (h1 : -9223372036854775808≤i) (h2:i<9223372036854775808):k.wrap i=i:=by subst hk; exact wrap_i64 h1 h2
theorem k_ix {s:List UInt8}{n:Nat}(ho:o.op=.index t x ix) (ht:T.und t=some .string) (hx:ρ x=some (.str s)) (hi:ρ ix=some (.int kd (n:Int))) (hn:n<s.length):opA T ρ o h=.val (.int .u8 ((s.getD n 0).toNat:Nat)) h:=by
 cases o; cases ho; exact o_ix_nat ht hx hi hn
theorem k_sub_to {s:List UInt8}{n:Nat}(ho:o.op=.slice t x none (some y) none) (ht:T.und t=some .string) (hx:ρ x=some (.str s)) (hy:ρ y=some (.int .i64 n)) (hk:n≤s.length):opA T ρ o h=.val (.str (s.take n)) h:=by
 cases o; cases ho; exact o_sub_to hx hy ht hk
theorem k_sub_from {s:List UInt8}{n:Nat}(ho:o.op=.slice t x (some y) none none) (ht:T.und t=some .string) (hx:ρ x=some (.str s)) (hy:ρ y=some (.int .i64 n)) (hk:n≤s.length):opA T ρ o h=.val (.str (s.drop n)) h:=by
 cases o; cases ho; exact o_sub_from hx hy ht hk
theorem k_sub_both {s:List UInt8}{n m:Nat}(ho:o.op=.slice t x (some y) (some z) none) (ht:T.und t=some .string) (hx:ρ x=some (.str s)) (hy:ρ y=some (.int .i64 n)) (hz:ρ z=some (.int .i64 m)) (hn:n≤m) (hm:m≤s.length):opA T ρ o h=.val (.str ((s.drop n).take (m-n))) h:=by
 cases o; cases ho; exact o_sub_both hx hy hz ht hn hm
theorem k_load {b off n:Nat}{e:TypeId}{cs:List AV}{rw:Bool}{v:AV}(ho:o.op=.load t a) (ha:T.agg t=some false) (hx:ρ a=some (.ptr b off)) (hsz:T.size t=some n) (hg:h.get b=some (.cells e cs rw)) (hv:cs[off]?=some v):opA T ρ o h=.val v h:=by
 cases o; cases ho; exact o_load hx ha hsz hg hv
theorem k_loadN {b off n:Nat}{e:TypeId}{cs:List AV}{rw:Bool}(ho:o.op=.load t a) (ha:T.agg t=some true) (hx:ρ a=some (.ptr b off)) (hsz:T.size t=some n) (hg:h.get b=some (.cells e cs rw)) (hl:off+n≤cs.length):opA T ρ o h=.val (.agg ((cs.drop off).take n)) h:=by
 cases o; cases ho; exact o_loadN hx ha hsz hg hl
theorem k_store1 {b off:Nat}{e:TypeId}{cs:List AV}{v:AV}(ho:o.op=.store t a x) (hx:ρ a=some (.ptr b off)) (hv:ρ x=some v) (hsz:T.size t=some 1) (hc:v.cells=[v]) (h1:v.one=true) (hg:h.get b=some (.cells e cs true)) (hl:off<cs.length):opA T ρ o h=.skip (h.set b (.cells e (cs.set off v) true)):=by
 cases o; cases ho; exact o_store1 hx hv hsz hc h1 hg hl
theorem k_storeN {b off n:Nat}{e:TypeId}{cs vs:List AV}(ho:o.op=.store t a x) (hx:ρ a=some (.ptr b off)) (hv:ρ x=some (.agg vs)) (hsz:T.size t=some n) (hn:vs.length=n) (h1:vs.all AV.one=true) (hg:h.get b=some (.cells e cs true)) (hl:off+n≤cs.length):opA T ρ o h=.skip (h.set b (.cells e (over cs off vs) true)):=by
 cases o; cases ho; exact o_storeN hx hv hsz hn h1 hg hl
def cmpP (op:BinOp) (i j:Int):Prop:=match op with
 |.lss=>i<j
 |.leq=>i≤j
 |.gtr=>j<i
 |.geq=>j≤i
 |.eql=>i=j
 |.neq=>¬ i=j
 |_=>False
def cmpOp:BinOp→Bool
 |.lss=>true
 |.leq=>true
 |.gtr=>true
 |.geq=>true
 |.eql=>true
 |.neq=>true
 |_=>false
theorem c_t (hc:cmpP op i j):binA T op t (.int kd i) (.int kd j)=some (.bool true):=by
 cases op<;>first|exact hc.elim|exact b_lss_t hc|exact b_leq_t hc|exact b_gtr_t hc|exact b_geq_t hc|exact b_eql_t hc|exact b_neq_t hc
theorem c_f (ho:cmpOp op=true) (hc:¬ cmpP op i j):binA T op t (.int kd i) (.int kd j)=some (.bool false):=by
 cases op<;>first|(cases ho; done)|exact b_lss_f hc|exact b_leq_f hc|exact b_gtr_f hc|exact b_geq_f hc|exact b_eql_f hc|exact b_neq_f (Decidable.byContradiction hc)
structure GI (T:Tabs) (cx:Cx) (k:List K) (s:St) (Q:Res→Prop):Prop where
 out:Goes T cx k s Q
structure OI (T:Tabs) (cx:Cx) (all rest:List Oper) (k:List K) (s:St) (Q:Res→Prop):Prop where
 out:Ops T cx all rest k s Q
variable {cx:Cx}{k:List K}{Q:Res→Prop}{all rest:List Oper}{tm:Tr AV}{df:List ADef}{pan:Option (AV×Bool)}{L:List (Nat×AV)}{v:AV}{d:Nat}{s:St}
theorem w_nil {s:St}(q:Q (.fin .normal s)):GI T cx [] s Q:=⟨go_nil q⟩
theorem w_skip (g:GI T cx k s Q):GI T cx (.code .skip::k) s Q:=⟨go_skip g.out⟩
theorem w_label {l:Nat}(g:GI T cx k s Q):GI T cx (.code (.label l)::k) s Q:=⟨go_label g.out⟩
theorem w_blk {id:Nat}(g:GI T cx k s Q):GI T cx (.blk id::k) s Q:=⟨go_blk g.out⟩
theorem w_end (g:GI T cx k s Q):GI T cx (.scope::k) s Q:=⟨go_end (id:=0) g.out⟩
theorem w_seq {a b:Code}(g:GI T cx (.code a::.code b::k) s Q):GI T cx (.code (.seq a b)::k) s Q:=⟨go_seq g.out⟩
theorem w_block {id:Nat}{b:Code}(g:GI T cx (.code b::.blk id::k) s Q):GI T cx (.code (.block id b)::k) s Q:=⟨go_block g.out⟩
theorem w_scope {b:Code}(g:GI T cx (.code b::.scope::k) s Q):GI T cx (.code (.scope b)::k) s Q:=⟨go_scope g.out⟩
theorem w_exit {id:Nat}{k':List K}(hu:unw id k=some k') (g:GI T cx k' s Q):GI T cx (.code (.exit id)::k) s Q:=⟨go_exit hu g.out⟩
theorem w_ret (q:Q (.fin .ret s)):GI T cx (.code .ret::k) s Q:=⟨go_ret q⟩
theorem w_region {i:Nat}{ops:Array Oper}(g:OI T cx ops.toList ops.toList k s Q):GI T cx (.code (.region i ops false)::k) s Q:=⟨go_region g.out⟩
theorem w_if {x:Operand}{a b:Code}{c:Bool}(hs:Sees s.tm L) (hx:envL L x=some (.bool c)) (ht:c=true→GI T cx (.code a::k) s Q) (hf:c=false→GI T cx (.code b::k) s Q):GI T cx (.code (.cond x a b)::k) s Q:=⟨go_if hs hx (fun e=>(ht e).out) (fun e=>(hf e).out)⟩
theorem w_ift {x:Operand}{a b:Code}(hs:Sees s.tm L) (hx:envL L x=some (.bool true)) (g:GI T cx (.code a::k) s Q):GI T cx (.code (.cond x a b)::k) s Q:=⟨go_ift hs hx g.out⟩
theorem w_iff {x:Operand}{a b:Code}(hs:Sees s.tm L) (hx:envL L x=some (.bool false)) (g:GI T cx (.code b::k) s Q):GI T cx (.code (.cond x a b)::k) s Q:=⟨go_iff hs hx g.out⟩
theorem w_loop {b:Code}(I:Nat→St→Prop){m:Nat}(h0:I m s) (round:∀ m s,I m s→(∀ m' s',m'<m→I m' s'→GI T cx (.code (.loop b)::k) s' Q)→GI T cx (.code b::.code (.loop b)::k) s Q):GI T cx (.code (.loop b)::k) s Q :=
 ⟨go_loop I h0 fun m s hi next=>(round m s hi fun m' s' hlt hi'=>⟨next m' s' hlt hi'⟩).out⟩
theorem v_nil (g:GI T cx k s Q):OI T cx all [] k s Q:=⟨ops_nil g.out⟩
theorem v_val (hs:Sees tm L) (hg:wantedL all L o=some true) (hd:o.dst=some d) (hn:Nat.blt d cx.nt=true) (ho:opA T (envL L) o h=.val v h')
  (c:∀ tm',Sees tm' ((d,v)::L)→OI T cx all rest k ⟨tm',df,pan,h'⟩ Q):OI T cx all (o::rest) k ⟨tm,df,pan,h⟩ Q:=⟨ops_val hs hg hd ho hn fun tm' s'=>(c tm' s').out⟩
theorem v_no (hs:Sees tm L) (hg:wantedL all L o=some false) (hd:o.dst=some d) (hn:Nat.blt d cx.nt=true)
  (c:∀ tm',Sees tm' ((d,undefA)::L)→OI T cx all rest k ⟨tm',df,pan,h⟩ Q):OI T cx all (o::rest) k ⟨tm,df,pan,h⟩ Q:=⟨ops_no hs hg hd hn fun tm' s'=>(c tm' s').out⟩
theorem v_no0 (hs:Sees tm L) (hg:wantedL all L o=some false) (hd:o.dst=none)
  (c:OI T cx all rest k ⟨tm,df,pan,h⟩ Q):OI T cx all (o::rest) k ⟨tm,df,pan,h⟩ Q:=⟨ops_no0 hs hg hd c.out⟩
theorem v_val0 (hs:Sees tm L) (hg:wantedL all L o=some true) (hd:o.dst=none) (ho:opA T (envL L) o h=.val v h') (c:OI T cx all rest k ⟨tm,df,pan,h'⟩ Q):OI T cx all (o::rest) k ⟨tm,df,pan,h⟩ Q:=⟨ops_val0 hs hg hd ho c.out⟩
theorem v_skip (hs:Sees tm L) (hg:wantedL all L o=some true) (hd:o.dst=none) (ho:opA T (envL L) o h=.skip h') (c:OI T cx all rest k ⟨tm,df,pan,h'⟩ Q):OI T cx all (o::rest) k ⟨tm,df,pan,h⟩ Q:=⟨ops_skip hs hg hd ho c.out⟩
theorem v_call {f:FuncId}{args:List AV}{P:AV→Heap→Prop}(hs:Sees tm L) (hg:wantedL all L o=some true) (hd:o.dst=some d) (ho:opA T (envL L) o h=.enter f args h') (hn:Nat.blt d cx.nt=true)
  (hc:Gives T f args h' P) (c:∀ v h2,P v h2→∀ tm',Sees tm' ((d,v)::L)→OI T cx all rest k ⟨tm',df,pan,h2⟩ Q):OI T cx all (o::rest) k ⟨tm,df,pan,h⟩ Q:=⟨ops_call hs hg hd ho hn hc fun v h2 p tm' s'=>(c v h2 p tm' s').out⟩
theorem results_cell {a:Tmp}{t:TypeId}{b off:Nat}{l:List ResultVar}{r:List AV}(ha:look L a=some (.ptr b off)) (hl:loadVarA T t h b off=some v) (hr:resultsL T L h l=some r):resultsL T L h (.cell a t::l)=some (v::r):=by
 simp only[resultsL,ha,hl,hr]
theorem results_tmp {a:Tmp}{l:List ResultVar}{r:List AV}(ha:look L a=some v) (hr:resultsL T L h l=some r):resultsL T L h (.tmp a::l)=some (v::r):=by
 simp only[resultsL,ha,hr]
theorem cell_agg {t:TypeId}{b n:Nat}{e:TypeId}{cs:List AV}{rw:Bool}(ha:T.agg t=some true) (hsz:T.size t=some n) (hg:h.get b=some (.cells e cs rw)) (hl:cs.length=n):loadVarA T t h b 0=some (.agg cs):=by
 rw[loadVar_agg ha hsz hg (by omega)]
 simp[← hl]
theorem cell_one {t:TypeId}{b n:Nat}{e:TypeId}{x:AV}{rw:Bool}(ha:T.agg t=some false) (hsz:T.size t=some n) (hg:h.get b=some (.cells e [x] rw)):loadVarA T t h b 0=some x:=loadVar_one ha hsz hg rfl
variable {nt:Nat}{ms:List Nat}{N m:Nat}{mr:List Nat}{n:Nat}{acc:List Ent}{K':Tr AV→Heap→Prop}{sl:List Tmp}{hl:List (List Tmp)}
structure DI (T:Tabs) (nt:Nat) (all:List Oper) (ms:List Nat) (N:Nat) (rest:List Oper) (mr:List Nat) (hl:List (List Tmp)) (i:Nat) (tm:Tr AV) (h:Heap) (acc:List Ent) (K:Tr AV→Heap→Prop):Prop where
 out:DH T nt all ms N rest mr hl i tm h acc K
theorem w_drawn {r:Nat}{ops:Array Oper}(hm:masks ops.toList=ms) (hh:hidsAux ops.toList ms ops.toList ms 0=hl) (he:edgesAll ops.toList 0=true) (hk:h.ok)
  (g:DI T cx.nt ops.toList ms h.next ops.toList ms hl 0 tm { h with next:=h.next+ops.toList.length } [] (fun tm' h'=>GI T cx k ⟨tm',df,pan,h'⟩ Q)) :
  GI T cx (.code (.region r ops true)::k) ⟨tm,df,pan,h⟩ Q :=
 ⟨go_drawn_h hm hh he hk fun e=>by
  obtain⟨tmF,hF,es,h1,h2,h3⟩:=g.out e
  exact⟨tmF,hF,es,h1,h2,h3.out⟩⟩
theorem d_nil {l:List (Ent×Heap)}(hm:MsOk ms acc.reverse 0) (hl':todo ms acc.reverse 0=some l) (hk:AllSame T l) (q:K' tm h):DI T nt all ms N [] mr hl n tm h acc K':=⟨dh_nil hm hl' hk q⟩
theorem d_no (hs:Sees tm L) (hw:wantedL all (hide L sl) o=some false) (hd:o.dst=some d) (hn:Nat.blt d nt=true)
  (c:∀ tmr tm',Sees tmr (hide L sl)→Sees tm' ((d,undefA)::L)→DI T nt all ms N rest mr hl (n+1) tm' h (⟨o,m,.pure,false,tmr,h,undefA,h⟩::acc) K'):DI T nt all ms N (o::rest) (m::mr) (sl::hl) n tm h acc K':=⟨dh_no hs hw hd hn fun a b x y=>(c a b x y).out⟩
theorem d_val (hs:Sees tm L) (hw:wantedL all (hide L sl) o=some true) (hd:o.dst=some d) (hn:Nat.blt d nt=true) (hk:quietKd (kindOf T o.op)=true) (ho:opA T (envL (hide L sl)) o h=.val v h')
  (c:∀ tmr tm',Sees tmr (hide L sl)→Sees tm' ((d,v)::L)→DI T nt all ms N rest mr hl (n+1) tm' h (⟨o,m,.read,true,tmr,h,v,h⟩::acc) K'):DI T nt all ms N (o::rest) (m::mr) (sl::hl) n tm h acc K':=⟨dh_val hs hw hd hn hk ho fun a b x y=>(c a b x y).out⟩
theorem d_alloc {a:AObj}(hk:kindOf T o.op=.alloc) (hs:Sees tm L) (hw:wantedL all (hide L sl) o=some true) (hd:o.dst=some d) (hn:Nat.blt d nt=true) (ho:newOf T (envL (hide L sl)) o (N+n)=some (v,a))
  (c:∀ tmr tm',Sees tmr (hide L sl)→Sees tm' ((d,v)::L)→DI T nt all ms N rest mr hl (n+1) tm' (h.set (N+n) a) (⟨o,m,.alloc,true,tmr,h,v,h.set (N+n) a⟩::acc) K'):DI T nt all ms N (o::rest) (m::mr) (sl::hl) n tm h acc K':=⟨dh_alloc hs hw hd hn hk ho fun a b x y=>(c a b x y).out⟩
theorem d_act (hs:Sees tm L) (hw:wantedL all (hide L sl) o=some true) (hd:o.dst=some d) (hn:Nat.blt d nt=true) (hk:kindOf T o.op=.act) (ho:opA T (envL (hide L sl)) o h=.val v h')
  (c:∀ tmr tm',Sees tmr (hide L sl)→Sees tm' ((d,v)::L)→DI T nt all ms N rest mr hl (n+1) tm' h' (⟨o,m,.act,true,tmr,h,v,h'⟩::acc) K'):DI T nt all ms N (o::rest) (m::mr) (sl::hl) n tm h acc K':=⟨dh_act hs hw hd hn hk ho fun a b x y=>(c a b x y).out⟩
theorem d_skip (hs:Sees tm L) (hw:wantedL all (hide L sl) o=some true) (hd:o.dst=none) (hk:kindOf T o.op=.act) (ho:opA T (envL (hide L sl)) o h=.skip h')
  (c:∀ tmr,Sees tmr (hide L sl)→DI T nt all ms N rest mr hl (n+1) tm h' (⟨o,m,.act,true,tmr,h,undefA,h'⟩::acc) K'):DI T nt all ms N (o::rest) (m::mr) (sl::hl) n tm h acc K':=⟨dh_skip hs hw hd hk ho fun a x=>(c a x).out⟩
theorem d_call {f:FuncId}{args:List AV}{P:AV→Heap→Prop}(hs:Sees tm L) (hw:wantedL all (hide L sl) o=some true) (hd:o.dst=some d) (hn:Nat.blt d nt=true) (hk:kindOf T o.op=.act)
  (ho:opA T (envL (hide L sl)) o h=.enter f args h') (g:∃ v h2,Says T (.call f args h') (.ret v h2)∧P v h2)
  (c:∀ v h2,P v h2→∀ tmr tm',Sees tmr (hide L sl)→Sees tm' ((d,v)::L)→DI T nt all ms N rest mr hl (n+1) tm' h2 (⟨o,m,.act,true,tmr,h,v,h2⟩::acc) K'):DI T nt all ms N (o::rest) (m::mr) (sl::hl) n tm h acc K':=⟨dh_call hs hw hd hn hk ho g fun v h2 p a b x y=>(c v h2 p a b x y).out⟩
end Ev
end
