/- A part of an evaluator of the program's form in Lean, of the proof that what it says of a call is what the machine does, and of the rules by which proofs walk over it. Conditions: those that each theorem states. -/
import Derived.Test.YtejfbaecadbdiaaGreatGaj
set_option linter.unusedVariables false
set_option linter.unusedSimpArgs false
section
namespace Ev
open Go
variable {T:a0k}{ρ:Operand→Option AV}{h h':a0a}{dst:Option Tmp}{ty:TypeId}{pos:String}{aft:Array Edge}{gd:Option (Nat×Bool)}{t:TypeId}{x ix a y z:Operand}{k:IntKind}{i j:Int}
theorem e9e (h:i<j):a1i T .lss t (.int k i) (.int k j)=some (.bool true):=by simp[a1i,a3f,h]
theorem e7f (h:¬ i<j):a1i T .lss t (.int k i) (.int k j)=some (.bool false):=by simp[a1i,a3f]; omega
theorem e7j (h:i≤j):a1i T .leq t (.int k i) (.int k j)=some (.bool true):=by simp[a1i,a3f,h]
theorem e9j (h:¬ i≤j):a1i T .leq t (.int k i) (.int k j)=some (.bool false):=by simp[a1i,a3f]; omega
theorem e8r (h:j<i):a1i T .gtr t (.int k i) (.int k j)=some (.bool true):=by simp[a1i,a3f,h]
theorem e8w (h:¬ j<i):a1i T .gtr t (.int k i) (.int k j)=some (.bool false):=by simp[a1i,a3f]; omega
theorem e8t (h:j≤i):a1i T .geq t (.int k i) (.int k j)=some (.bool true):=by simp[a1i,a3f,h]
theorem e7t (h:¬ j≤i):a1i T .geq t (.int k i) (.int k j)=some (.bool false):=by simp[a1i,a3f]; omega
theorem e5i (h:i=j):a1i T .eql t (.int k i) (.int k j)=some (.bool true):=by simp[a1i,a3f,h]
theorem e4z (h:i≠j):a1i T .eql t (.int k i) (.int k j)=some (.bool false):=by simp[a1i,a3f,h]
theorem e6m (h:i≠j):a1i T .neq t (.int k i) (.int k j)=some (.bool true):=by simp[a1i,a3f,h]
theorem e8h (h:i=j):a1i T .neq t (.int k i) (.int k j)=some (.bool false):=by simp[a1i,a3f,h]
theorem e5t:a1i T .lss t (.int k i) (.int k j)=some (.bool (decide (i<j))):=by simp[a1i,a3f]
theorem e7x:a1i T .leq t (.int k i) (.int k j)=some (.bool (decide (i≤j))):=by simp[a1i,a3f]
theorem e5g:a1i T .gtr t (.int k i) (.int k j)=some (.bool (decide (j<i))):=by simp[a1i,a3f]
theorem e8f:a1i T .geq t (.int k i) (.int k j)=some (.bool (decide (j≤i))):=by simp[a1i,a3f]
theorem e4y:a1i T .eql t (.int k i) (.int k j)=some (.bool (decide (i=j))):=by simp[a1i,a3f]; rfl
theorem e8q:a1i T .neq t (.int k i) (.int k j)=some (.bool (decide (i≠j))):=by simp[a1i,a3f]; by_cases e:i=j<;>simp[e]
theorem a8q {x y:List UInt8}:a1w x y=true↔x=y:=by rw[a6b]; simp
theorem c2i {x y:List UInt8}(h:x≠y):a1w x y=false:=by
 cases e:a1w x y with
 |false=>rfl
 |true=>exact absurd (a8q.mp e) h
theorem e9i {a b:List UInt8}(e:a=b):a1i T .eql t (.str a) (.str b)=some (.bool true):=by
 show some (AV.bool (a1w a b))=_
 rw[a8q.mpr e]
theorem e7s {a b:List UInt8}(e:a≠b):a1i T .eql t (.str a) (.str b)=some (.bool false):=by
 show some (AV.bool (a1w a b))=_
 rw[c2i e]
theorem e6o {a b:List UInt8}(e:a≠b):a1i T .neq t (.str a) (.str b)=some (.bool true):=by
 show some (AV.bool (!a1w a b))=_
 rw[c2i e]; rfl
theorem e5r {a b:List UInt8}(e:a=b):a1i T .neq t (.str a) (.str b)=some (.bool false):=by
 show some (AV.bool (!a1w a b))=_
 rw[a8q.mpr e]; rfl
theorem d6i {a b:List UInt8}(e:a.length+b.length≤140737488355328):a1i T .add t (.str a) (.str b)=some (.str (a++b)):=by
 show(if _ then _ else _)=_
 rw[if_pos e]
theorem wrap_u8 (h1:0≤i) (h2:i<256):IntKind.u8.wrap i=i:=by
 unfold IntKind.wrap
 simp only[IntKind.bits,IntKind.signed]
 simp
 omega
theorem wrap_u32 (h1:0≤i) (h2:i<4294967296):IntKind.u32.wrap i=i:=by
 unfold IntKind.wrap
 simp only[IntKind.bits,IntKind.signed]
 simp
 omega
theorem wrap_u64 (h1:0≤i) (h2:i<18446744073709551616):IntKind.u64.wrap i=i:=by
 unfold IntKind.wrap
 simp only[IntKind.bits,IntKind.signed]
 simp
 omega
theorem c0e:IntKind.u8.wrap i=i % 256:=by
 unfold IntKind.wrap
 simp only[IntKind.bits,IntKind.signed]
 simp
theorem d9c {z:Int}(hz:i*j=z) (h1 : -9223372036854775808≤z) (h2:z<9223372036854775808):a1i T .mul t (.int .i64 i) (.int .i64 j)=some (.int .i64 z):=by
 subst hz
 simp only[a1i,if_true,a3f,wrap_i64 h1 h2]
theorem d7d {z:Int}(hj:j≠0) (hz:i.tdiv j=z) (h1 : -9223372036854775808≤z) (h2:z<9223372036854775808):a1i T .quo t (.int .i64 i) (.int .i64 j)=some (.int .i64 z):=by
 subst hz
 simp only[a1i,if_true,a3f,if_neg hj,wrap_i64 h1 h2]
theorem f3x (hj:j≠0):a1i T .rem t (.int k i) (.int k j)=some (.int k (i.tmod j)):=by
 simp only[a1i,if_true,a3f,if_neg hj]
theorem d9z {z:Int}(hz:i+j=z) (h1:0≤z) (h2:z<4294967296):a1i T .add t (.int .u32 i) (.int .u32 j)=some (.int .u32 z):=by
 subst hz
 simp only[a1i,if_true,a3f,wrap_u32 h1 h2]
theorem d8g {z:Int}(hz:i-j=z) (h1:0≤z) (h2:z<4294967296):a1i T .sub t (.int .u32 i) (.int .u32 j)=some (.int .u32 z):=by
 subst hz
 simp only[a1i,if_true,a3f,wrap_u32 h1 h2]
theorem d9g {z:Int}(hz:i+j=z) (h1:0≤z) (h2:z<18446744073709551616):a1i T .add t (.int .u64 i) (.int .u64 j)=some (.int .u64 z):=by
 subst hz
 simp only[a1i,if_true,a3f,wrap_u64 h1 h2]
theorem f5z {k:IntKind}(hk:k.signed=false){x y:Nat}(hx:x<2 ^ k.bits) (hy:y<2 ^ k.bits):k.wrap ((BitVec.ofInt k.bits (x:Int) ||| BitVec.ofInt k.bits (y:Int)).toNat:Int)=((x ||| y:Nat):Int):=by
 rw[a9i,a9i,BitVec.toNat_or,BitVec.toNat_ofNat,BitVec.toNat_ofNat,Nat.mod_eq_of_lt hx,Nat.mod_eq_of_lt hy]
 exact b6l hk _ (Nat.or_lt_two_pow hx hy)
theorem f4s {k:IntKind}{x y:Nat}(hk:k.signed=false) (hx:x<2 ^ k.bits) (hy:y<2 ^ k.bits):a1i T .or t (.int k (x:Int)) (.int k (y:Int))=some (.int k ((x ||| y:Nat):Int)):=by
 simp only[a1i,if_true,a3f,f5z hk hx hy]
theorem e4r {k k':IntKind}{x y:Nat}(hk:k.signed=false) (hy:y≤k.bits) (hx:x*2 ^ y<2 ^ k.bits):a1i T .shl t (.int k (x:Int)) (.int k' (y:Int))=some (.int k ((x*2 ^ y:Nat):Int)):=by
 have h1:¬ ((y:Int)<0):=by omega
 have h2:min ((y:Int).toNat) k.bits=y:=by simp; exact Nat.min_eq_left hy
 have h3:((x:Int)*2 ^ y:Int)=((x*2 ^ y:Nat):Int):=by push_cast; rfl
 simp only[a1i,shiftOp,if_neg h1,h2]
 rw[h3,b6l hk _ hx]
theorem e1x {s:List UInt8}{n:Nat}(ht:T.und t=some .string) (hx:ρ x=some (.str s)) (hi:ρ ix=some (.int k (n:Int))) (hn:n<s.length) :
  opA T ρ ⟨dst,.index t x ix,ty,pos,aft,gd⟩ h=.val (.int .u8 ((s.getD n 0).toNat:Nat)) h :=
 b3u ht hx hi n rfl (by rw[List.getElem?_eq_getElem hn]; simp[List.getD,List.getElem?_eq_getElem hn])
theorem e3d {s:List UInt8}{n:Nat}(hx:ρ x=some (.str s)) (hy:ρ y=some (.int .i64 n)) (ht:T.und t=some .string) (hk:n≤s.length) :
  opA T ρ ⟨dst,.slice t x none (some y) none,ty,pos,aft,gd⟩ h=.val (.str (s.take n)) h:=by
 have hk1:(n:Int)≤s.length:=by omega
 simp[opA,a5b,hx,hy,b4m,ht,a2y,mxA,hiA,loA,a5q,hk,rv,cut]
theorem d2e {s:List UInt8}{n:Nat}(hx:ρ x=some (.str s)) (hy:ρ y=some (.int .i64 n)) (ht:T.und t=some .string) (hk:n≤s.length) :
  opA T ρ ⟨dst,.slice t x (some y) none none,ty,pos,aft,gd⟩ h=.val (.str (s.drop n)) h:=by
 have hk1:(n:Int)≤s.length:=by omega
 have e:(s.drop n).take (s.length-n)=s.drop n:=List.take_of_length_le (by rw[List.length_drop]; exact Nat.le_refl _)
 simp[opA,a5b,hx,hy,b4m,ht,a2y,mxA,hiA,loA,a5q,hk,rv,cut,e]
theorem d2k {s:List UInt8}{n m:Nat}(hx:ρ x=some (.str s)) (hy:ρ y=some (.int .i64 n)) (hz:ρ z=some (.int .i64 m)) (ht:T.und t=some .string) (hn:n≤m) (hm:m≤s.length) :
  opA T ρ ⟨dst,.slice t x (some y) (some z) none,ty,pos,aft,gd⟩ h=.val (.str ((s.drop n).take (m-n))) h:=by
 have hb:a2y s.length s.length (some (.int .i64 n)) (some (.int .i64 (m:Int))) none=some (n,m,s.length):=by
  simp only[a2y,mxA,hiA,loA,a5q]
  rw[if_pos ⟨by omega,by omega⟩]
  simp only[Int.toNat_natCast]
  rw[if_pos ⟨by omega,by omega⟩]
 simp only[opA,a5b,hx,hy,hz,b4m,ht,hb,cut,rv]
variable {cx:Cx}{ks:List K}{Q:Res→Prop}{s:St}{L:List (Nat×AV)}
theorem f2p (hs:a0m s.tm L){x:Operand}{a b:Code}(hx:a1y L x=some (.bool true)) (g:a3r T cx (.code a::ks) s Q):a3r T cx (.code (.cond x a b)::ks) s Q :=
 b5o hs hx (fun _=>g) (fun hc=>by cases hc)
theorem f1d {a b:Code}(hs:a0m s.tm L){x:Operand}(hx:a1y L x=some (.bool false)) (g:a3r T cx (.code b::ks) s Q):a3r T cx (.code (.cond x a b)::ks) s Q :=
 b5o hs hx (fun hc=>by cases hc) (fun _=>g)
theorem a0a.gs (h:a0a) (b:Nat) (o:a1t):(h.set b o).get b=some o:=by rw[a0a.a1d,if_pos rfl]
theorem a0a.gn (h:a0a) (b c:Nat) (o:a1t) (n:b≠c):(h.set c o).get b=h.get b:=by rw[a0a.a1d,if_neg n]
theorem d0b {f:FuncId}{args:List AV}{v:AV}(e:T.sm f args h=some (v,h')):a0l T f args h (fun u h2=>u=v∧h2=h') :=
 ⟨.ret v h',.now fun _=>by simp only[step,e],v,h',rfl,rfl,rfl⟩
end Ev
end
section
namespace Ev
open Go
variable {T:a0k}{nt:Nat}{all rest:List Oper}{ms:List Nat}{N m:Nat}{o:Oper}{mr:List Nat}{i:Nat}{tm:Tr AV}{h h':a0a}{acc:List Ent}{K:Tr AV→a0a→Prop}{d:Nat}{v:AV}{L:List (Nat×AV)}{sl:List Tmp}{hl:List (List Tmp)}
def a8d (all:List Oper) (ms:List Nat):List Oper→List Nat→Nat→List (List Tmp)
 |[],_,_=>[]
 |_::rest,mr,i=>a0y ((nth mr 0).getD 0) i all ms 0::a8d all ms rest (mr.drop 1) (i+1)
def DH (T:a0k) (nt:Nat) (all:List Oper) (ms:List Nat) (N:Nat) (rest:List Oper) (mr:List Nat) (hl:List (List Tmp)) (i:Nat) (tm:Tr AV) (h:a0a) (acc:List Ent) (K:Tr AV→a0a→Prop):Prop :=
 hl=a8d all ms rest mr i→DG T nt all ms N rest mr i tm h acc K
theorem a6t (e:sl::hl=a8d all ms (o::rest) (m::mr) i):sl=a0y ((nth (m::mr) 0).getD 0) i all ms 0∧hl=a8d all ms rest mr (i+1):=by
 have e:sl::hl=a0y ((nth (m::mr) 0).getD 0) i all ms 0::a8d all ms rest mr (i+1):=e
 simpa using e
theorem f0u {l:List (Ent×a0a)}(hm:d2t ms acc.reverse 0) (hl':todo ms acc.reverse 0=some l) (hk:a4a T l) (k:K tm h):DH T nt all ms N [] mr hl i tm h acc K :=
 fun _=>f1u hm hl' hk k
theorem f4r (hs:a0m tm L) (hw:a0p all (a1n L sl) o=some false) (hd:o.dst=some d) (hn:Nat.blt d nt=true)
  (c:∀ tmr tm',a0m tmr (a1n L sl)→a0m tm' ((d,a2w)::L)→DH T nt all ms N rest mr hl (i+1) tm' h (⟨o,m,.pure,false,tmr,h,a2w,h⟩::acc) K):DH T nt all ms N (o::rest) (m::mr) (sl::hl) i tm h acc K:=by
 intro e
 obtain⟨rfl,e2⟩:=a6t e
 exact f4v (mr:=m::mr) hs hw hd hn fun tmr tm' a b=>c tmr tm' a b e2
theorem f1w (hs:a0m tm L) (hw:a0p all (a1n L sl) o=some true) (hd:o.dst=some d) (hn:Nat.blt d nt=true) (hk:b8n (a1l T o.op)=true) (ho:opA T (a1y (a1n L sl)) o h=.val v h')
  (c:∀ tmr tm',a0m tmr (a1n L sl)→a0m tm' ((d,v)::L)→DH T nt all ms N rest mr hl (i+1) tm' h (⟨o,m,.read,true,tmr,h,v,h⟩::acc) K):DH T nt all ms N (o::rest) (m::mr) (sl::hl) i tm h acc K:=by
 intro e
 obtain⟨rfl,e2⟩:=a6t e
 exact f0w (mr:=m::mr) hs hw hd hn hk ho fun tmr tm' a b=>c tmr tm' a b e2
theorem e2g {a:a1t}(hs:a0m tm L) (hw:a0p all (a1n L sl) o=some true) (hd:o.dst=some d) (hn:Nat.blt d nt=true) (hk:a1l T o.op=.alloc) (ho:a8m T (a1y (a1n L sl)) o (N+i)=some (v,a))
  (c:∀ tmr tm',a0m tmr (a1n L sl)→a0m tm' ((d,v)::L)→DH T nt all ms N rest mr hl (i+1) tm' (h.set (N+i) a) (⟨o,m,.alloc,true,tmr,h,v,h.set (N+i) a⟩::acc) K):DH T nt all ms N (o::rest) (m::mr) (sl::hl) i tm h acc K:=by
 intro e
 obtain⟨rfl,e2⟩:=a6t e
 exact e4p (mr:=m::mr) hs hw hd hn hk ho fun tmr tm' a b=>c tmr tm' a b e2
theorem f0t (hs:a0m tm L) (hw:a0p all (a1n L sl) o=some true) (hd:o.dst=some d) (hn:Nat.blt d nt=true) (hk:a1l T o.op=.act) (ho:opA T (a1y (a1n L sl)) o h=.val v h')
  (c:∀ tmr tm',a0m tmr (a1n L sl)→a0m tm' ((d,v)::L)→DH T nt all ms N rest mr hl (i+1) tm' h' (⟨o,m,.act,true,tmr,h,v,h'⟩::acc) K):DH T nt all ms N (o::rest) (m::mr) (sl::hl) i tm h acc K:=by
 intro e
 obtain⟨rfl,e2⟩:=a6t e
 exact f0v (mr:=m::mr) hs hw hd hn hk ho fun tmr tm' a b=>c tmr tm' a b e2
theorem e6h (hs:a0m tm L) (hw:a0p all (a1n L sl) o=some true) (hd:o.dst=none) (hk:a1l T o.op=.act) (ho:opA T (a1y (a1n L sl)) o h=.skip h')
  (c:∀ tmr,a0m tmr (a1n L sl)→DH T nt all ms N rest mr hl (i+1) tm h' (⟨o,m,.act,true,tmr,h,a2w,h'⟩::acc) K):DH T nt all ms N (o::rest) (m::mr) (sl::hl) i tm h acc K:=by
 intro e
 obtain⟨rfl,e2⟩:=a6t e
 exact e6f (mr:=m::mr) hs hw hd hk ho fun tmr a=>c tmr a e2
theorem e6g {f:FuncId}{args:List AV}{P:AV→a0a→Prop}(hs:a0m tm L) (hw:a0p all (a1n L sl) o=some true) (hd:o.dst=some d) (hn:Nat.blt d nt=true) (hk:a1l T o.op=.act)
  (ho:opA T (a1y (a1n L sl)) o h=.enter f args h') (g:∃ v h2,Says T (.call f args h') (.ret v h2)∧P v h2)
  (c:∀ v h2,P v h2→∀ tmr tm',a0m tmr (a1n L sl)→a0m tm' ((d,v)::L)→DH T nt all ms N rest mr hl (i+1) tm' h2 (⟨o,m,.act,true,tmr,h,v,h2⟩::acc) K):DH T nt all ms N (o::rest) (m::mr) (sl::hl) i tm h acc K:=by
 intro e
 obtain⟨rfl,e2⟩:=a6t e
 exact e7r (mr:=m::mr) hs hw hd hn hk ho g fun v h2 p tmr tm' a b=>c v h2 p tmr tm' a b e2
theorem d4t {cx:Cx}{k:List Ev.K}{Q:Res→Prop}{i:Nat}{ops:Array Oper}{df:List ADef}{pan:Option (AV×Bool)}(hm:masks ops.toList=ms) (hh:a8d ops.toList ms ops.toList ms 0=hl) (he:a3q ops.toList 0=true) (hk:h.ok)
  (g:DH T cx.nt ops.toList ms h.next ops.toList ms hl 0 tm { h with next:=h.next+ops.toList.length } [] (fun tm' h'=>a3r T cx k ⟨tm',df,pan,h'⟩ Q)) :
  a3r T cx (.code (.region i ops true)::k) ⟨tm,df,pan,h⟩ Q:=by
 subst hm
 exact e3c he hk (g hh.symm)
end Ev
end
section
namespace Ev
open Go
variable {T:a0k}{cx:Cx}{k:List K}{Q:Res→Prop}{all rest:List Oper}{o:Oper}{tm:Tr AV}{df:List ADef}{pan:Option (AV×Bool)}{h h':a0a}{L:List (Nat×AV)}{v:AV}{d:Nat}{f:FuncId}
def c9h (T:a0k) (f:FuncId) (Q:Res→Prop):Res→Prop
 |.fin .normal s=>Wp T (.leave f s.tm s.df none s.h) Q
 |.fin .ret s=>Wp T (.leave f s.tm s.df none s.h) Q
 |.pan v s=>Wp T (.leave f s.tm s.df (some (v,false)) s.h) Q
 |_=>False
theorem a1z {F:Func}{vs:List AV}(hs:a0m tm L) (hF:T.fn f=some F) (hr:a2c T L h F.results.toList=some vs) (p:Q (.ret (oneOf vs) h)):Wp T (.leave f tm [] none h) Q :=
 Wp.now (r:=.ret (oneOf vs) h) (fun _=>by simp only[step,hF,a9v hs _ vs hr]) p
theorem a1g {F:Func}(hF:T.fn f=some F) (p:Q (.thrown v h)):Wp T (.leave f tm [] (some (v,false)) h) Q :=
 Wp.now (r:=.thrown v h) (fun _=>by simp only[step,hF]) p
def f0d:Option (AV×Bool)→Option (AV×Bool)
 |some (_,true)=>none
 |p=>p
theorem e1l {fn:Fn}{cap args as:List AV}{ds:List ADef}{g:FuncId}(hi:a3d T fn cap args h=.enter g as h')
  (w:Wp T (.dcall g as pan h') fun r=>∃ pan' h2,r=.dret pan' h2∧Wp T (.leave f tm ds (f0d pan') h2) Q):Wp T (.leave f tm (.fn fn cap args::ds) pan h) Q:=by
 refine Wp.bind (t':=.dcall g as pan h') (fun rec r=>match r with
    |.dret pan' h''=>(match pan' with
     |some (_,true)=>rec (.leave f tm ds none h'')
     |p=>rec (.leave f tm ds p h''))
    | .thrown _ _ => .no "a deferred call panics" []
    |r=>no1 g r) (fun rec=>by simp only[step,hi]; congr 1) ?_
 refine Wp.mono w ?_
 rintro r ⟨pan',h2,rfl,r',hr,q⟩
 refine⟨r',?_,q⟩
 obtain⟨N,hr⟩:=hr
 refine⟨N,fun n hn=>?_⟩
 have:=hr n hn
 match pan',this with
 |none,this=>exact this
 |some (_,true),this=>exact this
 |some (_,false),this=>exact this
theorem e4s {g:FuncId}{args:List AV}{F:Func}{c:Code}{P:Option (AV×Bool)→a0a→Prop}(hF:T.fn g=some F) (hr:F.results.toList=[]) (hb:F.body=some c)
  (w:∀ tm,a0m tm (b3g args 0 [])→a3r T { fn:=g,nt:=Nat.max F.ntmps args.length,round:=none } [.code c] ⟨tm,[],pan,h⟩ fun r=>∃ e tm pan' h',r=.fin e ⟨tm,[],pan',h'⟩∧(e=.normal∨e=.ret)∧P pan' h') :
  Wp T (.dcall g args pan h) fun r=>∃ pan' h',r=.dret pan' h'∧P pan' h':=by
 refine Wp.bind (t':=.code { fn:=g,nt:=Nat.max F.ntmps args.length,round:=none } c { tm:=a5u args 0 .nil,df:=[],pan:=pan,h:=h }) (fun rec r=>match r with
    |.fin e s=>(match e,s.df with
     |.normal,[]=>.dret s.pan s.h
     |.ret,[]=>.dret s.pan s.h
     | _, _ => .no "deferred: defers" [])
    |.pan v s=>.thrown v s.h
    |r=>r) (fun rec=>by simp only[step,hF,hr,hb]; congr 1) ?_
 refine Wp.mono (w _ (a0m.args args 0 _ _ (a0m.nil _))) ?_
 rintro r ⟨e,tm,pan',h',rfl,he,p⟩
 rcases he with rfl|rfl<;>exact⟨.dret pan' h',⟨0,fun _ _=>rfl⟩,pan',h',rfl,p⟩
theorem d9f {dd:ADef}(hs:a0m tm L) (hg:a0p all L o=some true) (hd:o.dst=none) (ho:opA T (a1y L) o h=.defer dd) (hr:cx.round=none)
  (c:Ops T cx all rest k ⟨tm,dd::df,pan,h⟩ Q):Ops T cx all (o::rest) k ⟨tm,df,pan,h⟩ Q:=by
 refine Wp.like (fun rec=>?_) c
 simp only[step,a2a hs hg,a7r hs ho rfl,hr,a7q,hd]
theorem d8x (hs:a0m tm L) (hg:a0p all L o=some true) (ho:opA T (a1y L) o h=.panic v h') (c:Q (.pan v ⟨tm,df,pan,h'⟩)):Ops T cx all (o::rest) k ⟨tm,df,pan,h⟩ Q:=by
 refine Wp.now (r:=.pan v ⟨tm,df,pan,h'⟩) (fun rec=>?_) (by show after T cx k Q _; rw[a9l]; exact c)
 simp only[step,a2a hs hg,a7r hs ho rfl]
theorem d0j {p:AV}(hs:a0m tm L) (hg:a0p all L o=some true) (hd:o.dst=some d) (ho:opA T (a1y L) o h=.recover) (hr:cx.round=none) (hn:Nat.blt d cx.nt=true)
  (c:∀ tm',a0m tm' ((d,p)::L)→Ops T cx all rest k ⟨tm',df,some (p,true),h⟩ Q):Ops T cx all (o::rest) k ⟨tm,df,some (p,false),h⟩ Q:=by
 refine Wp.like (fun rec=>?_) (c (tm.set d p) (hs.set d p))
 simp only[step,a2a hs hg,a7r hs ho rfl,hr,a7q,hd,if_pos (a6h hn)]
theorem c6n (hs:a0m tm L) (hg:a0p all L o=some true) (hd:o.dst=some d) (ho:opA T (a1y L) o h=.recover) (hr:cx.round=none) (hn:Nat.blt d cx.nt=true)
  (c:∀ tm',a0m tm' ((d,.niliface)::L)→Ops T cx all rest k ⟨tm',df,none,h⟩ Q):Ops T cx all (o::rest) k ⟨tm,df,none,h⟩ Q:=by
 refine Wp.like (fun rec=>?_) (c (tm.set d .niliface) (hs.set d .niliface))
 simp only[step,a2a hs hg,a7r hs ho rfl,hr,a7q,hd,if_pos (a6h hn)]
theorem d8b {f:FuncId}{args:List AV}{P R:AV→a0a→Prop}(hs:a0m tm L) (hg:a0p all L o=some true) (hd:o.dst=some d) (ho:opA T (a1y L) o h=.enter f args h') (hn:Nat.blt d cx.nt=true)
  (hc:Wp T (.call f args h') fun r=>(∃ v h2,r=.ret v h2∧P v h2)∨∃ v h2,r=.thrown v h2∧R v h2) (c:∀ v h2,P v h2→∀ tm',a0m tm' ((d,v)::L)→Ops T cx all rest k ⟨tm',df,pan,h2⟩ Q)
  (c2:∀ v h2,R v h2→Q (.pan v ⟨tm,df,pan,h2⟩)):Ops T cx all (o::rest) k ⟨tm,df,pan,h⟩ Q:=by
 refine Wp.bind (t':=.call f args h') (fun rec r=>match r with
   |.ret v h''=>(match a7q cx { tm:=tm,df:=df,pan:=pan,h:=h'' } o.dst v with
      |some s'=>rec (.ops cx all rest s')
      | none => .no "put" [])
   |.thrown v h''=>.pan v { tm:=tm,df:=df,pan:=pan,h:=h'' }
   |r=>no1 f r) (fun rec=>?_) (Wp.mono hc ?_)
 ·simp only[step,a2a hs hg,a7r hs ho rfl]
  cases rec (.call f args h')<;>rfl
 ·rintro _ (⟨v,h2,rfl,p⟩|⟨v,h2,rfl,p⟩)
  ·obtain⟨r,⟨N,hr⟩,q⟩:=c v h2 p (tm.set d v) (hs.set d v)
   refine⟨r,⟨N,fun n hn'=>?_⟩,q⟩
   simp only[a7q,hd,if_pos (a6h hn)]
   exact hr n hn'
  ·exact⟨.pan v ⟨tm,df,pan,h2⟩,⟨0,fun _ _=>rfl⟩,by show after T cx k Q _; rw[a9l]; exact c2 v h2 p⟩
end Ev
namespace Ev
open Go
variable {T:a0k}{L:List (Nat×AV)}
theorem a0a.a2o {h:a0a}(k:h.ok) (n:Nat):a0a.ok { h with next:=h.next+n }:=fun b hb=>k b (by have:h.next+n≤b:=hb; omega)
theorem Ext.more {a h:a0a}(e:Ext a h) (k:h.ok) (n:Nat):Ext a { h with next:=h.next+n }:=⟨by show a.next≤h.next+n; have:=e.nx; omega,fun b hb=>e.old b hb,fun _=>a0a.a2o k n⟩
end Ev
end
section
namespace Ev
open Go
variable {T:a0k}{ρ:Operand→Option AV}{h h':a0a}{dst:Option Tmp}{ty:TypeId}{pos:String}{aft:Array Edge}{gd:Option (Nat×Bool)}{t:TypeId}{x ix a y z:Operand}{kd:IntKind}{i j:Int}{o:Oper}{op:BinOp}
theorem e8n {a b:List UInt8}(ho:op=.eql) (e:a=b):a1i T op t (.str a) (.str b)=some (.bool true):=by subst ho; exact e9i e
theorem e6r {a b:List UInt8}(ho:op=.eql) (e:a≠b):a1i T op t (.str a) (.str b)=some (.bool false):=by subst ho; exact e7s e
theorem e6i {a b:List UInt8}(ho:op=.neq) (e:a≠b):a1i T op t (.str a) (.str b)=some (.bool true):=by subst ho; exact e6o e
theorem e6u {a b:List UInt8}(ho:op=.neq) (e:a=b):a1i T op t (.str a) (.str b)=some (.bool false):=by subst ho; exact e5r e
theorem e9h (ho:op=.lss):a1i T op t (.int kd i) (.int kd j)=some (.bool (decide (i<j))):=by subst ho; exact e5t
theorem e5a (ho:op=.leq):a1i T op t (.int kd i) (.int kd j)=some (.bool (decide (i≤j))):=by subst ho; exact e7x
theorem e7w (ho:op=.gtr):a1i T op t (.int kd i) (.int kd j)=some (.bool (decide (j<i))):=by subst ho; exact e5g
theorem e7y (ho:op=.geq):a1i T op t (.int kd i) (.int kd j)=some (.bool (decide (j≤i))):=by subst ho; exact e8f
theorem e8d (ho:op=.eql):a1i T op t (.int kd i) (.int kd j)=some (.bool (decide (i=j))):=by subst ho; exact e4y
theorem e7m (ho:op=.neq):a1i T op t (.int kd i) (.int kd j)=some (.bool (decide (i≠j))):=by subst ho; exact e8q
theorem e8o {a b:List UInt8}(ho:op=.lss):a1i T op t (.str a) (.str b)=some (.bool (bytesLess a b)):=by subst ho; rfl
theorem e5d {a b:List UInt8}(ho:op=.leq):a1i T op t (.str a) (.str b)=some (.bool (bytesLess a b||a1w a b)):=by subst ho; rfl
theorem e5u {a b:List UInt8}(ho:op=.gtr):a1i T op t (.str a) (.str b)=some (.bool (!(bytesLess a b||a1w a b))):=by subst ho; rfl
theorem e6v {a b:List UInt8}(ho:op=.geq):a1i T op t (.str a) (.str b)=some (.bool (!bytesLess a b)):=by subst ho; rfl
theorem e8v {a b:List UInt8}(ho:op=.eql):a1i T op t (.str a) (.str b)=some (.bool (a1w a b)):=by subst ho; rfl
theorem e8b {a b:List UInt8}(ho:op=.neq):a1i T op t (.str a) (.str b)=some (.bool (!a1w a b)):=by subst ho; rfl
theorem f4o {a b:List UInt8}(ho:op=.add) (e:a.length+b.length≤140737488355328):a1i T op t (.str a) (.str b)=some (.str (a++b)):=by subst ho; exact d6i e
theorem f5d {z:Int}(ho:op=.add) (hk:kd=.i64) (hz:i+j=z) (h1 : -9223372036854775808≤z) (h2:z<9223372036854775808):a1i T op t (.int kd i) (.int kd j)=some (.int kd z):=by subst ho hk; exact a8b hz h1 h2
theorem f3t {z:Int}(ho:op=.sub) (hk:kd=.i64) (hz:i-j=z) (h1 : -9223372036854775808≤z) (h2:z<9223372036854775808):a1i T op t (.int kd i) (.int kd j)=some (.int kd z):=by subst ho hk; exact d7n hz h1 h2
theorem f4q {z:Int}(ho:op=.mul) (hk:kd=.i64) (hz:i*j=z) (h1 : -9223372036854775808≤z) (h2:z<9223372036854775808):a1i T op t (.int kd i) (.int kd j)=some (.int kd z):=by subst ho hk; exact d9c hz h1 h2
theorem f4j {z:Int}(ho:op=.quo) (hk:kd=.i64) (hj:j≠0) (hz:i.tdiv j=z) (h1 : -9223372036854775808≤z) (h2:z<9223372036854775808):a1i T op t (.int kd i) (.int kd j)=some (.int kd z):=by subst ho hk; exact d7d hj hz h1 h2
theorem f4p (ho:op=.rem) (hj:j≠0):a1i T op t (.int kd i) (.int kd j)=some (.int kd (i.tmod j)):=by subst ho; exact f3x hj
theorem e4w {z:Int}(ho:op=.add) (hk:kd=.u32) (hz:i+j=z) (h1:0≤z) (h2:z<4294967296):a1i T op t (.int kd i) (.int kd j)=some (.int kd z):=by subst ho hk; exact d9z hz h1 h2
theorem e4x {z:Int}(ho:op=.sub) (hk:kd=.u32) (hz:i-j=z) (h1:0≤z) (h2:z<4294967296):a1i T op t (.int kd i) (.int kd j)=some (.int kd z):=by subst ho hk; exact d8g hz h1 h2
theorem e9g {z:Int}(ho:op=.add) (hk:kd=.u64) (hz:i+j=z) (h1:0≤z) (h2:z<18446744073709551616):a1i T op t (.int kd i) (.int kd j)=some (.int kd z):=by subst ho hk; exact d9g hz h1 h2
theorem a3n {u:TypeId}{a b v:AV}(ho:o.op=.binOp op t x y u) (hx:ρ x=some a) (hy:ρ y=some b) (hv:a1i T op t a b=some v) (hg:b8o T op t x y a b=true):opA T ρ o h=.val v h:=by
 cases o; cases ho; exact a6n hx hy hv hg
theorem d2i {src:TypeId}{k k':IntKind}{n:Int}{d:TypeDesc}{z:Int}(ho:o.op=.convert src t x) (hx:ρ x=some (.int k n)) (hs:T.und src=some d) (hd:T.und t=some (.int k')) (hz:k'.wrap n=z):opA T ρ o h=.val (.int k' z) h:=by
 cases o; cases ho; exact c3n hx hs hd hz
theorem f1y {k:IntKind}(hk:k=.u64) (h1:0≤i) (h2:i<18446744073709551616):k.wrap i=i:=by subst hk; exact wrap_u64 h1 h2
theorem f1o {k:IntKind}(hk:k=.u32) (h1:0≤i) (h2:i<4294967296):k.wrap i=i:=by subst hk; exact wrap_u32 h1 h2
theorem f5e {k:IntKind}(hk:k=.u8) (h1:0≤i) (h2:i<256):k.wrap i=i:=by subst hk; exact wrap_u8 h1 h2
theorem f0k {k:IntKind}(hk:k=.i64) (h1 : -9223372036854775808≤i) (h2:i<9223372036854775808):k.wrap i=i:=by subst hk; exact wrap_i64 h1 h2
theorem f5u {s:List UInt8}{n:Nat}(ho:o.op=.index t x ix) (ht:T.und t=some .string) (hx:ρ x=some (.str s)) (hi:ρ ix=some (.int kd (n:Int))) (hn:n<s.length):opA T ρ o h=.val (.int .u8 ((s.getD n 0).toNat:Nat)) h:=by
 cases o; cases ho; exact e1x ht hx hi hn
theorem d0e {s:List UInt8}{n:Nat}(ho:o.op=.slice t x none (some y) none) (ht:T.und t=some .string) (hx:ρ x=some (.str s)) (hy:ρ y=some (.int .i64 n)) (hk:n≤s.length):opA T ρ o h=.val (.str (s.take n)) h:=by
 cases o; cases ho; exact e3d hx hy ht hk
theorem c4c {s:List UInt8}{n:Nat}(ho:o.op=.slice t x (some y) none none) (ht:T.und t=some .string) (hx:ρ x=some (.str s)) (hy:ρ y=some (.int .i64 n)) (hk:n≤s.length):opA T ρ o h=.val (.str (s.drop n)) h:=by
 cases o; cases ho; exact d2e hx hy ht hk
theorem d4i {s:List UInt8}{n m:Nat}(ho:o.op=.slice t x (some y) (some z) none) (ht:T.und t=some .string) (hx:ρ x=some (.str s)) (hy:ρ y=some (.int .i64 n)) (hz:ρ z=some (.int .i64 m)) (hn:n≤m) (hm:m≤s.length):opA T ρ o h=.val (.str ((s.drop n).take (m-n))) h:=by
 cases o; cases ho; exact d2k hx hy hz ht hn hm
theorem f0z {b off n:Nat}{e:TypeId}{cs:List AV}{rw:Bool}{v:AV}(ho:o.op=.load t a) (ha:T.agg t=some false) (hx:ρ a=some (.ptr b off)) (hsz:T.size t=some n) (hg:h.get b=some (.cells e cs rw)) (hv:cs[off]?=some v):opA T ρ o h=.val v h:=by
 cases o; cases ho; exact c2b hx ha hsz hg hv
theorem e5f {b off n:Nat}{e:TypeId}{cs:List AV}{rw:Bool}(ho:o.op=.load t a) (ha:T.agg t=some true) (hx:ρ a=some (.ptr b off)) (hsz:T.size t=some n) (hg:h.get b=some (.cells e cs rw)) (hl:off+n≤cs.length):opA T ρ o h=.val (.agg ((cs.drop off).take n)) h:=by
 cases o; cases ho; exact c1f hx ha hsz hg hl
theorem e0n {b off:Nat}{e:TypeId}{cs:List AV}{v:AV}(ho:o.op=.store t a x) (hx:ρ a=some (.ptr b off)) (hv:ρ x=some v) (hsz:T.size t=some 1) (hc:v.cells=[v]) (h1:v.one=true) (hg:h.get b=some (.cells e cs true)) (hl:off<cs.length):opA T ρ o h=.skip (h.set b (.cells e (cs.set off v) true)):=by
 cases o; cases ho; exact c2f hx hv hsz hc h1 hg hl
theorem b1v {b off n:Nat}{e:TypeId}{cs vs:List AV}(ho:o.op=.store t a x) (hx:ρ a=some (.ptr b off)) (hv:ρ x=some (.agg vs)) (hsz:T.size t=some n) (hn:vs.length=n) (h1:vs.all AV.one=true) (hg:h.get b=some (.cells e cs true)) (hl:off+n≤cs.length):opA T ρ o h=.skip (h.set b (.cells e (over cs off vs) true)):=by
 cases o; cases ho; exact b8l hx hv hsz hn h1 hg hl
def e8s (op:BinOp) (i j:Int):Prop:=match op with
 |.lss=>i<j
 |.leq=>i≤j
 |.gtr=>j<i
 |.geq=>j≤i
 |.eql=>i=j
 |.neq=>¬ i=j
 |_=>False
def f3p:BinOp→Bool
 |.lss=>true
 |.leq=>true
 |.gtr=>true
 |.geq=>true
 |.eql=>true
 |.neq=>true
 |_=>false
theorem c_t (hc:e8s op i j):a1i T op t (.int kd i) (.int kd j)=some (.bool true):=by
 cases op<;>first|exact hc.elim|exact e9e hc|exact e7j hc|exact e8r hc|exact e8t hc|exact e5i hc|exact e6m hc
theorem c_f (ho:f3p op=true) (hc:¬ e8s op i j):a1i T op t (.int kd i) (.int kd j)=some (.bool false):=by
 cases op<;>first|(cases ho; done)|exact e7f hc|exact e9j hc|exact e8w hc|exact e7t hc|exact e4z hc|exact e8h (Decidable.byContradiction hc)
structure GI (T:a0k) (cx:Cx) (k:List K) (s:St) (Q:Res→Prop):Prop where
 out:a3r T cx k s Q
structure OI (T:a0k) (cx:Cx) (all rest:List Oper) (k:List K) (s:St) (Q:Res→Prop):Prop where
 out:Ops T cx all rest k s Q
variable {cx:Cx}{k:List K}{Q:Res→Prop}{all rest:List Oper}{tm:Tr AV}{df:List ADef}{pan:Option (AV×Bool)}{L:List (Nat×AV)}{v:AV}{d:Nat}{s:St}
theorem f4l {s:St}(q:Q (.fin .normal s)):GI T cx [] s Q:=⟨f0r q⟩
theorem f1q (g:GI T cx k s Q):GI T cx (.code .skip::k) s Q:=⟨b2u g.out⟩
theorem e5l {l:Nat}(g:GI T cx k s Q):GI T cx (.code (.label l)::k) s Q:=⟨e0e g.out⟩
theorem f3y {id:Nat}(g:GI T cx k s Q):GI T cx (.blk id::k) s Q:=⟨b6s g.out⟩
theorem f4h (g:GI T cx k s Q):GI T cx (.scope::k) s Q:=⟨f1a (id:=0) g.out⟩
theorem f3e {a b:Code}(g:GI T cx (.code a::.code b::k) s Q):GI T cx (.code (.seq a b)::k) s Q:=⟨a1f g.out⟩
theorem e9k {id:Nat}{b:Code}(g:GI T cx (.code b::.blk id::k) s Q):GI T cx (.code (.block id b)::k) s Q:=⟨a4p g.out⟩
theorem e7e {b:Code}(g:GI T cx (.code b::.scope::k) s Q):GI T cx (.code (.scope b)::k) s Q:=⟨e1g g.out⟩
theorem f2u {id:Nat}{k':List K}(hu:unw id k=some k') (g:GI T cx k' s Q):GI T cx (.code (.exit id)::k) s Q:=⟨b2l hu g.out⟩
theorem f3k (q:Q (.fin .ret s)):GI T cx (.code .ret::k) s Q:=⟨b3a q⟩
theorem e2e {i:Nat}{ops:Array Oper}(g:OI T cx ops.toList ops.toList k s Q):GI T cx (.code (.region i ops false)::k) s Q:=⟨a0q g.out⟩
theorem f5s {x:Operand}{a b:Code}{c:Bool}(hs:a0m s.tm L) (hx:a1y L x=some (.bool c)) (ht:c=true→GI T cx (.code a::k) s Q) (hf:c=false→GI T cx (.code b::k) s Q):GI T cx (.code (.cond x a b)::k) s Q:=⟨b5o hs hx (fun e=>(ht e).out) (fun e=>(hf e).out)⟩
theorem f3f {x:Operand}{a b:Code}(hs:a0m s.tm L) (hx:a1y L x=some (.bool true)) (g:GI T cx (.code a::k) s Q):GI T cx (.code (.cond x a b)::k) s Q:=⟨f2p hs hx g.out⟩
theorem f3j {x:Operand}{a b:Code}(hs:a0m s.tm L) (hx:a1y L x=some (.bool false)) (g:GI T cx (.code b::k) s Q):GI T cx (.code (.cond x a b)::k) s Q:=⟨f1d hs hx g.out⟩
theorem f1h {b:Code}(I:Nat→St→Prop){m:Nat}(h0:I m s) (round:∀ m s,I m s→(∀ m' s',m'<m→I m' s'→GI T cx (.code (.loop b)::k) s' Q)→GI T cx (.code b::.code (.loop b)::k) s Q):GI T cx (.code (.loop b)::k) s Q :=
 ⟨b2d I h0 fun m s hi next=>(round m s hi fun m' s' hlt hi'=>⟨next m' s' hlt hi'⟩).out⟩
theorem e9f {b:Code}(g:GI T cx (.code b::.code (.loop b)::k) s Q):GI T cx (.code (.loop b)::k) s Q:=⟨d1u g.out⟩
theorem f4b (g:GI T cx k s Q):OI T cx all [] k s Q:=⟨a0z g.out⟩
theorem f3q (hs:a0m tm L) (hg:a0p all L o=some true) (hd:o.dst=some d) (hn:Nat.blt d cx.nt=true) (ho:opA T (a1y L) o h=.val v h')
  (c:∀ tm',a0m tm' ((d,v)::L)→OI T cx all rest k ⟨tm',df,pan,h'⟩ Q):OI T cx all (o::rest) k ⟨tm,df,pan,h⟩ Q:=⟨a0f hs hg hd ho hn fun tm' s'=>(c tm' s').out⟩
theorem f5y (hs:a0m tm L) (hg:a0p all L o=some false) (hd:o.dst=some d) (hn:Nat.blt d cx.nt=true)
  (c:∀ tm',a0m tm' ((d,a2w)::L)→OI T cx all rest k ⟨tm',df,pan,h⟩ Q):OI T cx all (o::rest) k ⟨tm,df,pan,h⟩ Q:=⟨f2v hs hg hd hn fun tm' s'=>(c tm' s').out⟩
theorem f3b (hs:a0m tm L) (hg:a0p all L o=some false) (hd:o.dst=none)
  (c:OI T cx all rest k ⟨tm,df,pan,h⟩ Q):OI T cx all (o::rest) k ⟨tm,df,pan,h⟩ Q:=⟨e8u hs hg hd c.out⟩
theorem f2l (hs:a0m tm L) (hg:a0p all L o=some true) (hd:o.dst=none) (ho:opA T (a1y L) o h=.val v h') (c:OI T cx all rest k ⟨tm,df,pan,h'⟩ Q):OI T cx all (o::rest) k ⟨tm,df,pan,h⟩ Q:=⟨e2w hs hg hd ho c.out⟩
theorem f0s (hs:a0m tm L) (hg:a0p all L o=some true) (hd:o.dst=none) (ho:opA T (a1y L) o h=.skip h') (c:OI T cx all rest k ⟨tm,df,pan,h'⟩ Q):OI T cx all (o::rest) k ⟨tm,df,pan,h⟩ Q:=⟨b1m hs hg hd ho c.out⟩
theorem f2m {f:FuncId}{args:List AV}{P:AV→a0a→Prop}(hs:a0m tm L) (hg:a0p all L o=some true) (hd:o.dst=some d) (ho:opA T (a1y L) o h=.enter f args h') (hn:Nat.blt d cx.nt=true)
  (hc:a0l T f args h' P) (c:∀ v h2,P v h2→∀ tm',a0m tm' ((d,v)::L)→OI T cx all rest k ⟨tm',df,pan,h2⟩ Q):OI T cx all (o::rest) k ⟨tm,df,pan,h⟩ Q:=⟨a9z hs hg hd ho hn hc fun v h2 p tm' s'=>(c v h2 p tm' s').out⟩
theorem e6n {f:FuncId}{args:List AV}{P R:AV→a0a→Prop}(hs:a0m tm L) (hg:a0p all L o=some true) (hd:o.dst=some d) (ho:opA T (a1y L) o h=.enter f args h') (hn:Nat.blt d cx.nt=true)
  (hc:Wp T (.call f args h') fun r=>(∃ v h2,r=.ret v h2∧P v h2)∨∃ v h2,r=.thrown v h2∧R v h2) (c:∀ v h2,P v h2→∀ tm',a0m tm' ((d,v)::L)→OI T cx all rest k ⟨tm',df,pan,h2⟩ Q)
  (c2:∀ v h2,R v h2→Q (.pan v ⟨tm,df,pan,h2⟩)):OI T cx all (o::rest) k ⟨tm,df,pan,h⟩ Q:=⟨d8b hs hg hd ho hn hc (fun v h2 p tm' s'=>(c v h2 p tm' s').out) c2⟩
theorem e5w {dd:ADef}(hs:a0m tm L) (hg:a0p all L o=some true) (hd:o.dst=none) (ho:opA T (a1y L) o h=.defer dd) (hr:cx.round=none)
  (c:OI T cx all rest k ⟨tm,dd::df,pan,h⟩ Q):OI T cx all (o::rest) k ⟨tm,df,pan,h⟩ Q:=⟨d9f hs hg hd ho hr c.out⟩
theorem e6y (hs:a0m tm L) (hg:a0p all L o=some true) (ho:opA T (a1y L) o h=.panic v h') (c:Q (.pan v ⟨tm,df,pan,h'⟩)):OI T cx all (o::rest) k ⟨tm,df,pan,h⟩ Q:=⟨d8x hs hg ho c⟩
theorem d9r {p:AV}(hs:a0m tm L) (hg:a0p all L o=some true) (hd:o.dst=some d) (ho:opA T (a1y L) o h=.recover) (hr:cx.round=none) (hn:Nat.blt d cx.nt=true)
  (c:∀ tm',a0m tm' ((d,p)::L)→OI T cx all rest k ⟨tm',df,some (p,true),h⟩ Q):OI T cx all (o::rest) k ⟨tm,df,some (p,false),h⟩ Q:=⟨d0j hs hg hd ho hr hn fun tm' s'=>(c tm' s').out⟩
theorem d5d (hs:a0m tm L) (hg:a0p all L o=some true) (hd:o.dst=some d) (ho:opA T (a1y L) o h=.recover) (hr:cx.round=none) (hn:Nat.blt d cx.nt=true)
  (c:∀ tm',a0m tm' ((d,.niliface)::L)→OI T cx all rest k ⟨tm',df,none,h⟩ Q):OI T cx all (o::rest) k ⟨tm,df,none,h⟩ Q:=⟨c6n hs hg hd ho hr hn fun tm' s'=>(c tm' s').out⟩
theorem e6l {g:FuncId}{args:List AV}{F:Func}{c:Code}{P:Option (AV×Bool)→a0a→Prop}(hF:T.fn g=some F) (hr:F.results.toList=[]) (hb:F.body=some c)
  (w:∀ tm,a0m tm (b3g args 0 [])→GI T { fn:=g,nt:=Nat.max F.ntmps args.length,round:=none } [.code c] ⟨tm,[],pan,h⟩ fun r=>∃ e tm pan' h',r=.fin e ⟨tm,[],pan',h'⟩∧(e=.normal∨e=.ret)∧P pan' h') :
  Wp T (.dcall g args pan h) fun r=>∃ pan' h',r=.dret pan' h'∧P pan' h':=e4s hF hr hb fun tm hs=>(w tm hs).out
theorem a0x {a:Tmp}{t:TypeId}{b off:Nat}{l:List ResultVar}{r:List AV}(ha:look L a=some (.ptr b off)) (hl:a3y T t h b off=some v) (hr:a2c T L h l=some r):a2c T L h (.cell a t::l)=some (v::r):=by
 simp only[a2c,ha,hl,hr]
theorem results_tmp {a:Tmp}{l:List ResultVar}{r:List AV}(ha:look L a=some v) (hr:a2c T L h l=some r):a2c T L h (.tmp a::l)=some (v::r):=by
 simp only[a2c,ha,hr]
theorem b0c {t:TypeId}{b n:Nat}{e:TypeId}{cs:List AV}{rw:Bool}(ha:T.agg t=some true) (hsz:T.size t=some n) (hg:h.get b=some (.cells e cs rw)) (hl:cs.length=n):a3y T t h b 0=some (.agg cs):=by
 rw[b0p ha hsz hg (by omega)]
 simp[← hl]
theorem a2p {t:TypeId}{b n:Nat}{e:TypeId}{x:AV}{rw:Bool}(ha:T.agg t=some false) (hsz:T.size t=some n) (hg:h.get b=some (.cells e [x] rw)):a3y T t h b 0=some x:=b9u ha hsz hg rfl
variable {nt:Nat}{ms:List Nat}{N m:Nat}{mr:List Nat}{n:Nat}{acc:List Ent}{K':Tr AV→a0a→Prop}{sl:List Tmp}{hl:List (List Tmp)}
structure DI (T:a0k) (nt:Nat) (all:List Oper) (ms:List Nat) (N:Nat) (rest:List Oper) (mr:List Nat) (hl:List (List Tmp)) (i:Nat) (tm:Tr AV) (h:a0a) (acc:List Ent) (K:Tr AV→a0a→Prop):Prop where
 out:DH T nt all ms N rest mr hl i tm h acc K
theorem e6a {r:Nat}{ops:Array Oper}(hm:masks ops.toList=ms) (hh:a8d ops.toList ms ops.toList ms 0=hl) (he:a3q ops.toList 0=true) (hk:h.ok)
  (g:DI T cx.nt ops.toList ms h.next ops.toList ms hl 0 tm { h with next:=h.next+ops.toList.length } [] (fun tm' h'=>GI T cx k ⟨tm',df,pan,h'⟩ Q)) :
  GI T cx (.code (.region r ops true)::k) ⟨tm,df,pan,h⟩ Q :=
 ⟨d4t hm hh he hk fun e=>by
  obtain⟨tmF,hF,es,h1,h2,h3⟩:=g.out e
  exact⟨tmF,hF,es,h1,h2,h3.out⟩⟩
theorem f3m {l:List (Ent×a0a)}(hm:d2t ms acc.reverse 0) (hl':todo ms acc.reverse 0=some l) (hk:a4a T l) (q:K' tm h):DI T nt all ms N [] mr hl n tm h acc K':=⟨f0u hm hl' hk q⟩
theorem f5k (hs:a0m tm L) (hw:a0p all (a1n L sl) o=some false) (hd:o.dst=some d) (hn:Nat.blt d nt=true)
  (c:∀ tmr tm',a0m tmr (a1n L sl)→a0m tm' ((d,a2w)::L)→DI T nt all ms N rest mr hl (n+1) tm' h (⟨o,m,.pure,false,tmr,h,a2w,h⟩::acc) K'):DI T nt all ms N (o::rest) (m::mr) (sl::hl) n tm h acc K':=⟨f4r hs hw hd hn fun a b x y=>(c a b x y).out⟩
theorem f4z (hs:a0m tm L) (hw:a0p all (a1n L sl) o=some true) (hd:o.dst=some d) (hn:Nat.blt d nt=true) (hk:b8n (a1l T o.op)=true) (ho:opA T (a1y (a1n L sl)) o h=.val v h')
  (c:∀ tmr tm',a0m tmr (a1n L sl)→a0m tm' ((d,v)::L)→DI T nt all ms N rest mr hl (n+1) tm' h (⟨o,m,.read,true,tmr,h,v,h⟩::acc) K'):DI T nt all ms N (o::rest) (m::mr) (sl::hl) n tm h acc K':=⟨f1w hs hw hd hn hk ho fun a b x y=>(c a b x y).out⟩
theorem e9l {a:a1t}(hk:a1l T o.op=.alloc) (hs:a0m tm L) (hw:a0p all (a1n L sl) o=some true) (hd:o.dst=some d) (hn:Nat.blt d nt=true) (ho:a8m T (a1y (a1n L sl)) o (N+n)=some (v,a))
  (c:∀ tmr tm',a0m tmr (a1n L sl)→a0m tm' ((d,v)::L)→DI T nt all ms N rest mr hl (n+1) tm' (h.set (N+n) a) (⟨o,m,.alloc,true,tmr,h,v,h.set (N+n) a⟩::acc) K'):DI T nt all ms N (o::rest) (m::mr) (sl::hl) n tm h acc K':=⟨e2g hs hw hd hn hk ho fun a b x y=>(c a b x y).out⟩
theorem f2x (hs:a0m tm L) (hw:a0p all (a1n L sl) o=some true) (hd:o.dst=some d) (hn:Nat.blt d nt=true) (hk:a1l T o.op=.act) (ho:opA T (a1y (a1n L sl)) o h=.val v h')
  (c:∀ tmr tm',a0m tmr (a1n L sl)→a0m tm' ((d,v)::L)→DI T nt all ms N rest mr hl (n+1) tm' h' (⟨o,m,.act,true,tmr,h,v,h'⟩::acc) K'):DI T nt all ms N (o::rest) (m::mr) (sl::hl) n tm h acc K':=⟨f0t hs hw hd hn hk ho fun a b x y=>(c a b x y).out⟩
theorem f1z (hs:a0m tm L) (hw:a0p all (a1n L sl) o=some true) (hd:o.dst=none) (hk:a1l T o.op=.act) (ho:opA T (a1y (a1n L sl)) o h=.skip h')
  (c:∀ tmr,a0m tmr (a1n L sl)→DI T nt all ms N rest mr hl (n+1) tm h' (⟨o,m,.act,true,tmr,h,a2w,h'⟩::acc) K'):DI T nt all ms N (o::rest) (m::mr) (sl::hl) n tm h acc K':=⟨e6h hs hw hd hk ho fun a x=>(c a x).out⟩
theorem e1s {f:FuncId}{args:List AV}{P:AV→a0a→Prop}(hs:a0m tm L) (hw:a0p all (a1n L sl) o=some true) (hd:o.dst=some d) (hn:Nat.blt d nt=true) (hk:a1l T o.op=.act)
  (ho:opA T (a1y (a1n L sl)) o h=.enter f args h') (g:∃ v h2,Says T (.call f args h') (.ret v h2)∧P v h2)
  (c:∀ v h2,P v h2→∀ tmr tm',a0m tmr (a1n L sl)→a0m tm' ((d,v)::L)→DI T nt all ms N rest mr hl (n+1) tm' h2 (⟨o,m,.act,true,tmr,h,v,h2⟩::acc) K'):DI T nt all ms N (o::rest) (m::mr) (sl::hl) n tm h acc K':=⟨e6g hs hw hd hn hk ho g fun v h2 p a b x y=>(c v h2 p a b x y).out⟩
end Ev
end
