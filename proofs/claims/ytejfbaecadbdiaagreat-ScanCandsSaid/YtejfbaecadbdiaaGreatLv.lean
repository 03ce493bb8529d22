/- What the functions of this part answer at any input, told by the rules over the evaluator. Conditions: those that each theorem states. -/
import Derived.Test.YtejfbaecadbdiaaGreatGao
import Derived.Test.YtejfbaecadbdiaaGreatTab
import Derived.Test.YtejfbaecadbdiaaGreatCrc
import Derived.Test.YtejfbaecadbdiaaGreatSta
set_option linter.unusedVariables false
set_option linter.unusedSimpArgs false
open Go Ev
namespace Go.Proofs.YtejfbaecadbdiaaGreat
def e5n:List Nat:=[6]
def f4i:List Nat:=[121,151,54,90]
noncomputable def b8z (f:FuncId) (args:List AV) (h:a0a):Option (AV×a0a):=match b0h f e5n with
 |true=>match args with
  |[]=>some (.bool true,h)
  |_=>none
 |false=>match b0h f f2o with
  |true=>e3i f args h
  |false=>match b0h f f4i with
   |true=>b1d f args h
   |false=>none
noncomputable def T0:Ev.a0k:={ TB.det with sm:=b8z }
def wfs:List Nat:=[92,150,149,58,96,120,97,67,126,192,169,142,168,141,111,209,180,181,179,161,211,210,184,183,182,165,186,166,139,188,187,189,190,167,124,127,101,68,34,109,80,7,61,89,51,52,26,63,62,32,94,107,93,95,66,33,10,134,135,106,74,75,154,155,129,128,102,157,131,156,130,103,104,71,133,158,132,105,35,40,18,50,25,27,204,88,174,207,208,220]
def wf (f:FuncId):Bool:=b0h f wfs
noncomputable def TV (n:Nat):Ev.a0k:=lev T0 wf n
theorem a3b {d n:Nat}(hn:d<n){f:FuncId}{args:List AV}{h:a0a}{v:AV}(hw:wf f=true) (ha:AV.a1q args=true) (hp:v.plain=true) (g:∀ m,d≤m→a5s (TV m) f args ⟨.nil,0⟩ (fun v' _=>v'=v)):(TV n).sm f args h=some (v,h):=by
 obtain⟨m,rfl⟩:∃ m,n=m+1:=⟨n-1,by omega⟩
 exact word hw hp (.plain ha (g m (by omega)))
theorem a9d {d n:Nat}(hn:d<n){f:FuncId}{args:List AV}{h:a0a}{v:AV}(C:a0a→Prop) (hw:wf f=true) (hp:v.plain=true) (hc:C h) (h0:AV.a1q args=true→C ⟨.nil,0⟩) (g:∀ m,d≤m→∀ h,C h→a5s (TV m) f args h (fun v' h'=>v'=v∧Ext h h')):(TV n).sm f args h=some (v,h):=by
 obtain⟨m,rfl⟩:∃ m,n=m+1:=⟨n-1,by omega⟩
 exact word hw hp (.other (g m (by omega) h hc) fun hp=>g m (by omega) _ (h0 hp))
theorem a1x {n:Nat}{f:FuncId}{args:List AV}{h:a0a}(hw:wf f=false) (h0:b8z f args h=none):(TV n).sm f args h=none:=by
 show smB T0 wf n f args h=none
 cases n with
 |zero=>exact h0
 |succ n=>unfold smB; rw[hw]; exact h0
theorem b_w {n:Nat}{f:FuncId}{args:List AV}{h:a0a}{r:Option (AV×a0a)}(hw:wf f=false) (h0:b8z f args h=r):(TV n).sm f args h=r:=by
 show smB T0 wf n f args h=r
 cases n with
 |zero=>exact h0
 |succ n=>unfold smB; rw[hw]; exact h0
set_option maxRecDepth 10000
set_option maxHeartbeats 4000000
def Good (n:Int):Prop:=128≤n∧n≤4096∧n % 64=0
instance (n:Int):Decidable (Good n):=inferInstanceAs (Decidable (_∧_∧_))
def room (n:Int):Int:=if Good n then n-24 else 0
theorem b2h {n:Nat}(hn:0<n) (s:Int) (h:a0a):(TV n).sm 92 [.int .i64 s] h=some (.bool (decide (Good s)),h):=by
 refine a3b hn rfl rfl rfl fun n hn=>a0s rfl rfl ?_
 unfold Good
 have e:128≤s→s.tmod 64=s % 64:=fun h=>Int.tmod_eq_emod_of_nonneg (by omega)
 exact auto
theorem b6k {n:Nat}(hn:1<n) (s:Int) (h:a0a):(TV n).sm 150 [.int .i64 s] h=some (.int .i64 (room s),h):=by
 refine a3b hn rfl rfl rfl fun n hn=>a0s rfl rfl ?_
 unfold room
 refine walk ?_
 refine a3e (b2h (by omega) s _) rfl rfl rfl rfl ?_
 by_cases g:Good s
 all_goals
  have:=g
  unfold Good at this
  exact auto
def pages (n:Int) (img:List UInt8):Nat:=if Good n then img.length / n.toNat else 0
theorem b3s (n:Int) (img:List UInt8):pages n img≤img.length:=by
 unfold pages
 split
 ·exact Nat.div_le_self _ _
 ·omega
theorem d6f {n:Nat}(hn:1<n) (s:Int) (img:List UInt8) (hi:img.length<1000000000) (h:a0a):(TV n).sm 58 [.int .i64 s,.str img] h=some (.int .i64 (pages s img),h):=by
 refine a3b hn rfl rfl rfl fun n hn=>a0s rfl rfl ?_
 refine walk ?_
 refine a3e (b2h (by omega) s _) rfl rfl rfl rfl ?_
 unfold pages
 by_cases g:Good s
 ·have g1:=g.1
  have g2:=g.2.1
  have e:(img.length:Int).tdiv s=((img.length / s.toNat:Nat):Int):=by
   obtain⟨m,rfl⟩:=Int.eq_ofNat_of_zero_le (show 0≤s by omega)
   rfl
  have hq:img.length / s.toNat≤img.length:=Nat.div_le_self _ _
  rw[if_pos g,← e]
  have hq0:(0:Int)≤(img.length / s.toNat:Nat):=Int.natCast_nonneg _
  rw[← Int.ofNat_le,← e] at hq
  rw[← e] at hq0
  exact auto
 ·rw[if_neg g]
  exact auto
def atL (n:Int) (img:List UInt8) (p:Nat):List UInt8:=(img.drop (p*n.toNat)).take n.toNat
theorem e9u {n:Int}{img:List UInt8}{p:Nat}(hp:p<pages n img):Good n∧p*n.toNat+n.toNat≤img.length:=by
 unfold pages at hp
 split at hp
 ·rename_i g
  refine⟨g,?_⟩
  have h1:(p+1)*n.toNat≤img.length:=Nat.le_trans (Nat.mul_le_mul_right _ (show(p+1)≤img.length / n.toNat from hp)) (Nat.div_mul_le_self _ _)
  rw[Nat.succ_mul] at h1
  exact h1
 ·omega
theorem f5p {n:Nat}(hn:2<n) (s:Int) (img:List UInt8) (p:Nat) (hi:img.length<1000000000) (hp:p<4294967296) (h:a0a):(TV n).sm 96 [.int .i64 s,.str img,.int .u32 p] h =
  some (if p<pages s img then .tuple [.str (atL s img p),.bool true] else .tuple [.str [],.bool false],h):=by
 have hq:=b3s s img
 refine a3b hn rfl rfl (by split<;>rfl) fun n hn=>a0s rfl rfl ?_
 refine walk ?_
 refine a3e (d6f (by omega) s img hi _) rfl rfl rfl rfl ?_
 by_cases hlt:p<pages s img
 ·obtain⟨g,hb⟩:=e9u hlt
  have g1:=g.1
  have g2:=g.2.1
  unfold atL
  obtain⟨m,rfl⟩:=Int.eq_ofNat_of_zero_le (show 0≤s by omega)
  rw[if_pos hlt]
  simp only[Int.toNat_natCast] at hb ⊢
  refine walk ?_
  exact a0d hres (by show AV.tuple [AV.str _,_]=_; rw[Nat.add_sub_cancel_left])
 ·refine walk ?_
  rw[if_neg hlt]
  exact a0d hres rfl
structure Pg where
 kind:Int
 count:Int
 page:Nat
 link:Nat
 tx:Nat
 body:List UInt8
 deriving DecidableEq
def Pg.cs (p:Pg):List AV:=[.int .i64 p.kind,.int .i64 p.count,.int .u32 p.page,.int .u32 p.link,.int .u64 p.tx,.str p.body]
def Pg.av (p:Pg):AV:=.agg p.cs
def Pg.zero:Pg:=⟨0,0,0,0,0,[]⟩
def a7a (n:Int) (p:Pg):Prop:=Good n∧1≤p.kind∧p.kind≤6∧0≤p.count∧p.count≤65535∧p.page≤2147483647∧p.link≤2147483647∧p.tx≤4611686018427387904∧(p.body.length:Int)=room n
instance (n:Int) (p:Pg):Decidable (a7a n p):=inferInstanceAs (Decidable (_∧_))
theorem f3g {n:Nat}(hn:2<n) (s:Int) (p:Pg) (hb:p.body.length<1000000000) (h:a0a):(TV n).sm 120 [.int .i64 s,p.av] h=some (.bool (decide (a7a s p)),h):=by
 refine a3b hn rfl rfl rfl fun n hn=>a0s rfl rfl ?_
 have w1:=b2h (n:=n) (by omega) s
 have w2:=b6k (n:=n) (by omega) s
 refine walk ?_
 refine a0c (q:=46) (ms:=[0,1,3,7,15,31,63,127,255,511,1023,2047,4095,8191,16383,32767,65535,131071,262143,524287,1048575,2097151,4194303,8388607,16777215,33554431,67108863,134217727,268435455,536870911,1073741823,2147483647,4294967295,8589934591,17179869183,34359738367,68719476735,137438953471,274877906943,549755813887,1099511627775,274877906943,2473901162495,8796093022207,17592186044415,35184372088831]) (hl:=[[],[],[],[],[],[],[],[],[],[],[],[],[],[],[],[],[],[],[],[],[],[],[],[],[],[],[],[],[],[],[],[],[],[],[],[],[],[],[46,47],[46,47],[46,47],[43,44,45],[43,44,45],[],[],[]]) hok rfl (by kernel_rfl) (by kernel_rfl) rfl ?_
 unfold a7a
 exact auto
set_option maxRecDepth 10000
set_option maxHeartbeats 4000000
theorem a9j {n:Nat}(s:List UInt8) (h:a0a):a0l (TV n) 99 [.str s] h (fun v h'=>v=.ptr h.next 0∧h'=h.alloc (.cells 201 [.str s] true)):=by
 refine a0r (a1x rfl rfl) rfl rfl ?_
 refine walk ?_
 exact a0e hres ⟨rfl,rfl⟩
theorem d5g {n:Nat}{b:Nat}{e:TypeId}{s:List UInt8}{h:a0a}(r:h.get b=some (.cells e [.str s] true)):a0l (TV n) 119 [.ptr b 0] h (fun v h'=>v=.str s∧h'=h):=by
 refine a0r (a1x rfl rfl) rfl rfl ?_
 refine walk ?_
 exact a0e hres ⟨rfl,rfl⟩
def rdR (n:Nat) (s:List UInt8):AV:=if n≤s.length then .tuple [.str (s.take n),.int .i64 0] else .tuple [.str [],.int .i64 7]
def rdH (n:Nat) (s:List UInt8) (b:Nat) (e:TypeId) (h:a0a):a0a:=if n≤s.length then h.set b (.cells e [.str (s.drop n)] true) else h
theorem c2s {q:Nat}{b n:Nat}{e:TypeId}{s:List UInt8}{h:a0a}(r:h.get b=some (.cells e [.str s] true)) (hl:s.length<1000000000) (hn:n<1000000000):a0l (TV q) 123 [.ptr b 0,.int .i64 n] h (fun v h'=>v=rdR n s∧h'=rdH n s b e h):=by
 refine a0r (a1x rfl rfl) rfl rfl ?_
 unfold rdR rdH
 by_cases hn:n≤s.length
 ·rw[if_pos hn,if_pos hn]
  refine walk ?_
  exact a0d hres ⟨rfl,rfl⟩
 ·rw[if_neg hn,if_neg hn]
  refine walk ?_
  exact a0d hres ⟨rfl,rfl⟩
theorem d0r {q:Nat}{b n:Nat}{e:TypeId}{s:List UInt8}{h:a0a}(r:h.get b=some (.cells e [.str s] true)) (hl:s.length<1000000000) (hn:n<1000000000):a0l (TV q) 110 [.ptr b 0,.int .i64 n] h (fun v h'=>v=rdR n s∧h'=rdH n s b e h):=by
 refine a0r (a1x rfl rfl) rfl rfl ?_
 refine walk ?_
 refine a0b (c2s r hl hn) rfl rfl rfl rfl ?_
 rintro _ _ ⟨rfl,rfl⟩
 unfold rdR
 split
 all_goals
  refine walk ?_
  exact a0d hres ⟨rfl,rfl⟩
def le:List UInt8→Nat
 |[]=>0
 |b::l=>b.toNat+256*le l
theorem d5x (l:List UInt8) (b:UInt8):le (l++[b])=le l+b.toNat*256 ^ l.length:=by
 induction l with
 |nil=>simp[le]
 |cons a l ih =>
  simp only[List.cons_append,le,ih,List.length_cons,Nat.pow_succ]
  rw[Nat.mul_add,Nat.mul_left_comm 256,Nat.mul_comm 256 (256 ^ _),Nat.add_assoc]
theorem c5f (l:List UInt8):le l<256 ^ l.length:=by
 induction l with
 |nil=>simp[le]
 |cons a l ih =>
  have:=a.toNat_lt
  simp only[le,List.length_cons,Nat.pow_succ]
  omega
theorem e9o (l:List UInt8) (b:UInt8):le l ||| b.toNat*2 ^ (8*l.length)=le (l++[b]):=by
 rw[d5x]
 have h1:le l<2 ^ (8*l.length):=by
  have:=c5f l
  rw[Nat.pow_mul]; exact this
 have h2:=Nat.shiftLeft_add_eq_or_of_lt h1 b.toNat
 rw[Nat.shiftLeft_eq] at h2
 rw[Nat.or_comm,← h2,Nat.add_comm,Nat.pow_mul]
def nuR (n:Nat) (s:List UInt8):AV:=if n≤s.length then .tuple [.int .u64 (le (s.take n)),.int .i64 0] else .tuple [.int .u64 0,.int .i64 7]
theorem b8c {q:Nat}{b n:Nat}{e:TypeId}{s:List UInt8}{h:a0a}(r:h.get b=some (.cells e [.str s] true)) (hl:s.length<1000000000) (h1:1≤n) (h8:n≤8):a0l (TV q) 100 [.ptr b 0,.int .i64 n] h (fun v h'=>v=nuR n s∧h'=rdH n s b e h):=by
 refine a0r (a1x rfl rfl) rfl rfl ?_
 refine walk ?_
 refine a0b (c2s r hl (by omega)) rfl rfl rfl rfl ?_
 rintro _ _ ⟨rfl,rfl⟩
 unfold rdR rdH nuR
 by_cases hn:n≤s.length
 ·rw[if_pos hn,if_pos hn,if_pos hn]
  have hlen:(s.take n).length=n:=by simp; omega
  generalize s.take n=w at hlen
  refine walk ?_
  rw[hlen]
  refine a0n (fun i=>n-i) (fun i=>[(4,.int .u64 (le (w.take i))),(5,.int .i64 0),(6,.str w),(25,.int .i64 n),(26,.int .i64 i)]) (fun i h'=>i≤n∧h'=h.set b (.cells e [.str (s.drop n)] true)) 0 hsub ⟨by omega,rfl⟩ ?_
  rintro i _ ⟨hin,rfl⟩ next
  by_cases hi:i<n
  ·have hb:=(w.getD i 0).toNat_lt
   have e2:(w.take i).length=i:=by simp; omega
   have hle:le (w.take i)<2 ^ 64:=by
    have:=c5f (w.take i)
    rw[e2] at this
    exact Nat.lt_of_lt_of_le this (by rw[show(256:Nat)=2 ^ 8 by rfl,← Nat.pow_mul]; exact Nat.pow_le_pow_right (by omega) (by omega))
   have hsh:(w.getD i 0).toNat*2 ^ (8*i)<2 ^ 64:=by
    have:(w.getD i 0).toNat*2 ^ (8*i)<2 ^ 8*2 ^ (8*i):=Nat.mul_lt_mul_of_pos_right hb (Nat.two_pow_pos _)
    rw[← Nat.pow_add] at this
    exact Nat.lt_of_lt_of_le this (Nat.pow_le_pow_right (by omega) (by omega))
   refine walk ?_
   refine a1k rfl rfl rfl (a3n rfl rfl rfl (e4r (k:=.u64) (y:=8*i) rfl (by show 8*i≤64; omega) hsh) rfl) ?_
   refine a1k rfl rfl rfl (a3n rfl rfl rfl (f4s rfl hle hsh) rfl) ?_
   refine walk ?_
   have e:w.take (i+1)=w.take i++[w.getD i 0]:=by
    rw[List.take_add_one,List.getElem?_eq_getElem (by omega)]
    simp[List.getD,List.getElem?_eq_getElem (show i<w.length by omega)]
   refine next (i+1) (by omega) ?_ ⟨by omega,rfl⟩
   rw[e,← e9o,e2]
   exact hsub
  ·refine walk ?_
   have e:w.take i=w:=List.take_of_length_le (by omega)
   rw[e]
   exact a0d hres ⟨rfl,rfl⟩
 ·rw[if_neg hn,if_neg hn,if_neg hn]
  refine walk ?_
  refine a0n (fun _=>0) (fun _=>[(4,.int .u64 0),(5,.int .i64 7),(25,.int .i64 0),(26,.int .i64 0)]) (fun(_:Nat) h'=>h'=h) 0 hsub rfl ?_
  rintro i _ rfl next
  refine walk ?_
  exact a0d hres ⟨rfl,rfl⟩
def a0o (n:Nat) (s:List UInt8):Nat:=if n≤s.length then le (s.take n) else 0
def a3p (n:Nat) (s:List UInt8):List UInt8:=if n≤s.length then s.take n else[]
def a0h (n:Nat) (s:List UInt8):List UInt8:=if n≤s.length then s.drop n else s
def b3n (n:Nat) (s:List UInt8):Int:=if n≤s.length then 0 else 7
theorem a1s (n:Nat) (s:List UInt8):a0o n s<256 ^ n:=by
 unfold a0o
 split
 ·refine Nat.lt_of_lt_of_le (c5f _) (Nat.pow_le_pow_right (by omega) ?_)
  rw[List.length_take]; omega
 ·exact Nat.pow_pos (by omega)
theorem a1b (n:Nat) (s:List UInt8):(a0h n s).length≤s.length:=by
 unfold a0h
 split<;>simp
theorem a2q {n:Nat}{s:List UInt8}(h:n≤s.length):(a0h n s).length+n=s.length:=by
 unfold a0h
 rw[if_pos h,List.length_drop]; omega
theorem a8i (n:Nat) (s:List UInt8):(a3p n s).length≤n:=by
 unfold a3p
 split<;>simp; omega
theorem a8p {q b n:Nat}{e:TypeId}{s:List UInt8}{h:a0a}(r:h.get b=some (.cells e [.str s] true)) (hb:b<h.next) (hl:s.length<1000000000) (h1:1≤n) (h8:n≤8):a0l (TV q) 100 [.ptr b 0,.int .i64 n] h (fun v h'=>v=.tuple [.int .u64 (a0o n s),.int .i64 (b3n n s)]∧Upd b (.cells e [.str (a0h n s)] true) h h'):=by
 refine(b8c r hl h1 h8).mono ?_
 rintro _ _ ⟨rfl,rfl⟩
 unfold nuR rdH a0o a0h b3n
 by_cases c:n≤s.length
 ·simp only[if_pos c]; exact⟨by first|trivial|rfl,.set h b _ hb⟩
 ·simp only[if_neg c]; exact⟨by first|trivial|rfl,.same r⟩
theorem d0z {q b n:Nat}{e:TypeId}{s:List UInt8}{h:a0a}(r:h.get b=some (.cells e [.str s] true)) (hb:b<h.next) (hl:s.length<1000000000) (hn:n<1000000000):a0l (TV q) 110 [.ptr b 0,.int .i64 n] h (fun v h'=>v=.tuple [.str (a3p n s),.int .i64 (b3n n s)]∧Upd b (.cells e [.str (a0h n s)] true) h h'):=by
 refine(d0r r hl hn).mono ?_
 rintro _ _ ⟨rfl,rfl⟩
 unfold rdR rdH a3p a0h b3n
 by_cases c:n≤s.length
 ·simp only[if_pos c]; exact⟨by first|trivial|rfl,.set h b _ hb⟩
 ·simp only[if_neg c]; exact⟨by first|trivial|rfl,.same r⟩
def leb (x:Nat):Nat→List UInt8
 |0=>[]
 |k+1=>leb x k++[UInt8.ofNat (x / 2 ^ (8*k))]
theorem a1c (x k:Nat):(leb x k).length=k:=by
 induction k with
 |zero=>rfl
 |succ k ih=>simp[leb,ih]
theorem ab {q lo:Nat}{h:a0a}{u w:AV}{s r:List UInt8}(own:a2t 5 lo h u s) (bw:By h w r) (hr:s.length+r.length≤100000000) (hlo:lo≤h.next:=by(exact hle)):∃ v' h',a1h (TV q) [u,w] [111,111] h=.val v' h'∧a2t 5 lo h' v' (s++r)∧a4g lo h h':=f1p own bw hlo hr rfl rfl rfl rfl rfl rfl
theorem ast {q lo:Nat}{h:a0a}{u:AV}{s r:List UInt8}(own:a2t 5 lo h u s) (hr:s.length+r.length≤100000000) (hlo:lo≤h.next:=by(exact hle)):∃ v' h',a1h (TV q) [u,.str r] [111,9] h=.val v' h'∧a2t 5 lo h' v' (s++r)∧a4g lo h h':=e8p own hlo hr rfl rfl rfl rfl rfl rfl
theorem a2m {q:Nat}{v:AV}{s:List UInt8}{x k:Nat}{h:a0a}(bw:By h v s) (hx:x<2 ^ 64) (h1:1≤k) (h8:k≤8) (hl:s.length≤1000000) (hv:v.isStr=false):a0l (TV q) 125 [v,.int .u64 x,.int .i64 k] h (fun v' h'=>a2t 5 h.next h' v' (s++leb x k)∧Ext h h'):=by
 refine a0r (a1x rfl rfl) rfl rfl ?_
 have hlen:=bw.len
 refine walk ?_
 refine a1k rfl rfl rfl (e1o (n:=0) (m:=s.length+8) rfl rfl rfl rfl rfl rfl (by exact Nat.le_of_ble_eq_true rfl) rfl rfl (by omega) (by omega)) ?_
 have zl:times (AV.int .u8 0).cells (s.length+8)=u8s (List.replicate (s.length+8) 0):=b7f 0 _
 rw[zl]
 obtain⟨v1,g1,e1,o1,k1⟩:=ab (q:=q) (lo:=h.next) (s:=[]) (c2e (e:=5) (n:=s.length+8) (cs:=u8s (List.replicate (s.length+8) 0)) (Nat.le_refl _) (by simp[u8s])) (bw.ext (Ext.alloc h _)) (by simp; omega)
 have x1:Ext h g1:=a0j
 refine walk ?_
 refine a0n (ι:=Nat×AV) (fun a=>k-a.1) (fun a=>[(1,.int .u64 x),(2,.int .i64 k),(22,.int .i64 k),(23,.int .i64 a.1),(7,a.2)]) (fun a h'=>a.1≤k∧a2t 5 h.next h' a.2 (s++leb x a.1)∧Ext h h') (0,v1) hsub ⟨by omega,by simpa [leb] using o1,x1⟩ ?_
 rintro⟨i,u⟩ h2 ⟨hi,ow,x2⟩ next
 dsimp only at hi ow next ⊢
 by_cases hik:i<k
 ·have nx:=x2.nx
  refine walk ?_
  refine a1k rfl rfl rfl (a3n rfl rfl rfl (b9z (k:=.u64) (y:=8*i) (by show 8*i≤64; omega)) rfl) ?_
  refine a1k rfl rfl rfl (d2i rfl rfl rfl rfl c0e) ?_
  refine walk ?_
  have hb:(((x / 2 ^ (8*i):Nat):Int) % 256)=((UInt8.ofNat (x / 2 ^ (8*i))).toNat:Int):=by simp
  rw[hb]
  obtain⟨v3,g3,e3,o3,k3⟩:=ab (q:=q) (r:=[UInt8.ofNat (x / 2 ^ (8*i))]) (w:=.slice h2.next 0 1 1) (ow.ext (Ext.alloc h2 (.cells 5 [.int .u8 (UInt8.ofNat (x / 2 ^ (8*i))).toNat] true))) ⟨rfl,by show h2.next<h2.next+1; omega,_,_,_,a0t _ _,by simp,rfl⟩ (by simp[a1c]; omega)
  refine walk ?_
  exact next (i+1,v3) (by simp only; omega) hsub ⟨by simp only; omega,by simpa [leb] using o3,a0j⟩
 ·obtain rfl:i=k:=by omega
  refine walk ?_
  exact a0e hres ⟨ow,x2⟩
def b9v (n:Int) (s:List UInt8):AV:=if Good n then if(s.length:Int)≤n-24 then .tuple [.str (s++List.replicate (n.toNat-24-s.length) 0),.int .i64 0] else .tuple [.str [],.int .i64 3] else .tuple [.str [],.int .i64 2]
theorem b6p {n:Nat}(hn:3<n){z:Int}{v:AV}{s:List UInt8}{h:a0a}(bw:By h v s) (hk:h.ok) (hv:v.isStr=false):(TV n).sm 126 [.int .i64 z,v] h=some (b9v z s,h):=by
 refine a9d hn (fun h=>h.ok∧By h v s) rfl (by unfold b9v; split<;>(try split)<;>rfl) ⟨hk,bw⟩ (fun hp=>⟨a2f,bw.any (by simpa [AV.a1q,AV.plain] using hp)⟩) ?_
 clear hk bw h
 rintro n hn h ⟨hk,bw⟩
 refine a0s rfl rfl ?_
 have w1:=b2h (n:=n) (by omega) z
 have w2:=b6k (n:=n) (by omega) z
 have hlen:=bw.len
 unfold b9v
 by_cases g:Good z
 case neg=>rw[if_neg g]; exact auto
 rw[if_pos g]
 have e:room z=z-24:=by unfold room; rw[if_pos g]
 rw[e] at w2
 have g1:=g.1
 have g2:=g.2.1
 by_cases c:(s.length:Int)≤z-24
 case neg=>rw[if_neg c]; exact auto
 rw[if_pos c]
 obtain⟨m,rfl⟩:∃ m:Nat,z=m+24:=⟨(z-24).toNat,by omega⟩
 have em:(m:Int)+24-24=m:=by omega
 rw[em] at w2 c
 refine walk ?_
 refine a1k rfl rfl rfl (e1o (n:=m) (m:=m) rfl rfl rfl rfl rfl rfl (by exact Nat.le_of_ble_eq_true rfl) rfl rfl (by omega) (by omega)) ?_
 have zl:times (AV.int .u8 0).cells m=u8s (List.replicate m 0):=b7f 0 _
 rw[zl]
 refine walk ?_
 refine a1k rfl rfl rfl (f0x (e9d (a:=List.replicate m 0) (a0t _ _) (bw.ext (Ext.alloc h _)) (by simp) (by omega) rfl rfl) rfl rfl rfl rfl) ?_
 have b2:By ((h.alloc (.cells 5 (u8s (List.replicate m 0)) true)).set h.next (.cells 5 (u8s (s++(List.replicate m 0).drop s.length)) true)) (.slice h.next 0 m m) (s++(List.replicate m 0).drop s.length) :=
  ⟨by simp; omega,by show h.next<h.next+1; omega,_,_,_,a0a.gs _ _ _,by simp[u8s],by rw[List.drop_zero,List.take_of_length_le (by simp[u8s])]⟩
 refine walk ?_
 refine a1k rfl rfl rfl (c4f b2 rfl rfl rfl rfl rfl rfl) ?_
 have e3:((m:Int)+24).toNat-24-s.length=m-s.length:=by omega
 rw[List.drop_replicate,e3]
 exact auto
set_option maxRecDepth 10000
set_option maxHeartbeats 4000000
def e3z:List AV:=[.int .i64 4,.int .i64 1,.int .i64 1,.int .i64 2,.int .i64 4,.int .i64 4,.int .i64 8]
theorem e3l {n:Nat}(hn:0<n) (h:a0a):(TV n).sm 149 [] h=some (.agg e3z,h):=by
 refine a3b hn rfl rfl rfl fun n hn=>a0s rfl rfl ?_
 refine walk ?_
 refine a0e ?_ rfl
 rfl
def d1v:Nat→Nat
 |0=>0|1=>4|2=>5|3=>6|4=>8|5=>12|6=>16|_=>24
def wid:Nat→Nat
 |0=>4|1=>1|2=>1|3=>2|4=>4|5=>4|_=>8
def fld (b:List UInt8) (i:Nat):Nat:=le ((b.drop (d1v i)).take (wid i))
theorem a7i (s:List UInt8) (i:Nat):fld s i<256 ^ wid i:=by
 refine Nat.lt_of_lt_of_le (c5f _) (Nat.pow_le_pow_right (by omega) ?_)
 rw[List.length_take]
 omega
def f2r (b:List UInt8) (i:Nat):List AV:=[.int .u64 (if 0<i then fld b 0 else 0:Nat),.int .u64 (if 1<i then fld b 1 else 0:Nat),.int .u64 (if 2<i then fld b 2 else 0:Nat),.int .u64 (if 3<i then fld b 3 else 0:Nat),.int .u64 (if 4<i then fld b 4 else 0:Nat),.int .u64 (if 5<i then fld b 5 else 0:Nat),.int .u64 (if 6<i then fld b 6 else 0:Nat)]
theorem d3e {n b:Nat}{e:TypeId}{s:List UInt8}{h:a0a}(hn:0<n) (r:h.get b=some (.cells e [.str s] true)) (hb:b<h.next) (hl:s.length<1000000000) (h24:24≤s.length):a0l (TV n) 118 [.ptr b 0] h (fun v h'=>v=.agg (f2r s 7)∧h'.get b=some (.cells e [.str (s.drop 24)] true)∧h'.next=h.next+1∧(∀ c,c<h.next→c≠b→h'.get c=h.get c)∧(h.ok→h'.ok)):=by
 refine a0r (a1x rfl rfl) rfl rfl ?_
 have w1:=e3l hn
 refine walk ?_
 refine a0n (fun i=>7-i) (fun i=>[(0,.ptr b 0),(2,.ptr h.next 0),(7,.agg e3z),(8,.int .i64 (i:Nat))]) (fun i h2=>i≤7∧h2.get b=some (.cells e [.str (s.drop (d1v i))] true)∧h2.get h.next=some (.cells 197 (f2r s i) true)∧h2.next=h.next+1∧(∀ c,c<h.next→c≠b→h2.get c=h.get c)∧(h.ok→h2.ok)) 0 hsub ⟨by omega,(a0a.ga _ _ _ (by omega)).trans r,a0t _ _,rfl,fun c hc _=>a0a.ga _ _ _ (by omega),fun k=>a4n k _⟩ ?_
 rintro i h2 ⟨hi7,rd,g2,n2,f2,ok2⟩ next
 by_cases hi:i=7
 ·subst hi
  refine walk ?_
  refine a0e (a0x rfl (b0c rfl rfl (a0a.gs _ _ _) rfl) rfl) ⟨rfl,(a0a.gn _ _ _ _ (by omega)).trans rd,n2,fun c hc hcb=>?_,fun k=>a0w (ok2 k) _ _ (by omega)⟩
  rw[a0a.gn _ _ _ _ (by omega),f2 c hc hcb]
 ·have go:=fun L' h4 a1 a2 a3 a4 a5 a6=>next (i+1) (L':=L') (h':=h4) (by omega) a1 ⟨by omega,a2,a3,a4,a5,a6⟩
  have hc:i=0∨i=1∨i=2∨i=3∨i=4∨i=5∨i=6:=by omega
  rcases hc with rfl|rfl|rfl|rfl|rfl|rfl|rfl
  all_goals
   refine walk ?_
   refine a0b (b8c rd (by simp; omega) (by decide) (by decide)) rfl rfl rfl rfl ?_
   rintro _ _ ⟨rfl,rfl⟩
   unfold nuR rdH
   rw[if_pos (by simp[d1v]; omega),if_pos (by simp[d1v]; omega)]
   refine walk ?_
   refine go _ _ hsub ?_ ?_ n2 (fun c hc hcb=>?_) (fun k=>a0w (a0w (ok2 k) _ _ (by omega)) _ _ (by show h.next<h2.next; omega))
   ·rw[a0a.gn _ _ _ _ (by omega),a0a.gs,List.drop_drop]; rfl
   ·rw[a0a.gs]; rfl
   ·rw[a0a.gn _ _ _ _ (by omega),a0a.gn _ _ _ _ hcb,f2 c hc hcb]
def c3l (s:List UInt8):Nat:=Nat.xor 4294967295 (c4e 4294967295 s)
def b3r (s:List UInt8):Pg:=⟨fld s 1,fld s 3,fld s 4,fld s 5,fld s 6,s.drop 24⟩
def c7u (n:Int) (m:Nat) (s:List UInt8):Prop:=a7a n (b3r s)∧fld s 2=1∧fld s 4=m∧fld s 0=c3l (s.drop 4)
instance (n:Int) (m:Nat) (s:List UInt8):Decidable (c7u n m s):=inferInstanceAs (Decidable (_∧_))
def b1a (n:Int) (m:Nat) (s:List UInt8):Pg×Int:=if Good n then if(s.length:Int)=n∧c7u n m s then(b3r s,0) else(Pg.zero,4) else(Pg.zero,2)
theorem f3w {q:Nat}(s:List UInt8) (hl:s.length≤1000000) (h:a0a):(TV q).sm 121 [.str s] h=some (.int .u32 (c3l s),h):=by
 refine b_w rfl ?_
 have e:Nat.ble s.length 1000000=true:=Nat.ble_eq.mpr hl
 show b1d 121 [.str s] h=_
 unfold b1d
 simp only[e]
 rfl
theorem c9a (s:List UInt8):c3l s<4294967296:=by
 unfold c3l
 rw[b8j]
 exact Nat.xor_lt_two_pow (n:=32) (by omega) (c7r _ c0y _ (by omega) _)
theorem d5z {q:Nat}{tm:Tr AV}{L:List (Nat×AV)}{h:a0a}{p:Pg}{x:AV}(hs:a0m tm L) (h6:Ev.look L 6=some (.ptr 0 0)) (h7:Ev.look L 7=some (.ptr 1 0)) (g6:h.get 0=some (.cells 64 p.cs true)) (g7:h.get 1=some (.cells 43 [x] true)){Q:Res→Prop}(c:Q (.ret (.tuple [p.av,x]) h)) :
  Wp (TV q) (.leave 97 tm [.fn (.func 117) [.ptr 0 0,.ptr 1 0] []] none h) Q:=by
 refine b4y rfl rfl rfl rfl ?_
 refine walk ?_
 refine b4c rfl rfl rfl rfl rfl ?_
 refine walk ?_
 refine b5f ?_
 exact a1z (vs:=[p.av,x]) hs rfl (a0x h6 (b0c rfl rfl g6 rfl) (a0x h7 (a2p rfl rfl g7) rfl)) c
theorem b1q {q:Nat}{tm:Tr AV}{L:List (Nat×AV)}{h:a0a}{c6:List AV}{x:AV}(hs:a0m tm L) (h6:Ev.look L 6=some (.ptr 0 0)) (h7:Ev.look L 7=some (.ptr 1 0)) (g6:h.get 0=some (.cells 64 c6 true)) (l6:c6.length=6) (g7:h.get 1=some (.cells 43 [x] true)) (hn:2≤h.next){Q:Res→Prop}
  (c:∀ h',Q (.ret (.tuple [Pg.zero.av,.int .i64 4]) h')) :
  Wp (TV q) (.leave 97 tm [.fn (.func 117) [.ptr 0 0,.ptr 1 0] []] (some (.iface 195 (.agg []),false)) h) Q:=by
 refine b4y rfl rfl rfl rfl ?_
 refine walk ?_
 refine b6r rfl rfl rfl rfl rfl ?_
 refine walk ?_
 refine b0q rfl rfl (b1v (n:=6) (cs:=c6) (vs:=Pg.zero.cs) rfl rfl rfl rfl rfl rfl a0g (by omega)) ?_
 rw[b1r c6 _ (by rw[l6]; rfl)]
 refine walk ?_
 refine b5f ?_
 exact a1z (vs:=[Pg.zero.av,.int .i64 4]) hs rfl (a0x h6 (b0c rfl rfl a0g rfl) (a0x h7 (a2p rfl rfl (a0a.gs _ _ _)) rfl)) (c _)
theorem f3i {n:Nat}(hn:3<n) (z:Int) (m:Nat) (s:List UInt8) (hl:s.length<1000000) (h:a0a):(TV n).sm 97 [.int .i64 z,.int .u32 m,.str s] h=some (.tuple [(b1a z m s).1.av,.int .i64 (b1a z m s).2],h):=by
 refine a3b hn rfl rfl rfl fun n hn=>d5o rfl rfl ?_
 have w1:=b2h (n:=n) (by omega) z
 refine walk ?_
 refine c2j rfl rfl rfl rfl ?_
 refine walk ?_
 by_cases g:Good z
 case neg =>
  have e:b1a z m s=(Pg.zero,2):=by unfold b1a; rw[if_neg g]
  rw[e]
  refine walk ?_
  refine a2x fun tm hs=>?_
  exact d5z (p:=Pg.zero) hs rfl rfl (by exact a0g) (by exact a0g) ⟨_,_,rfl,rfl⟩
 have g1:=g.1
 have g2:=g.2.1
 by_cases hln:(s.length:Int)=z
 case neg =>
  have e:b1a z m s=(Pg.zero,4):=by unfold b1a; rw[if_pos g,if_neg fun c=>hln c.1]
  rw[e]
  refine walk ?_
  refine a8k rfl rfl fun tm hs=>?_
  exact b1q hs rfl rfl (by exact a0g) rfl (by exact a0g) (Nat.le_of_ble_eq_true rfl) fun h'=>⟨_,_,rfl,rfl⟩
 refine walk ?_
 refine a0b (a9j s _) rfl rfl rfl rfl ?_
 rintro _ _ ⟨rfl,rfl⟩
 refine walk ?_
 refine a0b (d3e (by omega) (by exact a0g) (Nat.le_of_ble_eq_true rfl) (by omega) (by omega)) rfl rfl rfl rfl ?_
 rintro _ h3 ⟨rfl,rd,n3,f3,ok3⟩
 have rd:h3.get 2=some (.cells 201 [.str (s.drop 24)] true):=rd
 have n3:h3.next=4:=n3
 have k0:h3.get 0=some (.cells 64 Pg.zero.cs true):=(f3 0 (Nat.le_of_ble_eq_true rfl) (by intro e; cases e)).trans rfl
 have k1:h3.get 1=some (.cells 43 [.int .i64 0] true):=(f3 1 (Nat.le_of_ble_eq_true rfl) (by intro e; cases e)).trans rfl
 have ok3:h3.ok:=ok3 hok
 clear f3
 have p7:f2r s 7=[.int .u64 (fld s 0),.int .u64 (fld s 1),.int .u64 (fld s 2),.int .u64 (fld s 3),.int .u64 (fld s 4),.int .u64 (fld s 5),.int .u64 (fld s 6)]:=rfl
 rw[p7]
 have b0:fld s 0<4294967296:=a7i s 0
 have b1:fld s 1<256:=a7i s 1
 have b2:fld s 2<256:=a7i s 2
 have b3:fld s 3<65536:=a7i s 3
 have b4:fld s 4<4294967296:=a7i s 4
 have b5:fld s 5<4294967296:=a7i s 5
 have b6:fld s 6<18446744073709551616:=a7i s 6
 refine walk ?_
 refine a0c (q:=18) (ms:=[0,1,3,0,8,24,0,64,192,0,512,1536,0,4096,0,16384,65535,131071]) (hl:=[[30,31,32,33,34,35,36,37,38,39,40,41,42],[30,31,32,33,34,35,36,37,38,39,40,41,42],[30,31,32,33,34,35,36,37,38,39,40,41,42],[27,28,29,33,34,35,36,37,38,39,40,41,42],[27,28,29,33,34,35,36,37,38,39,40,41,42],[27,28,29,33,34,35,36,37,38,39,40,41,42],[27,28,29,30,31,32,36,37,38,39,40,41,42],[27,28,29,30,31,32,36,37,38,39,40,41,42],[27,28,29,30,31,32,36,37,38,39,40,41,42],[27,28,29,30,31,32,33,34,35,39,40,41,42],[27,28,29,30,31,32,33,34,35,39,40,41,42],[27,28,29,30,31,32,33,34,35,39,40,41,42],[27,28,29,30,31,32,33,34,35,36,37,38,41,42],[27,28,29,30,31,32,33,34,35,36,37,38,41,42],[27,28,29,30,31,32,33,34,35,36,37,38,39,40],[27,28,29,30,31,32,33,34,35,36,37,38,39,40],[],[]]) hok rfl (by kernel_rfl) (by kernel_rfl) rfl ?_
 refine walk ?_
 refine a2i (d5g (by exact a0g)) rfl rfl rfl rfl rfl rfl ?_
 rintro _ _ ⟨rfl,rfl⟩
 refine walk ?_
 refine GJ.gen [(6,.ptr 0 0),(7,.ptr 1 0),(9,.ptr h3.next 0),(0,.int .i64 z),(1,.int .u32 m),(2,.str s)] (fun h=>h.get 0=some (.cells 64 (b3r s).cs true)∧h.get 1=some (.cells 43 [.int .i64 0] true)∧h.get h3.next=some (.cells 197 [.int .u64 (fld s 0),.int .u64 (fld s 1),.int .u64 (fld s 2),.int .u64 (fld s 3),.int .u64 (fld s 4),.int .u64 (fld s 5),.int .u64 (fld s 6)] true)∧5≤h.next∧h3.next<h.next∧h.ok) hsub ⟨by exact a0g,by exact a0g,by exact a0g,by show 5≤h3.next+1+18; omega,by show h3.next<h3.next+1+18; omega,by exact hok⟩ ?_
 rintro h6 ⟨q0,q1,q9,n6,n63,ok6⟩
 clear k0 k1 rd ok3 p7
 have w2:=f3g (n:=n) (by omega) z (b3r s) (by show(s.drop 24).length<_; simp; omega)
 have w3:=f3w (q:=n) (s.drop 4) (by simp; omega)
 have c5:=c9a (s.drop 4)
 refine a0c (q:=24) (ms:=[0,0,3,7,15,31,63,127,255,511,1023,2047,1023,8191,16383,32767,65535,131071,65535,327679,851967,1900543,4194303,8388607]) (hl:=[[45],[44],[],[],[],[],[],[],[],[],[56],[56],[54,55],[],[],[],[62,63,64,65],[62,63,64,65],[60,61],[60,61],[60,61],[60,61],[],[]]) hok rfl (by kernel_rfl) (by kernel_rfl) rfl ?_
 by_cases c:c7u z m s
 case pos =>
  have e:b1a z m s=(b3r s,0):=by unfold b1a; rw[if_pos g,if_pos ⟨hln,c⟩]
  rw[e]
  obtain⟨c1,c2,c3,c4⟩:=c
  have c3:(b3r s).page=m:=c3
  refine walk ?_
  refine a2x fun tm hs=>?_
  exact d5z (p:=b3r s) hs rfl rfl (by exact a0g) (by exact a0g) ⟨_,_,rfl,rfl⟩
 have e:b1a z m s=(Pg.zero,4):=by unfold b1a; rw[if_pos g,if_neg fun q=>c q.2]
 rw[e]
 by_cases c1:a7a z (b3r s)
 ·by_cases c2:fld s 2=1
  ·by_cases c3:(b3r s).page=m
   ·have c4:¬ fld s 0=c3l (s.drop 4):=fun c4=>c ⟨c1,c2,c3,c4⟩
    refine walk ?_
    refine a8k rfl rfl fun tm hs=>?_
    exact b1q hs rfl rfl (by exact a0g) rfl (by exact a0g) (by show 2≤h6.next+24; omega) fun h'=>⟨_,_,rfl,rfl⟩
   ·refine walk ?_
    refine a8k rfl rfl fun tm hs=>?_
    exact b1q hs rfl rfl (by exact a0g) rfl (by exact a0g) (by show 2≤h6.next+24; omega) fun h'=>⟨_,_,rfl,rfl⟩
  ·refine walk ?_
   refine a8k rfl rfl fun tm hs=>?_
   exact b1q hs rfl rfl (by exact a0g) rfl (by exact a0g) (by show 2≤h6.next+24; omega) fun h'=>⟨_,_,rfl,rfl⟩
 ·refine walk ?_
  refine a8k rfl rfl fun tm hs=>?_
  exact b1q hs rfl rfl (by exact a0g) rfl (by exact a0g) (by show 2≤h6.next+24; omega) fun h'=>⟨_,_,rfl,rfl⟩
def a0u (z:Int) (img:List UInt8) (p:Nat):Pg×Int:=if Good z then if p<pages z img then b1a z p (atL z img p) else(Pg.zero,5) else(Pg.zero,2)
theorem c8b {n:Nat}(hn:4<n) (z:Int) (img:List UInt8) (p:Nat) (hi:img.length<1000000) (hp:p<4294967296) (h:a0a):(TV n).sm 67 [.int .i64 z,.str img,.int .u32 p] h=some (.tuple [(a0u z img p).1.av,.int .i64 (a0u z img p).2],h):=by
 refine a3b hn rfl rfl rfl fun n hn=>a0s rfl rfl ?_
 have w1:=b2h (n:=n) (by omega) z
 have w2:=f5p (n:=n) (by omega) z img p (by omega) hp
 have w3:=f3i (n:=n) (by omega) z p (atL z img p) (by unfold atL; simp; omega)
 unfold a0u
 by_cases g:Good z
 case neg=>rw[if_neg g]; exact auto
 rw[if_pos g]
 by_cases c:p<pages z img
 ·rw[if_pos c] at w2 ⊢
  exact auto
 ·rw[if_neg c] at w2 ⊢
  exact auto
end Go.Proofs.YtejfbaecadbdiaaGreat
