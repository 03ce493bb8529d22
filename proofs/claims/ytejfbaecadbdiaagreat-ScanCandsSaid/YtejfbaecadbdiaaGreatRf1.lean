/- What the functions of this part answer at any input, told by the rules over the evaluator. Conditions: those that each theorem states. -/
import Derived.Test.YtejfbaecadbdiaaGreatLv
import Derived.Test.YtejfbaecadbdiaaGreatOvr
set_option linter.unusedVariables false
set_option linter.unusedSimpArgs false
open Go Ev
namespace Go.Proofs.YtejfbaecadbdiaaGreat
set_option maxRecDepth 10000
set_option maxHeartbeats 4000000
theorem a6p {n:Nat}(hn:0<n) (s:Int) (h:a0a):(TV n).sm 61 [.int .i64 s] h=some (.bool (decide (Good s)),h):=by
 refine a3b hn rfl rfl rfl fun n hn=>a0s rfl rfl ?_
 unfold Good
 exact auto
theorem e3q {n:Nat}(hn:1<n) (s:Int) (img:List UInt8) (hi:img.length<9223372036854775808) (h:a0a):(TV n).sm 40 [.int .i64 s,.str img] h=some (.int .i64 (pages s img),h):=by
 refine a3b hn rfl rfl rfl fun n hn=>a0s rfl rfl ?_
 have w1:=a6p (n:=n) (by omega) s
 unfold pages
 by_cases g:Good s
 ·rw[decide_eq_true g] at w1
  have g1:=g.1
  have g2:=g.2.1
  have e:(img.length:Int).tdiv s=((img.length / s.toNat:Nat):Int):=by
   obtain⟨m,rfl⟩:=Int.eq_ofNat_of_zero_le (show 0≤s by omega)
   rfl
  have hq:img.length / s.toNat≤img.length:=Nat.div_le_self _ _
  rw[if_pos g,← e]
  have hq0:(0:Int)≤(img.length / s.toNat:Nat):=Int.natCast_nonneg _
  rw[← Int.ofNat_le,← e] at hq
  rw[← e] at hq0
  exact auto
 ·rw[if_neg g]
  rw[decide_eq_false g] at w1
  exact auto
theorem a9p {q:Nat}{v:AV}{s:List UInt8}{x k:Nat}{h:a0a}(bw:By h v s) (hx:x<2 ^ 64) (h1:1≤k) (h8:k≤8) (hl:s.length≤1000000) (hv:v.isStr=false):a0l (TV q) 53 [v,.int .u64 x,.int .i64 k] h (fun v' h'=>a2t 5 h.next h' v' (s++leb x k)∧Ext h h'):=by
 refine a0r (a1x rfl rfl) rfl rfl ?_
 have hlen:=bw.len
 obtain⟨v1,g1,e1,o1,k1⟩:=ab (q:=q) (lo:=h.next) (s:=[]) (c2e (e:=5) (n:=0) (cs:=[]) (Nat.le_refl _) rfl) (bw.ext (Ext.alloc h _)) (by simp; omega)
 have x1:Ext h g1:=a0j
 refine walk ?_
 refine a0n (ι:=Nat×AV) (fun a=>k-a.1) (fun a=>[(1,.int .u64 x),(2,.int .i64 k),(8,.int .i64 a.1),(7,a.2)]) (fun a h'=>a.1≤k∧a2t 5 h.next h' a.2 (s++leb x a.1)∧Ext h h') (0,v1) hsub ⟨by omega,by simpa [leb] using o1,x1⟩ ?_
 rintro⟨i,u⟩ h2 ⟨hi,ow,x2⟩ next
 dsimp only at hi ow next ⊢
 by_cases hik:i<k
 ·have nx:=x2.nx
  refine walk ?_
  refine a1k rfl rfl rfl (a3n rfl rfl rfl (b9z (k:=.u64) (y:=8*i) (by show 8*i≤64; omega)) rfl) ?_
  refine a1k rfl rfl rfl (d2i rfl rfl rfl rfl c0e) ?_
  refine walk ?_
  have hb:(((x / 2 ^ (8*i):Nat):Int) % 256)=((UInt8.ofNat (x / 2 ^ (8*i))).toNat:Int):=by simp
  rw[hb]
  obtain⟨v3,g3,e3,o3,k3⟩:=ab (q:=q) (r:=[UInt8.ofNat (x / 2 ^ (8*i))]) (w:=.slice h2.next 0 1 1) (ow.ext (Ext.alloc h2 (.cells 5 [.int .u8 (UInt8.ofNat (x / 2 ^ (8*i))).toNat] true))) ⟨rfl,by show h2.next<h2.next+1; omega,_,_,_,a0t _ _,by simp,rfl⟩ (by simp[a1c]; omega)
  refine walk ?_
  exact next (i+1,v3) (by simp only; omega) hsub ⟨by simp only; omega,by simpa [leb] using o3,a0j⟩
 ·obtain rfl:i=k:=by omega
  refine walk ?_
  exact a0e hres ⟨ow,x2⟩
theorem d7o {n:Nat}(s:List UInt8) (h:a0a):a0l (TV n) 64 [.str s] h (fun v h'=>v=.ptr h.next 0∧h'=h.alloc (.cells 166 [.str s] true)):=by
 refine a0r (a1x rfl rfl) rfl rfl ?_
 refine walk ?_
 exact a0e hres ⟨rfl,rfl⟩
theorem b0j {q b n:Nat}{e:TypeId}{s:List UInt8}{h:a0a}(r:h.get b=some (.cells e [.str s] true)) (hb:b<h.next) (hl:s.length<1000000000) (h1:1≤n) (h8:n≤8):a0l (TV q) 65 [.ptr b 0,.int .i64 n] h (fun v h'=>v=.tuple [.int .u64 (a0o n s),.int .i64 (b3n n s)]∧Upd b (.cells e [.str (a0h n s)] true) h h'):=by
 refine a0r (a1x rfl rfl) rfl rfl ?_
 unfold a0o b3n a0h
 by_cases hn:n≤s.length
 ·rw[if_pos hn,if_pos hn,if_pos hn]
  refine walk ?_
  refine a0n (fun i=>n-i) (fun i=>[(0,.ptr b 0),(1,.int .i64 n),(6,.int .u64 (le (s.take i))),(7,.int .i64 i)]) (fun i h'=>i≤n∧h'=h) 0 hsub ⟨by omega,rfl⟩ ?_
  rintro i _ ⟨hin,rfl⟩ next
  by_cases hi:i<n
  ·have hb:=(s.getD i 0).toNat_lt
   have e2:(s.take i).length=i:=by simp; omega
   have hle:le (s.take i)<2 ^ 64:=by
    have:=c5f (s.take i)
    rw[e2] at this
    exact Nat.lt_of_lt_of_le this (by rw[show(256:Nat)=2 ^ 8 by rfl,← Nat.pow_mul]; exact Nat.pow_le_pow_right (by omega) (by omega))
   have hsh:(s.getD i 0).toNat*2 ^ (8*i)<2 ^ 64:=by
    have:(s.getD i 0).toNat*2 ^ (8*i)<2 ^ 8*2 ^ (8*i):=Nat.mul_lt_mul_of_pos_right hb (Nat.two_pow_pos _)
    rw[← Nat.pow_add] at this
    exact Nat.lt_of_lt_of_le this (Nat.pow_le_pow_right (by omega) (by omega))
   refine walk ?_
   refine a1k rfl rfl rfl (a3n rfl rfl rfl (e4r (k:=.u64) (y:=8*i) rfl (by show 8*i≤64; omega) hsh) rfl) ?_
   refine a1k rfl rfl rfl (a3n rfl rfl rfl (f4s rfl hle hsh) rfl) ?_
   refine walk ?_
   have e:s.take (i+1)=s.take i++[s.getD i 0]:=by
    rw[List.take_add_one,List.getElem?_eq_getElem (by omega)]
    simp[List.getD,List.getElem?_eq_getElem (show i<s.length by omega)]
   refine next (i+1) (by omega) ?_ ⟨by omega,rfl⟩
   rw[e,← e9o,e2]
   exact hsub
  ·obtain rfl:i=n:=by omega
   refine walk ?_
   exact a0d hres ⟨rfl,.set _ b _ hb⟩
 ·rw[if_neg hn,if_neg hn,if_neg hn]
  refine walk ?_
  exact a0d hres ⟨rfl,.same r⟩
theorem b2e {n:Nat}(hn:1<n) (s:Int) (h:a0a):(TV n).sm 89 [.int .i64 s] h=some (.int .i64 (room s),h):=by
 refine a3b hn rfl rfl rfl fun n hn=>a0s rfl rfl ?_
 have w1:=a6p (n:=n) (by omega) s
 unfold room
 by_cases g:Good s
 ·have g1:=g.1
  have g2:=g.2.1
  rw[if_pos g]
  rw[decide_eq_true g] at w1
  exact auto
 ·rw[if_neg g]
  rw[decide_eq_false g] at w1
  exact auto
theorem f1l {n:Nat}(hn:2<n) (s:Int) (p:Pg) (hb:p.body.length<1000000000) (h:a0a):(TV n).sm 51 [.int .i64 s,p.av] h=some (.bool (decide (a7a s p)),h):=by
 refine a3b hn rfl rfl rfl fun n hn=>a0s rfl rfl ?_
 have w1:=a6p (n:=n) (by omega) s
 have w2:=b2e (n:=n) (by omega) s
 refine walk ?_
 refine a0c (q:=46) (ms:=[0,1,3,7,15,31,63,127,255,511,1023,2047,4095,8191,16383,32767,65535,131071,262143,524287,1048575,2097151,4194303,8388607,16777215,33554431,67108863,134217727,268435455,536870911,1073741823,2147483647,4294967295,8589934591,17179869183,34359738367,68719476735,137438953471,274877906943,549755813887,1099511627775,274877906943,2473901162495,8796093022207,17592186044415,35184372088831]) (hl:=[[],[],[],[],[],[],[],[],[],[],[],[],[],[],[],[],[],[],[],[],[],[],[],[],[],[],[],[],[],[],[],[],[],[],[],[],[],[],[46,47],[46,47],[46,47],[43,44,45],[43,44,45],[],[],[]]) hok rfl (by kernel_rfl) (by kernel_rfl) rfl ?_
 unfold a7a
 exact auto
theorem d6j (x y:Nat):∀ k j,leb (x+y*2 ^ (8*(k+j))) k=leb x k
 |0,_=>rfl
 |k+1,j=>by
  unfold leb
  have e:8*(k+1+j)=8*k+8*(1+j):=by omega
  rw[show k+1+j=k+(1+j) by omega,d6j x y k (1+j)]
  congr 2
  rw[← UInt8.ofNat_mod_size,← UInt8.ofNat_mod_size (x:=x / 2 ^ (8*k))]
  congr 1
  rw[Nat.mul_add,Nat.pow_add,← Nat.mul_assoc,Nat.mul_comm y,Nat.mul_assoc,Nat.add_mul_div_left _ _ (Nat.two_pow_pos _),show 8*(1+j)=8+8*j by omega,Nat.pow_add]
  show(x / 2 ^ (8*k)+y*(256*2 ^ (8*j))) % 256=x / 2 ^ (8*k) % 256
  rw[show y*(256*2 ^ (8*j))=256*(y*2 ^ (8*j)) by rw[Nat.mul_left_comm],Nat.add_mul_mod_self_left]
theorem d6u:∀ m:List UInt8,leb (le m.reverse) m.length=m.reverse
 |[]=>rfl
 |b::m=>by
  rw[List.reverse_cons,d5x,List.length_cons,List.length_reverse]
  unfold leb
  have h1:=c5f m.reverse
  rw[List.length_reverse] at h1
  have e:(256:Nat) ^ m.length=2 ^ (8*m.length):=by rw[show(256:Nat)=2 ^ 8 by rfl,Nat.pow_mul]
  have e2:=d6j (le m.reverse) b.toNat m.length 0
  rw[Nat.add_zero] at e2
  rw[e] at h1 ⊢
  rw[e2,d6u m,Nat.add_mul_div_right _ _ (Nat.two_pow_pos _),Nat.div_eq_of_lt h1,Nat.zero_add]
  simp
theorem f2n (l:List UInt8):leb (le l) l.length=l:=by
 have:=d6u l.reverse
 rwa [List.reverse_reverse,List.length_reverse] at this
def c9b (p:Pg):List UInt8:=leb p.kind.toNat 1++leb 1 1++leb p.count.toNat 2++leb p.page 4++leb p.link 4++leb p.tx 8++p.body
theorem e7v {n:Nat}(hn:2<n) (p:Pg) (hk:0≤p.kind∧p.kind<1000) (hc:0≤p.count∧p.count<1000000) (h1:p.page<4294967296) (h2:p.link<4294967296) (h3:p.tx<18446744073709551616) (hb:p.body.length<1000000) (h:a0a):(TV n).sm 52 [p.av] h=some (.str (c9b p),h):=by
 refine a3b hn rfl rfl rfl fun n hn=>a0s rfl rfl ?_
 obtain⟨kind,count,pp,pl,tx,body⟩:=p
 dsimp only at hk hc h1 h2 h3 hb
 obtain⟨k,rfl⟩:=Int.eq_ofNat_of_zero_le hk.1
 obtain⟨c,rfl⟩:=Int.eq_ofNat_of_zero_le hc.1
 have ek:c9b ⟨k,c,pp,pl,tx,body⟩=leb k 1++leb 1 1++leb c 2++leb pp 4++leb pl 4++leb tx 8++body:=rfl
 rw[ek]
 have ea:Pg.av ⟨k,c,pp,pl,tx,body⟩=.agg [.int .i64 k,.int .i64 c,.int .u32 pp,.int .u32 pl,.int .u64 tx,.str body]:=rfl
 rw[ea]
 refine walk ?_
 refine a0b (a9p (s:=[]) (x:=k) (k:=1) By.nil (by omega) (by decide) (by decide) (by simp) rfl) rfl rfl rfl rfl ?_
 rintro v1 g1 ⟨o1,x1⟩
 have k1:g1.get 0=some (.cells 64 [.int .i64 k,.int .i64 c,.int .u32 pp,.int .u32 pl,.int .u64 tx,.str body] true):=(x1.old 0 (Nat.le_of_ble_eq_true rfl)).trans rfl
 have m1:1≤g1.next:=x1.nx
 refine walk ?_
 refine a0b (a9p (x:=1) (k:=1) o1.by (by omega) (by decide) (by decide) (by simp[a1c]) o1.by.ns) rfl rfl rfl rfl ?_
 rintro v2 g2 ⟨o2,x2⟩
 have k2:g2.get 0=some (.cells 64 [.int .i64 k,.int .i64 c,.int .u32 pp,.int .u32 pl,.int .u64 tx,.str body] true):=(x2.old 0 (by omega)).trans k1
 have m2:1≤g2.next:=Nat.le_trans m1 x2.nx
 refine walk ?_
 refine a0b (a9p (x:=c) (k:=2) o2.by (by omega) (by decide) (by decide) (by simp[a1c]) o2.by.ns) rfl rfl rfl rfl ?_
 rintro v3 g3 ⟨o3,x3⟩
 have k3:g3.get 0=some (.cells 64 [.int .i64 k,.int .i64 c,.int .u32 pp,.int .u32 pl,.int .u64 tx,.str body] true):=(x3.old 0 (by omega)).trans k2
 have m3:1≤g3.next:=Nat.le_trans m2 x3.nx
 refine walk ?_
 refine a0b (a9p (x:=pp) (k:=4) o3.by (by omega) (by decide) (by decide) (by simp[a1c]) o3.by.ns) rfl rfl rfl rfl ?_
 rintro v4 g4 ⟨o4,x4⟩
 have k4:g4.get 0=some (.cells 64 [.int .i64 k,.int .i64 c,.int .u32 pp,.int .u32 pl,.int .u64 tx,.str body] true):=(x4.old 0 (by omega)).trans k3
 have m4:1≤g4.next:=Nat.le_trans m3 x4.nx
 refine walk ?_
 refine a0b (a9p (x:=pl) (k:=4) o4.by (by omega) (by decide) (by decide) (by simp[a1c]) o4.by.ns) rfl rfl rfl rfl ?_
 rintro v5 g5 ⟨o5,x5⟩
 have k5:g5.get 0=some (.cells 64 [.int .i64 k,.int .i64 c,.int .u32 pp,.int .u32 pl,.int .u64 tx,.str body] true):=(x5.old 0 (by omega)).trans k4
 have m5:1≤g5.next:=Nat.le_trans m4 x5.nx
 refine walk ?_
 refine a0b (a9p (x:=tx) (k:=8) o5.by (by omega) (by decide) (by decide) (by simp[a1c]) o5.by.ns) rfl rfl rfl rfl ?_
 rintro v6 g6 ⟨o6,x6⟩
 have k6:g6.get 0=some (.cells 64 [.int .i64 k,.int .i64 c,.int .u32 pp,.int .u32 pl,.int .u64 tx,.str body] true):=(x6.old 0 (by omega)).trans k5
 have m6:1≤g6.next:=Nat.le_trans m5 x6.nx
 refine walk ?_
 refine a1k rfl rfl rfl (c4f o6.by o6.by.ns rfl rfl rfl rfl rfl) ?_
 simp only[List.nil_append]
 refine walk ?_
 refine a1k rfl rfl rfl (a3n rfl rfl rfl (d6i (by simp[a1c]; omega)) rfl) ?_
 refine walk ?_
 exact a0e hres rfl
theorem f2k {q:Nat}(s:List UInt8) (hl:s.length≤1000000) (h:a0a):(TV q).sm 54 [.str s] h=some (.int .u32 (c3l s),h):=by
 refine b_w rfl ?_
 have e:Nat.ble s.length 1000000=true:=Nat.ble_eq.mpr hl
 show b1d 54 [.str s] h=_
 unfold b1d
 simp only[e]
 rfl
theorem a7x (s:List UInt8) (a k:Nat):s.drop a=(s.drop a).take k++s.drop (a+k):=by rw[← List.drop_drop,List.take_append_drop]
theorem d7g {s:List UInt8}(i:Nat) (hl:d1v i+wid i≤s.length):leb (fld s i) (wid i)=(s.drop (d1v i)).take (wid i):=by
 have e:((s.drop (d1v i)).take (wid i)).length=wid i:=by simp; omega
 have:=f2n ((s.drop (d1v i)).take (wid i))
 rw[e] at this
 exact this
theorem d7j {s:List UInt8}(hl:24≤s.length):c9b (b3r s)=s.drop 4↔fld s 2=1:=by
 have f1:leb (fld s 1) 1=(s.drop 4).take 1:=d7g 1 (by show 4+1≤_; omega)
 have f2:leb (fld s 2) 1=(s.drop 5).take 1:=d7g 2 (by show 5+1≤_; omega)
 have f3:leb (fld s 3) 2=(s.drop 6).take 2:=d7g 3 (by show 6+2≤_; omega)
 have f4:leb (fld s 4) 4=(s.drop 8).take 4:=d7g 4 (by show 8+4≤_; omega)
 have f5:leb (fld s 5) 4=(s.drop 12).take 4:=d7g 5 (by show 12+4≤_; omega)
 have f6:leb (fld s 6) 8=(s.drop 16).take 8:=d7g 6 (by show 16+8≤_; omega)
 have d:s.drop 4=(s.drop 4).take 1++((s.drop 5).take 1++((s.drop 6).take 2++((s.drop 8).take 4++((s.drop 12).take 4++((s.drop 16).take 8++s.drop 24))))) :=
  (a7x s 4 1).trans (congrArg (_ ++ ·) ((a7x s 5 1).trans (congrArg (_ ++ ·) ((a7x s 6 2).trans (congrArg (_ ++ ·) ((a7x s 8 4).trans (congrArg (_ ++ ·) ((a7x s 12 4).trans (congrArg (_ ++ ·) (a7x s 16 8))))))))))
 have r:c9b (b3r s)=(s.drop 4).take 1++(leb 1 1++((s.drop 6).take 2++((s.drop 8).take 4++((s.drop 12).take 4++((s.drop 16).take 8++s.drop 24))))):=by
  rw[← f1,← f3,← f4,← f5,← f6]
  show leb (fld s 1) 1++leb 1 1++leb (fld s 3) 2++leb (fld s 4) 4++leb (fld s 5) 4++leb (fld s 6) 8++s.drop 24=_
  simp only[List.append_assoc]
 rw[r]
 constructor
 ·intro q
  have q2:=List.append_cancel_right (List.append_cancel_left (q.trans d))
  show le ((s.drop 5).take 1)=1
  rw[← q2]
  rfl
 ·intro q
  rw[q] at f2
  rw[f2]
  exact d.symm
theorem f0p {n:Nat}(hn:3<n) (z:Int) (m:Nat) (s:List UInt8) (hl:s.length<1000000) (h:a0a):(TV n).sm 63 [.int .i64 z,.int .u32 m,.str s] h=some (.tuple [(b1a z m s).1.av,.int .i64 (b1a z m s).2],h):=by
 refine a3b hn rfl rfl rfl fun n hn=>a0s rfl rfl ?_
 have w1:=a6p (n:=n) (by omega) z
 by_cases g:Good z
 case neg =>
  have e:b1a z m s=(Pg.zero,2):=by unfold b1a; rw[if_neg g]
  rw[e]
  exact auto
 have g1:=g.1
 have g2:=g.2.1
 by_cases hln:(s.length:Int)=z
 case neg =>
  have e:b1a z m s=(Pg.zero,4):=by unfold b1a; rw[if_pos g,if_neg fun c=>hln c.1]
  rw[e]
  exact auto
 have hl2:24≤s.length:=by omega
 refine walk ?_
 refine a0b (d7o s _) rfl rfl rfl rfl ?_
 rintro _ _ ⟨rfl,rfl⟩
 refine walk ?_
 refine a0b (b0j (n:=4) (by exact a0g) (by exact Nat.le_of_ble_eq_true rfl) (by omega) (by decide) (by decide)) rfl rfl rfl rfl ?_
 rintro _ h1 ⟨rfl,u1⟩
 have n1:h1.next=2:=u1.nx
 have k1:h1.get 0=some (.cells 64 Pg.zero.cs true):=(u1.old 0 (by decide)).trans rfl
 have r1:h1.get 1=some (.cells 166 [.str (s.drop 4)] true):=by have:=u1.got; unfold a0h at this; rw[if_pos (by omega)] at this; exact this
 have ok1:h1.ok:=u1.ok hok
 have v1:a0o 4 s=fld s 0:=by unfold a0o; rw[if_pos (by omega)]; rfl
 rw[v1]
 clear u1 v1
 refine walk ?_
 refine a0b (b0j (n:=1) r1 (by omega) (by simp; omega) (by decide) (by decide)) rfl rfl rfl rfl ?_
 rintro _ h2 ⟨rfl,u1⟩
 have n2:h2.next=2:=u1.nx.trans n1
 have k2:h2.get 0=some (.cells 64 Pg.zero.cs true):=(u1.old 0 (by decide)).trans k1
 have r2:h2.get 1=some (.cells 166 [.str (s.drop 5)] true):=by have:=u1.got; unfold a0h at this; rw[if_pos (by simp; omega),List.drop_drop] at this; exact this
 have ok2:h2.ok:=u1.ok ok1
 have v1:a0o 1 (s.drop 4)=fld s 1:=by unfold a0o; rw[if_pos (by simp; omega)]; rfl
 rw[v1]
 clear u1 v1 n1 k1 r1 ok1
 refine walk ?_
 refine a0b (b0j (n:=1) r2 (by omega) (by simp; omega) (by decide) (by decide)) rfl rfl rfl rfl ?_
 rintro _ h3 ⟨rfl,u1⟩
 have n3:h3.next=2:=u1.nx.trans n2
 have k3:h3.get 0=some (.cells 64 Pg.zero.cs true):=(u1.old 0 (by decide)).trans k2
 have r3:h3.get 1=some (.cells 166 [.str (s.drop 6)] true):=by have:=u1.got; unfold a0h at this; rw[if_pos (by simp; omega),List.drop_drop] at this; exact this
 have ok3:h3.ok:=u1.ok ok2
 have v1:a0o 1 (s.drop 5)=fld s 2:=by unfold a0o; rw[if_pos (by simp; omega)]; rfl
 rw[v1]
 clear u1 v1 n2 k2 r2 ok2
 refine walk ?_
 refine a0b (b0j (n:=2) r3 (by omega) (by simp; omega) (by decide) (by decide)) rfl rfl rfl rfl ?_
 rintro _ h4 ⟨rfl,u1⟩
 have n4:h4.next=2:=u1.nx.trans n3
 have k4:h4.get 0=some (.cells 64 Pg.zero.cs true):=(u1.old 0 (by decide)).trans k3
 have r4:h4.get 1=some (.cells 166 [.str (s.drop 8)] true):=by have:=u1.got; unfold a0h at this; rw[if_pos (by simp; omega),List.drop_drop] at this; exact this
 have ok4:h4.ok:=u1.ok ok3
 have v1:a0o 2 (s.drop 6)=fld s 3:=by unfold a0o; rw[if_pos (by simp; omega)]; rfl
 rw[v1]
 clear u1 v1 n3 k3 r3 ok3
 refine walk ?_
 refine a0b (b0j (n:=4) r4 (by omega) (by simp; omega) (by decide) (by decide)) rfl rfl rfl rfl ?_
 rintro _ h5 ⟨rfl,u1⟩
 have n5:h5.next=2:=u1.nx.trans n4
 have k5:h5.get 0=some (.cells 64 Pg.zero.cs true):=(u1.old 0 (by decide)).trans k4
 have r5:h5.get 1=some (.cells 166 [.str (s.drop 12)] true):=by have:=u1.got; unfold a0h at this; rw[if_pos (by simp; omega),List.drop_drop] at this; exact this
 have ok5:h5.ok:=u1.ok ok4
 have v1:a0o 4 (s.drop 8)=fld s 4:=by unfold a0o; rw[if_pos (by simp; omega)]; rfl
 rw[v1]
 clear u1 v1 n4 k4 r4 ok4
 refine walk ?_
 refine a0b (b0j (n:=4) r5 (by omega) (by simp; omega) (by decide) (by decide)) rfl rfl rfl rfl ?_
 rintro _ h6 ⟨rfl,u1⟩
 have n6:h6.next=2:=u1.nx.trans n5
 have k6:h6.get 0=some (.cells 64 Pg.zero.cs true):=(u1.old 0 (by decide)).trans k5
 have r6:h6.get 1=some (.cells 166 [.str (s.drop 16)] true):=by have:=u1.got; unfold a0h at this; rw[if_pos (by simp; omega),List.drop_drop] at this; exact this
 have ok6:h6.ok:=u1.ok ok5
 have v1:a0o 4 (s.drop 12)=fld s 5:=by unfold a0o; rw[if_pos (by simp; omega)]; rfl
 rw[v1]
 clear u1 v1 n5 k5 r5 ok5
 refine walk ?_
 refine a0b (b0j (n:=8) r6 (by omega) (by simp; omega) (by decide) (by decide)) rfl rfl rfl rfl ?_
 rintro _ h7 ⟨rfl,u1⟩
 have n7:h7.next=2:=u1.nx.trans n6
 have k7:h7.get 0=some (.cells 64 Pg.zero.cs true):=(u1.old 0 (by decide)).trans k6
 have r7:h7.get 1=some (.cells 166 [.str (s.drop 24)] true):=by have:=u1.got; unfold a0h at this; rw[if_pos (by simp; omega),List.drop_drop] at this; exact this
 have ok7:h7.ok:=u1.ok ok6
 have v1:a0o 8 (s.drop 16)=fld s 6:=by unfold a0o; rw[if_pos (by simp; omega)]; rfl
 rw[v1]
 clear u1 v1 n6 k6 r6 ok6
 have b0:fld s 0<4294967296:=a7i s 0
 have b1:fld s 1<256:=a7i s 1
 have b2:fld s 2<256:=a7i s 2
 have b3:fld s 3<65536:=a7i s 3
 have b4:fld s 4<4294967296:=a7i s 4
 have b5:fld s 5<4294967296:=a7i s 5
 have b6:fld s 6<18446744073709551616:=a7i s 6
 refine walk ?_
 refine GJ.gen [(0,.int .i64 z),(1,.int .u32 m),(2,.str s),(6,.ptr 0 0),(9,.int .u64 (fld s 0)),(21,.ptr h7.next 0)] (fun h=>h.get 0=some (.cells 64 Pg.zero.cs true)∧h.get h7.next=some (.cells 64 (b3r s).cs true)∧h.next=3∧h.ok) hsub ⟨by exact a0g,by exact a0g,by show h7.next+1=3; omega,by exact hok⟩ ?_
 rintro h8 ⟨q0,q1,n8,ok8⟩
 rw[n7] at q1 ⊢
 clear n7 k7 r7 ok7 w1
 have hb:(s.drop 24).length<1000000:=by simp; omega
 have w1:=f1l (n:=n) (by omega) z (b3r s) (by show(s.drop 24).length<_; omega)
 have w2:=e7v (n:=n) (by omega) (b3r s) (by show(0:Int)≤(fld s 1:Nat)∧((fld s 1:Nat):Int)<_; omega) (by show(0:Int)≤(fld s 3:Nat)∧((fld s 3:Nat):Int)<_; omega) b4 b5 b6 (by show(s.drop 24).length<_; omega)
 have w3:=f2k (q:=n) (s.drop 4) (by simp; omega)
 have c5:=c9a (s.drop 4)
 have ri:=d7j hl2
 refine a0c (q:=25) (ms:=[0,0,3,7,15,31,63,31,255,511,1023,2047,4095,2047,10239,32767,65535,131071,262143,524287,1048575,2097151,262143,8388607,16777215]) (hl:=[[83],[82],[],[],[],[89],[89],[87,88],[],[],[],[95,96],[95,96],[93,94],[93,94],[],[],[],[104],[104],[104],[104],[100,101,102,103],[],[]]) hok rfl (by kernel_rfl) (by kernel_rfl) rfl ?_
 unfold b1a
 rw[if_pos g]
 by_cases c:c7u z m s
 case pos =>
  rw[if_pos ⟨hln,c⟩]
  obtain⟨c1,c2,c3,c4⟩:=c
  have c2:=ri.2 c2
  have c3:(b3r s).page=m:=c3
  refine walk ?_
  exact a0d hres rfl
 rw[if_neg fun q=>c q.2]
 by_cases c1:a7a z (b3r s)
 ·by_cases c3:(b3r s).page=m
  ·by_cases c2:c9b (b3r s)=s.drop 4
   ·have c4:¬ fld s 0=c3l (s.drop 4):=fun c4=>c ⟨c1,ri.1 c2,c3,c4⟩
    exact auto
   ·exact auto
  ·exact auto
 ·exact auto
theorem f5b {n:Nat}(hn:2<n) (s:Int) (img:List UInt8) (p:Nat) (hi:img.length<1000000000) (hp:p<4294967296) (h:a0a):(TV n).sm 62 [.int .i64 s,.str img,.int .u32 p] h =
  some (if p<pages s img then .tuple [.str (atL s img p),.bool true] else .tuple [.str [],.bool false],h):=by
 have hq:=b3s s img
 refine a3b hn rfl rfl (by split<;>rfl) fun n hn=>a0s rfl rfl ?_
 refine walk ?_
 refine a3e (e3q (by omega) s img (by omega) _) rfl rfl rfl rfl ?_
 by_cases hlt:p<pages s img
 ·obtain⟨g,hb⟩:=e9u hlt
  have g1:=g.1
  have g2:=g.2.1
  unfold atL
  obtain⟨m,rfl⟩:=Int.eq_ofNat_of_zero_le (show 0≤s by omega)
  rw[if_pos hlt]
  simp only[Int.toNat_natCast] at hb ⊢
  refine walk ?_
  exact a0d hres (by show AV.tuple [AV.str _,_]=_; rw[Nat.add_sub_cancel_left])
 ·refine walk ?_
  rw[if_neg hlt]
  exact a0d hres rfl
theorem c0w {n:Nat}(hn:4<n) (z:Int) (img:List UInt8) (p:Nat) (hi:img.length<1000000) (hp:p<4294967296) (h:a0a):(TV n).sm 32 [.int .i64 z,.str img,.int .u32 p] h=some (.tuple [(a0u z img p).1.av,.int .i64 (a0u z img p).2],h):=by
 refine a3b hn rfl rfl rfl fun n hn=>a0s rfl rfl ?_
 have w1:=a6p (n:=n) (by omega) z
 have w2:=f5b (n:=n) (by omega) z img p (by omega) hp
 have w3:=f0p (n:=n) (by omega) z p (atL z img p) (by unfold atL; simp; omega)
 unfold a0u
 by_cases g:Good z
 case neg=>rw[if_neg g]; exact auto
 rw[if_pos g]
 by_cases c:p<pages z img
 ·rw[if_pos c] at w2 ⊢
  exact auto
 ·rw[if_neg c] at w2 ⊢
  exact auto
set_option maxRecDepth 10000
set_option maxHeartbeats 4000000
theorem e8c {n:Nat}(hn:0<n) (img:List UInt8) (hi:img.length<9223372036854775808) (h:a0a):(TV n).sm 7 [.str img] h=some (.bool (decide (img.length≤5000)),h):=by
 refine a3b hn rfl rfl rfl fun n hn=>a0s rfl rfl ?_
 refine walk ?_
 exact a0e (by exact hres) (d1n (by omega))
end Go.Proofs.YtejfbaecadbdiaaGreat
