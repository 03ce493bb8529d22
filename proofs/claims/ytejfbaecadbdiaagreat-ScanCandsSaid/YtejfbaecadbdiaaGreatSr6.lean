/- What the functions of this part answer at any input, told by the rules over the evaluator. Conditions: those that each theorem states. -/
import Derived.Test.YtejfbaecadbdiaaGreatSr5
import Derived.Test.YtejfbaecadbdiaaGreatSrt
set_option linter.unusedVariables false
set_option linter.unusedSimpArgs false
open Go Ev
namespace Go.Proofs.YtejfbaecadbdiaaGreat
set_option maxRecDepth 10000
set_option maxHeartbeats 4000000
theorem c4l (d:Array Nat) (b i:Nat) (h:i≤b):Go.Sort.scanSorted ltN d b i≤b∧i≤Go.Sort.scanSorted ltN d b i:=by
 induction hm:b-i generalizing i with
 |zero=>rw[Go.Sort.scanSorted,if_neg (by simp; omega)]; omega
 |succ m ih =>
  rw[Go.Sort.scanSorted]
  split
  ·have:=ih (i+1) (by omega) (by omega); omega
  ·omega
theorem d7x {n:Nat}(hn:1<n){v:AV}{B a b:Nat}{d:Array Nat}{tl:List AV}{h:a0a}(D:Dat h v B d tl) (hk:h.ok) (hs:d.size<50) (hab:a<b) (hb:b≤d.size):a0l (TA n) 203 [v,.int .i64 a,.int .i64 b] h (fun v' h'=>v'=.bool (Go.Sort.partialInsertionSort ltN d a b).2∧(Go.Sort.partialInsertionSort ltN d a b).1=d∧Dat h' v B d tl∧a2d B h h'):=by
 refine a0r (a6m rfl rfl) rfl rfl ?_
 unfold Go.Sort.partialInsertionSort
 rw[Go.Sort.partialIns_succ]
 obtain⟨i2,hi2⟩:∃ u,Go.Sort.scanSorted ltN d b (a+1)=u:=⟨_,rfl⟩
 have rng:=c4l d b (a+1) (by omega)
 rw[hi2] at rng
 simp only[hi2]
 rw[if_pos (show b-a<50 by omega)]
 refine walk ?_
 refine a7m ?_
 refine walk ?_
 refine a8h (ι:=Unit) (fun _=>[(0,v),(1,.int .i64 a),(2,.int .i64 b),(7,.int .i64 (i2:Nat))]) (fun _ g=>Dat g v B d tl∧a2d B h g) ?_ ?_
 ·intro k' join
  refine a0n (ι:=Nat) (fun x=>b-x) (fun x=>[(0,v),(1,.int .i64 a),(2,.int .i64 b),(7,.int .i64 (x:Nat))]) (fun x g=>a<x∧x≤b∧Go.Sort.scanSorted ltN d b x=i2∧Dat g v B d tl∧a2d B h g) (a+1) hsub ⟨by omega,by omega,hi2,D,.refl _ _⟩ ?_
  rintro x g ⟨q1,q2,eU,Dx,Ox⟩ next
  have kx:=Ox.ok hk
  have gx:=Dx.get
  rw[Go.Sort.scanSorted] at eU
  by_cases c1:(x:Int)<(b:Int)
  case neg =>
   rw[if_neg (by simp; omega)] at eU
   subst eU
   refine walk ?_
   refine a0c (q:=16) (ms:=[0,0,3,7,15,15,63,127,15,15,527,1807,3855,8191,16383,32767]) (hl:=[[18],[17],[],[],[22,25,26,27,28,29],[21,25,26,27,28,29],[25,26,27,28,29],[25,26,27,28,29],[21,22,23,24,26,27],[21,22,23,24,25],[21,22,23,24,25],[21,22,23,24],[21,22,23,24],[],[],[]]) kx rfl (by kernel_rfl) (by kernel_rfl) rfl ?_
   refine walk ?_
   exact join () hsub ⟨Dx.more,Ox.trans (.more kx)⟩
  have a1:=@Dat.ix _ _ _ x _ _ Dx (by omega)
  have a2:=@Dat.ix _ _ _ (x-1) _ _ Dx (by omega)
  have he1:=Dx.at (j:=x) (by omega)
  have he2:=Dx.at (j:=x-1) (by omega)
  have w1:=a8t (n:=n) hn d[x]! d[x-1]!
  cases c4:ltN d[x]! d[x-1]! with
  |true =>
   have c5:d[x]! < d[x-1]! := by simpa [ltN] using c4
   rw[c4] at w1
   rw[if_neg (by simp[c4])] at eU
   subst eU
   refine walk ?_
   refine a0c (q:=16) (ms:=[0,0,3,7,15,15,63,127,15,15,527,1807,3855,8191,16383,32767]) (hl:=[[18],[17],[],[],[22,25,26,27,28,29],[21,25,26,27,28,29],[25,26,27,28,29],[25,26,27,28,29],[21,22,23,24,26,27],[21,22,23,24,25],[21,22,23,24,25],[21,22,23,24],[21,22,23,24],[],[],[]]) kx rfl (by kernel_rfl) (by kernel_rfl) rfl ?_
   refine walk ?_
   exact join () hsub ⟨Dx.more,Ox.trans (.more kx)⟩
  |false =>
   have c5:¬ d[x]! < d[x-1]! := by simpa [ltN] using c4
   rw[c4] at w1
   rw[if_pos (by simp[c4]; omega)] at eU
   refine walk ?_
   refine a0c (q:=16) (ms:=[0,0,3,7,15,15,63,127,15,15,527,1807,3855,8191,16383,32767]) (hl:=[[18],[17],[],[],[22,25,26,27,28,29],[21,25,26,27,28,29],[25,26,27,28,29],[25,26,27,28,29],[21,22,23,24,26,27],[21,22,23,24,25],[21,22,23,24,25],[21,22,23,24],[21,22,23,24],[],[],[]]) kx rfl (by kernel_rfl) (by kernel_rfl) rfl ?_
   refine walk ?_
   exact next (x+1) (by omega) hsub ⟨by omega,by omega,eU,Dx.more,Ox.trans (.more kx)⟩
 rintro⟨⟩ g ⟨D2,O2⟩
 by_cases c1:(i2:Int)=(b:Int)
 ·rw[if_pos (by omega)]
  refine walk ?_
  exact a0e (by exact hres) ⟨rfl,rfl,D2,O2⟩
 ·rw[if_neg (by omega)]
  have c2:(b:Int)-(a:Int)<50:=by omega
  refine walk ?_
  exact a0e (by exact hres) ⟨rfl,rfl,D2,O2⟩
def Cnt (h:a0a) (S m:Nat):Prop:=S<h.next∧h.get S=some (.cells 3 [.int .i64 (m:Nat)] true)
theorem Dat.only {h h':a0a}{v:AV}{B S:Nat}{d:Array Nat}{tl:List AV}(D:Dat h v B d tl) (o:a2d S h h') (hn:B≠S):Dat h' v B d tl:=⟨Nat.lt_of_lt_of_le D.lt o.nx,(o.old _ D.lt hn).trans D.get,D.hd⟩
theorem c2y {n:Nat}(hn:1<n){v:AV}{B S m a b:Nat}{d:Array Nat}{tl:List AV}{h:a0a}(D:Dat h v B d tl) (C:Cnt h S m) (hm:m≤1000) (hk:h.ok) (ha:a<d.size) (hb:b<d.size):a0l (TA n) 225 [v,.int .i64 a,.int .i64 b,.ptr S 0] h (fun v' h'=>(v'=.tuple [.int .i64 a,.int .i64 b]∨v'=.tuple [.int .i64 b,.int .i64 a])∧a2d S h h'∧∃ m',m'≤m+1∧Cnt h' S m'):=by
 refine a0r (a6m rfl rfl) rfl rfl ?_
 have gD:=D.get
 obtain⟨sl,sg⟩:=C
 have a1:=@Dat.ix _ _ _ a _ _ D ha
 have a2:=@Dat.ix _ _ _ b _ _ D hb
 have he1:=D.at (j:=a) ha
 have he2:=D.at (j:=b) hb
 have w1:=a8t (n:=n) hn d[b]! d[a]!
 refine walk ?_
 refine a0c (q:=9) (ms:=[0,0,3,7,0,0,48,112,255]) (hl:=[[11,14,15,16,17],[10,14,15,16,17],[14,15,16,17],[14,15,16,17],[10,11,12,13,15],[10,11,12,13,14],[10,11,12,13],[10,11,12,13],[]]) hk rfl (by kernel_rfl) (by kernel_rfl) rfl ?_
 refine walk ?_
 refine b5h rfl (fun c3=>?_) (fun c3=>?_)
 ·refine walk ?_
  refine a0d (by exact hres) ⟨.inr rfl,⟨by show h.next≤h.next+9; omega,fun c hc hs=>a0a.gn _ _ _ _ hs,fun _=>a0w (a0a.a2o hk 9) _ _ (by show S<h.next+9; omega)⟩,m+1,Nat.le_refl _,by show S<h.next+9; omega,?_⟩
  exact a0a.gs _ _ _
 ·refine walk ?_
  exact a0d (by exact hres) ⟨.inl rfl,.more hk,m,by omega,by show S<h.next+9; omega,sg⟩
theorem e2o {n:Nat}(hn:1<n){v:AV}{B S m a b c:Nat}{d:Array Nat}{tl:List AV}{h:a0a}(D:Dat h v B d tl) (C:Cnt h S m) (hBS:B≠S) (hm:m≤900) (hk:h.ok) (ha:a<d.size) (hb:b<d.size) (hc:c<d.size):a0l (TA n) 223 [v,.int .i64 a,.int .i64 b,.int .i64 c,.ptr S 0] h (fun v' h'=>(v'=.int .i64 a∨v'=.int .i64 b∨v'=.int .i64 c)∧a2d S h h'∧∃ m',m'≤m+3∧Cnt h' S m'):=by
 refine a0r (a6m rfl rfl) rfl rfl ?_
 refine walk ?_
 refine a0b (c2y hn D C (by omega) hk ha hb) rfl rfl rfl rfl ?_
 rintro u h1 ⟨eu,o1,m1,l1,C1⟩
 obtain⟨a',b',ea,eb⟩:∃ a' b',u=.tuple [.int .i64 (a':Nat),.int .i64 (b':Nat)]∧((a'=a∧b'=b)∨(a'=b∧b'=a)):=by
  rcases eu with rfl|rfl
  ·exact⟨a,b,rfl,.inl ⟨rfl,rfl⟩⟩
  ·exact⟨b,a,rfl,.inr ⟨rfl,rfl⟩⟩
 subst ea
 have D1:=D.only o1 hBS
 have k1:=o1.ok hk
 refine walk ?_
 refine a0b (c2y hn D1 C1 (by omega) k1 (a:=b') (b:=c) (by rcases eb with e|e<;>omega) hc) rfl rfl rfl rfl ?_
 rintro u h2 ⟨eu,o2,m2,l2,C2⟩
 obtain⟨b2,c2,ea,eb2⟩:∃ x y,u=.tuple [.int .i64 (x:Nat),.int .i64 (y:Nat)]∧((x=b'∧y=c)∨(x=c∧y=b')):=by
  rcases eu with rfl|rfl
  ·exact⟨b',c,rfl,.inl ⟨rfl,rfl⟩⟩
  ·exact⟨c,b',rfl,.inr ⟨rfl,rfl⟩⟩
 subst ea
 have D2:=D1.only o2 hBS
 have k2:=o2.ok k1
 refine walk ?_
 refine a0b (c2y hn D2 C2 (by omega) k2 (a:=a') (b:=b2) (by rcases eb with e|e<;>omega) (by rcases eb with e|e<;>rcases eb2 with e2|e2<;>omega)) rfl rfl rfl rfl ?_
 rintro u h3 ⟨eu,o3,m3,l3,C3⟩
 obtain⟨a3,b3,ea,eb3⟩:∃ x y,u=.tuple [.int .i64 (x:Nat),.int .i64 (y:Nat)]∧((x=a'∧y=b2)∨(x=b2∧y=a')):=by
  rcases eu with rfl|rfl
  ·exact⟨a',b2,rfl,.inl ⟨rfl,rfl⟩⟩
  ·exact⟨b2,a',rfl,.inr ⟨rfl,rfl⟩⟩
 subst ea
 refine walk ?_
 refine a0e (by exact hres) ⟨?_,(o1.trans o2).trans o3,m3,by omega,C3⟩
 rcases eb with e|e<;>rcases eb2 with e2|e2<;>rcases eb3 with e3|e3<;>(obtain⟨rfl,rfl⟩:=e; obtain⟨rfl,rfl⟩:=e2; obtain⟨rfl,rfl⟩:=e3; simp)
theorem e7k {n:Nat}(hn:1<n){v:AV}{B a b:Nat}{d:Array Nat}{tl:List AV}{h:a0a}(D:Dat h v B d tl) (hk:h.ok) (hs:d.size<50) (hab:a+12<b) (hb:b≤d.size):a0l (TA n) 201 [v,.int .i64 a,.int .i64 b] h (fun v' h'=>∃ p t:Nat,v'=.tuple [.int .i64 p,.int .i64 t]∧a≤p∧p<b∧Ext h h'):=by
 refine a0r (a6m rfl rfl) rfl rfl ?_
 obtain⟨l,hl⟩:∃ l,b-a=l:=⟨_,rfl⟩
 have e0:((b:Int)-a)=(l:Int):=by omega
 have eq:IntKind.i64.wrap ((l:Int).tdiv 4)=((l / 4:Nat):Int):=by
  rw[show((l:Int).tdiv 4)=((l / 4:Nat):Int) from rfl,wrap_i64 (by omega) (by omega)]
 have pk:∀ q:Nat,q≤3→IntKind.i64.wrap ((a:Int)+IntKind.i64.wrap (IntKind.i64.wrap (((b:Int)-a).tdiv 4)*(q:Int)))=((a+l / 4*q:Nat):Int):=fun q hq=>by
  have:l / 4*q≤l / 4*3:=Nat.mul_le_mul_left _ hq
  rw[e0,eq,← Int.natCast_mul,wrap_i64 (x:=((l / 4*q:Nat):Int)) (by omega) (by omega),wrap_i64 (by omega) (by omega)]
  omega
 have p1:=pk 1 (by omega)
 have p2:=pk 2 (by omega)
 have p3:=pk 3 (by omega)
 refine walk ?_
 rw[show(1:Int)=((1:Nat):Int) from rfl,show(2:Int)=((2:Nat):Int) from rfl,show(3:Int)=((3:Nat):Int) from rfl,p1,p2,p3]
 refine a0b (e2o hn (D.ext (Ext.alloc h _)) (S:=h.next) (m:=0) ⟨Nat.lt_succ_self _,a0t _ _⟩ (by have:=D.lt; omega) (by omega) (by exact hok) (a:=a+l / 4*1) (b:=a+l / 4*2) (c:=a+l / 4*3) (by omega) (by omega) (by omega)) rfl rfl rfl rfl ?_
 rintro u h2 ⟨eu,o2,m,hm,C⟩
 obtain⟨p,rfl,hp1,hp2⟩:∃ p:Nat,u=.int .i64 p∧a≤p∧p<b:=by
  rcases eu with rfl|rfl|rfl
  ·exact⟨_,rfl,by omega,by omega⟩
  ·exact⟨_,rfl,by omega,by omega⟩
  ·exact⟨_,rfl,by omega,by omega⟩
 obtain⟨sl,sg⟩:=C
 have xt:Ext h h2:=⟨by have:=o2.nx; exact Nat.le_trans (Nat.le_succ _) this,fun c hc=>(o2.old c (by show c<h.next+1; omega) (by omega)).trans (a0a.ga _ _ _ (by omega)),fun k=>o2.ok (a4n k _)⟩
 refine walk ?_
 by_cases c1:(m:Int)=0
 ·refine walk ?_
  exact a0d (by exact hres) ⟨p,1,rfl,hp1,hp2,xt⟩
 by_cases c2:(m:Int)=12
 ·refine walk ?_
  exact a0d (by exact hres) ⟨p,2,rfl,hp1,hp2,xt⟩
 ·refine walk ?_
  exact a0d (by exact hres) ⟨p,0,rfl,hp1,hp2,xt⟩
set_option maxRecDepth 10000
set_option maxHeartbeats 4000000
def b6u (x:Nat):Nat:=if x<1 then 0 else if x<2 then 1 else if x<4 then 2 else if x<8 then 3 else if x<16 then 4 else if x<32 then 5 else 6
theorem e8e {n:Nat}(hn:0<n) (x:Nat) (hx:x<50) (h:a0a):(TA n).sm 208 [.int .u64 x] h=some (.int .i64 (b6u x),h):=by
 refine d1b hn rfl rfl rfl fun n hn=>a0s rfl rfl ?_
 obtain(rfl|rfl|rfl|rfl|rfl|rfl|rfl|rfl|rfl|rfl|rfl|rfl|rfl|rfl|rfl|rfl|rfl|rfl|rfl|rfl|rfl|rfl|rfl|rfl|rfl|rfl|rfl|rfl|rfl|rfl|rfl|rfl|rfl|rfl|rfl|rfl|rfl|rfl|rfl|rfl|rfl|rfl|rfl|rfl|rfl|rfl|rfl|rfl|rfl|rfl):x=0∨x=1∨x=2∨x=3∨x=4∨x=5∨x=6∨x=7∨x=8∨x=9∨x=10∨x=11∨x=12∨x=13∨x=14∨x=15∨x=16∨x=17∨x=18∨x=19∨x=20∨x=21∨x=22∨x=23∨x=24∨x=25∨x=26∨x=27∨x=28∨x=29∨x=30∨x=31∨x=32∨x=33∨x=34∨x=35∨x=36∨x=37∨x=38∨x=39∨x=40∨x=41∨x=42∨x=43∨x=44∨x=45∨x=46∨x=47∨x=48∨x=49:=by omega
 all_goals exact auto
theorem e2i {n:Nat}(hn:1<n) (x:Nat) (hx:x<50) (h:a0a):(TA n).sm 174 [.int .u64 x] h=some (.int .i64 (b6u x),h):=by
 refine d1b hn rfl rfl rfl fun n hn=>a0s rfl rfl ?_
 have w1:=e8e (n:=n) (by omega) x hx
 exact auto
set_option maxRecDepth 10000
set_option maxHeartbeats 4000000
theorem f3o {n:Nat}(hn:2<n) (x:Nat) (hx:x<50) (h:a0a):(TA n).sm 220 [.int .i64 x] h=some (.int .u64 ((2 ^ b6u x:Nat):Int),h):=by
 refine d1b hn rfl rfl rfl fun n hn=>a0s rfl rfl ?_
 have w1:=e2i (n:=n) (by omega) x hx
 have l6:b6u x≤6:=by unfold b6u; (repeat' split)<;>omega
 refine walk ?_
 refine a1k rfl rfl rfl (a3n rfl rfl rfl (e4r (x:=1) (y:=b6u x) rfl (by show b6u x≤64; omega) (by rw[Nat.one_mul]; exact Nat.pow_lt_pow_right (by decide) (show b6u x<64 by omega))) rfl) ?_
 rw[Nat.one_mul]
 refine walk ?_
 exact a0e (by exact hres) rfl
theorem d6m {T:Ev.a0k}{t:TypeId}{k':IntKind}(x y:Nat):∃ r:Nat,r<18446744073709551616∧a1i T .shl t (.int .u64 (x:Int)) (.int k' (y:Int))=some (.int .u64 (r:Int)):=by
 have h1:¬ ((y:Int)<0):=by omega
 have h2:0≤IntKind.u64.wrap ((x:Int)*2 ^ (min ((y:Int).toNat) IntKind.u64.bits))∧IntKind.u64.wrap ((x:Int)*2 ^ (min ((y:Int).toNat) IntKind.u64.bits))<18446744073709551616:=by
  have e:∀ z:Int,IntKind.u64.wrap z=z % 18446744073709551616:=fun z=>rfl
  rw[e]
  exact⟨Int.emod_nonneg _ (by decide),Int.emod_lt_of_pos _ (by decide)⟩
 refine⟨(IntKind.u64.wrap ((x:Int)*2 ^ (min ((y:Int).toNat) IntKind.u64.bits))).toNat,by omega,?_⟩
 simp only[a1i,shiftOp,if_neg h1]
 rw[Int.toNat_of_nonneg h2.1]
theorem f1x {n:Nat}{S x:Nat}{h:a0a}(hg:h.get S=some (.cells 266 [.int .u64 x] true)) (hl:S<h.next) (hx:x<18446744073709551616) (hk:h.ok):a0l (TA n) 221 [.ptr S 0] h (fun v' h'=>∃ r:Nat,r<18446744073709551616∧v'=.int .u64 r∧h'.get S=some (.cells 266 [.int .u64 r] true)∧a2d S h h'):=by
 refine a0r (a6m rfl rfl) rfl rfl ?_
 obtain⟨r1,q1,e1⟩:=d6m (T:=TA n) (t:=266) (k':=.u64) x 13
 have x1:Nat.xor x r1<18446744073709551616:=Nat.xor_lt_two_pow (n:=64) hx q1
 generalize hX1:Nat.xor x r1=X1 at x1
 obtain⟨r3,q3,e3⟩:=d6m (T:=TA n) (t:=266) (k':=.u64) (Nat.xor X1 (X1 / 2 ^ 7)) 17
 have x2:Nat.xor X1 (X1 / 2 ^ 7)<18446744073709551616:=Nat.xor_lt_two_pow (n:=64) x1 (Nat.lt_of_le_of_lt (Nat.div_le_self _ _) x1)
 have e2:a1i (TA n) .shr 266 (.int .u64 (X1:Nat)) (.int .u64 ((7:Nat):Int))=some (.int .u64 ((X1 / 2 ^ 7:Nat):Int)):=Ev.b9z (by decide)
 generalize hX2:Nat.xor X1 (X1 / 2 ^ 7)=X2 at x2 e3
 have x3:Nat.xor X2 r3<18446744073709551616:=Nat.xor_lt_two_pow (n:=64) x2 q3
 have k1:a0a.ok { t:=h.t,next:=h.next+10 }:=a0a.a2o hk 10
 refine walk ?_
 refine a0c (q:=10) (ms:=[0,1,3,0,8,24,56,127,255,511]) (hl:=[[6,7,8,9],[6,7,8,9],[6,7,8,9],[3,4,5],[3,4,5],[3,4,5],[3,4,5],[],[],[]]) hk rfl (by kernel_rfl) (by kernel_rfl) rfl ?_
 refine walk ?_
 refine a4l rfl rfl rfl rfl (a3n rfl rfl rfl e1 rfl) ?_
 refine a4l rfl rfl rfl rfl (a3n rfl rfl rfl (Ev.b8g rfl hx q1) rfl) ?_
 rw[show((x ^^^ r1:Nat):Int)=((X1:Nat):Int) from congrArg _ hX1]
 refine walk ?_
 have K2:a0a.ok (a0a.set { t:=h.t,next:=h.next+10 } S (.cells 266 [.int .u64 (X1:Nat)] true)):=a0w k1 _ _ (by show S<h.next+10; omega)
 refine a0c (q:=10) (ms:=[0,1,3,0,8,24,56,127,255,511]) (hl:=[[15,16,17,18],[15,16,17,18],[15,16,17,18],[12,13,14],[12,13,14],[12,13,14],[12,13,14],[],[],[]]) K2 rfl (by kernel_rfl) (by kernel_rfl) rfl ?_
 refine walk ?_
 refine a4l rfl rfl rfl rfl (a3n rfl rfl rfl e2 rfl) ?_
 refine a4l rfl rfl rfl rfl (a3n rfl rfl rfl (Ev.b8g rfl x1 (Nat.lt_of_le_of_lt (Nat.div_le_self _ _) x1)) rfl) ?_
 rw[show((X1 ^^^ X1 / 2 ^ 7:Nat):Int)=((X2:Nat):Int) from congrArg _ hX2]
 refine walk ?_
 have K3:a0a.ok (a0a.set (a0a.mk (a0a.set { t:=h.t,next:=h.next+10 } S (.cells 266 [.int .u64 (X1:Nat)] true)).t ((a0a.set { t:=h.t,next:=h.next+10 } S (.cells 266 [.int .u64 (X1:Nat)] true)).next+10)) S (.cells 266 [.int .u64 (X2:Nat)] true)):=a0w (a0a.a2o K2 10) _ _ (by show S<h.next+10+10; omega)
 refine a0c (q:=10) (ms:=[0,1,3,0,8,24,56,127,255,511]) (hl:=[[24,25,26,27],[24,25,26,27],[24,25,26,27],[21,22,23],[21,22,23],[21,22,23],[21,22,23],[],[],[]]) K3 rfl (by kernel_rfl) (by kernel_rfl) rfl ?_
 refine walk ?_
 refine a4l rfl rfl rfl rfl (a3n rfl rfl rfl e3 rfl) ?_
 refine a4l rfl rfl rfl rfl (a3n rfl rfl rfl (Ev.b8g rfl x2 q3) rfl) ?_
 refine walk ?_
 refine a0e (by exact hres) ⟨_,x3,rfl,a0a.gs _ _ _,⟨by show h.next≤h.next+10+10+10; omega,fun c hc hs=>?_,fun _=>a0w (a0a.a2o K3 10) _ _ (by show S<h.next+10+10+10; omega)⟩⟩
 rw[a0a.gn _ _ _ _ hs]
 show a0a.get (a0a.set _ _ _) c=_
 rw[a0a.gn _ _ _ _ hs]
 show a0a.get (a0a.set _ _ _) c=_
 rw[a0a.gn _ _ _ _ hs]
 rfl
theorem e8l {n:Nat}(hn:2<n){v:AV}{B a b:Nat}{d:Array Nat}{tl:List AV}{h:a0a}(D:Dat h v B d tl) (hk:h.ok) (hs:d.size<50) (hab:a+12<b) (hb:b≤d.size):a0l (TA n) 200 [v,.int .i64 a,.int .i64 b] h (fun _ h'=>∃ d',Go.Sort.PermIn a b d d'∧Dat h' v B d' tl∧a2d B h h'):=by
 refine a0r (a6m rfl rfl) rfl rfl ?_
 obtain⟨l,hl⟩:∃ l,b-a=l:=⟨_,rfl⟩
 have e0:((b:Int)-a)=(l:Int):=by omega
 have w1:=f3o (n:=n) hn l (by omega)
 have M2:∀ l,l<50→13≤l→2 ^ b6u l≤2*l∧1≤2 ^ b6u l∧2 ^ b6u l≤64:=by decide
 have m2:=M2 l (by omega) (by omega)
 have eq:IntKind.i64.wrap ((l:Int).tdiv 4)=((l / 4:Nat):Int):=by
  rw[show((l:Int).tdiv 4)=((l / 4:Nat):Int) from rfl,wrap_i64 (by omega) (by omega)]
 obtain⟨Q,hQ⟩:∃ Q,a+l / 4*2=Q:=⟨_,rfl⟩
 have eQ:(a:Int)+IntKind.i64.wrap ((l:Int).tdiv 4)*2=(Q:Int):=by rw[eq]; omega
 have eQ1:((Q:Int)-1)=((Q-1:Nat):Int):=by omega
 have eQ2:((Q:Int)+1)=((Q+1:Nat):Int):=by omega
 generalize hm:2 ^ b6u l=m at w1 m2
 have em:((m:Int)-1)=((m-1:Nat):Int):=by omega
 have hBS:B≠h.next:=by have:=D.lt; omega
 have x1:Ext h ((h.alloc (.cells 266 [.int .u64 0] true)).set h.next (.cells 266 [.int .u64 (l:Nat)] true)):=by exact a0j
 refine walk ?_
 rw[e0]
 refine walk ?_
 rw[eQ,eQ1]
 refine a0n (ι:=Nat×Array Nat) (fun x=>Q+2-x.1) (fun x=>[(0,v),(1,.int .i64 a),(6,.int .i64 (l:Nat)),(7,.ptr h.next 0),(8,.int .u64 (m:Nat)),(9,.int .i64 (x.1:Nat))]) (fun x g=>Q≤x.1+1∧x.1≤Q+2∧Go.Sort.PermIn a b d x.2∧Dat g v B x.2 tl∧a2d B h g∧h.next<g.next∧∃ q:Nat,q<18446744073709551616∧g.get h.next=some (.cells 266 [.int .u64 q] true)) (Q-1,d) hsub ⟨by simp only; omega,by simp only; omega,Go.Sort.permIn_refl _ _ _,D.ext x1,⟨x1.nx,fun c hc _=>x1.old c hc,x1.ok⟩,by show h.next<h.next+1; omega,l,by omega,a0a.gs _ _ _⟩ ?_
 rintro⟨i,d2⟩ g ⟨h1,h2,pm,D2,O2,ln,q,hq,gq⟩ next
 dsimp only at h1 h2 pm D2 next ⊢
 have k2:=O2.ok hk
 have sz:=pm.1
 by_cases c1:(i:Int)≤((Q+1:Nat):Int)
 case neg =>
  refine walk ?_
  rw[eQ,eQ2]
  refine walk ?_
  exact a2e fun tm hs=>a2b hs rfl ⟨d2,pm,D2,O2⟩
 refine walk ?_
 rw[eQ,eQ2]
 refine walk ?_
 refine a0b (f1x (n:=n) gq ln hq k2) rfl rfl rfl rfl ?_
 rintro _ g3 ⟨r,hr,rfl,g3q,O3⟩
 have D3:=D2.only O3 hBS
 have k3:=O3.ok k2
 have ol:r &&& (m-1)≤m-1:=Nat.and_le_right
 have hm64:m-1<2 ^ IntKind.u64.bits:=Nat.lt_of_le_of_lt (show m-1≤64 by omega) (by decide)
 refine walk ?_
 rw[em,show IntKind.u64.wrap ((m-1:Nat):Int)=((m-1:Nat):Int) from b6l rfl _ hm64]
 refine a1k rfl rfl rfl (a3n rfl rfl rfl (Ev.d0p (x:=r) (y:=m-1) rfl hr hm64) rfl) ?_
 generalize r &&& (m-1)=o at ol ⊢
 refine walk ?_
 refine a5f (ι:=Nat) (fun o=>[(0,v),(1,.int .i64 a),(6,.int .i64 (l:Nat)),(7,.ptr h.next 0),(8,.int .u64 (m:Nat)),(9,.int .i64 (i:Nat)),(10,.int .i64 (o:Nat))]) (fun o g=>o<l∧g=g3) ?_ ?_
 ·intro k' join
  by_cases c2:(l:Int)≤(o:Int)
  ·refine walk ?_
   rw[show((o:Int)-l)=((o-l:Nat):Int) by omega]
   exact join (o-l) hsub ⟨by omega,rfl⟩
  ·refine walk ?_
   exact join o hsub ⟨by omega,rfl⟩
 clear ol
 rintro o g3 ⟨ol,rfl⟩
 have O4:a2d B h g3:=⟨by have:=O2.nx; have:=O3.nx; omega,fun c hc hb=>(O3.old c (by have:=O2.nx; omega) (by omega)).trans (O2.old c hc hb),fun k=>O3.ok (O2.ok k)⟩
 have nx3:=O3.nx
 have g_g3:=D3.get
 have a1:=@Dat.ix _ _ _ (i) _ _ D3 (by omega)
 have a2:=@Dat.ix _ _ _ (a+o) _ _ D3 (by omega)
 have he1:=D3.at (j:=i) (by omega)
 have he2:=D3.at (j:=a+o) (by omega)
 have s1:0+(i)*1<(cel d2 tl).length:=by rw[a2n]; omega
 have s2:0+(a+o)*1<((cel d2 tl).set (0+(i)*1) (.int .u32 ((d2[a+o]! : Nat):Int))).length:=by rw[List.length_set,a2n]; omega
 have D5:=D3.swp (i:=i) (j:=a+o) (h':=a0a.mk g3.t (g3.next+20)) (by omega) (by omega) (by show g3.next≤g3.next+20; omega) (.cells 29 ((cel d2 tl).set (0+(i)*1) (.int .u32 ((d2[a+o]! : Nat):Int))) true)
 have O5:=O4.trans (a2d.two (n:=20) D3.lt (O4.ok hk) (.cells 29 ((cel d2 tl).set (0+(i)*1) (.int .u32 ((d2[a+o]! : Nat):Int))) true) (.cells 29 (((cel d2 tl).set (0+(i)*1) (.int .u32 ((d2[a+o]! : Nat):Int))).set (0+(a+o)*1) (.int .u32 ((d2[i]! : Nat):Int))) true))
 refine walk ?_
 refine a0c (q:=20) (ms:=[0,0,0,0,0,24,0,0,0,384,960,1984,0,0,12288,28672,65475,131011,262143,524287]) (hl:=[[48,49,50,51,52,53,54,55,56,57,58,59,60,61,62],[47,49,50,51,52,53,54,55,56,57,58,59,60,61,62],[47,48,50,51,52,53,54,55,56,57,58,59,60,61,62,63],[47,48,49,51,53,54,55,56,57,58,59,60,61,62,63],[47,48,49,50,53,54,55,56,57,58,59,60,61,62,63],[47,48,49,53,54,55,56,57,58,59,60,61,62,63],[47,48,49,50,51,52,54,55,56,59,60,61,62],[47,48,49,50,51,52,53,55,59,60,61,62],[47,48,49,50,51,52,53,54,59,60,61,62],[47,48,49,50,51,52,53,59,60,61,62],[47,48,49,50,51,52,59,60,61,62],[47,48,49,50,51,52,59,60,61,62],[47,48,49,50,51,52,53,54,55,56,57,58,60],[47,48,49,50,51,52,53,54,55,56,57,58,59],[47,48,49,50,51,52,53,54,55,56,57,58],[47,48,49,50,51,52,53,54,55,56,57,58],[49,50,51,52],[49,50,51,52],[],[]]) (O4.ok hk) rfl (by kernel_rfl) (by kernel_rfl) rfl ?_
 refine walk ?_
 clear a1 a2 he1 he2 s1 s2
 exact next (i+1,Go.Sort.swp d2 i (a+o)) (by simp only; omega) hsub ⟨by simp only; omega,by simp only; omega,Go.Sort.permIn_trans _ _ _ _ _ pm (Go.Sort.swp_permIn _ _ _ _ _ (by omega) (by omega) (by omega) (by omega) (by omega)),D5,O5,by show h.next<g3.next+20; omega,r,hr,by
  rw[a0a.gn _ _ _ _ (fun e=>hBS e.symm),a0a.gn _ _ _ _ (fun e=>hBS e.symm)]
  exact g3q⟩
set_option maxRecDepth 10000
set_option maxHeartbeats 2000000
theorem e6c {n:Nat}(hn:2<n):∀ (M:Nat){v:AV}{B a b lim:Nat}{d:Array Nat}{tl:List AV}{h:a0a},b-a<M→Dat h v B d tl→h.ok→d.size<50→a≤b→b≤d.size→lim≤1000→Go.Sort.Below ltN a b d→a0l (TA n) 173 [v,.int .i64 a,.int .i64 b,.int .i64 lim] h (fun _ h'=>∃ d',Go.Sort.PermIn a b d d'∧Go.Sort.SortedIn ltN a b d'∧Dat h' v B d' tl∧a2d B h h'):=by
 intro M
 induction M with
 |zero=>intros; omega
 |succ M ih =>
 intro v B a b lim d tl h hM D hk hs hab hb hl hB
 refine a0r (a6m rfl rfl) rfl rfl ?_
 refine walk ?_
 refine a0n (ι:=Nat×Nat×Nat×Array Nat×Bool×Bool) (fun x=>x.2.1-x.1) (fun x=>[(0,v),(1,.int .i64 (x.1:Nat)),(2,.int .i64 (x.2.1:Nat)),(3,.int .i64 (x.2.2.1:Nat)),(8,.bool x.2.2.2.2.1),(9,.bool x.2.2.2.2.2)])
  (fun x g=>a≤x.1∧x.1≤x.2.1∧x.2.1≤b∧x.2.2.1≤1000∧x.2.2.2.1.size=d.size∧Go.Sort.Below ltN x.1 x.2.1 x.2.2.2.1∧(∀ R,Go.Sort.PermIn x.1 x.2.1 x.2.2.2.1 R→Go.Sort.SortedIn ltN x.1 x.2.1 R→Go.Sort.PermIn a b d R∧Go.Sort.SortedIn ltN a b R)∧Dat g v B x.2.2.2.1 tl∧a2d B h g) (a,b,lim,d,true,true) hsub ⟨Nat.le_refl _,hab,Nat.le_refl _,hl,rfl,hB,fun R p q=>⟨p,q⟩,D,.refl _ _⟩ ?_
 rintro⟨a1',b1,lim1,d1,wb,wp⟩ g ⟨p1,p2,p3,p4,sz,B1,close,D1,O1⟩ next
 dsimp only at p1 p2 p3 p4 sz B1 close D1 next ⊢
 have k1:=O1.ok hk
 by_cases c1:(b1:Int)-(a1':Int)≤12
 ·refine walk ?_
  refine a0b (f5f (n:=n) (by omega) D1 k1 (by omega) p2 (by omega)) rfl rfl rfl rfl ?_
  rintro u g2 ⟨D2,O2⟩
  refine walk ?_
  have hI:=Go.Sort.insertionSort_holds b7n d1 a1' b1 p2 (by omega)
  obtain⟨f1,f2⟩:=close _ hI.1 hI.2
  exact a2x fun tm hs=>a3o hs rfl ⟨_,f1,f2,D2,O1.trans O2⟩
 by_cases c2:(lim1:Int)=0
 ·refine walk ?_
  refine a0b (f0y (n:=n) (by omega) D1 k1 (by omega) (by omega) (by omega)) rfl rfl rfl rfl ?_
  rintro u g2 ⟨D2,O2⟩
  refine walk ?_
  have hI:=Go.Sort.heapSort_holds (lt:=ltN) b7n d1 a1' b1 p2 (by omega)
  obtain⟨f1,f2⟩:=close _ hI.1 hI.2
  exact a2x fun tm hs=>a3o hs rfl ⟨_,f1,f2,D2,O1.trans O2⟩
 refine walk ?_
 -- the patterns are broken, or not
 refine a5f (ι:=Nat×Array Nat) (fun x=>[(0,v),(1,.int .i64 (a1':Nat)),(2,.int .i64 (b1:Nat)),(3,.int .i64 (x.1:Nat)),(8,.bool wb),(9,.bool wp),(10,.int .i64 ((b1:Int)-(a1':Int)))]) (fun x g2=>x.1≤1000∧Go.Sort.PermIn a1' b1 d1 x.2∧Dat g2 v B x.2 tl∧a2d B h g2) ?_ ?_
 ·intro k' join
  cases wb with
  |true =>
   refine walk ?_
   exact join (lim1,d1) hsub ⟨p4,Go.Sort.permIn_refl _ _ _,D1,O1⟩
  |false =>
   refine walk ?_
   refine a0b (e8l (n:=n) (by omega) D1 k1 (by omega) (by omega) (by omega)) rfl rfl rfl rfl ?_
   rintro u g2 ⟨d2,pm,D2,O2⟩
   refine walk ?_
   rw[show((lim1:Int)-1)=((lim1-1:Nat):Int) by omega]
   exact join (lim1-1,d2) hsub ⟨by simp only; omega,pm,D2,O1.trans O2⟩
 rintro⟨lim2,d2⟩ g2 ⟨q4,pm2,D2,O2⟩
 dsimp only at q4 pm2 D2 ⊢
 have k2:=O2.ok hk
 have s2:=pm2.1
 refine walk ?_
 refine a0b (e7k (n:=n) (by omega) D2 k2 (by omega) (by omega) (by omega)) rfl rfl rfl rfl ?_
 rintro _ g3 ⟨p,t,rfl,pa,pb,x3⟩
 have D3:=D2.ext x3
 have O3:a2d B h g3:=O2.trans ⟨x3.nx,fun c hc _=>x3.old c hc,x3.ok⟩
 have k3:=O3.ok hk
 refine walk ?_
 refine a5f (ι:=Nat×Nat×Array Nat) (fun x=>[(0,v),(1,.int .i64 (a1':Nat)),(2,.int .i64 (b1:Nat)),(3,.int .i64 (lim2:Nat)),(8,.bool wb),(9,.bool wp),(10,.int .i64 ((b1:Int)-(a1':Int))),(11,.int .i64 (x.1:Nat)),(12,.int .i64 (x.2.1:Nat))]) (fun x g2=>a1'≤x.1∧x.1<b1∧Go.Sort.PermIn a1' b1 d1 x.2.2∧Dat g2 v B x.2.2 tl∧a2d B h g2) ?_ ?_
 ·intro k' join
  by_cases c3:(t:Int)=2
  ·refine walk ?_
   refine a0b (f3s (n:=n) D3 k3 (by omega) (by omega) (by omega)) rfl rfl rfl rfl ?_
   rintro u g4 ⟨D4,O4⟩
   refine walk ?_
   rw[show((b1:Int)-1-((p:Int)-a1'))=((b1-1-(p-a1'):Nat):Int) by omega]
   exact join (b1-1-(p-a1'),1,_) hsub ⟨by simp only; omega,by simp only; omega,Go.Sort.permIn_trans _ _ _ _ _ pm2 (Go.Sort.reverseRange_holds d2 a1' b1 (by omega) (by omega)),D4,O3.trans O4⟩
  ·refine walk ?_
   exact join (p,t,d2) hsub ⟨pa,pb,pm2,D3,O3⟩
 clear D2 O2 k2 s2 pm2 D3 O3 k3 x3 pa pb p t d2 g3 g2
 rintro⟨pv,t,d3⟩ g3 ⟨pa,pb,pm3,D3,O3⟩
 dsimp only at pa pb pm3 D3 ⊢
 have k3:=O3.ok hk
 have s3:=pm3.1
 have B3:=B1.perm (by omega) pm3
 refine walk ?_
 refine d6h (ι:=Unit) (fun x=>[(0,v),(1,.int .i64 (a1':Nat)),(2,.int .i64 (b1:Nat)),(3,.int .i64 (lim2:Nat)),(8,.bool wb),(9,.bool wp),(10,.int .i64 ((b1:Int)-(a1':Int))),(11,.int .i64 (pv:Nat))]) (fun x g2=>Dat g2 v B d3 tl∧a2d B h g2) ?_ ?_
 ·intro k' join
  have part:∀ (hw:wb=true) (hp:wp=true) (ht:(t:Int)=1),True:=fun _ _ _=>trivial
  cases wb with
  |false =>
   refine walk ?_
   exact join () hsub ⟨D3,O3⟩
  |true =>
   cases wp with
   |false =>
    refine walk ?_
    exact join () hsub ⟨D3,O3⟩
   |true =>
    by_cases c3:(t:Int)=1
    case neg =>
     refine walk ?_
     exact join () hsub ⟨D3,O3⟩
    refine walk ?_
    refine a0b (d7x (n:=n) (by omega) D3 k3 (by omega) (a:=a1') (b:=b1) (by omega) (by omega)) rfl rfl rfl rfl ?_
    rintro _ g4 ⟨rfl,e1,D4,O4⟩
    have hI:=Go.Sort.partialInsertionSort_holds (lt:=ltN) b7n d3 a1' b1 (by omega) (by omega) B3
    cases e2:(Go.Sort.partialInsertionSort ltN d3 a1' b1).2 with
    |true =>
     have hS:=hI.2 e2
     rw[e1] at hS
     obtain⟨f1,f2⟩:=close _ pm3 hS
     refine walk ?_
     exact a2x fun tm hs=>a3o hs rfl ⟨_,f1,f2,D4,O3.trans O4⟩
    |false =>
     refine walk ?_
     exact join () hsub ⟨D4,O3.trans O4⟩
 clear D3 O3 k3 g3
 rintro⟨⟩ g3 ⟨D3,O3⟩
 have k3:=O3.ok hk
 have gD:=D3.get
 have close3:∀ R,Go.Sort.PermIn a1' b1 d3 R→Go.Sort.SortedIn ltN a1' b1 R→Go.Sort.PermIn a b d R∧Go.Sort.SortedIn ltN a b R:=fun R h1 h2=>close R (Go.Sort.permIn_trans _ _ _ _ _ pm3 h1) h2
 refine walk ?_
 refine a5f (ι:=Bool) (fun x=>[(0,v),(1,.int .i64 (a1':Nat)),(2,.int .i64 (b1:Nat)),(3,.int .i64 (lim2:Nat)),(8,.bool wb),(9,.bool wp),(10,.int .i64 ((b1:Int)-(a1':Int))),(11,.int .i64 (pv:Nat)),(87,.bool x)]) (fun x g2=>(x=true→0<a1'∧ltN d3[a1'-1]! d3[pv]! = false)∧Dat g2 v B d3 tl∧a2d B h g2) ?_ ?_
 ·intro k' join
  by_cases c5:(0:Int)<(a1':Int)
  case neg =>
   refine a0c (q:=15) (ms:=[0,1,3,7,7,23,63,127,7,7,775,1799,4095,8191,16383]) (hl:=[[],[],[],[77,78,81,82,83,84],[76,81,82,83,84],[76,81,82,83,84],[81,82,83,84],[81,82,83,84],[76,77,78,79,80,82],[76,77,78,79,80,81],[76,77,78,79,80],[76,77,78,79,80],[],[],[]]) k3 rfl (by kernel_rfl) (by kernel_rfl) rfl ?_
   refine walk ?_
   exact join false hsub ⟨fun e=>(by cases e),D3.more,O3.trans (.more k3)⟩
  have a1:=@Dat.ix _ _ _ (a1'-1) _ _ D3 (by omega)
  have a2:=@Dat.ix _ _ _ pv _ _ D3 (by omega)
  have he1:=D3.at (j:=a1'-1) (by omega)
  have he2:=D3.at (j:=pv) (by omega)
  have w1:=a8t (n:=n) (by omega) d3[a1'-1]! d3[pv]!
  cases c4:ltN d3[a1'-1]! d3[pv]! with
  |true =>
   have c6:d3[a1'-1]! < d3[pv]! := by simpa [ltN] using c4
   rw[c4] at w1
   refine a0c (q:=15) (ms:=[0,1,3,7,7,23,63,127,7,7,775,1799,4095,8191,16383]) (hl:=[[],[],[],[77,78,81,82,83,84],[76,81,82,83,84],[76,81,82,83,84],[81,82,83,84],[81,82,83,84],[76,77,78,79,80,82],[76,77,78,79,80,81],[76,77,78,79,80],[76,77,78,79,80],[],[],[]]) k3 rfl (by kernel_rfl) (by kernel_rfl) rfl ?_
   refine walk ?_
   exact join false hsub ⟨fun e=>(by cases e),D3.more,O3.trans (.more k3)⟩
  |false =>
   have c6:¬ d3[a1'-1]! < d3[pv]! := by simpa [ltN] using c4
   rw[c4] at w1
   refine a0c (q:=15) (ms:=[0,1,3,7,7,23,63,127,7,7,775,1799,4095,8191,16383]) (hl:=[[],[],[],[77,78,81,82,83,84],[76,81,82,83,84],[76,81,82,83,84],[81,82,83,84],[81,82,83,84],[76,77,78,79,80,82],[76,77,78,79,80,81],[76,77,78,79,80],[76,77,78,79,80],[],[],[]]) k3 rfl (by kernel_rfl) (by kernel_rfl) rfl ?_
   refine walk ?_
   exact join true hsub ⟨fun e=>⟨by omega,c4⟩,D3.more,O3.trans (.more k3)⟩
 clear D3 O3 k3 gD g3
 rintro x g3 ⟨hx,D3,O3⟩
 have k3:=O3.ok hk
 cases x with
 |true =>
  obtain⟨a0,nl⟩:=hx rfl
  refine walk ?_
  refine a0b (e0q (n:=n) (by omega) D3 k3 (by omega) pa pb (by omega)) rfl rfl rfl rfl ?_
  rintro _ g4 ⟨rfl,D4,O4⟩
  generalize hpe:Go.Sort.partitionEqual ltN d3 a1' b1 pv=pe at D4 ⊢
  obtain⟨mid,d4⟩:=pe
  dsimp only at D4 ⊢
  obtain⟨m1,m2,sz4,B4,cl4⟩:=Go.Sort.round_eq b7n (Go.Sort.partitionEqual_holds ltN) a0 pa pb (by omega) B3 nl hpe
  refine walk ?_
  exact next (mid,b1,lim2,d4,wb,wp) (by simp only; omega) hsub ⟨by simp only; omega,m2,p3,q4,by simp only; omega,B4,fun R r1 r2=>(fun x=>close3 R x.1 x.2) (cl4 R r1 r2),D4,O3.trans O4⟩
 |false =>
  refine walk ?_
  refine a0b (f2h (n:=n) (by omega) D3 k3 (by omega) pa pb (by omega)) rfl rfl rfl rfl ?_
  rintro _ g4 ⟨rfl,D4,O4⟩
  generalize hpt:Go.Sort.partition ltN d3 a1' b1 pv=pt at D4 ⊢
  obtain⟨mid,ap,d4⟩:=pt
  dsimp only at D4 ⊢
  obtain⟨m1,m2,sz4,BL,BR,clL,clR⟩:=Go.Sort.round_part b7n (Go.Sort.partition_holds ltN) pa pb (by omega) B3 hpt
  have k4:=(O3.trans O4).ok hk
  by_cases c7:(mid:Int)-(a1':Int)<(b1:Int)-(mid:Int)
  ·refine walk ?_
   refine a0b (ih (a:=a1') (b:=mid) (lim:=lim2) (by omega) D4 k4 (by omega) m1 (by omega) q4 BL) rfl rfl rfl rfl ?_
   rintro u g5 ⟨d5,pm5,so5,D5,O5⟩
   obtain⟨B5,cl5⟩:=clL d5 pm5 so5
   have s5:=pm5.1
   refine walk ?_
   exact next (mid+1,b1,lim2,d5,_,ap) (by simp only; omega) hsub ⟨by simp only; omega,by simp only; omega,p3,q4,by simp only; omega,B5,fun R r1 r2=>(fun x=>close3 R x.1 x.2) (cl5 R r1 r2),D5,(O3.trans O4).trans O5⟩
  ·refine walk ?_
   rw[show((mid:Int)+1)=((mid+1:Nat):Int) by omega]
   refine a0b (ih (a:=mid+1) (b:=b1) (lim:=lim2) (by omega) D4 k4 (by omega) (by omega) (by omega) q4 BR) rfl rfl rfl rfl ?_
   rintro u g5 ⟨d5,pm5,so5,D5,O5⟩
   obtain⟨B5,cl5⟩:=clR d5 pm5 so5
   have s5:=pm5.1
   refine walk ?_
   exact next (a1',mid,lim2,d5,_,ap) (by simp only; omega) hsub ⟨by simp only; omega,by simp only; omega,by simp only; omega,q4,by simp only; omega,B5,fun R r1 r2=>(fun x=>close3 R x.1 x.2) (cl5 R r1 r2),D5,(O3.trans O4).trans O5⟩
theorem f2i {n:Nat}(hn:2<n){v:AV}{B:Nat}{d:Array Nat}{tl:List AV}{h:a0a}(D:Dat h v B d tl) (hk:h.ok) (hs:d.size<50):a0l (TA n) 146 [v] h (fun v' h'=>v'=.tuple []∧∃ d',Go.Sort.PermIn 0 d.size d d'∧Go.Sort.SortedIn ltN 0 d.size d'∧Dat h' v B d' tl∧a2d B h h'):=by
 refine a0r (a6m rfl rfl) rfl rfl ?_
 have hl:a5a v=some d.size:=by rcases D.hd with ⟨cap,rfl⟩|rfl<;>rfl
 have hns:v.isStr=false:=by rcases D.hd with ⟨cap,rfl⟩|rfl<;>rfl
 have w1:=e2i (n:=n) (by omega) d.size hs
 have l6:b6u d.size≤6:=by unfold b6u; (repeat' split)<;>omega
 refine walk ?_
 refine a0b (e6c (n:=n) hn (d.size+1) (a:=0) (b:=d.size) (lim:=b6u d.size) (by omega) D hk hs (by omega) (by omega) (by omega) (.inl rfl)) rfl rfl rfl rfl ?_
 rintro u h2 ⟨d',pm,so,D2,O2⟩
 refine walk ?_
 exact a2e fun tm hs=>a2b hs rfl ⟨rfl,d',pm,so,D2,O2⟩
set_option maxRecDepth 10000
set_option maxHeartbeats 2000000
def b9g (l l':List Nat):Prop:=l'.Perm l∧l'.Pairwise (· ≤ ·)
theorem f3h {n:Nat}{v:AV}{h:a0a}:a0l (TA n) 198 [v,.int .i64 0,.int .i64 0] h (fun v' h'=>h'=h):=by
 refine a0r (a6m rfl rfl) rfl rfl ?_
 refine walk ?_
 refine a7m ?_
 refine walk ?_
 exact a2e fun tm hs=>a2b hs rfl rfl
theorem f4y {n:Nat}{v:AV}{h:a0a}:a0l (TA n) 173 [v,.int .i64 0,.int .i64 0,.int .i64 0] h (fun v' h'=>h'=h):=by
 refine a0r (a6m rfl rfl) rfl rfl ?_
 refine walk ?_
 refine a7m ?_
 refine walk ?_
 refine a0b (f3h (n:=n)) rfl rfl rfl rfl ?_
 rintro u _ rfl
 refine walk ?_
 exact a2x fun tm hs=>a3o hs rfl rfl
theorem f2c {n:Nat}(hn:2<n){v:AV}{h:a0a}(hl:a5a v=some 0) (hns:v.isStr=false):a0l (TA n) 146 [v] h (fun v' h'=>v'=.tuple []∧h'=h):=by
 refine a0r (a6m rfl rfl) rfl rfl ?_
 have w1:=e2i (n:=n) (by omega) 0 (by decide)
 refine walk ?_
 refine a0b (f4y (n:=n)) rfl rfl rfl rfl ?_
 rintro u _ rfl
 refine walk ?_
 exact a2e fun tm hs=>a2b hs rfl ⟨rfl,rfl⟩
theorem d9b {d d':Array Nat}(pm:Go.Sort.PermIn 0 d.size d d') (so:Go.Sort.SortedIn ltN 0 d.size d'):b9g d.toList d'.toList:=by
 obtain⟨sz,_,p⟩:=pm
 refine⟨?_,?_⟩
 ·have e1:d'.extract 0 d.size=d':=by rw[← sz]; simp
  have e2:d.extract 0 d.size=d:=by simp
  rw[e1,e2] at p
  exact p
 ·rw[List.pairwise_iff_getElem]
  intro i j hi hj hij
  have:=so i j (Nat.zero_le _) hij (by simp at hj; omega)
  simp only[ltN,decide_eq_false_iff_not] at this
  have h1:d'[i]! = d'.toList[i]:=by rw[getElem!_pos d' i (by simpa using hi)]; simp
  have h2:d'[j]! = d'.toList[j]:=by rw[getElem!_pos d' j (by simpa using hj)]; simp
  rw[h1,h2] at this
  omega
end Go.Proofs.YtejfbaecadbdiaaGreat
