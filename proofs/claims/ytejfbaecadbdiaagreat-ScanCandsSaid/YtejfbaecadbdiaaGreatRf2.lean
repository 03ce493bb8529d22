/- What the functions of this part answer at any input, told by the rules over the evaluator. Conditions: those that each theorem states. -/
import Derived.Test.YtejfbaecadbdiaaGreatRf1
import Derived.Test.YtejfbaecadbdiaaGreatCat
import Derived.Test.YtejfbaecadbdiaaGreatGaq
import Derived.Test.YtejfbaecadbdiaaGreatBra
set_option linter.unusedVariables false
set_option linter.unusedSimpArgs false
open Go Ev
namespace Go.Proofs.YtejfbaecadbdiaaGreat
set_option maxRecDepth 10000
set_option maxHeartbeats 4000000
theorem e5c {q b n:Nat}{e:TypeId}{s:List UInt8}{h:a0a}(r:h.get b=some (.cells e [.str s] true)) (hb:b<h.next) (hl:s.length<1000000000) (hn:n<1000000000):a0l (TV q) 73 [.ptr b 0,.int .i64 n] h (fun v h'=>v=.tuple [.str (a3p n s),.int .i64 (b3n n s)]∧Upd b (.cells e [.str (a0h n s)] true) h h'):=by
 refine a0r (a1x rfl rfl) rfl rfl ?_
 unfold a3p b3n a0h
 by_cases hn:n≤s.length
 ·rw[if_pos hn,if_pos hn,if_pos hn]
  refine walk ?_
  exact a0d hres ⟨rfl,.set _ b _ hb⟩
 ·rw[if_neg hn,if_neg hn,if_neg hn]
  refine walk ?_
  exact a0d hres ⟨rfl,.same r⟩
theorem a4q {n:Nat}(hn:0<n) (p:Nat) (h:a0a):(TV n).sm 107 [.int .u32 p] h=some (.bool (decide (num p)),h):=by
 refine a3b hn rfl rfl rfl fun n hn=>a0s rfl rfl ?_
 unfold num
 exact auto
theorem f2e {T:Ev.a0k}{ρ:Operand→Option AV}{o:Oper}{r:Nat}{t:TypeId}{elem:TypeId}{z:AV}{l c:Operand}{n m:Nat}{ei:TypeInfo}{k k':IntKind}(ho:o.op=.makeSlice t l c) (ht:T.und t=some (.slice elem)) (hl:ρ l=some (.int k (n:Int))) (hc:ρ c=some (.int k' (m:Int))) (hsz:T.size elem=some 1) (hti:T.ti elem=some ei) (hb:ei.bytes≤16) (hz:T.zero elem=some z) (hz1:z.cells.length=1) (hn:n≤m) (hm:m≤100000000) :
  a8m T ρ o r=some (.slice r 0 n m,.cells elem (times z.cells m) true):=by
 have hr:a2u m ei.bytes=true:=by
  unfold a2u
  exact Nat.ble_eq.mpr (Nat.le_trans (Nat.mul_le_mul (show 4*m+1000≤400001000 by omega) (show ei.bytes+1≤17 by omega)) (by decide))
 have hlen:(times z.cells m).length=m:=by
  have:∀ k,(times z.cells k).length=k:=fun k=>by
   induction k with
   |zero=>rfl
   |succ k ih=>simp[times,hz1,ih]; omega
  exact this m
 have hcond:(0:Int)≤n∧(n:Int)≤m∧(m:Int)≤1073741824∧a2u (m:Int).toNat ei.bytes=true:=⟨by omega,by omega,by omega,by simpa using hr⟩
 unfold a8m
 rw[ho]
 simp only[ht,hl,hc,hsz,hti]
 rw[if_pos hcond]
 by_cases h0:m=0
 ·subst h0
  have:n=0:=by omega
  subst this
  simp[a5w,times]
 ·simp[a5w,h0,hz,hlen]
theorem b2m {n:Nat}(hn:3<n){z:Int}{v:AV}{s:List UInt8}{h:a0a}(bw:By h v s) (hk:h.ok) (hv:v.isStr=false):(TV n).sm 94 [.int .i64 z,v] h=some (b9v z s,h):=by
 refine a9d hn (fun h=>h.ok∧By h v s) rfl (by unfold b9v; split<;>(try split)<;>rfl) ⟨hk,bw⟩ (fun hp=>⟨a2f,bw.any (by simpa [AV.a1q,AV.plain] using hp)⟩) ?_
 clear hk bw h
 rintro n hn h ⟨hk,bw⟩
 refine a0s rfl rfl ?_
 have w1:=a6p (n:=n) (by omega) z
 have w2:=b2e (n:=n) (by omega) z
 have hlen:=bw.len
 unfold b9v
 by_cases g:Good z
 case neg=>rw[if_neg g]; exact auto
 rw[if_pos g]
 have e:room z=z-24:=by unfold room; rw[if_pos g]
 rw[e] at w2
 have g1:=g.1
 have g2:=g.2.1
 by_cases c:(s.length:Int)≤z-24
 case neg=>rw[if_neg c]; exact auto
 rw[if_pos c]
 obtain⟨m,rfl⟩:∃ m:Nat,z=m+24:=⟨(z-24).toNat,by omega⟩
 have em:(m:Int)+24-24=m:=by omega
 rw[em] at w2 c
 refine walk ?_
 refine a0c (q:=12) (ms:=[0,1,0,4,0,16,60,124,252,511,1023,2047]) (hl:=[[16,17,18,19,20,21,22],[16,17,18,19,20,21,22],[14,15,18,19],[14,15,18,19],[14,15,16,17],[14,15,16,17],[14,15],[14,15],[14,15],[],[],[]]) hok rfl (by kernel_rfl) (by kernel_rfl) rfl ?_
 refine walk ?_
 refine a4l rfl rfl rfl rfl (c4f (bw.ext (by exact a0j)) hv rfl rfl rfl rfl rfl) ?_
 refine walk ?_
 have em2:(m:Int)-s.length=((m-s.length:Nat):Int):=by omega
 have em3:((m:Int)+24).toNat-24-s.length=m-s.length:=by omega
 have em4:s.length+(m-s.length)≤5000:=by omega
 rw[em2,em3]
 generalize m-s.length=d at em4
 refine b4o rfl rfl rfl rfl (f2e (n:=d) (m:=d) rfl rfl rfl rfl rfl rfl (by exact Nat.le_of_ble_eq_true rfl) rfl rfl (Nat.le_refl _) (by omega)) ?_
 have zl:times (AV.int .u8 0).cells d=u8s (List.replicate d 0):=b7f 0 _
 rw[zl]
 refine walk ?_
 refine a4l rfl rfl rfl rfl (c4f (v:=.slice (h.next+(0+1+1+1+1+1+1+1)) 0 d d) (s:=List.replicate d 0) ⟨by simp,by show h.next+7<h.next+12; omega,_,_,_,a0a.gs _ _ _,by simp[u8s],by rw[List.drop_zero,List.take_of_length_le (by simp[u8s])]⟩ rfl rfl rfl rfl rfl rfl) ?_
 refine walk ?_
 refine a4l rfl rfl rfl rfl (a3n rfl rfl rfl (d6i (by simp; omega)) rfl) ?_
 refine a4l rfl rfl rfl rfl opa ?_
 refine a4l rfl rfl rfl rfl opa ?_
 refine c2q hms rfl (by repeat (first|exact trivial|refine And.intro ⟨_,opa⟩ ?_|refine And.intro ⟨_,c4f (bw.ext (by exact a0j)) hv rfl rfl rfl rfl rfl⟩ ?_)) ?_
 refine walk ?_
 exact a0d hres ⟨rfl,by exact a0j⟩
set_option maxRecDepth 10000
set_option maxHeartbeats 4000000
theorem d4l {n:Nat}(hn:0<n) (s:List UInt8) (h:a0a):(TV n).sm 134 [.str s] h=some (.bool (decide (b6n s)),h):=by
 refine a3b hn rfl rfl rfl fun n hn=>a0s rfl rfl ?_
 unfold b6n
 exact auto
theorem d8a {n:Nat}(hn:0<n) (b:Bk) (hb:b.name.length≤1000000) (h:a0a):(TV n).sm 135 [.agg b.cs] h=some (.int .i64 (9+b.name.length:Nat),h):=by
 refine a3b hn rfl rfl rfl fun n hn=>a0s rfl rfl ?_
 have e:((9+b.name.length:Nat):Int)=9+(b.name.length:Int):=by omega
 rw[e]
 exact auto
theorem d2p {n:Nat}(hn:0<n) (p r:Pg) (h:a0a):(TV n).sm 75 [p.av,r.av] h=some (.bool (decide (p=r)),h):=by
 refine a3b hn rfl rfl rfl fun n hn=>a0s rfl rfl ?_
 refine walk ?_
 refine a1k rfl rfl rfl (a3n rfl rfl rfl (f1b (a5j p r) rfl) rfl) ?_
 exact auto
def b3h (l:List Bk):List Bk:=l.filter fun b => !a1w b.name lost
theorem d5k (x y:List UInt8):bytesLess x y=true↔x<y:=by
 have:∀ x y:List UInt8,bytesLess x y=decide (x<y):=by
  intro x
  induction x with
  |nil=>intro y; cases y<;>simp[bytesLess]
  |cons a x ih =>
   intro y
   cases y with
   |nil=>simp[bytesLess]
   |cons b y =>
    simp only[bytesLess,List.cons_lt_cons_iff,ih y,d5f,blt_eq]
    by_cases h1:a<b
    ·have:a.toNat<b.toNat:=h1
     simp[h1,this]
    ·have h1':¬ a.toNat<b.toNat:=h1
     by_cases h2:a=b
     ·subst h2; simp
     ·have:(a==b)=false:=by simpa using h2
      simp[h1,h2,h1',this]
 rw[this]; simp
theorem e0f {x y z:List UInt8}(a:bytesLess x y=true) (b:bytesLess y z=true):bytesLess x z=true:=(d5k x z).2 (List.lt_trans ((d5k x y).1 a) ((d5k y z).1 b))
theorem e2y (x:List UInt8):bytesLess x x=false:=by
 cases e:bytesLess x x with
 |false=>rfl
 |true=>exact absurd ((d5k x x).1 e) (List.lt_irrefl x)
theorem d5b {l:List Bk}(o:okC l):∀ (d i:Nat) (a b:Bk),l[i]?=some a→l[i+d+1]?=some b→bytesLess a.name b.name=true
 |0,i,a,b,ha,hb=>(o (i+1) b hb).2 (by omega) a ha
 |d+1,i,a,b,ha,hb=>by
  obtain⟨c,hc⟩:∃ c,l[i+d+1]?=some c:=by
   have:=(List.getElem?_eq_some_iff.1 hb).1
   exact⟨l[i+d+1],List.getElem?_eq_getElem (by omega)⟩
  exact e0f (d5b o d i a c ha hc) ((o (i+(d+1)+1) b hb).2 (by omega) c hc)
theorem e5v {l:List Bk}(o:okC l){i j:Nat}{a b:Bk}(ha:l[i]?=some a) (hb:l[j]?=some b) (e:a.name=b.name):i=j:=by
 rcases Nat.lt_trichotomy i j with q|q|q
 ·obtain⟨d,rfl⟩:∃ d,j=i+d+1:=⟨j-i-1,by omega⟩
  have:=d5b o d i a b ha hb
  rw[e,e2y] at this; cases this
 ·exact q
 ·obtain⟨d,rfl⟩:∃ d,i=j+d+1:=⟨i-j-1,by omega⟩
  have:=d5b o d j b a hb ha
  rw[e,e2y] at this; cases this
theorem c9n {α:Type}{p:α→Bool}{l:List α}(h:∀ a∈l,p a=true):l.filter p=l:=List.filter_eq_self.2 h
theorem d6q {α:Type}(p:α→Bool):∀ (l:List α) (k:Nat),0≤a6j p l k→(k:Int)≤a6j p l k
 |[],k,h=>by simp[a6j] at h
 |a::l,k,h=>by
  unfold a6j at h ⊢
  split
  ·omega
  ·rename_i c
   rw[if_neg c] at h
   have:=d6q p l (k+1) h
   omega
theorem c9z {α:Type}(p:α→Bool):∀ (l:List α) (k:Nat),(∀ (i j:Nat) (a b:α),l[i]?=some a→l[j]?=some b→p a=true→p b=true→i=j)→(if 0≤a6j p l k then l.eraseIdx ((a6j p l k)-k).toNat else l)=l.filter fun b => !p b
 |[],k,_=>by simp[a6j]
 |a::l,k,u=>by
  unfold a6j
  by_cases c:p a=true
  ·rw[if_pos c,if_pos (by omega)]
   have e:((k:Int)-k).toNat=0:=by omega
   rw[e]
   simp only[List.eraseIdx_cons_zero]
   rw[List.filter_cons_of_neg (by simp[c])]
   refine(c9n fun b hb=>?_).symm
   obtain⟨j,hj⟩:=List.getElem?_of_mem hb
   cases q:p b with
   |false=>rfl
   |true=>exact absurd (u 0 (j+1) a b rfl hj c q) (by omega)
  ·rw[if_neg c]
   have ih:=c9z p l (k+1) fun i j x y hx hy px py=>by have:=u (i+1) (j+1) x y hx hy px py; omega
   rw[List.filter_cons_of_pos (by simp[c]),← ih]
   have lo:0≤a6j p l (k+1)→((k+1:Nat):Int)≤a6j p l (k+1):=d6q p l (k+1)
   by_cases g:0≤a6j p l (k+1)
   ·rw[if_pos g,if_pos g]
    have:=lo g
    obtain⟨m,hm⟩:∃ m:Nat,a6j p l (k+1)=(k+1+m:Nat):=⟨(a6j p l (k+1)-(k+1)).toNat,by omega⟩
    rw[hm]
    have e1:(((k+1+m:Nat):Int)-(k:Nat)).toNat=m+1:=by omega
    have e2:(((k+1+m:Nat):Int)-((k+1:Nat):Int)).toNat=m:=by omega
    rw[e1,e2,List.eraseIdx_cons_succ]
   ·rw[if_neg g,if_neg g]
theorem d7r {l:List Bk}(o:okC l):c0p lost l=b3h l:=by
 have:=c9z (fun b:Bk=>a1w b.name lost) l 0 fun i j a b ha hb pa pb=>e5v o ha hb ((a8q.1 pa).trans (a8q.1 pb).symm)
 unfold c0p b3h c7h
 simpa using this
theorem d4p (l:List Bk) (i:Nat) (b:Bk) (h:l[i]?=some b):a4o (b3h (l.take (i+1)))=a4o (b3h (l.take i))+if a1w b.name lost=true then 0 else 9+b.name.length:=by
 rw[List.take_add_one,h]
 unfold b3h
 rw[List.filter_append]
 cases e:a1w b.name lost<;>simp[a4o,e]
theorem d8y {n:Nat}(hn:2<n){z:Int}{v:AV}{l:List Bk}{h:a0a}(ls:LsB h v l) (hk:h.ok) (t:b5m l):(TV n).sm 106 [.int .i64 z,v] h=some (.bool (decide (b1w z l)),h):=by
 refine a9d hn (fun h=>h.ok∧LsB h v l) rfl rfl ⟨hk,ls⟩ (fun hp=>⟨a2f,ls.any (by simpa [AV.a1q,AV.plain] using hp)⟩) ?_
 clear hk ls h
 rintro n hn h ⟨hk,ls⟩
 refine a0s rfl rfl ?_
 have hlen:=ls.len
 have t1:=t.1
 refine walk ?_
 refine a0n (fun i=>l.length-i) (fun i=>[(0,.int .i64 z),(1,v),(5,.int .i64 (a4o (b3h (l.take i)):Nat)),(6,.int .i64 (i:Nat))]) (fun i h2=>i≤l.length∧Ext h h2∧∀ j,j<i→∀ b,l[j]?=some b→c4m b∧(0<j→∀ a,l[j-1]?=some a→bytesLess a.name b.name=true)) 0 hsub ⟨by omega,.refl h,fun j hj=>by omega⟩ ?_
 rintro i h2 ⟨hi,x2,inv⟩ next
 have szb:a4o (b3h (l.take i))≤70000*1000009:=by
  refine Nat.le_trans (c2a _ fun b hb=>t.2 b (List.mem_of_mem_take (List.mem_filter.1 hb).1)) (Nat.mul_le_mul_right _ ?_)
  refine Nat.le_trans (List.length_filter_le _ _) ?_
  rw[List.length_take]; omega
 by_cases hil:i<l.length
 ·obtain⟨y,hy⟩:∃ y,l[i]?=some y:=⟨l[i],List.getElem?_eq_getElem hil⟩
  obtain⟨b,p,e,all,rw',hb,hg,hpl,he,a1⟩:=(ls.ext x2).at Bk.len hy
  have w1:=a4q (n:=n) (by omega) y.root
  have w2:=d4l (n:=n) (by omega) y.name
  have nb:=d6c t hy
  have w3:=d8a (n:=n) (by omega) y nb
  have ok2:=x2.ok hk
  have nx:=x2.nx
  have kt:=d4p l i y hy
  refine walk ?_
  refine f0m ?_
  refine d6h (ι:=Bool×Bool) (fun x=>[(0,.int .i64 z),(1,v),(5,.int .i64 (a4o (b3h (l.take i)):Nat)),(6,.int .i64 (i:Nat)),(7,.ptr h2.next 0),(8,.bool x.1),(9,.bool x.2)]) (fun x g=>Ext h2 g∧h2.next<g.next∧g.get h2.next=some (.cells 88 y.cs true)∧((x.1||x.2)=true↔(y.root=0∧y.keys=0∨num y.root∧1≤y.keys∧y.keys≤2147483647))) ?_ ?_
  ·intro k' join
   have kn:(.cells 88 (over (Ev.AV.agg [Ev.AV.str [],.int .u32 0,.int .i64 0]).cells 0 y.cs) true:a1t)=.cells 88 y.cs true:=rfl
   by_cases d1:y.root=0
   ·have d1':¬ num y.root:=by unfold num; omega
    have d1z:(y.root:Int)=0:=by omega
    by_cases d2:y.keys=0
    ·refine walk ?_
     rw[decide_eq_false d1'] at w1
     refine walk ?_
     exact join (true,false) (by exact hsub) ⟨by exact a0j,by show h2.next<h2.next+1; omega,by exact a0g,by simp[d1,d2]⟩
    ·refine walk ?_
     rw[decide_eq_false d1'] at w1
     refine walk ?_
     exact join (false,false) (by exact hsub) ⟨by exact a0j,by show h2.next<h2.next+1; omega,by exact a0g,by simp[d2,d1']⟩
   ·have d1z:¬ (y.root:Int)=0:=by omega
    by_cases d2:num y.root
    ·rw[decide_eq_true d2] at w1
     by_cases d3:1≤y.keys
     ·by_cases d4:y.keys≤2147483647
      ·refine walk ?_
       exact join (false,true) (by exact hsub) ⟨by exact a0j,by show h2.next<h2.next+1; omega,by exact a0g,by simp[d2,d3,d4]⟩
      ·refine walk ?_
       exact join (false,false) (by exact hsub) ⟨by exact a0j,by show h2.next<h2.next+1; omega,by exact a0g,by simp[d1,d4]⟩
     ·refine walk ?_
      exact join (false,false) (by exact hsub) ⟨by exact a0j,by show h2.next<h2.next+1; omega,by exact a0g,by simp[d1,d3]⟩
    ·rw[decide_eq_false d2] at w1
     refine walk ?_
     exact join (false,false) (by exact hsub) ⟨by exact a0j,by show h2.next<h2.next+1; omega,by exact a0g,by simp[d1,d2]⟩
  rintro⟨e1,e2⟩ g ⟨xg,ng,g7,eq⟩
  dsimp only at eq ⊢
  have nxg:=xg.nx
  refine b0d ?_
  obtain⟨b0,p0,e0,all0,rw0,hb0,hg0,hpl0,he0,a1⟩:=((ls.ext x2).ext xg).at Bk.len hy
  refine a5f (ι:=Unit) (fun _=>[(0,.int .i64 z),(1,v),(5,.int .i64 (a4o (b3h (l.take i)):Nat)),(6,.int .i64 (i:Nat)),(7,.ptr h2.next 0)]) (fun _ g=>Ext h2 g∧h2.next<g.next∧g.get h2.next=some (.cells 88 y.cs true)∧c4m y∧(0<i→∀ a,l[i-1]?=some a→bytesLess a.name y.name=true)) ?_ ?_
  ·intro k' join
   have okg:=xg.ok ok2
   refine b0d ?_
   by_cases nm:b6n y.name
   case neg =>
    have bad:¬ b1w z l:=fun m=>nm (m.1 i y hy).1.1
    rw[decide_eq_false nm] at w2
    refine a0c (q:=27) (ms:=[0,1,3,7,15,31,63,127,255,511,1023,2047,4095,8191,16383,32767,65535,65535,196607,524287,1048575,2097151,65535,4259839,16777215,33554431,67108863]) (hl:=[[],[],[],[],[],[],[],[],[],[],[],[],[],[],[],[],[58,59,63,64],[57,63,64],[57,63,64],[63,64],[63,64],[63,64],[57,58,59,60,61,62],[57,58,59,60,61,62],[],[],[]]) hok rfl (by kernel_rfl) (by kernel_rfl) rfl ?_
    refine walk ?_
    exact a0e hres ⟨a3w bad,a0j⟩
   rw[decide_eq_true nm] at w2
   cases ee:(e1||e2) with
   |false =>
    rw[ee] at eq
    have bad:¬ b1w z l:=fun m=>by have:=eq.2 (m.1 i y hy).1.2; cases this
    cases e1<;>cases e2<;>first|(cases ee; done)|skip
    refine a0c (q:=27) (ms:=[0,1,3,7,15,31,63,127,255,511,1023,2047,4095,8191,16383,32767,65535,65535,196607,524287,1048575,2097151,65535,4259839,16777215,33554431,67108863]) (hl:=[[],[],[],[],[],[],[],[],[],[],[],[],[],[],[],[],[58,59,63,64],[57,63,64],[57,63,64],[63,64],[63,64],[63,64],[57,58,59,60,61,62],[57,58,59,60,61,62],[],[],[]]) hok rfl (by kernel_rfl) (by kernel_rfl) rfl ?_
    refine walk ?_
    exact a0e hres ⟨a3w bad,a0j⟩
   |true =>
    have c1:c4m y:=⟨nm,eq.1 ee⟩
    have es:e1=true∨e1=false∧e2=true:=by cases e1<;>simp_all
    rcases Nat.eq_zero_or_pos i with rfl|hi0
    ·rcases es with rfl|⟨rfl,rfl⟩
     all_goals
      refine a0c (q:=27) (ms:=[0,1,3,7,15,31,63,127,255,511,1023,2047,4095,8191,16383,32767,65535,65535,196607,524287,1048575,2097151,65535,4259839,16777215,33554431,67108863]) (hl:=[[],[],[],[],[],[],[],[],[],[],[],[],[],[],[],[],[58,59,63,64],[57,63,64],[57,63,64],[63,64],[63,64],[63,64],[57,58,59,60,61,62],[57,58,59,60,61,62],[],[],[]]) hok rfl (by kernel_rfl) (by kernel_rfl) rfl ?_
      refine walk ?_
      exact join () hsub ⟨by exact a0j,by show h2.next<g.next+27; omega,by exact a0g,c1,fun h0=>by omega⟩
    obtain⟨j,rfl⟩:∃ j,i=j+1:=⟨i-1,by omega⟩
    obtain⟨a,ha⟩:∃ a,l[j]?=some a:=⟨l[j],List.getElem?_eq_getElem (by omega)⟩
    obtain⟨b',p',e',all',rw2,hb',hg',hpl',he',a2⟩:=((ls.ext x2).ext xg).at Bk.len ha
    cases c2:bytesLess a.name y.name with
    |false =>
     have c3:(!bytesLess a.name y.name)=true:=by rw[c2]; rfl
     have bad:¬ b1w z l:=fun m=>by
      have:=(m.1 (j+1) y hy).2 (by omega) a ha
      rw[c2] at this; cases this
     rcases es with rfl|⟨rfl,rfl⟩
     all_goals
      refine a0c (q:=27) (ms:=[0,1,3,7,15,31,63,127,255,511,1023,2047,4095,8191,16383,32767,65535,65535,196607,524287,1048575,2097151,65535,4259839,16777215,33554431,67108863]) (hl:=[[],[],[],[],[],[],[],[],[],[],[],[],[],[],[],[],[58,59,63,64],[57,63,64],[57,63,64],[63,64],[63,64],[63,64],[57,58,59,60,61,62],[57,58,59,60,61,62],[],[],[]]) hok rfl (by kernel_rfl) (by kernel_rfl) rfl ?_
      refine walk ?_
      exact a0e hres ⟨a3w bad,a0j⟩
    |true =>
     have c3:(!bytesLess a.name y.name)=false:=by rw[c2]; rfl
     rcases es with rfl|⟨rfl,rfl⟩
     all_goals
      refine a0c (q:=27) (ms:=[0,1,3,7,15,31,63,127,255,511,1023,2047,4095,8191,16383,32767,65535,65535,196607,524287,1048575,2097151,65535,4259839,16777215,33554431,67108863]) (hl:=[[],[],[],[],[],[],[],[],[],[],[],[],[],[],[],[],[58,59,63,64],[57,63,64],[57,63,64],[63,64],[63,64],[63,64],[57,58,59,60,61,62],[57,58,59,60,61,62],[],[],[]]) hok rfl (by kernel_rfl) (by kernel_rfl) rfl ?_
      refine walk ?_
      exact join () hsub ⟨by exact a0j,by show h2.next<g.next+27; omega,by exact a0g,c1,fun _ a' ha'=>by
       have ha':l[j]?=some a':=ha'
       rw[ha] at ha'; cases ha'
       exact c2⟩
  rintro⟨⟩ g2 ⟨xg2,ng2,g72,c1,c2⟩
  have inv':∀ j,j<i+1→∀ b,l[j]?=some b→c4m b∧(0<j→∀ a,l[j-1]?=some a→bytesLess a.name b.name=true):=fun j hj b hb=>by
   rcases Nat.lt_or_ge j i with q|q
   ·exact inv j q b hb
   ·obtain rfl:j=i:=by omega
    rw[hy] at hb; cases hb
    exact⟨c1,c2⟩
  cases c3:a1w y.name lost with
  |true =>
   rw[if_pos c3] at kt
   have c4:(!a1w y.name lost)=false:=by rw[c3]; rfl
   refine walk ?_
   refine next (i+1) (by omega) ?_ ⟨by omega,a0j,inv'⟩
   rw[kt]
   exact hsub
  |false =>
   rw[if_neg (by rw[c3]; decide)] at kt
   have c4:(!a1w y.name lost)=true:=by rw[c3]; rfl
   have e9:((a4o (b3h (l.take (i+1))):Nat):Int)=(a4o (b3h (l.take i)):Int)+((9+y.name.length:Nat):Int):=by rw[kt]; omega
   refine walk ?_
   refine next (i+1) (by omega) ?_ ⟨by omega,a0j,inv'⟩
   rw[e9]
   exact hsub
 ·have fin:okC l:=fun j b hb=>inv j (by
   rcases Nat.lt_or_ge j l.length with q|q
   ·omega
   ·rw[List.getElem?_eq_none q] at hb; cases hb) b hb
  have w1:=a6p (n:=n) (by omega) z
  have w2:=b2e (n:=n) (by omega) z
  have e1:l.take i=l:=List.take_of_length_le (by omega)
  rw[e1] at szb ⊢
  have hr:=room_le z
  refine walk ?_
  by_cases g:Good z
  case neg =>
   have bad:¬ b1w z l:=fun m=>g m.2.1
   rw[decide_eq_false g] at w1
   refine walk ?_
   exact a0e hres ⟨a3w bad,a0j⟩
  rw[decide_eq_true g] at w1
  have e:b1w z l↔((a4o (b3h l):Nat):Int)≤room z-19:=by
   rw[← d7r fin]
   exact⟨fun m=>m.2.2,fun m=>⟨fin,g,m⟩⟩
  refine walk ?_
  exact a0e hres ⟨d1n e.symm,a0j⟩
theorem d2x {n:Nat}(hn:4<n){z:Int}{p tx:Nat}{v:AV}{l:List Bk}{h:a0a}(ls:LsB h v l) (hk:h.ok) (t:b5m l):(TV n).sm 74 [.int .i64 z,.int .u32 p,.int .u64 tx,v] h=some (.tuple [(a8z z p tx l).1.av,.int .i64 (a8z z p tx l).2],h):=by
 refine a9d hn (fun h=>h.ok∧LsB h v l) rfl rfl ⟨hk,ls⟩ (fun hp=>⟨a2f,ls.any (by simpa [AV.a1q,AV.plain] using hp)⟩) ?_
 clear hk ls h
 rintro n hn h ⟨hk,ls⟩
 refine a0s rfl rfl ?_
 have hlen:=ls.len
 have t1:=t.1
 have w2:=a4q (n:=n) (by omega) p
 have x0:Ext h (h.alloc (.cells 64 Pg.zero.cs true)):=Ext.alloc _ _
 have w3:=d8y (n:=n) (by omega) (z:=z) (ls.ext x0) (x0.ok hk) t
 unfold a8z
 refine walk ?_
 refine a3e w3 rfl rfl rfl rfl ?_
 by_cases c:b1w z l∧num p∧tx≤4611686018427387904
 case neg =>
  rw[if_neg c]
  by_cases c1:b1w z l
  ·by_cases c2:num p
   ·have c3:¬ tx≤4611686018427387904:=fun c3=>c ⟨c1,c2,c3⟩
    exact auto
   ·exact auto
  ·exact auto
 rw[if_pos c]
 obtain⟨c1,c2,c3⟩:=c
 refine walk ?_
 refine a0n (ι:=Nat×AV) (fun a=>l.length-a.1) (fun a=>[(0,.int .i64 z),(1,.int .u32 p),(2,.int .u64 tx),(3,v),(8,.ptr h.next 0),(10,a.2),(11,.int .i64 (a.1:Nat))]) (fun a h2=>a.1≤l.length∧Ext (h.alloc (.cells 64 Pg.zero.cs true)) h2∧a2t 5 (h.next+1) h2 a.2 (b6c (l.take a.1))) (0,.nilslice) hsub ⟨by omega,.refl _,a2t.nil⟩ ?_
 rintro⟨i,u⟩ h2 ⟨hi,x2,ow⟩ next
 dsimp only at hi ow next ⊢
 have nx2:h.next+1≤h2.next:=x2.nx
 have g8:h2.get h.next=some (.cells 64 Pg.zero.cs true):=(x2.old _ (by show h.next<h.next+1; omega)).trans (a0t _ _)
 have ok2:=x2.ok (x0.ok hk)
 have hsz:=c6i c1 i
 by_cases hil:i<l.length
 ·obtain⟨y,hy⟩:∃ y,l[i]?=some y:=⟨l[i],List.getElem?_eq_getElem hil⟩
  obtain⟨b,p',e,all,rw',hb,hg,hpl,he,a1⟩:=((ls.ext x0).ext x2).at Bk.len hy
  have ky:=(c1.1 i y hy).1
  have ky1:=ky.1.2
  obtain⟨k,hk'⟩:∃ k:Nat,y.keys=k:=Int.eq_ofNat_of_zero_le (by rcases ky.2 with q|q<;>omega)
  have kb:k≤2147483647:=by rcases ky.2 with q|q<;>omega
  have rb:y.root≤2147483647:=by
   rcases ky.2 with q|q
   ·omega
   ·exact q.1.2
  have ycs:y.cs=[.str y.name,.int .u32 y.root,.int .i64 (k:Nat)]:=by unfold Bk.cs; rw[hk']
  rw[ycs] at he
  refine walk ?_
  refine a0b (a9p ow.by (by omega) (by decide) (by decide) (by omega) ow.by.ns) rfl rfl rfl rfl ?_
  rintro v1 g1 ⟨o1,x1⟩
  have nx1:h2.next≤g1.next:=x1.nx
  obtain⟨v2,g2,e2,o2,k2⟩:=ast (q:=n) (lo:=h2.next) (r:=y.name) o1 (by simp[a1c]; omega)
  have nx2':=k2.nx
  have x12:Ext h2 g2:=by exact a0j
  have hg1:g1.get b=some (.cells e all rw'):=(x1.old b hb).trans hg
  have hg2:g2.get b=some (.cells e all rw'):=(x12.old b hb).trans hg
  refine walk ?_
  refine a0b (a9p o2.by (by omega) (by decide) (by decide) (by simp[a1c]; omega) o2.by.ns) rfl rfl rfl rfl ?_
  rintro v3 g3 ⟨o3,x3⟩
  have nx3:=x3.nx
  have hg3:g3.get b=some (.cells e all rw'):=(x3.old b (by omega)).trans hg2
  refine walk ?_
  refine a0b (a9p o3.by (by omega) (by decide) (by decide) (by simp[a1c]; omega) o3.by.ns) rfl rfl rfl rfl ?_
  rintro v5 g5 ⟨o5,x5⟩
  have nx5:=x5.nx
  refine walk ?_
  refine next (i+1,v5) (by simp only; omega) (by exact hsub) ⟨by simp only; omega,by exact a0j,?_⟩
  simp only
  rw[c3z l i y hy]
  have:c9w y=leb y.name.length 1++y.name++leb y.root 4++leb k 4:=by unfold c9w; rw[hk']; simp
  rw[this]
  have o6:=a2t.lo o5 (show h.next+1≤g3.next by omega)
  simpa using o6
 ·have e1:l.take i=l:=List.take_of_length_le (by omega)
  rw[e1] at ow
  have w4:=b2m (n:=n) (by omega) (z:=z) ow.by ok2 ow.by.ns
  rw[a4j] at w4
  refine walk ?_
  refine a3e w4 rfl rfl rfl rfl ?_
  refine walk ?_
  exact a0d (by exact hres) ⟨rfl,by exact a0j⟩
theorem c9q {n:Nat}(hn:6<n){p:Pg}{h:a0a}(hk:h.ok) (hl:p.body.length≤100000) (hc:p.count<1000000000):a0l (TV n) 36 [p.av] h (fun v h'=>Ext h h'∧match ofC p with
  |none=>v=.tuple [.nilslice,.int .i64 4]
  |some l=>∃ u,v=.tuple [u,.int .i64 0]∧c1o h.next h' u l):=by
 refine a0r (a1x rfl rfl) rfl rfl ?_
 refine walk ?_
 refine a0b (d7o p.body _) rfl rfl rfl rfl ?_
 rintro _ _ ⟨rfl,rfl⟩
 refine walk ?_
 refine a0n (ι:=Nat×AV×List Bk×List UInt8) (fun a=>p.count.toNat-a.1) (fun a=>[(1,.ptr h.next 0),(4,.ptr (h.next+1) 0),(5,a.2.1),(6,.int .i64 (a.1:Nat))]) (fun a h2=>Ext h h2∧h.next+2≤h2.next∧h2.get h.next=some (.cells 64 p.cs true)∧h2.get (h.next+1)=some (.cells 166 [.str a.2.2.2] true)∧c1o (h.next+2) h2 a.2.1 a.2.2.1∧a.1=a.2.2.1.length∧4*a.1+a.2.2.2.length≤p.body.length∧(0<a.1→(a.1:Int)≤p.count)∧(∀ b∈a.2.2.1,b.name.length≤1000000)∧a5o p.count.toNat p.body=(a5o (p.count.toNat-a.1) a.2.2.2).map (a.2.2.1 ++ ·)) (0,.nilslice,[],p.body) hsub ⟨by exact a0j,by show h.next+2≤h.next+1+1; omega,by exact a0g,by exact a0g,a9g.nil,rfl,by simp,by simp,by simp,by simp⟩ ?_
 rintro⟨i,u,acc,s⟩ h2 ⟨x2,n2,g0,g1,ow,ei,len,cnt,nms,par⟩ next
 dsimp only at g1 ow ei len nms par next cnt ⊢
 subst ei
 by_cases hi:(acc.length:Int)<p.count
 ·have v1:=a1s 1 s
  have l1:=a1b 1 s
  have l2:=a1b (a0o 1 s) (a0h 1 s)
  have l3:=a1b 4 (a0h (a0o 1 s) (a0h 1 s))
  have v2:=a1s 4 (a0h (a0o 1 s) (a0h 1 s))
  have v3:=a1s 4 (a0h 4 (a0h (a0o 1 s) (a0h 1 s)))
  refine walk ?_
  refine a0b (b0j (n:=1) g1 (by omega) (by omega) (by decide) (by decide)) rfl rfl rfl rfl ?_
  rintro _ h3 ⟨rfl,u3⟩
  have n3:=u3.nx
  refine walk ?_
  refine a0b (e5c (n:=a0o 1 s) u3.got (by omega) (by omega) (by omega)) rfl rfl rfl rfl ?_
  rintro _ h4 ⟨rfl,u4⟩
  have n4:=u4.nx
  refine walk ?_
  refine a0b (b0j (n:=4) u4.got (by omega) (by omega) (by decide) (by decide)) rfl rfl rfl rfl ?_
  rintro _ h5 ⟨rfl,u5⟩
  have n5:=u5.nx
  refine walk ?_
  refine a0b (b0j (n:=4) u5.got (by omega) (by omega) (by decide) (by decide)) rfl rfl rfl rfl ?_
  rintro _ h6 ⟨rfl,u6⟩
  have n6:=u6.nx
  have oku:h6.ok:=u6.ok (u5.ok (u4.ok (u3.ok (x2.ok hk))))
  have k6:a4g (h.next+1) h2 h6:=⟨by omega,fun c hc=>by rw[u6.old c (by omega),u5.old c (by omega),u4.old c (by omega),u3.old c (by omega)],fun _=>oku⟩
  have x6:Ext h h6:=x2.kp k6 (by omega)
  have o6:c1o (h.next+2) h6 u acc:=Own.keep ow (fun c h1 h2'=>by rw[u6.old c (by omega),u5.old c (by omega),u4.old c (by omega),u3.old c (by omega)]) (by omega)
  have par':p.count.toNat-acc.length=(p.count.toNat-(acc.length+1))+1:=by omega
  rw[par'] at par
  obtain⟨b,hb⟩:∃ b:Bk,b=⟨a3p (a0o 1 s) (a0h 1 s),a0o 4 (a0h (a0o 1 s) (a0h 1 s)),a0o 4 (a0h 4 (a0h (a0o 1 s) (a0h 1 s)))⟩:=⟨_,rfl⟩
  obtain⟨s',hs'⟩:∃ s',s'=a0h 4 (a0h 4 (a0h (a0o 1 s) (a0h 1 s))):=⟨_,rfl⟩
  have st:4≤(a0h 4 (a0h (a0o 1 s) (a0h 1 s))).length→a5o p.count.toNat p.body=(a5o (p.count.toNat-(acc.length+1)) s').map ((acc++[b]) ++ ·):=fun c=>by
   have e:b1f s=some (b,s'):=by unfold b1f; rw[if_pos c,hb,hs']
   rw[par]
   show Option.map _ (match b1f s with|none=>none|some (b,s')=>_)=_
   rw[e]
   simp only[Option.map_map]
   congr 1
   funext x
   simp
  have none_if:¬ (1≤s.length∧a0o 1 s≤(a0h 1 s).length∧4≤(a0h (a0o 1 s) (a0h 1 s)).length∧4≤(a0h 4 (a0h (a0o 1 s) (a0h 1 s))).length)→ofC p=none:=fun w=>by
   by_cases c:4≤(a0h 4 (a0h (a0o 1 s) (a0h 1 s))).length
   case neg =>
    have e:b1f s=none:=by unfold b1f; rw[if_neg c]
    have e3:a5o p.count.toNat p.body=none:=by rw[par]; show Option.map _ (match b1f s with|none=>none|some (b,s')=>_)=_; rw[e]; rfl
    unfold ofC; rw[e3]
   have d2:¬ a0o 1 s≤(a0h 1 s).length:=fun d2=>w ⟨by omega,d2,by omega,c⟩
   have nb:b.name=[]:=by rw[hb]; unfold a3p; rw[if_neg d2]
   unfold ofC
   rw[st c]
   cases a5o (p.count.toNat-(acc.length+1)) s' with
   |none=>rfl
   |some l =>
    show(if a8z (p.body.length+24) p.page p.tx ((acc++[b])++l)=(p,0) then some _ else none)=none
    have nm:¬ b1w (p.body.length+24) ((acc++[b])++l):=fun m=>by
     have:=(m.1 acc.length b (by simp)).1.1.1
     rw[nb] at this
     exact absurd this (by decide)
    have q:a8z (p.body.length+24) p.page p.tx ((acc++[b])++l)=(Pg.zero,2):=by unfold a8z; rw[if_neg fun c=>nm c.1]
    rw[q,if_neg (by simp)]
  by_cases d1:1≤s.length
  case neg =>
   rw[a5k d1,none_if fun w=>d1 w.1]
   refine walk ?_
   exact a0d (by exact hres) ⟨x6,rfl⟩
  rw[a4b d1]
  by_cases d2:a0o 1 s≤(a0h 1 s).length
  case neg =>
   rw[a5k d2,none_if fun w=>d2 w.2.1]
   refine walk ?_
   exact a0d (by exact hres) ⟨x6,rfl⟩
  rw[a4b d2]
  by_cases d3:4≤(a0h (a0o 1 s) (a0h 1 s)).length
  case neg =>
   rw[a5k d3,none_if fun w=>d3 w.2.2.1]
   refine walk ?_
   exact a0d (by exact hres) ⟨x6,rfl⟩
  rw[a4b d3]
  by_cases c:4≤(a0h 4 (a0h (a0o 1 s) (a0h 1 s))).length
  case neg =>
   rw[a5k c,none_if fun w=>c w.2.2.2]
   refine walk ?_
   exact a0d (by exact hres) ⟨x6,rfl⟩
  rw[a4b c]
  have par2:=st c
  have l4:=a2q c
  have nb:b.name.length≤1000000:=by rw[hb]; exact Nat.le_trans (a8i _ _) (by omega)
  rw[← hs'] at l4 u6
  obtain⟨v7,h7,e7,o7,k7⟩:=a8g (T:=TV n) (st:=79) (rest:=[79]) (h:=h6.alloc (.cells 88 b.cs true)) (x:=b) (o6.ext (Ext.alloc _ _)) (a0t _ _) (by show h6.next<h6.next+1; omega) (by show h.next+2≤h6.next+1; omega) (by omega) rfl rfl rfl rfl rfl (by exact Nat.le_of_ble_eq_true rfl) rfl (by decide) rfl
  have n7:=k7.nx
  have n7:h6.next+1≤h7.next:=k7.nx
  have cb:b.cs=[.str (a3p (a0o 1 s) (a0h 1 s)),.int .u32 (a0o 4 (a0h (a0o 1 s) (a0h 1 s))),.int .i64 (a0o 4 (a0h 4 (a0h (a0o 1 s) (a0h 1 s))))]:=by rw[hb]; rfl
  rw[cb] at e7
  refine walk ?_
  refine next (acc.length+1,v7,acc++[b],s') (by simp only; omega) (by exact hsub) ⟨by exact a0j,by omega,by exact a0g,by exact a0g,o7,by simp,?_,?_,?_,par2⟩
  ·simp only; omega
  ·simp only; omega
  ·simp only
   intro b' hb'
   rcases List.mem_append.1 hb' with q|q
   ·exact nms b' q
   ·obtain rfl:=List.mem_singleton.1 q
    exact nb
 ·have e0:p.count.toNat-acc.length=0:=by
   rcases Nat.eq_zero_or_pos acc.length with q|q
   ·omega
   ·have:=cnt q; omega
  have e1:a5o p.count.toNat p.body=some acc:=by rw[par,e0]; simp[a5o]
  have tm:b5m acc:=⟨by omega,nms⟩
  have w1:=d2x (n:=n) (by omega) (z:=(p.body.length:Int)+24) (p:=p.page) (tx:=p.tx) (h:=h2) ow.ls (x2.ok hk) tm
  refine walk ?_
  refine a3e w1 rfl rfl rfl rfl ?_
  have key:ofC p=if a8z ((p.body.length:Int)+24) p.page p.tx acc=(p,0) then some acc else none:=by unfold ofC; rw[e1]
  generalize a8z ((p.body.length:Int)+24) p.page p.tx acc=r at key ⊢
  obtain⟨r1,r2⟩:=r
  by_cases c1:r2=0
  case neg =>
   rw[key,if_neg fun e=>c1 (congrArg Prod.snd e)]
   refine walk ?_
   exact a0d (by exact hres) ⟨by exact a0j,rfl⟩
  subst c1
  have w2:=d2p (n:=n) (by omega) r1 p
  by_cases c2:r1=p
  ·rw[key,if_pos (by rw[c2])]
   rw[decide_eq_true c2] at w2
   refine walk ?_
   exact a0d (by exact hres) ⟨by exact a0j,u,rfl,Own.lo (Own.ext ow (by exact a0j)) (by omega)⟩
  ·rw[key,if_neg fun e=>c2 (congrArg Prod.fst e)]
   rw[decide_eq_false c2] at w2
   refine walk ?_
   exact a0d (by exact hres) ⟨by exact a0j,rfl⟩
end Go.Proofs.YtejfbaecadbdiaaGreat
