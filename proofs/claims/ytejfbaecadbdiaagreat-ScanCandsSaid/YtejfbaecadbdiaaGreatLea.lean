/- What the functions of this part answer at any input, told by the rules over the evaluator. Conditions: those that each theorem states. -/
import Derived.Test.YtejfbaecadbdiaaGreatOvr
set_option linter.unusedVariables false
set_option linter.unusedSimpArgs false
open Go Ev
namespace Go.Proofs.YtejfbaecadbdiaaGreat
set_option maxRecDepth 10000
set_option maxHeartbeats 4000000
structure It where
 key:List UInt8
 val:List UInt8
 over:Bool
 len:Int
 head:Nat
def It.cs (b:It):List AV:=[.str b.key,.str b.val,.bool b.over,.int .i64 b.len,.int .u32 b.head]
abbrev LsI (h:a0a) (v:AV) (l:List It):Prop:=Ls It.cs 5 h v l
abbrev b3l (lo:Nat) (h:a0a) (v:AV) (l:List It):Prop:=a9g It.cs 175 5 lo h v l
theorem It.csl (b:It):b.cs.length=5:=rfl
theorem d0c {n:Nat}(hn:0<n) (p:Nat) (h:a0a):(TV n).sm 184 [.int .u32 p] h=some (.bool (decide (num p)),h):=by
 refine a3b hn rfl rfl rfl fun n hn=>a0s rfl rfl ?_
 unfold num
 exact auto
def c3q (x:It):Prop:=b1g x.key∧(x.over=true∧x.val=[]∧1≤x.len∧x.len≤4096∧num x.head∨x.over=false∧x.val.length≤255∧x.len=0∧x.head=0)
instance (x:It):Decidable (c3q x):=inferInstanceAs (Decidable (_∧_))
theorem d0u {n:Nat}(hn:1<n) (x:It) (h:a0a):(TV n).sm 210 [.agg x.cs] h=some (.bool (decide (c3q x)),h):=by
 refine a3b hn rfl rfl rfl fun n hn=>a0s rfl rfl ?_
 have w1:=c9r (n:=n) (by omega) x.key
 have w2:=d0c (n:=n) (by omega) x.head
 unfold c3q
 by_cases c0:b1g x.key
 case neg=>exact auto
 rcases Bool.eq_false_or_eq_true x.over with ho|ho
 ·by_cases c1:x.val=[]
  ·exact auto
  ·exact auto
 ·exact auto
def szI (x:It):Nat:=2+x.key.length+if x.over then 8 else 1+x.val.length
theorem c7n {n:Nat}(hn:0<n) (x:It) (hv:x.val.length≤1000000) (h:a0a):(TV n).sm 211 [.agg x.cs] h=some (.int .i64 (if x.over then(8:Nat) else 1+x.val.length:Nat),h):=by
 refine a3b hn rfl rfl rfl fun n hn=>a0s rfl rfl ?_
 rcases Bool.eq_false_or_eq_true x.over with ho|ho
 ·rw[ho]
  refine walk ?_
  exact a0e (by exact hres) rfl
 ·rw[ho]
  refine walk ?_
  exact a0e (by exact hres) rfl
def a3t (l:List It):Nat:=(l.map szI).sum
def b5p (l:List It):Prop:=l.length≤70000∧∀ b∈l,b.key.length≤1000000∧b.val.length≤1000000
theorem d1o {l:List It}(t:b5p l){i:Nat}{b:It}(h:l[i]?=some b):b.key.length≤1000000∧b.val.length≤1000000:=t.2 b (List.mem_of_getElem? h)
theorem e3s (b:It) (h:b.key.length≤1000000∧b.val.length≤1000000):szI b≤2000010:=by unfold szI; split<;>omega
theorem b7q (l:List It) (hb:∀ b∈l,b.key.length≤1000000∧b.val.length≤1000000):a3t l≤l.length*2000010:=by
 induction l with
 |nil=>simp[a3t]
 |cons a l ih =>
  have h1:=e3s a (hb a (List.mem_cons_self ..))
  have h2:=ih fun b h=>hb b (List.mem_cons_of_mem _ h)
  simp only[a3t,List.map_cons,List.sum_cons,List.length_cons] at h2 ⊢
  omega
theorem c1j (l:List It) (i:Nat) (b:It) (h:l[i]?=some b):a3t (l.take (i+1))=a3t (l.take i)+szI b:=by
 rw[List.take_add_one,h]
 simp[a3t]
theorem d8q {n:Nat}(hn:1<n){v:AV}{l:List It}{h:a0a}(ls:LsI h v l) (hk:h.ok) (t:b5p l):(TV n).sm 183 [v] h=some (.int .i64 (a3t l),h):=by
 refine a9d hn (fun h=>h.ok∧LsI h v l) rfl rfl ⟨hk,ls⟩ (fun hp=>⟨a2f,ls.any (by simpa [AV.a1q,AV.plain] using hp)⟩) ?_
 clear hk ls h
 rintro n hn h ⟨hk,ls⟩
 refine a0s rfl rfl ?_
 have hlen:=ls.len
 refine walk ?_
 refine a0n (fun i=>l.length-i) (fun i=>[(2,.int .i64 (a3t (l.take i))),(5,v),(7,.int .i64 (i:Nat)),(6,.int .i64 l.length)]) (fun i h2=>i≤l.length∧Ext h h2) 0 hsub ⟨by omega,.refl h⟩ ?_
 rintro i h2 ⟨hi,x2⟩ next
 have t1:=t.1
 have bd:=b7q (l.take i) fun b hb=>t.2 b (List.mem_of_mem_take hb)
 rw[List.length_take] at bd
 by_cases hil:i<l.length
 ·obtain⟨y,hy⟩:∃ y,l[i]?=some y:=⟨l[i],List.getElem?_eq_getElem hil⟩
  obtain⟨b,p,e,all,rw',hb,hg,hpl,he,a1⟩:=(ls.ext x2).at It.csl hy
  have ty:=d1o t hy
  have w1:=c7n (n:=n) (by omega) y ty.2
  have ok2:=x2.ok hk
  obtain⟨k,hk'⟩:∃ k:Nat,k=(if y.over then 8 else 1+y.val.length):=⟨_,rfl⟩
  have kb:k≤1000001:=by
   rw[hk']
   split<;>omega
  have sz:szI y=2+y.key.length+k:=by unfold szI; rw[hk']
  rw[← hk'] at w1
  refine walk ?_
  refine a0c (q:=10) (ms:=[0,0,2,6,14,0,32,126,255,511]) (hl:=[[12,13,14,15,16,17,18],[11,16,17],[11,16,17],[11,16,17],[11,16,17],[11,12,13,14,15],[11,12,13,14,15],[11],[],[]]) hok rfl (by kernel_rfl) (by kernel_rfl) rfl ?_
  refine walk ?_
  refine next (i+1) (by omega) ?_ ⟨by omega,a0j⟩
  rw[c1j l i y hy,sz]
  exact hsub
 ·refine walk ?_
  have e:l.take i=l:=List.take_of_length_le (by omega)
  rw[e]
  exact a0e hres ⟨rfl,a0j⟩
def f1g (l:List It):Prop:=∀ i b,l[i]?=some b→c3q b∧(0<i→∀ a,l[i-1]?=some a→bytesLess a.key b.key=true)
def b3y (l:List It):Prop:=f1g l∧0<l.length
noncomputable instance (l:List It):Decidable (b3y l):=Classical.propDecidable _
theorem e2x {n:Nat}(hn:2<n){v:AV}{l:List It}{h:a0a}(ls:LsI h v l) (hk:h.ok) (t:b5p l):(TV n).sm 182 [v] h=some (.bool (decide (b3y l)),h):=by
 refine a9d hn (fun h=>h.ok∧LsI h v l) rfl rfl ⟨hk,ls⟩ (fun hp=>⟨a2f,ls.any (by simpa [AV.a1q,AV.plain] using hp)⟩) ?_
 clear hk ls h
 rintro n hn h ⟨hk,ls⟩
 refine a0s rfl rfl ?_
 have hlen:=ls.len
 have t1:=t.1
 refine walk ?_
 refine a0n (fun i=>l.length-i) (fun i=>[(0,v),(5,v),(7,.int .i64 (i:Nat)),(6,.int .i64 l.length)]) (fun i h2=>i≤l.length∧Ext h h2∧∀ j,j<i→∀ b,l[j]?=some b→c3q b∧(0<j→∀ a,l[j-1]?=some a→bytesLess a.key b.key=true)) 0 hsub ⟨by omega,.refl h,fun j hj=>by omega⟩ ?_
 rintro i h2 ⟨hi,x2,inv⟩ next
 have ok2:=x2.ok hk
 have nx:=x2.nx
 by_cases hil:i<l.length
 ·obtain⟨y,hy⟩:∃ y,l[i]?=some y:=⟨l[i],List.getElem?_eq_getElem hil⟩
  obtain⟨b,p,e,all,rw',hb,hg,hpl,he,a1⟩:=(ls.ext x2).at It.csl hy
  have w1:=d0u (n:=n) (by omega) y
  by_cases c1:c3q y
  case neg =>
   have bad:¬ b3y l:=fun m=>c1 (m.1 i y hy).1
   refine walk ?_
   refine a0c (q:=18) (ms:=[0,1,3,7,15,31,63,127,127,383,1023,2047,4095,127,8319,32767,65535,131071]) (hl:=[[],[],[],[],[],[],[],[20,21,25,26],[19,25,26],[19,25,26],[25,26],[25,26],[25,26],[19,20,21,22,23,24],[19,20,21,22,23,24],[],[],[]]) hok rfl (by kernel_rfl) (by kernel_rfl) rfl ?_
   refine walk ?_
   exact a0e hres ⟨a3w bad,a0j⟩
  rcases Nat.eq_zero_or_pos i with rfl|hi0
  ·refine walk ?_
   refine a0c (q:=18) (ms:=[0,1,3,7,15,31,63,127,127,383,1023,2047,4095,127,8319,32767,65535,131071]) (hl:=[[],[],[],[],[],[],[],[20,21,25,26],[19,25,26],[19,25,26],[25,26],[25,26],[25,26],[19,20,21,22,23,24],[19,20,21,22,23,24],[],[],[]]) hok rfl (by kernel_rfl) (by kernel_rfl) rfl ?_
   refine walk ?_
   refine next 1 (by omega) hsub ⟨by omega,a0j,fun j hj b hb=>?_⟩
   obtain rfl:j=0:=by omega
   rw[hy] at hb; cases hb
   exact⟨c1,fun h0=>by omega⟩
  obtain⟨j,rfl⟩:∃ j,i=j+1:=⟨i-1,by omega⟩
  obtain⟨a,ha⟩:∃ a,l[j]?=some a:=⟨l[j],List.getElem?_eq_getElem (by omega)⟩
  obtain⟨b',p',e',all',rw2,hb',hg',hpl',he',a2⟩:=(ls.ext x2).at It.csl ha
  cases c2:bytesLess a.key y.key with
  |false =>
   have c3:(!bytesLess a.key y.key)=true:=by rw[c2]; rfl
   have bad:¬ b3y l:=fun m=>by
    have:=(m.1 (j+1) y hy).2 (by omega) a ha
    rw[c2] at this; cases this
   refine walk ?_
   refine a0c (q:=18) (ms:=[0,1,3,7,15,31,63,127,127,383,1023,2047,4095,127,8319,32767,65535,131071]) (hl:=[[],[],[],[],[],[],[],[20,21,25,26],[19,25,26],[19,25,26],[25,26],[25,26],[25,26],[19,20,21,22,23,24],[19,20,21,22,23,24],[],[],[]]) hok rfl (by kernel_rfl) (by kernel_rfl) rfl ?_
   refine walk ?_
   exact a0e hres ⟨a3w bad,a0j⟩
  |true =>
   have c3:(!bytesLess a.key y.key)=false:=by rw[c2]; rfl
   refine walk ?_
   refine a0c (q:=18) (ms:=[0,1,3,7,15,31,63,127,127,383,1023,2047,4095,127,8319,32767,65535,131071]) (hl:=[[],[],[],[],[],[],[],[20,21,25,26],[19,25,26],[19,25,26],[25,26],[25,26],[25,26],[19,20,21,22,23,24],[19,20,21,22,23,24],[],[],[]]) hok rfl (by kernel_rfl) (by kernel_rfl) rfl ?_
   refine walk ?_
   refine next (j+1+1) (by omega) hsub ⟨by omega,a0j,fun k hk' b hb=>?_⟩
   rcases Nat.lt_or_ge k (j+1) with q|q
   ·exact inv k q b hb
   ·obtain rfl:k=j+1:=by omega
    rw[hy] at hb; cases hb
    refine⟨c1,fun _ a' ha'=>?_⟩
    have ha':l[j]?=some a':=ha'
    rw[ha] at ha'; cases ha'
    exact c2
 ·have fin:f1g l:=fun j b hb=>inv j (by
   rcases Nat.lt_or_ge j l.length with q|q
   ·omega
   ·rw[List.getElem?_eq_none q] at hb; cases hb) b hb
  have e:b3y l↔0<l.length:=⟨fun m=>m.2,fun m=>⟨fin,m⟩⟩
  refine walk ?_
  refine a0e hres ⟨?_,a0j⟩
  by_cases q:0<l.length
  ·exact(congrArg AV.bool (decide_eq_true (show(0:Int)<l.length by omega))).trans (b5l (e.2 q))
  ·exact(congrArg AV.bool (decide_eq_false (show ¬ (0:Int)<l.length by omega))).trans (a3w fun m=>q (e.1 m))
def c1r (b:It):List UInt8:=if b.over then leb b.len.toNat 4++leb b.head 4 else leb b.val.length 1++b.val
def c0r (b:It):List UInt8:=leb (if b.over then 1 else 0) 1++leb b.key.length 1++b.key++c1r b
def b3j (l:List It):List UInt8:=l.flatMap c0r
theorem e2b (b:It):(c0r b).length=szI b:=by
 unfold c0r c1r szI
 split<;>simp[a1c]<;>omega
theorem c4t (l:List It):(b3j l).length=a3t l:=by
 induction l with
 |nil=>rfl
 |cons a l ih=>unfold b3j at ih ⊢; rw[List.flatMap_cons,List.length_append,ih,e2b]; simp[a3t]
theorem b2o (l:List It) (i:Nat) (b:It) (h:l[i]?=some b):b3j (l.take (i+1))=b3j (l.take i)++c0r b:=by
 rw[List.take_add_one,h]
 simp[b3j]
theorem c2l (l:List It) (i:Nat):a3t (l.take i)≤a3t l:=by
 have e:a3t l=a3t (l.take i)+a3t (l.drop i):=by
  rw[show a3t l=a3t (l.take i++l.drop i) by rw[List.take_append_drop]]
  simp only[a3t,List.map_append,List.sum_append]
 omega
theorem f0h {q:Nat}{v:AV}{s:List UInt8}{x:It}{h:a0a}(bw:By h v s) (hk:h.ok) (hl:s.length≤900000) (ok:c3q x):a0l (TV q) 185 [.agg x.cs,v] h (fun v' h'=>a2t 5 h.next h' v' (s++c1r x)∧Ext h h'):=by
 refine a0r (a1x rfl rfl) rfl rfl ?_
 rcases ok.2 with ⟨ho,c1,c2,c3,c4⟩|⟨ho,c1,c2,c3⟩
 ·obtain⟨k,hk'⟩:=Int.eq_ofNat_of_zero_le (show 0≤x.len by omega)
  have kb:k≤4096:=by omega
  have hb:x.head≤2147483647:=c4.2
  have xcs:x.cs=[.str x.key,.str x.val,.bool x.over,.int .i64 (k:Nat),.int .u32 x.head]:=by unfold It.cs; rw[hk']
  have ev:c1r x=leb k 4++leb x.head 4:=by unfold c1r; rw[ho,hk']; rfl
  rw[xcs,ev]
  refine walk ?_
  refine a0c (q:=10) (ms:=[0,0,2,6,15,0,32,96,255,511]) (hl:=[[8,9,10,12,13,14],[7,12,13,14],[7,12,13,14],[7,12,13,14],[12,13,14],[7,8,9,10,11],[7,8,9,10,11],[7,8,9,10,11],[],[]]) hok rfl (by kernel_rfl) (by kernel_rfl) rfl ?_
  refine walk ?_
  refine a2i (a2m (bw.ext (by exact a0j)) (by omega) (by decide) (by decide) (by omega) bw.ns) rfl rfl rfl rfl rfl rfl ?_
  rintro v1 g1 ⟨o1,x1⟩
  have n1:h.next+1+10≤g1.next:=x1.nx
  refine walk ?_
  refine a2i (a2m o1.by (by omega) (by decide) (by decide) (by simp[a1c]; omega) o1.by.ns) rfl rfl rfl rfl rfl rfl ?_
  rintro v2 g2 ⟨o2,x2⟩
  refine walk ?_
  refine a0e (by exact hres) ⟨?_,by exact a0j⟩
  have o3:=a2t.lo o2 (show h.next≤g1.next by omega)
  simpa using o3
 ·have ev:c1r x=leb x.val.length 1++x.val:=by unfold c1r; rw[ho]; rfl
  rw[ev]
  refine walk ?_
  refine a0c (q:=10) (ms:=[0,0,2,6,14,31,0,64,255,511]) (hl:=[[17,18,19,20,22,23],[16,22,23],[16,22,23],[16,22,23],[16,22,23],[22,23],[16,17,18,19,20,21],[16,17,18,19,20,21],[],[]]) hok rfl (by kernel_rfl) (by kernel_rfl) rfl ?_
  refine walk ?_
  refine a2i (a2m (bw.ext (by exact a0j)) (by omega) (by decide) (by decide) (by omega) bw.ns) rfl rfl rfl rfl rfl rfl ?_
  rintro v1 g1 ⟨o1,x1⟩
  have n1:h.next+1+10≤g1.next:=x1.nx
  obtain⟨v2,g2,e2,o2,k2⟩:=ast (q:=q) (lo:=h.next+1+10) (r:=x.val) o1 (by simp[a1c]; omega)
  refine walk ?_
  refine a0e (by exact hres) ⟨?_,by exact a0j⟩
  have o3:=a2t.lo o2 (show h.next≤h.next+1+10 by omega)
  simpa using o3
noncomputable def a8y (z:Int) (p tx:Nat) (l:List It):Pg×Int:=if b3y l∧(a3t l:Int)≤room z∧num p∧tx≤4611686018427387904 then(⟨4,l.length,p,0,tx,b8i z (b3j l)⟩,0) else(Pg.zero,2)
theorem d7s {n:Nat}(hn:4<n){z:Int}{p tx:Nat}{v:AV}{l:List It}{h:a0a}(ls:LsI h v l) (hk:h.ok) (t:b5p l):(TV n).sm 165 [.int .i64 z,.int .u32 p,.int .u64 tx,v] h=some (.tuple [(a8y z p tx l).1.av,.int .i64 (a8y z p tx l).2],h):=by
 refine a9d hn (fun h=>h.ok∧LsI h v l) rfl rfl ⟨hk,ls⟩ (fun hp=>⟨a2f,ls.any (by simpa [AV.a1q,AV.plain] using hp)⟩) ?_
 clear hk ls h
 rintro n hn h ⟨hk,ls⟩
 refine a0s rfl rfl ?_
 have hlen:=ls.len
 have t1:=t.1
 have w2:=d0c (n:=n) (by omega) p
 have w1:=b6k (n:=n) (by omega) z
 have x0:Ext h (h.alloc (.cells 64 Pg.zero.cs true)):=Ext.alloc _ _
 have w3:=e2x (n:=n) (by omega) (ls.ext x0) (x0.ok hk) t
 have w4:=d8q (n:=n) (by omega) (ls.ext x0) (x0.ok hk) t
 have bs:=b7q l t.2
 have rz:=room_le z
 unfold a8y
 refine walk ?_
 refine a3e w3 rfl rfl rfl rfl ?_
 by_cases c:b3y l∧(a3t l:Int)≤room z∧num p∧tx≤4611686018427387904
 case neg =>
  rw[if_neg c]
  by_cases c1:b3y l
  ·refine walk ?_
   refine a3e w4 rfl rfl rfl rfl ?_
   by_cases c2:(a3t l:Int)≤room z
   ·by_cases c3:num p
    ·have c4:¬ tx≤4611686018427387904:=fun c4=>c ⟨c1,c2,c3,c4⟩
     exact auto
    ·exact auto
   ·exact auto
  ·exact auto
 rw[if_pos c]
 obtain⟨c1,c2,c3,c4⟩:=c
 refine walk ?_
 refine a3e w4 rfl rfl rfl rfl ?_
 refine walk ?_
 refine a0n (ι:=Nat×AV) (fun a=>l.length-a.1) (fun a=>[(0,.int .i64 z),(1,.int .u32 p),(2,.int .u64 tx),(3,v),(8,.ptr h.next 0),(10,a.2),(36,v),(37,.int .i64 l.length),(38,.int .i64 (a.1:Nat))]) (fun a h2=>a.1≤l.length∧Ext (h.alloc (.cells 64 Pg.zero.cs true)) h2∧a2t 5 (h.next+1) h2 a.2 (b3j (l.take a.1))) (0,.nilslice) hsub ⟨by omega,.refl _,a2t.nil⟩ ?_
 rintro⟨i,u⟩ h2 ⟨hi,x2,ow⟩ next
 dsimp only at hi ow next ⊢
 have nx2:h.next+1≤h2.next:=x2.nx
 have g8:h2.get h.next=some (.cells 64 Pg.zero.cs true):=(x2.old _ (by show h.next<h.next+1; omega)).trans (a0t _ _)
 have ok2:=x2.ok (x0.ok hk)
 have hsz:(b3j (l.take i)).length≤4072:=by
  have:=c2l l i
  rw[c4t]; omega
 by_cases hil:i<l.length
 ·obtain⟨y,hy⟩:∃ y,l[i]?=some y:=⟨l[i],List.getElem?_eq_getElem hil⟩
  obtain⟨b,p',e,all,rw',hb,hg,hpl,he,a1⟩:=((ls.ext x0).ext x2).at It.csl hy
  have yok:=(c1.1 i y hy).1
  have ky:y.key.length≤40:=yok.1
  rcases Bool.eq_false_or_eq_true y.over with ho|ho
  ·have ei:c0r y=leb 1 1++leb y.key.length 1++y.key++c1r y:=by unfold c0r; rw[ho]; rfl
   refine walk ?_
   refine a0c (q:=9) (ms:=[0,0,3,0,8,24,56,127,255]) (hl:=[[45,47,48,49,50],[44,47,48,49,50],[47,48,49,50],[44,45,46],[44,45,46],[44,45,46],[44,45,46],[],[]]) hok rfl (by kernel_rfl) (by kernel_rfl) rfl ?_
   refine walk ?_
   refine a2i (a2m (x:=1) (ow.by.ext (by exact a0j)) (by omega) (by decide) (by decide) (by omega) ow.by.ns) rfl rfl rfl rfl rfl rfl ?_
   rintro v1 g1 ⟨o1,x1⟩
   have nx1:h2.next+1+9≤g1.next:=x1.nx
   refine walk ?_
   refine a2i (a2m o1.by (by omega) (by decide) (by decide) (by simp[a1c]; omega) o1.by.ns) rfl rfl rfl rfl rfl rfl ?_
   rintro v2 g2 ⟨o2,x2'⟩
   have nx2':=x2'.nx
   refine walk ?_
   refine GJ.gen [(0,.int .i64 z),(1,.int .u32 p),(2,.int .u64 tx),(3,v),(8,.ptr h.next 0),(10,v2),(12,.ptr h2.next 0),(36,v),(37,.int .i64 l.length),(38,.int .i64 (i:Nat))] (fun g=>Ext (h.alloc (.cells 64 Pg.zero.cs true)) g∧g.get h2.next=some (.cells 175 y.cs true)∧a2t 5 (h2.next+1) g v2 (b3j (l.take i)++leb 1 1++leb y.key.length 1)∧h2.next<g.next∧g.ok) hsub ⟨by exact a0j,by exact a0g,a2t.lo o2 (by omega),by omega,by exact hok⟩ ?_
   rintro g3 ⟨x3,q12,o3,n3,ok3⟩
   obtain⟨v4,g4,e4,o4,k4⟩:=ast (q:=n) (h:=a0a.mk g3.t (g3.next+7)) (lo:=h2.next+1) (r:=y.key) (o3.ext ((Ext.refl g3).more ok3 7)) (by simp[a1c]; omega) (by show h2.next+1≤g3.next+7; omega)
   have nx4:g3.next+7≤g4.next:=k4.nx
   refine a0c (q:=7) (ms:=[0,0,0,4,14,31,63]) (hl:=[[53,54,55,56],[52,54,55],[52,53],[52,53],[52],[],[]]) hok rfl (by kernel_rfl) (by kernel_rfl) rfl ?_
   refine walk ?_
   refine a2i (f0h o4.by (by exact hok) (by simp[a1c]; omega) yok) rfl rfl rfl rfl rfl rfl ?_
   rintro v5 g5 ⟨o5,x5⟩
   have nx5:=x5.nx
   refine walk ?_
   refine next (i+1,v5) (by simp only; omega) hsub ⟨by simp only; omega,by exact a0j,?_⟩
   simp only
   rw[b2o l i y hy,ei]
   have o6:=a2t.lo o5 (show h.next+1≤g4.next by omega)
   simpa using o6
  ·have ei:c0r y=leb 0 1++leb y.key.length 1++y.key++c1r y:=by unfold c0r; rw[ho]; rfl
   refine walk ?_
   refine a0c (q:=9) (ms:=[0,0,3,0,8,24,56,127,255]) (hl:=[[45,47,48,49,50],[44,47,48,49,50],[47,48,49,50],[44,45,46],[44,45,46],[44,45,46],[44,45,46],[],[]]) hok rfl (by kernel_rfl) (by kernel_rfl) rfl ?_
   refine walk ?_
   refine a2i (a2m (x:=0) (ow.by.ext (by exact a0j)) (by omega) (by decide) (by decide) (by omega) ow.by.ns) rfl rfl rfl rfl rfl rfl ?_
   rintro v1 g1 ⟨o1,x1⟩
   have nx1:h2.next+1+9≤g1.next:=x1.nx
   refine walk ?_
   refine a2i (a2m o1.by (by omega) (by decide) (by decide) (by simp[a1c]; omega) o1.by.ns) rfl rfl rfl rfl rfl rfl ?_
   rintro v2 g2 ⟨o2,x2'⟩
   have nx2':=x2'.nx
   refine walk ?_
   refine GJ.gen [(0,.int .i64 z),(1,.int .u32 p),(2,.int .u64 tx),(3,v),(8,.ptr h.next 0),(10,v2),(12,.ptr h2.next 0),(36,v),(37,.int .i64 l.length),(38,.int .i64 (i:Nat))] (fun g=>Ext (h.alloc (.cells 64 Pg.zero.cs true)) g∧g.get h2.next=some (.cells 175 y.cs true)∧a2t 5 (h2.next+1) g v2 (b3j (l.take i)++leb 0 1++leb y.key.length 1)∧h2.next<g.next∧g.ok) hsub ⟨by exact a0j,by exact a0g,a2t.lo o2 (by omega),by omega,by exact hok⟩ ?_
   rintro g3 ⟨x3,q12,o3,n3,ok3⟩
   obtain⟨v4,g4,e4,o4,k4⟩:=ast (q:=n) (h:=a0a.mk g3.t (g3.next+7)) (lo:=h2.next+1) (r:=y.key) (o3.ext ((Ext.refl g3).more ok3 7)) (by simp[a1c]; omega) (by show h2.next+1≤g3.next+7; omega)
   have nx4:g3.next+7≤g4.next:=k4.nx
   refine a0c (q:=7) (ms:=[0,0,0,4,14,31,63]) (hl:=[[53,54,55,56],[52,54,55],[52,53],[52,53],[52],[],[]]) hok rfl (by kernel_rfl) (by kernel_rfl) rfl ?_
   refine walk ?_
   refine a2i (f0h o4.by (by exact hok) (by simp[a1c]; omega) yok) rfl rfl rfl rfl rfl rfl ?_
   rintro v5 g5 ⟨o5,x5⟩
   have nx5:=x5.nx
   refine walk ?_
   refine next (i+1,v5) (by simp only; omega) hsub ⟨by simp only; omega,by exact a0j,?_⟩
   simp only
   rw[b2o l i y hy,ei]
   have o6:=a2t.lo o5 (show h.next+1≤g4.next by omega)
   simpa using o6
 ·have e1:l.take i=l:=List.take_of_length_le (by omega)
  rw[e1] at ow
  have w5:=b6p (n:=n) (by omega) (z:=z) ow.by ok2 ow.by.ns
  rw[a4j] at w5
  refine walk ?_
  refine a3e w5 rfl rfl rfl rfl ?_
  refine walk ?_
  exact a0d (by exact hres) ⟨rfl,by exact a0j⟩
def i1 (s:List UInt8):List UInt8:=a0h 1 s
def i2 (s:List UInt8):List UInt8:=a0h 1 (i1 s)
def i3 (s:List UInt8):List UInt8:=a0h (a0o 1 (i1 s)) (i2 s)
def i4 (s:List UInt8):List UInt8:=a0h 4 (i3 s)
def i5 (s:List UInt8):List UInt8:=a0h 1 (i3 s)
def okI (s:List UInt8):Prop:=1≤(i1 s).length∧a0o 1 s≤1∧a0o 1 (i1 s)≤(i2 s).length∧(a0o 1 s=1∧4≤(i4 s).length∨¬ a0o 1 s=1∧1≤(i3 s).length∧a0o 1 (i3 s)≤(i5 s).length)
instance (s:List UInt8):Decidable (okI s):=inferInstanceAs (Decidable (_∧_))
def a6r (s:List UInt8):It:=if a0o 1 s=1 then⟨a3p (a0o 1 (i1 s)) (i2 s),[],true,a0o 4 (i3 s),a0o 4 (i4 s)⟩ else⟨a3p (a0o 1 (i1 s)) (i2 s),a3p (a0o 1 (i3 s)) (i5 s),false,0,0⟩
def a5p (s:List UInt8):List UInt8:=if a0o 1 s=1 then a0h 4 (i4 s) else a0h (a0o 1 (i3 s)) (i5 s)
structure a7p (r:Nat) (h h':a0a):Prop where
 nx:h.next≤h'.next
 old:∀ c,c<h.next→c≠r→h'.get c=h.get c
 ok:h.ok→h'.ok
theorem f2d {q r:Nat}{e:TypeId}{s:List UInt8}{h:a0a}(g:h.get r=some (.cells e [.str s] true)) (hr:r<h.next) (hl:s.length<1000000):a0l (TV q) 164 [.ptr r 0] h (fun v h'=>a7p r h h'∧if okI s then v=.tuple [.agg (a6r s).cs,.int .i64 0]∧h'.get r=some (.cells e [.str (a5p s)] true) else ∃ (x:It) (k:Int),v=.tuple [.agg x.cs,.int .i64 k]∧k≠0):=by
 refine a0r (a1x rfl rfl) rfl rfl ?_
 have v1:=a1s 1 s
 have v2:=a1s 1 (i1 s)
 have v3:=a1s 4 (i3 s)
 have v4:=a1s 4 (i4 s)
 have v5:=a1s 1 (i3 s)
 have l1:(i1 s).length≤s.length:=a1b _ _
 have l2:(i2 s).length≤(i1 s).length:=a1b _ _
 have l3:(i3 s).length≤(i2 s).length:=a1b _ _
 have l4:(i4 s).length≤(i3 s).length:=a1b _ _
 have l5:(i5 s).length≤(i3 s).length:=a1b _ _
 refine walk ?_
 refine a0b (a8p (n:=1) (b:=r) (s:=s) (by exact a0g) (by show r<h.next+1; omega) (by omega) (by decide) (by decide)) rfl rfl rfl rfl ?_
 rintro _ h3 ⟨rfl,u3⟩
 have n3:h3.next=h.next+1:=u3.nx
 have q3:h3.get h.next=some (.cells 175 [.str [],.str [],.bool false,.int .i64 0,.int .u32 0] true):=(u3.old _ (by omega)).trans (a0t _ _)
 have f3:∀ c,c<h.next→c≠r→h3.get c=h.get c:=fun c hc hcr=>by rw[u3.old c hcr,a0a.ga _ _ _ (by omega)]
 have k3:h.ok→h3.ok:=fun k=>u3.ok (a4n k _)
 refine walk ?_
 refine a0b (a8p (n:=1) (s:=i1 s) u3.got (by omega) (by omega) (by decide) (by decide)) rfl rfl rfl rfl ?_
 rintro _ h4 ⟨rfl,u4⟩
 have n4:=u4.nx
 have q4:=(u4.old h.next (by omega)).trans q3
 have f4:∀ c,c<h.next→c≠r→h4.get c=h.get c:=fun c hc hcr=>by rw[u4.old c hcr,f3 c hc hcr]
 have k4:h.ok→h4.ok:=fun k=>u4.ok (k3 k)
 have t4:∀ (cs:List AV),a7p r h (h4.set h.next (.cells 175 cs true)):=fun cs=>⟨by show h.next≤h4.next; omega,fun c hc hcr=>by rw[a0a.gn _ _ _ _ (by omega),f4 c hc hcr],fun k=>a0w (k4 k) _ _ (by omega)⟩
 by_cases c1:1≤(i1 s).length
 case neg =>
  rw[a5k c1]
  refine walk ?_
  exact a0d (v:=.agg (It.mk [] [] false 0 0).cs) (by exact hres) ⟨t4 _,by rw[if_neg fun c=>c1 c.1]; exact⟨It.mk [] [] false 0 0,4,rfl,by decide⟩⟩
 rw[a4b c1]
 by_cases c2:a0o 1 s≤1
 case neg =>
  refine walk ?_
  exact a0d (v:=.agg (It.mk [] [] false 0 0).cs) (by exact hres) ⟨t4 _,by rw[if_neg fun c=>c2 c.2.1]; exact⟨It.mk [] [] false 0 0,4,rfl,by decide⟩⟩
 refine walk ?_
 refine a0b (d0z (n:=a0o 1 (i1 s)) (s:=i2 s) u4.got (by omega) (by omega) (by omega)) rfl rfl rfl rfl ?_
 rintro _ h5 ⟨rfl,u5⟩
 have n5:=u5.nx
 have q5:=(u5.old h.next (by omega)).trans q4
 have f5:∀ c,c<h.next→c≠r→h5.get c=h.get c:=fun c hc hcr=>by rw[u5.old c hcr,f4 c hc hcr]
 have k5:h.ok→h5.ok:=fun k=>u5.ok (k4 k)
 have t5:∀ (cs ds:List AV),a7p r h ((h5.set h.next (.cells 175 cs true)).set h.next (.cells 175 ds true)):=fun cs ds=>⟨by show h.next≤h5.next; omega,fun c hc hcr=>by rw[a0a.gn _ _ _ _ (by omega),a0a.gn _ _ _ _ (by omega),f5 c hc hcr],fun k=>a0w (a0w (k5 k) _ _ (by omega)) _ _ (by show h.next<h5.next; omega)⟩
 by_cases c3:a0o 1 (i1 s)≤(i2 s).length
 case neg =>
  rw[a5k c3]
  refine walk ?_
  exact a0d (v:=.agg (It.mk (a3p (a0o 1 (i1 s)) (i2 s)) [] false 0 0).cs) (by exact hres) ⟨t5 _ _,by rw[if_neg fun c=>c3 c.2.2.1]; exact⟨It.mk (a3p (a0o 1 (i1 s)) (i2 s)) [] false 0 0,7,rfl,by decide⟩⟩
 rw[a4b c3]
 by_cases c4:a0o 1 s=1
 ·have ei:a6r s=⟨a3p (a0o 1 (i1 s)) (i2 s),[],true,a0o 4 (i3 s),a0o 4 (i4 s)⟩:=by unfold a6r; rw[if_pos c4]
  have er:a5p s=a0h 4 (i4 s):=by unfold a5p; rw[if_pos c4]
  refine walk ?_
  refine a0b (a8p (n:=4) (b:=r) (s:=i3 s) (by exact a0g) (by show r<h5.next; omega) (by omega) (by decide) (by decide)) rfl rfl rfl rfl ?_
  rintro _ h6 ⟨rfl,u6⟩
  have n6:h6.next=h5.next:=u6.nx
  have q6:=(u6.old h.next (by omega)).trans (a0a.gs _ _ _)
  have f6:∀ c,c<h.next→c≠r→h6.get c=h.get c:=fun c hc hcr=>by rw[u6.old c hcr,a0a.gn _ _ _ _ (by omega),a0a.gn _ _ _ _ (by omega),f5 c hc hcr]
  have k6:h.ok→h6.ok:=fun k=>u6.ok (a0w (a0w (k5 k) _ _ (by omega)) _ _ (by show h.next<h5.next; omega))
  refine walk ?_
  refine a0b (a8p (n:=4) (b:=r) (s:=i4 s) u6.got (by omega) (by omega) (by decide) (by decide)) rfl rfl rfl rfl ?_
  rintro _ h7 ⟨rfl,u7⟩
  have n7:=u7.nx
  have q7:=(u7.old h.next (by omega)).trans q6
  have f7:∀ c,c<h.next→c≠r→h7.get c=h.get c:=fun c hc hcr=>by rw[u7.old c hcr,f6 c hc hcr]
  have k7:h.ok→h7.ok:=fun k=>u7.ok (k6 k)
  have t7:∀ (bs cs ds:List AV),a7p r h (((h7.set h.next (.cells 175 bs true)).set h.next (.cells 175 cs true)).set h.next (.cells 175 ds true)):=fun bs cs ds=>⟨by show h.next≤h7.next; omega,fun c hc hcr=>by rw[a0a.gn _ _ _ _ (by omega),a0a.gn _ _ _ _ (by omega),a0a.gn _ _ _ _ (by omega),f7 c hc hcr],fun k=>a0w (a0w (a0w (k7 k) _ _ (by omega)) _ _ (by show h.next<h7.next; omega)) _ _ (by show h.next<h7.next; omega)⟩
  by_cases c5:4≤(i4 s).length
  ·rw[a4b c5]
   have oi:okI s:=⟨c1,c2,c3,.inl ⟨c4,c5⟩⟩
   refine walk ?_
   exact a0d (v:=.agg (It.mk (a3p (a0o 1 (i1 s)) (i2 s)) [] true (a0o 4 (i3 s)) (a0o 4 (i4 s))).cs) (by exact hres) ⟨t7 _ _ _,by rw[if_pos oi,ei,er]; exact⟨rfl,by exact a0g⟩⟩
  ·rw[a5k c5]
   have oi:¬ okI s:=fun c=>c.2.2.2.elim (fun d=>c5 d.2) fun d=>d.1 c4
   refine walk ?_
   exact a0d (v:=.agg (It.mk (a3p (a0o 1 (i1 s)) (i2 s)) [] true (a0o 4 (i3 s)) (a0o 4 (i4 s))).cs) (by exact hres) ⟨t7 _ _ _,by rw[if_neg oi]; exact⟨_,7,rfl,by decide⟩⟩
 ·have ei:a6r s=⟨a3p (a0o 1 (i1 s)) (i2 s),a3p (a0o 1 (i3 s)) (i5 s),false,0,0⟩:=by unfold a6r; rw[if_neg c4]
  have er:a5p s=a0h (a0o 1 (i3 s)) (i5 s):=by unfold a5p; rw[if_neg c4]
  refine walk ?_
  refine a0b (a8p (n:=1) (b:=r) (s:=i3 s) (by exact a0g) (by show r<h5.next; omega) (by omega) (by decide) (by decide)) rfl rfl rfl rfl ?_
  rintro _ h6 ⟨rfl,u6⟩
  have n6:h6.next=h5.next:=u6.nx
  have q6:=(u6.old h.next (by omega)).trans (a0a.gs _ _ _)
  have f6:∀ c,c<h.next→c≠r→h6.get c=h.get c:=fun c hc hcr=>by rw[u6.old c hcr,a0a.gn _ _ _ _ (by omega),a0a.gn _ _ _ _ (by omega),f5 c hc hcr]
  have k6:h.ok→h6.ok:=fun k=>u6.ok (a0w (a0w (k5 k) _ _ (by omega)) _ _ (by show h.next<h5.next; omega))
  have t6:∀ (cs:List AV),a7p r h (h6.set h.next (.cells 175 cs true)):=fun cs=>⟨by show h.next≤h6.next; omega,fun c hc hcr=>by rw[a0a.gn _ _ _ _ (by omega),f6 c hc hcr],fun k=>a0w (k6 k) _ _ (by omega)⟩
  by_cases c5:1≤(i3 s).length
  case neg =>
   rw[a5k c5]
   have oi:¬ okI s:=fun c=>c.2.2.2.elim (fun d=>c4 d.1) fun d=>c5 d.2.1
   refine walk ?_
   exact a0d (v:=.agg (It.mk (a3p (a0o 1 (i1 s)) (i2 s)) [] false 0 0).cs) (by exact hres) ⟨t6 _,by rw[if_neg oi]; exact⟨_,7,rfl,by decide⟩⟩
  rw[a4b c5]
  refine walk ?_
  refine a0b (d0z (n:=a0o 1 (i3 s)) (s:=i5 s) u6.got (by omega) (by omega) (by omega)) rfl rfl rfl rfl ?_
  rintro _ h7 ⟨rfl,u7⟩
  have n7:=u7.nx
  have q7:=(u7.old h.next (by omega)).trans q6
  have f7:∀ c,c<h.next→c≠r→h7.get c=h.get c:=fun c hc hcr=>by rw[u7.old c hcr,f6 c hc hcr]
  have k7:h.ok→h7.ok:=fun k=>u7.ok (k6 k)
  have t7:∀ (cs ds:List AV),a7p r h ((h7.set h.next (.cells 175 cs true)).set h.next (.cells 175 ds true)):=fun cs ds=>⟨by show h.next≤h7.next; omega,fun c hc hcr=>by rw[a0a.gn _ _ _ _ (by omega),a0a.gn _ _ _ _ (by omega),f7 c hc hcr],fun k=>a0w (a0w (k7 k) _ _ (by omega)) _ _ (by show h.next<h7.next; omega)⟩
  by_cases c6:a0o 1 (i3 s)≤(i5 s).length
  ·rw[a4b c6]
   have oi:okI s:=⟨c1,c2,c3,.inr ⟨c4,c5,c6⟩⟩
   refine walk ?_
   exact a0d (v:=.agg (It.mk (a3p (a0o 1 (i1 s)) (i2 s)) (a3p (a0o 1 (i3 s)) (i5 s)) false 0 0).cs) (by exact hres) ⟨t7 _ _,by rw[if_pos oi,ei,er]; exact⟨rfl,by exact a0g⟩⟩
  ·rw[a5k c6]
   have oi:¬ okI s:=fun c=>c.2.2.2.elim (fun d=>c4 d.1) fun d=>c6 d.2.2
   refine walk ?_
   exact a0d (v:=.agg (It.mk (a3p (a0o 1 (i1 s)) (i2 s)) (a3p (a0o 1 (i3 s)) (i5 s)) false 0 0).cs) (by exact hres) ⟨t7 _ _,by rw[if_neg oi]; exact⟨_,7,rfl,by decide⟩⟩
set_option maxRecDepth 10000
set_option maxHeartbeats 4000000
def e5b (s:List UInt8) (r:Nat) (v:AV) (e:TypeId) (h':a0a):Prop:=if okI s then v=.tuple [.agg (a6r s).cs,.int .i64 0]∧h'.get r=some (.cells e [.str (a5p s)] true) else ∃ (x:It) (k:Int),v=.tuple [.agg x.cs,.int .i64 k]∧k≠0
theorem a7p.trans {r:Nat}{h h1 h2:a0a}(a:a7p r h h1) (b:a7p r h1 h2):a7p r h h2:=⟨Nat.le_trans a.nx b.nx,fun c hc hr=>(b.old c (Nat.lt_of_lt_of_le hc a.nx) hr).trans (a.old c hc hr),fun k=>b.ok (a.ok k)⟩
theorem f3r {q r c:Nat}{e e2:TypeId}{s:List UInt8}{h:a0a}(gc:h.get c=some (.cells e2 [.ptr r 0] true)) (g:h.get r=some (.cells e [.str s] true)) (hr:r<h.next) (hc:c<h.next) (hl:s.length<1000000):a0l (TV q) 163 [.ptr c 0] h (fun v h'=>a7p r h h'∧e5b s r v e h'):=by
 refine a0r (a1x rfl rfl) rfl rfl ?_
 refine walk ?_
 refine a0b (f2d (s:=s) (by exact a0g) (by show r<h.next+1; omega) hl) rfl rfl rfl rfl ?_
 rintro v h3 ⟨t,c3⟩
 have nx:h.next+1≤h3.next:=t.nx
 have q3:h3.get h.next=some (.cells 175 [.str [],.str [],.bool false,.int .i64 0,.int .u32 0] true):=(t.old _ (by show h.next<h.next+1; omega) (by omega)).trans (a0t _ _)
 have t4:∀ cs,a7p r h (h3.set h.next (.cells 175 cs true)):=fun cs=>⟨by show h.next≤h3.next; omega,fun c hc hcr=>by rw[a0a.gn _ _ _ _ (by omega),t.old c (by show c<h.next+1; omega) hcr,a0a.ga _ _ _ (by omega)],fun k=>a0w (t.ok (a4n k _)) _ _ (by omega)⟩
 by_cases oi:okI s
 ·rw[if_pos oi] at c3
  obtain⟨rfl,gr⟩:=c3
  refine walk ?_
  refine a0d (v:=.agg (a6r s).cs) (by exact hres) ⟨t4 _,?_⟩
  unfold e5b
  rw[if_pos oi]
  exact⟨rfl,by exact a0g⟩
 ·rw[if_neg oi] at c3
  obtain⟨x,k,rfl,hk⟩:=c3
  refine walk ?_
  refine a0d (v:=.agg x.cs) (by exact hres) ⟨t4 _,?_⟩
  unfold e5b
  rw[if_neg oi]
  exact⟨x,k,rfl,hk⟩
def a4v:Nat→List UInt8→Option (List It)
 |0,_=>some []
 |k+1,s=>if okI s then(a4v k (a5p s)).map (a6r s :: ·) else none
theorem c3b {s:List UInt8}(h:okI s):(a5p s).length+3≤s.length:=by
 obtain⟨c1,c2,c3,c4⟩:=h
 have l1:(i1 s).length+1=s.length∨1≤s.length∧(i1 s).length+1=s.length:=by
  by_cases c:1≤s.length
  ·exact .inl (a2q c)
  ·have:(i1 s).length≤s.length:=a1b _ _
   omega
 have l2:(i2 s).length+1=(i1 s).length:=a2q c1
 have l3:(i3 s).length+a0o 1 (i1 s)=(i2 s).length:=a2q c3
 have l4:(i4 s).length≤(i3 s).length:=a1b _ _
 unfold a5p
 rcases c4 with ⟨c4,c5⟩|⟨c4,c5,c6⟩
 ·rw[if_pos c4]
  have:=a2q c5
  omega
 ·rw[if_neg c4]
  have l5:(i5 s).length+1=(i3 s).length:=a2q c5
  have:=a2q c6
  omega
theorem e0l (s:List UInt8):(a6r s).key.length≤255∧(a6r s).val.length≤255:=by
 have v2:=a1s 1 (i1 s)
 have v5:=a1s 1 (i3 s)
 have b2:=a8i (a0o 1 (i1 s)) (i2 s)
 have b5:=a8i (a0o 1 (i3 s)) (i5 s)
 unfold a6r
 split
 ·exact⟨by show(a3p _ _).length≤255; omega,by show 0≤255; omega⟩
 ·exact⟨by show(a3p _ _).length≤255; omega,by show(a3p _ _).length≤255; omega⟩
theorem f1j {q r c:Nat}{z:Int}{e e2:TypeId}{s:List UInt8}{h:a0a}(gc:h.get c=some (.cells e2 [.ptr r 0] true)) (g:h.get r=some (.cells e [.str s] true)) (hr:r<h.next) (hc:c<h.next) (hcr:c≠r) (hl:s.length≤100000) (hz:z<1000000000):a0l (TV q) 162 [.int .i64 z,.func (.func 163) [] [.ptr c 0]] h (fun v h'=>a7p r h h'∧match a4v z.toNat s with
  |none=>∃ k:Int,v=.tuple [.nilslice,.int .i64 k]∧k≠0
  |some l=>∃ u,v=.tuple [u,.int .i64 0]∧b3l h.next h' u l∧l.length≤70000∧b5p l):=by
 refine a0r (a1x rfl rfl) rfl rfl ?_
 refine walk ?_
 refine a0n (ι:=Nat×AV×List It×List UInt8) (fun a=>z.toNat-a.1) (fun a=>[(0,.int .i64 z),(1,.func (.func 163) [] [.ptr c 0]),(4,a.2.1),(5,.int .i64 0),(8,.int .i64 z),(9,.int .i64 (a.1:Nat))]) (fun a h2=>a7p r h h2∧h2.get r=some (.cells e [.str a.2.2.2] true)∧b3l h.next h2 a.2.1 a.2.2.1∧a.1=a.2.2.1.length∧3*a.1+a.2.2.2.length≤s.length∧(0<a.1→(a.1:Int)≤z)∧(∀ b∈a.2.2.1,b.key.length≤1000000∧b.val.length≤1000000)∧a4v z.toNat s=(a4v (z.toNat-a.1) a.2.2.2).map (a.2.2.1 ++ ·)) (0,.nilslice,[],s) hsub ⟨⟨Nat.le_refl _,fun _ _ _=>rfl,id⟩,by exact a0g,a9g.nil,rfl,by simp,by simp,by simp,by simp⟩ ?_
 rintro⟨i,u,acc,s'⟩ h2 ⟨t2,g2,ow,ei,len,cnt,nms,par⟩ next
 dsimp only at g2 ow ei len cnt nms par next ⊢
 subst ei
 have n2:=t2.nx
 have gc2:h2.get c=some (.cells e2 [.ptr r 0] true):=(t2.old c hc hcr).trans gc
 by_cases hi:(acc.length:Int)<z
 ·have par':z.toNat-acc.length=(z.toNat-(acc.length+1))+1:=by omega
  rw[par'] at par
  have e0:a4v ((z.toNat-(acc.length+1))+1) s'=if okI s' then(a4v (z.toNat-(acc.length+1)) (a5p s')).map (a6r s' :: ·) else none:=rfl
  rw[e0] at par
  refine walk ?_
  refine a0b (f3r (s:=s') gc2 g2 (by omega) (by omega) (by omega)) rfl rfl rfl (d6b rfl rfl rfl rfl rfl rfl) ?_
  rintro v h3 ⟨t3,c3⟩
  have n3:=t3.nx
  have t23:=t2.trans t3
  unfold e5b at c3
  by_cases oi:okI s'
  case neg =>
   rw[if_neg oi] at c3 par
   obtain⟨x,k,rfl,hk⟩:=c3
   rw[par]
   refine walk ?_
   exact a0d (by exact hres) ⟨⟨by show h.next≤h3.next+1; omega,fun c hc hcr=>by rw[a0a.gn _ _ _ _ (by omega),a0a.ga _ _ _ (by omega),t23.old c hc hcr],fun k'=>a0w (a4n (t23.ok k') _) _ _ (by show h3.next<h3.next+1; omega)⟩,k,rfl,hk⟩
  rw[if_pos oi] at c3 par
  obtain⟨rfl,g3⟩:=c3
  have o3:b3l h.next h3 u acc:=Own.keep ow (fun b h1 h2'=>t3.old b h2' (by omega)) n3
  have o4:b3l h.next ((h3.alloc (.cells 175 [.str [],.str [],.bool false,.int .i64 0,.int .u32 0] true)).set h3.next (.cells 175 (a6r s').cs true)) u acc:=Own.keep o3 (fun b h1 h2'=>by rw[a0a.gn _ _ _ _ (by omega),a0a.ga _ _ _ (by omega)]) (by show h3.next≤h3.next+1; omega)
  obtain⟨v7,h7,e7,o7,k7⟩:=a8g (T:=TV q) (st:=135) (rest:=[135]) (h:=((h3.alloc (.cells 175 [.str [],.str [],.bool false,.int .i64 0,.int .u32 0] true)).set h3.next (.cells 175 (a6r s').cs true)).alloc (.cells 175 (a6r s').cs true)) (x:=a6r s') (c:=h3.next+1) (o4.ext (Ext.alloc _ _)) (a0t _ _) (by show h3.next+1<h3.next+1+1; omega) (by show h.next≤h3.next+1+1; omega) (by omega) rfl rfl rfl rfl rfl (by exact Nat.le_of_ble_eq_true rfl) rfl (by decide) rfl
  have n7:h3.next+1+1≤h7.next:=k7.nx
  have rl:=c3b oi
  have nb:=e0l s'
  refine walk ?_
  have f7:∀ c,c<h.next→h7.get c=h3.get c:=fun c hc=>by rw[k7.old c hc,a0a.ga _ _ _ (by show c≠h3.next+1; omega),a0a.gn _ _ _ _ (by omega),a0a.ga _ _ _ (by omega)]
  refine next (acc.length+1,v7,acc++[a6r s'],a5p s') (by simp only; omega) (by exact hsub) ⟨⟨by omega,fun c hc hcr=>by rw[f7 c hc,t23.old c hc hcr],fun k=>k7.ok (a4n (a0w (a4n (t23.ok k) _) _ _ (by show h3.next<h3.next+1; omega)) _)⟩,?_,o7,by simp,by simp only; omega,by simp only; omega,?_,?_⟩
  ·rw[f7 r hr]; exact g3
  ·simp only
   intro b' hb'
   rcases List.mem_append.1 hb' with p|p
   ·exact nms b' p
   ·obtain rfl:=List.mem_singleton.1 p
    exact⟨by omega,by omega⟩
  ·rw[par]
   simp only[Option.map_map]
   congr 1
   funext x
   simp
 ·have e0:z.toNat-acc.length=0:=by
   rcases Nat.eq_zero_or_pos acc.length with q|q
   ·omega
   ·have:=cnt q; omega
  have e1:a4v z.toNat s=some acc:=by rw[par,e0]; simp[a4v]
  rw[e1]
  refine walk ?_
  exact a0d (by exact hres) ⟨t2,u,rfl,ow,by omega,by omega,nms⟩
noncomputable def ofI (p:Pg):Option (List It):=match a4v p.count.toNat p.body with
 |none=>none
 |some l=>if a8y (p.body.length+24) p.page p.tx l=(p,0) then some l else none
theorem d6d {n:Nat}(hn:5<n){p:Pg}{h:a0a}(hk:h.ok) (hl:p.body.length≤100000) (hc:p.count<1000000000):a0l (TV n) 138 [p.av] h (fun v h'=>Ext h h'∧match ofI p with
  |none=>v=.tuple [.nilslice,.int .i64 4]
  |some l=>∃ u,v=.tuple [u,.int .i64 0]∧b3l h.next h' u l∧b5p l):=by
 refine a0r (a1x rfl rfl) rfl rfl ?_
 refine walk ?_
 refine a0b (a9j p.body _) rfl rfl rfl rfl ?_
 rintro _ _ ⟨rfl,rfl⟩
 refine walk ?_
 refine a0b (f1j (s:=p.body) (r:=h.next+1) (c:=h.next+2) (by exact a0g) (by exact a0g) (by show h.next+1<h.next+1+1+1; omega) (by show h.next+2<h.next+1+1+1; omega) (by omega) hl hc) rfl rfl rfl rfl ?_
 rintro v h3 ⟨t,c3⟩
 have n3:h.next+1+1+1≤h3.next:=t.nx
 have x3:Ext h h3:=⟨by omega,fun c hc=>by rw[t.old c (by show c<h.next+1+1+1; omega) (by omega)]; show a0a.get (a0a.set (a0a.alloc (a0a.alloc (a0a.alloc h _) _) _) _ _) c=h.get c; rw[a0a.gn _ _ _ _ (by show c≠h.next+1+1; omega),a0a.ga _ _ _ (by show c≠h.next+1+1; omega),a0a.ga _ _ _ (by show c≠h.next+1; omega),a0a.ga _ _ _ (by omega)],fun k=>t.ok (a0w (a4n (a4n (a4n k _) _) _) _ _ (by show h.next+1+1<h.next+1+1+1; omega))⟩
 have q0:h3.get h.next=some (.cells 64 p.cs true):=by
  rw[t.old h.next (by show h.next<h.next+1+1+1; omega) (by omega)]
  exact a0g
 have ok3:=x3.ok hk
 clear t
 cases par:a4v p.count.toNat p.body with
 |none =>
  rw[par] at c3
  have key:ofI p=none:=by unfold ofI; rw[par]
  obtain⟨k,rfl,hk'⟩:=c3
  rw[key]
  refine walk ?_
  exact a0d (by exact hres) ⟨by exact a0j,rfl⟩
 |some l =>
  rw[par] at c3
  obtain⟨u,rfl,ls,hl',tm⟩:=c3
  have key:ofI p=if a8y ((p.body.length:Int)+24) p.page p.tx l=(p,0) then some l else none:=by unfold ofI; rw[par]
  have w1:=d7s (n:=n) (by omega) (z:=(p.body.length:Int)+24) (p:=p.page) (tx:=p.tx) (h:=h3) ls.ls ok3 tm
  refine walk ?_
  refine a3e w1 rfl rfl rfl rfl ?_
  generalize a8y ((p.body.length:Int)+24) p.page p.tx l=r at key ⊢
  obtain⟨r1,r2⟩:=r
  by_cases c1:r2=0
  case neg =>
   rw[key,if_neg fun e=>c1 (congrArg Prod.snd e)]
   refine walk ?_
   exact a0d (by exact hres) ⟨by exact a0j,rfl⟩
  subst c1
  refine walk ?_
  refine a1k rfl rfl rfl (a3n rfl rfl rfl (a8s (a5j r1 p) rfl) rfl) ?_
  by_cases c2:r1=p
  ·rw[key,if_pos (by rw[c2])]
   refine walk ?_
   exact a0d (by exact hres) ⟨by exact a0j,u,rfl,Own.lo (Own.ext ls (by exact a0j)) (by show h.next≤h.next+1+1+1; omega),tm⟩
  ·rw[key,if_neg fun e=>c2 (congrArg Prod.fst e)]
   refine walk ?_
   exact a0d (by exact hres) ⟨by exact a0j,rfl⟩
end Go.Proofs.YtejfbaecadbdiaaGreat
