/- What the functions of this part answer at any input, told by the rules over the evaluator. Conditions: those that each theorem states. -/
import Derived.Test.YtejfbaecadbdiaaGreatCat
import Derived.Test.YtejfbaecadbdiaaGreatGap
set_option linter.unusedVariables false
set_option linter.unusedSimpArgs false
open Go Ev
namespace Go.Proofs.YtejfbaecadbdiaaGreat
set_option maxRecDepth 10000
set_option maxHeartbeats 4000000
structure Fk where
 key:List UInt8
 child:Nat
def Fk.cs (b:Fk):List AV:=[.str b.key,.int .u32 b.child]
abbrev LsF (h:a0a) (v:AV) (l:List Fk):Prop:=Ls Fk.cs 2 h v l
abbrev c4y (lo:Nat) (h:a0a) (v:AV) (l:List Fk):Prop:=a9g Fk.cs 147 2 lo h v l
theorem Fk.len (b:Fk):b.cs.length=2:=rfl
def b1g (s:List UInt8):Prop:=s.length≤40
instance (s:List UInt8):Decidable (b1g s):=inferInstanceAs (Decidable (_≤_))
theorem c9r {n:Nat}(hn:0<n) (s:List UInt8) (h:a0a):(TV n).sm 209 [.str s] h=some (.bool (decide (b1g s)),h):=by
 refine a3b hn rfl rfl rfl fun n hn=>a0s rfl rfl ?_
 unfold b1g
 exact auto
theorem d1p {n:Nat}(hn:0<n) (p:Nat) (h:a0a):(TV n).sm 181 [.int .u32 p] h=some (.bool (decide (num p)),h):=by
 refine a3b hn rfl rfl rfl fun n hn=>a0s rfl rfl ?_
 unfold num
 exact auto
def a3u (l:List Fk):Nat:=(l.map fun b=>5+b.key.length).sum
theorem b8m (l:List Fk) (hb:∀ b∈l,b.key.length≤1000000):a3u l≤l.length*1000005:=by
 induction l with
 |nil=>simp[a3u]
 |cons a l ih =>
  have h1:=hb a (List.mem_cons_self ..)
  have h2:=ih fun b h=>hb b (List.mem_cons_of_mem _ h)
  simp only[a3u,List.map_cons,List.sum_cons,List.length_cons] at h2 ⊢
  omega
theorem c4i (l:List Fk) (i:Nat) (b:Fk) (h:l[i]?=some b):a3u (l.take (i+1))=a3u (l.take i)+(5+b.key.length):=by
 rw[List.take_add_one,h]
 simp[a3u]
def b7y (l:List Fk):Prop:=l.length≤70000∧∀ b∈l,b.key.length≤1000000
theorem d0x {l:List Fk}(t:b7y l){i:Nat}{b:Fk}(h:l[i]?=some b):b.key.length≤1000000:=t.2 b (List.mem_of_getElem? h)
theorem d8z {n:Nat}(hn:0<n){v:AV}{l:List Fk}{h:a0a}(ls:LsF h v l) (hk:h.ok) (t:b7y l):(TV n).sm 180 [v] h=some (.int .i64 (a3u l),h):=by
 refine a9d hn (fun h=>h.ok∧LsF h v l) rfl rfl ⟨hk,ls⟩ (fun hp=>⟨a2f,ls.any (by simpa [AV.a1q,AV.plain] using hp)⟩) ?_
 clear hk ls h
 rintro n hn h ⟨hk,ls⟩
 refine a0s rfl rfl ?_
 have hlen:=ls.len
 refine walk ?_
 refine a0n (fun i=>l.length-i) (fun i=>[(2,.int .i64 (a3u (l.take i))),(5,v),(7,.int .i64 (i:Nat)),(6,.int .i64 l.length)]) (fun i h2=>i≤l.length∧Ext h h2) 0 hsub ⟨by omega,.refl h⟩ ?_
 rintro i h2 ⟨hi,x2⟩ next
 have t1:=t.1
 have bd:=b8m (l.take i) fun b hb=>t.2 b (List.mem_of_mem_take hb)
 rw[List.length_take] at bd
 by_cases hil:i<l.length
 ·obtain⟨y,hy⟩:∃ y,l[i]?=some y:=⟨l[i],List.getElem?_eq_getElem hil⟩
  obtain⟨b,p,e,all,rw',hb,hg,hpl,he,a1⟩:=(ls.ext x2).at Fk.len hy
  have ty:=d0x t hy
  refine walk ?_
  refine next (i+1) (by omega) ?_ ⟨by omega,a0j⟩
  rw[c4i l i y hy]
  exact hsub
 ·refine walk ?_
  have e:l.take i=l:=List.take_of_length_le (by omega)
  rw[e]
  exact a0e hres ⟨rfl,a0j⟩
def okB (l:List Fk):Prop:=∀ i b,l[i]?=some b→b1g b.key∧num b.child∧(0<i→∀ a,l[i-1]?=some a→bytesLess a.key b.key=true)
def b3q (l:List Fk):Prop:=okB l∧0<l.length
noncomputable instance (l:List Fk):Decidable (b3q l):=Classical.propDecidable _
theorem e0g {n:Nat}(hn:1<n){v:AV}{l:List Fk}{h:a0a}(ls:LsF h v l) (hk:h.ok) (t:b7y l):(TV n).sm 179 [v] h=some (.bool (decide (b3q l)),h):=by
 refine a9d hn (fun h=>h.ok∧LsF h v l) rfl rfl ⟨hk,ls⟩ (fun hp=>⟨a2f,ls.any (by simpa [AV.a1q,AV.plain] using hp)⟩) ?_
 clear hk ls h
 rintro n hn h ⟨hk,ls⟩
 refine a0s rfl rfl ?_
 have hlen:=ls.len
 have t1:=t.1
 refine walk ?_
 refine a0n (fun i=>l.length-i) (fun i=>[(0,v),(5,v),(7,.int .i64 (i:Nat)),(6,.int .i64 l.length)]) (fun i h2=>i≤l.length∧Ext h h2∧∀ j,j<i→∀ b,l[j]?=some b→b1g b.key∧num b.child∧(0<j→∀ a,l[j-1]?=some a→bytesLess a.key b.key=true)) 0 hsub ⟨by omega,.refl h,fun j hj=>by omega⟩ ?_
 rintro i h2 ⟨hi,x2,inv⟩ next
 have ok2:=x2.ok hk
 have nx:=x2.nx
 by_cases hil:i<l.length
 ·obtain⟨y,hy⟩:∃ y,l[i]?=some y:=⟨l[i],List.getElem?_eq_getElem hil⟩
  obtain⟨b,p,e,all,rw',hb,hg,hpl,he,a1⟩:=(ls.ext x2).at Fk.len hy
  have w1:=c9r (n:=n) (by omega) y.key
  have w2:=d1p (n:=n) (by omega) y.child
  by_cases c1:b1g y.key
  case neg =>
   have bad:¬ b3q l:=fun m=>c1 (m.1 i y hy).1
   refine walk ?_
   refine a0c (q:=25) (ms:=[0,1,3,7,15,31,63,127,255,511,1023,2047,4095,8191,16383,16383,49151,131071,262143,524287,16383,1064959,4194303,8388607,16777215]) (hl:=[[],[],[],[],[],[],[],[],[],[],[],[],[],[],[27,28,32,33],[26,32,33],[26,32,33],[32,33],[32,33],[32,33],[26,27,28,29,30,31],[26,27,28,29,30,31],[],[],[]]) hok rfl (by kernel_rfl) (by kernel_rfl) rfl ?_
   refine walk ?_
   exact a0e hres ⟨a3w bad,a0j⟩
  by_cases c1':num y.child
  case neg =>
   have bad:¬ b3q l:=fun m=>c1' (m.1 i y hy).2.1
   refine walk ?_
   refine a0c (q:=25) (ms:=[0,1,3,7,15,31,63,127,255,511,1023,2047,4095,8191,16383,16383,49151,131071,262143,524287,16383,1064959,4194303,8388607,16777215]) (hl:=[[],[],[],[],[],[],[],[],[],[],[],[],[],[],[27,28,32,33],[26,32,33],[26,32,33],[32,33],[32,33],[32,33],[26,27,28,29,30,31],[26,27,28,29,30,31],[],[],[]]) hok rfl (by kernel_rfl) (by kernel_rfl) rfl ?_
   refine walk ?_
   exact a0e hres ⟨a3w bad,a0j⟩
  rcases Nat.eq_zero_or_pos i with rfl|hi0
  ·refine walk ?_
   refine a0c (q:=25) (ms:=[0,1,3,7,15,31,63,127,255,511,1023,2047,4095,8191,16383,16383,49151,131071,262143,524287,16383,1064959,4194303,8388607,16777215]) (hl:=[[],[],[],[],[],[],[],[],[],[],[],[],[],[],[27,28,32,33],[26,32,33],[26,32,33],[32,33],[32,33],[32,33],[26,27,28,29,30,31],[26,27,28,29,30,31],[],[],[]]) hok rfl (by kernel_rfl) (by kernel_rfl) rfl ?_
   refine walk ?_
   refine next 1 (by omega) hsub ⟨by omega,a0j,fun j hj b hb=>?_⟩
   obtain rfl:j=0:=by omega
   rw[hy] at hb; cases hb
   exact⟨c1,c1',fun h0=>by omega⟩
  obtain⟨j,rfl⟩:∃ j,i=j+1:=⟨i-1,by omega⟩
  obtain⟨a,ha⟩:∃ a,l[j]?=some a:=⟨l[j],List.getElem?_eq_getElem (by omega)⟩
  obtain⟨b',p',e',all',rw2,hb',hg',hpl',he',a2⟩:=(ls.ext x2).at Fk.len ha
  cases c2:bytesLess a.key y.key with
  |false =>
   have c3:(!bytesLess a.key y.key)=true:=by rw[c2]; rfl
   have bad:¬ b3q l:=fun m=>by
    have:=(m.1 (j+1) y hy).2.2 (by omega) a ha
    rw[c2] at this; cases this
   refine walk ?_
   refine a0c (q:=25) (ms:=[0,1,3,7,15,31,63,127,255,511,1023,2047,4095,8191,16383,16383,49151,131071,262143,524287,16383,1064959,4194303,8388607,16777215]) (hl:=[[],[],[],[],[],[],[],[],[],[],[],[],[],[],[27,28,32,33],[26,32,33],[26,32,33],[32,33],[32,33],[32,33],[26,27,28,29,30,31],[26,27,28,29,30,31],[],[],[]]) hok rfl (by kernel_rfl) (by kernel_rfl) rfl ?_
   refine walk ?_
   exact a0e hres ⟨a3w bad,a0j⟩
  |true =>
   have c3:(!bytesLess a.key y.key)=false:=by rw[c2]; rfl
   refine walk ?_
   refine a0c (q:=25) (ms:=[0,1,3,7,15,31,63,127,255,511,1023,2047,4095,8191,16383,16383,49151,131071,262143,524287,16383,1064959,4194303,8388607,16777215]) (hl:=[[],[],[],[],[],[],[],[],[],[],[],[],[],[],[27,28,32,33],[26,32,33],[26,32,33],[32,33],[32,33],[32,33],[26,27,28,29,30,31],[26,27,28,29,30,31],[],[],[]]) hok rfl (by kernel_rfl) (by kernel_rfl) rfl ?_
   refine walk ?_
   refine next (j+1+1) (by omega) hsub ⟨by omega,a0j,fun k hk' b hb=>?_⟩
   rcases Nat.lt_or_ge k (j+1) with q|q
   ·exact inv k q b hb
   ·obtain rfl:k=j+1:=by omega
    rw[hy] at hb; cases hb
    refine⟨c1,c1',fun _ a' ha'=>?_⟩
    have ha':l[j]?=some a':=ha'
    rw[ha] at ha'; cases ha'
    exact c2
 ·have fin:okB l:=fun j b hb=>inv j (by
   rcases Nat.lt_or_ge j l.length with q|q
   ·omega
   ·rw[List.getElem?_eq_none q] at hb; cases hb) b hb
  have e:b3q l↔0<l.length:=⟨fun m=>m.2,fun m=>⟨fin,m⟩⟩
  refine walk ?_
  refine a0e hres ⟨?_,a0j⟩
  by_cases q:0<l.length
  ·exact(congrArg AV.bool (decide_eq_true (show(0:Int)<l.length by omega))).trans (b5l (e.2 q))
  ·exact(congrArg AV.bool (decide_eq_false (show ¬ (0:Int)<l.length by omega))).trans (a3w fun m=>q (e.1 m))
def d7z (b:Fk):List UInt8:=leb b.key.length 1++b.key++leb b.child 4
def b6d (l:List Fk):List UInt8:=l.flatMap d7z
theorem e4l (b:Fk):(d7z b).length=5+b.key.length:=by simp[d7z,a1c]; omega
theorem c5h (l:List Fk):(b6d l).length=a3u l:=by
 induction l with
 |nil=>rfl
 |cons a l ih=>unfold b6d at ih ⊢; rw[List.flatMap_cons,List.length_append,ih,e4l]; simp[a3u]
theorem c3v (l:List Fk) (i:Nat) (b:Fk) (h:l[i]?=some b):b6d (l.take (i+1))=b6d (l.take i)++d7z b:=by
 rw[List.take_add_one,h]
 simp[b6d]
theorem c2g (l:List Fk) (i:Nat):a3u (l.take i)≤a3u l:=by
 have e:a3u l=a3u (l.take i)+a3u (l.drop i):=by
  rw[show a3u l=a3u (l.take i++l.drop i) by rw[List.take_append_drop]]
  simp only[a3u,List.map_append,List.sum_append]
 omega
noncomputable def b1t (z:Int) (p tx:Nat) (l:List Fk):Pg×Int:=if b3q l∧(a3u l:Int)≤room z∧num p∧tx≤4611686018427387904 then(⟨3,l.length,p,0,tx,b8i z (b6d l)⟩,0) else(Pg.zero,2)
theorem room_le (z:Int):0≤room z∧room z≤4072:=by
 unfold room
 split
 ·rename_i g
  have:=g.1
  have:=g.2.1
  omega
 ·omega
theorem d8u {n:Nat}(hn:4<n){z:Int}{p tx:Nat}{v:AV}{l:List Fk}{h:a0a}(ls:LsF h v l) (hk:h.ok) (t:b7y l):(TV n).sm 161 [.int .i64 z,.int .u32 p,.int .u64 tx,v] h=some (.tuple [(b1t z p tx l).1.av,.int .i64 (b1t z p tx l).2],h):=by
 refine a9d hn (fun h=>h.ok∧LsF h v l) rfl rfl ⟨hk,ls⟩ (fun hp=>⟨a2f,ls.any (by simpa [AV.a1q,AV.plain] using hp)⟩) ?_
 clear hk ls h
 rintro n hn h ⟨hk,ls⟩
 refine a0s rfl rfl ?_
 have hlen:=ls.len
 have t1:=t.1
 have w2:=d1p (n:=n) (by omega) p
 have w1:=b6k (n:=n) (by omega) z
 have x0:Ext h (h.alloc (.cells 64 Pg.zero.cs true)):=Ext.alloc _ _
 have w3:=e0g (n:=n) (by omega) (ls.ext x0) (x0.ok hk) t
 have w4:=d8z (n:=n) (by omega) (ls.ext x0) (x0.ok hk) t
 have bs:=b8m l t.2
 have rz:=room_le z
 unfold b1t
 refine walk ?_
 refine a3e w3 rfl rfl rfl rfl ?_
 by_cases c:b3q l∧(a3u l:Int)≤room z∧num p∧tx≤4611686018427387904
 case neg =>
  rw[if_neg c]
  by_cases c1:b3q l
  ·refine walk ?_
   refine a3e w4 rfl rfl rfl rfl ?_
   by_cases c2:(a3u l:Int)≤room z
   ·by_cases c3:num p
    ·have c4:¬ tx≤4611686018427387904:=fun c4=>c ⟨c1,c2,c3,c4⟩
     exact auto
    ·exact auto
   ·exact auto
  ·exact auto
 rw[if_pos c]
 obtain⟨c1,c2,c3,c4⟩:=c
 refine walk ?_
 refine a3e w4 rfl rfl rfl rfl ?_
 refine walk ?_
 refine a0n (ι:=Nat×AV) (fun a=>l.length-a.1) (fun a=>[(0,.int .i64 z),(1,.int .u32 p),(2,.int .u64 tx),(3,v),(8,.ptr h.next 0),(10,a.2),(35,v),(36,.int .i64 l.length),(37,.int .i64 (a.1:Nat))]) (fun a h2=>a.1≤l.length∧Ext (h.alloc (.cells 64 Pg.zero.cs true)) h2∧a2t 5 (h.next+1) h2 a.2 (b6d (l.take a.1))) (0,.nilslice) hsub ⟨by omega,.refl _,a2t.nil⟩ ?_
 rintro⟨i,u⟩ h2 ⟨hi,x2,ow⟩ next
 dsimp only at hi ow next ⊢
 have nx2:h.next+1≤h2.next:=x2.nx
 have g8:h2.get h.next=some (.cells 64 Pg.zero.cs true):=(x2.old _ (by show h.next<h.next+1; omega)).trans (a0t _ _)
 have ok2:=x2.ok (x0.ok hk)
 have hsz:(b6d (l.take i)).length≤4072:=by
  have:=c2g l i
  rw[c5h]; omega
 by_cases hil:i<l.length
 ·obtain⟨y,hy⟩:∃ y,l[i]?=some y:=⟨l[i],List.getElem?_eq_getElem hil⟩
  obtain⟨b,p',e,all,rw',hb,hg,hpl,he,a1⟩:=((ls.ext x0).ext x2).at Fk.len hy
  have ky:y.key.length≤40:=(c1.1 i y hy).1
  have rb:y.child≤2147483647:=(c1.1 i y hy).2.1.2
  have ycs:y.cs=[.str y.key,.int .u32 y.child]:=rfl
  rw[ycs] at he
  refine walk ?_
  refine a0c (q:=10) (ms:=[0,0,2,6,14,31,0,64,255,511]) (hl:=[[42,43,44,45,47,48],[41,47,48],[41,47,48],[41,47,48],[41,47,48],[47,48],[41,42,43,44,45,46],[41,42,43,44,45,46],[],[]]) hok rfl (by kernel_rfl) (by kernel_rfl) rfl ?_
  refine walk ?_
  refine a2i (a2m (ow.by.ext (by exact a0j)) (by omega) (by decide) (by decide) (by omega) ow.by.ns) rfl rfl rfl rfl rfl rfl ?_
  rintro v1 g1 ⟨o1,x1⟩
  have nx1:h2.next+1+10≤g1.next:=x1.nx
  obtain⟨v2,g2,e2,o2,k2⟩:=ast (q:=n) (lo:=h2.next+1+10) (r:=y.key) o1 (by simp[a1c]; omega)
  have nx2':=k2.nx
  refine walk ?_
  refine a0b (a2m o2.by (by omega) (by decide) (by decide) (by simp[a1c]; omega) o2.by.ns) rfl rfl rfl rfl ?_
  rintro v5 g5 ⟨o5,x5⟩
  have nx5:=x5.nx
  refine walk ?_
  refine next (i+1,v5) (by simp only; omega) hsub ⟨by simp only; omega,by exact a0j,?_⟩
  simp only
  rw[c3v l i y hy]
  have o6:=a2t.lo o5 (show h.next+1≤g2.next by omega)
  simpa [d7z] using o6
 ·have e1:l.take i=l:=List.take_of_length_le (by omega)
  rw[e1] at ow
  have w5:=b6p (n:=n) (by omega) (z:=z) ow.by ok2 ow.by.ns
  rw[a4j] at w5
  refine walk ?_
  refine a3e w5 rfl rfl rfl rfl ?_
  refine walk ?_
  exact a0d (by exact hres) ⟨rfl,by exact a0j⟩
def c8j:AV:=.iface 221 (.agg [])
theorem d2g {q:Nat}(x:Int) (h:a0a):a0l (TV q) 177 [.int .u64 x,.int .i64 0] h (fun v h'=>v=.int .u64 x∧h'=h):=by
 refine a0r (a1x rfl rfl) rfl rfl ?_
 refine walk ?_
 exact a0e hres ⟨rfl,rfl⟩
theorem e1n {q:Nat}(x:List UInt8) (h:a0a):a0l (TV q) 178 [.str x,.int .i64 0] h (fun v h'=>v=.str x∧h'=h):=by
 refine a0r (a1x rfl rfl) rfl rfl ?_
 refine walk ?_
 exact a0e hres ⟨rfl,rfl⟩
theorem d6v {q:Nat}(x:Int) (h:a0a):Wp (TV q) (.call 177 [.int .u64 x,.int .i64 7] h) (fun r=>(∃ v h2,r=.ret v h2∧False)∨∃ v h2,r=.thrown v h2∧v=c8j∧h2=h):=by
 refine a4k (a1x rfl rfl) rfl rfl ?_
 refine walk ?_
 exact a8k rfl rfl fun tm hs=>a1g rfl (.inr ⟨_,_,rfl,rfl,rfl⟩)
theorem e5o {q:Nat}(x:List UInt8) (h:a0a):Wp (TV q) (.call 178 [.str x,.int .i64 7] h) (fun r=>(∃ v h2,r=.ret v h2∧False)∨∃ v h2,r=.thrown v h2∧v=c8j∧h2=h):=by
 refine a4k (a1x rfl rfl) rfl rfl ?_
 refine walk ?_
 exact a8k rfl rfl fun tm hs=>a1g rfl (.inr ⟨_,_,rfl,rfl,rfl⟩)
def okF (s:List UInt8):Prop:=1≤s.length∧a0o 1 s≤(a0h 1 s).length∧4≤(a0h (a0o 1 s) (a0h 1 s)).length
instance (s:List UInt8):Decidable (okF s):=inferInstanceAs (Decidable (_∧_))
def c3y (s:List UInt8):Fk:=⟨a3p (a0o 1 s) (a0h 1 s),a0o 4 (a0h (a0o 1 s) (a0h 1 s))⟩
def b4h (s:List UInt8):List UInt8:=a0h 4 (a0h (a0o 1 s) (a0h 1 s))
theorem a4b {n:Nat}{s:List UInt8}(h:n≤s.length):b3n n s=0:=by unfold b3n; rw[if_pos h]
theorem a5k {n:Nat}{s:List UInt8}(h:¬ n≤s.length):b3n n s=7:=by unfold b3n; rw[if_neg h]
theorem f1r {q r:Nat}{e:TypeId}{s:List UInt8}{h:a0a}(g:h.get r=some (.cells e [.str s] true)) (hr:r<h.next) (hl:s.length<1000000) (ok:okF s):a0l (TV q) 160 [.agg [.ptr r 0]] h (fun v h'=>v=.agg (c3y s).cs∧h'.get r=some (.cells e [.str (b4h s)] true)∧h.next≤h'.next∧(∀ c,c<h.next→c≠r→h'.get c=h.get c)∧(h.ok→h'.ok)):=by
 refine a0r (a1x rfl rfl) rfl rfl ?_
 obtain⟨o1,o2,o3⟩:=ok
 have v1:=a1s 1 s
 have v2:=a1s 4 (a0h (a0o 1 s) (a0h 1 s))
 have l1:=a1b 1 s
 have l2:=a1b (a0o 1 s) (a0h 1 s)
 refine walk ?_
 refine a0b (a8p (n:=1) (b:=r) (s:=s) (by exact a0g) (by show r<h.next+1+1; omega) (by omega) (by decide) (by decide)) rfl rfl rfl rfl ?_
 rintro _ h3 ⟨rfl,u3⟩
 have n3:h3.next=h.next+1+1:=u3.nx
 rw[a4b o1]
 refine walk ?_
 refine a0b (d2g _ _) rfl rfl rfl rfl ?_
 rintro _ h3 ⟨rfl,rfl⟩
 refine walk ?_
 refine a0b (d0z (n:=a0o 1 s) (s:=a0h 1 s) u3.got (by omega) (by omega) (by omega)) rfl rfl rfl rfl ?_
 rintro _ h4 ⟨rfl,u4⟩
 have n4:=u4.nx
 rw[a4b o2]
 refine walk ?_
 refine a0b (e1n _ _) rfl rfl rfl rfl ?_
 rintro _ h4 ⟨rfl,rfl⟩
 refine walk ?_
 refine a0b (a8p (n:=4) (s:=a0h (a0o 1 s) (a0h 1 s)) u4.got (by omega) (by omega) (by decide) (by decide)) rfl rfl rfl rfl ?_
 rintro _ h5 ⟨rfl,u5⟩
 have n5:=u5.nx
 rw[a4b o3]
 refine walk ?_
 refine a0b (d2g _ _) rfl rfl rfl rfl ?_
 rintro _ h5 ⟨rfl,rfl⟩
 refine walk ?_
 refine a0e (v:=.agg (c3y s).cs) (by exact hres) ⟨rfl,by exact a0g,by show h.next≤h5.next; omega,fun c hc hcr=>?_,fun k=>?_⟩
 ·rw[a0a.gn _ _ _ _ (by show c≠h.next+1; omega),u5.old c hcr,u4.old c hcr,u3.old c hcr,a0a.ga _ _ _ (by show c≠h.next+1; omega),a0a.ga _ _ _ (by omega)]
 ·exact a0w (u5.ok (u4.ok (u3.ok (a4n (a4n k _) _)))) _ _ (by show h.next+1<h5.next; omega)
theorem e3w {q r:Nat}{e:TypeId}{s:List UInt8}{h:a0a}(g:h.get r=some (.cells e [.str s] true)) (hr:r<h.next) (hl:s.length<1000000) (ok:¬ okF s):Wp (TV q) (.call 160 [.agg [.ptr r 0]] h) fun x=>∃ v h',x=.thrown v h'∧v=c8j∧h.next≤h'.next∧(∀ c,c<h.next→c≠r→h'.get c=h.get c)∧(h.ok→h'.ok):=by
 refine a4k (a1x rfl rfl) rfl rfl ?_
 have v1:=a1s 1 s
 have v2:=a1s 4 (a0h (a0o 1 s) (a0h 1 s))
 have l1:=a1b 1 s
 have l2:=a1b (a0o 1 s) (a0h 1 s)
 refine walk ?_
 refine a0b (a8p (n:=1) (b:=r) (s:=s) (by exact a0g) (by show r<h.next+1+1; omega) (by omega) (by decide) (by decide)) rfl rfl rfl rfl ?_
 rintro _ h3 ⟨rfl,u3⟩
 have n3:h3.next=h.next+1+1:=u3.nx
 have f3:∀ c,c<h.next→c≠r→h3.get c=h.get c:=fun c hc hcr=>by rw[u3.old c hcr,a0a.ga _ _ _ (by show c≠h.next+1; omega),a0a.ga _ _ _ (by omega)]
 have k3:h.ok→h3.ok:=fun k=>u3.ok (a4n (a4n k _) _)
 by_cases o1:1≤s.length
 case neg =>
  rw[a5k o1]
  refine walk ?_
  refine a1p (d6v _ _) rfl rfl rfl rfl (fun _ _ f=>f.elim) ?_
  rintro _ h4 ⟨rfl,rfl⟩ tm hs
  exact a1g rfl ⟨_,_,rfl,rfl,by show h.next≤h4.next; omega,f3,k3⟩
 rw[a4b o1]
 refine walk ?_
 refine a0b (d2g _ _) rfl rfl rfl rfl ?_
 rintro _ h3 ⟨rfl,rfl⟩
 refine walk ?_
 refine a0b (d0z (n:=a0o 1 s) (s:=a0h 1 s) u3.got (by omega) (by omega) (by omega)) rfl rfl rfl rfl ?_
 rintro _ h4 ⟨rfl,u4⟩
 have n4:=u4.nx
 have f4:∀ c,c<h.next→c≠r→h4.get c=h.get c:=fun c hc hcr=>by rw[u4.old c hcr,f3 c hc hcr]
 by_cases o2:a0o 1 s≤(a0h 1 s).length
 case neg =>
  rw[a5k o2]
  refine walk ?_
  refine a1p (e5o _ _) rfl rfl rfl rfl (fun _ _ f=>f.elim) ?_
  rintro _ h5 ⟨rfl,rfl⟩ tm hs
  exact a1g rfl ⟨_,_,rfl,rfl,by show h.next≤h5.next; omega,f4,fun k=>u4.ok (k3 k)⟩
 rw[a4b o2]
 refine walk ?_
 refine a0b (e1n _ _) rfl rfl rfl rfl ?_
 rintro _ h4 ⟨rfl,rfl⟩
 refine walk ?_
 refine a0b (a8p (n:=4) (s:=a0h (a0o 1 s) (a0h 1 s)) u4.got (by omega) (by omega) (by decide) (by decide)) rfl rfl rfl rfl ?_
 rintro _ h5 ⟨rfl,u5⟩
 have n5:=u5.nx
 have f5:∀ c,c<h.next→c≠r→h5.get c=h.get c:=fun c hc hcr=>by rw[u5.old c hcr,f4 c hc hcr]
 rw[a5k fun o3=>ok ⟨o1,o2,o3⟩]
 refine walk ?_
 refine a1p (d6v _ _) rfl rfl rfl rfl (fun _ _ f=>f.elim) ?_
 rintro _ h6 ⟨rfl,rfl⟩ tm hs
 exact a1g rfl ⟨_,_,rfl,rfl,by show h.next≤h6.next; omega,f5,fun k=>u5.ok (u4.ok (k3 k))⟩
def a5x:Nat→List UInt8→Option (List Fk)
 |0,_=>some []
 |k+1,s=>if okF s then(a5x k (b4h s)).map (c3y s :: ·) else none
noncomputable def ofB (p:Pg):Option (List Fk):=match a5x p.count.toNat p.body with
 |none=>none
 |some l=>if b1t (p.body.length+24) p.page p.tx l=(p,0) then some l else none
theorem b8t {q b2 b3:Nat}{tm:Tr AV}{L:List (Nat×AV)}{h:a0a}{x y:AV}(hs:a0m tm L) (h2:Ev.look L 2=some (.ptr b2 0)) (h3:Ev.look L 3=some (.ptr b3 0)) (g2:h.get b2=some (.cells 132 [x] true)) (g3:h.get b3=some (.cells 43 [y] true)){Q:Res→Prop}(c:Q (.ret (.tuple [x,y]) h)) :
  Wp (TV q) (.leave 137 tm [.fn (.func 159) [.ptr b2 0,.ptr b3 0] []] none h) Q:=by
 refine b4y rfl rfl rfl rfl ?_
 refine b0d ?_
 refine a7z ?_
 refine b4c rfl rfl rfl rfl rfl ?_
 refine walk ?_
 refine b5f ?_
 exact a1z (vs:=[x,y]) hs rfl (a0x h2 (a2p rfl rfl g2) (a0x h3 (a2p rfl rfl g3) rfl)) c
theorem d0v {q b2 b3:Nat}{tm:Tr AV}{L:List (Nat×AV)}{h:a0a}{x y:AV}(hs:a0m tm L) (h2:Ev.look L 2=some (.ptr b2 0)) (h3:Ev.look L 3=some (.ptr b3 0)) (g2:h.get b2=some (.cells 132 [x] true)) (g3:h.get b3=some (.cells 43 [y] true)) (n23:b3≠b2) (l2:b2<h.next) (l3:b3<h.next){Q:Res→Prop}
  (c:∀ h',h.next≤h'.next→(∀ c,c<h.next→c≠b2→c≠b3→h'.get c=h.get c)→(h.ok→h'.ok)→Q (.ret (.tuple [.nilslice,.int .i64 4]) h')) :
  Wp (TV q) (.leave 137 tm [.fn (.func 159) [.ptr b2 0,.ptr b3 0] []] (some (c8j,false)) h) Q:=by
 refine b4y rfl rfl rfl rfl ?_
 refine b0d ?_
 refine a7z ?_
 refine b6r rfl rfl rfl rfl rfl ?_
 refine walk ?_
 refine b5f ?_
 refine a1z (vs:=[.nilslice,.int .i64 4]) hs rfl (a0x h2 (a2p rfl rfl a0g) (a0x h3 (a2p rfl rfl (a0a.gs _ _ _)) rfl)) (c _ (by show h.next≤h.next+1; omega) (fun c hc h2' h3'=>?_) (fun k=>?_))
 ·rw[a0a.gn _ _ _ _ h3',a0a.gn _ _ _ _ h2',a0a.gn _ _ _ _ (by omega),a0a.ga _ _ _ (by omega)]
 ·exact a0w (a0w (a0w (a4n k _) _ _ (by show h.next<h.next+1; omega)) _ _ (by show b2<h.next+1; omega)) _ _ (by show b3<h.next+1; omega)
theorem d5r {n:Nat}(hn:6<n){p:Pg}{h:a0a}(hk:h.ok) (hl:p.body.length≤100000) (hc:p.count<1000000000):a0l (TV n) 137 [p.av] h (fun v h'=>Ext h h'∧match ofB p with
  |none=>v=.tuple [.nilslice,.int .i64 4]
  |some l=>∃ u,v=.tuple [u,.int .i64 0]∧c4y h.next h' u l):=by
 refine a4k (a1x rfl rfl) rfl rfl ?_
 refine walk ?_
 refine c2j rfl rfl rfl rfl ?_
 refine walk ?_
 refine a0b (a9j p.body _) rfl rfl rfl rfl ?_
 rintro _ _ ⟨rfl,rfl⟩
 refine walk ?_
 refine a0n (ι:=Nat×AV×List Fk×List UInt8) (fun a=>p.count.toNat-a.1) (fun a=>[(1,.ptr h.next 0),(2,.ptr (h.next+1) 0),(3,.ptr (h.next+2) 0),(4,.ptr (h.next+4) 0),(13,.int .i64 p.count),(14,.int .i64 (a.1:Nat))]) (fun a h2=>Ext h h2∧h.next+5≤h2.next∧h2.get h.next=some (.cells 64 p.cs true)∧h2.get (h.next+1)=some (.cells 132 [a.2.1] true)∧h2.get (h.next+2)=some (.cells 43 [.int .i64 0] true)∧h2.get (h.next+3)=some (.cells 201 [.str a.2.2.2] true)∧h2.get (h.next+4)=some (.cells 223 [.ptr (h.next+3) 0] true)∧c4y (h.next+5) h2 a.2.1 a.2.2.1∧a.1=a.2.2.1.length∧4*a.1+a.2.2.2.length≤p.body.length∧(0<a.1→(a.1:Int)≤p.count)∧(∀ b∈a.2.2.1,b.key.length≤1000000)∧a5x p.count.toNat p.body=(a5x (p.count.toNat-a.1) a.2.2.2).map (a.2.2.1 ++ ·)) (0,.nilslice,[],p.body) hsub ⟨by exact a0j,by show h.next+5≤h.next+1+1+1+1+1; omega,by exact a0g,by exact a0g,by exact a0g,by exact a0g,by exact a0g,a9g.nil,rfl,by simp,by simp,by simp,by simp⟩ ?_
 rintro⟨i,u,acc,s⟩ h2 ⟨x2,n2,g0,g1,g2,g3,g4,ow,ei,len,cnt,nms,par⟩ next
 dsimp only at g1 g3 ow ei len nms par next cnt ⊢
 subst ei
 have ok2:=x2.ok hk
 by_cases hi:(acc.length:Int)<p.count
 ·have par':p.count.toNat-acc.length=(p.count.toNat-(acc.length+1))+1:=by omega
  rw[par'] at par
  have e0:a5x ((p.count.toNat-(acc.length+1))+1) s=if okF s then(a5x (p.count.toNat-(acc.length+1)) (b4h s)).map (c3y s :: ·) else none:=rfl
  rw[e0] at par
  by_cases c:okF s
  case neg =>
   have e4:ofB p=none:=by unfold ofB; rw[par,if_neg c]; rfl
   rw[e4]
   refine walk ?_
   refine c8g (q:=6) (ms:=[0,0,2,6,15,31]) (hl:=[[17,18,19],[16],[16],[16],[],[]]) hok rfl (by kernel_rfl) (by kernel_rfl) rfl ?_
   refine e2z rfl rfl rfl rfl opa ?_
   refine e2z rfl rfl rfl rfl opa ?_
   refine d7e (l:=[]) rfl (e3w (q:=n) (r:=h.next+3) (s:=s) (by exact a0g) (by show h.next+3<h2.next+6; omega) (by omega) c) rfl rfl rfl rfl ?_
   rintro _ h3 ⟨rfl,n3,f3,k3⟩
   have n3:h2.next+6≤h3.next:=n3
   have q1:h3.get (h.next+1)=some (.cells 132 [u] true):=(f3 _ (by show h.next+1<h2.next+6; omega) (by omega)).trans g1
   have q2:h3.get (h.next+2)=some (.cells 43 [.int .i64 0] true):=(f3 _ (by show h.next+2<h2.next+6; omega) (by omega)).trans g2
   refine⟨fun tm' hs=>?_,by exact hms,_,rfl,by exact hall⟩
   refine d0v hs rfl rfl q1 q2 (by omega) (by omega) (by omega) fun h5 n5 f5 k5=>⟨_,_,rfl,?_,rfl⟩
   exact⟨by omega,fun c hc=>by rw[f5 c (by omega) (by omega) (by omega),f3 c (by show c<h2.next+6; omega) (by omega)]; exact x2.old c hc,fun _=>k5 (k3 (a0a.a2o ok2 6))⟩
  rw[if_pos c] at par
  refine walk ?_
  refine a0c (q:=6) (ms:=[0,0,2,6,15,31]) (hl:=[[17,18,19],[16],[16],[16],[],[]]) hok rfl (by kernel_rfl) (by kernel_rfl) rfl ?_
  refine walk ?_
  refine a2i (f1r (r:=h.next+3) (s:=s) (by exact a0g) (by show h.next+3<h2.next+6; omega) (by omega) c) rfl rfl rfl rfl rfl rfl ?_
  rintro _ h3 ⟨rfl,r3,n3,f3,k3⟩
  have n3:h2.next+6≤h3.next:=n3
  have f3:∀ c,c<h2.next+6→c≠h.next+3→h3.get c=h2.get c:=f3
  have ok3:h3.ok:=k3 (a0a.a2o ok2 6)
  have q0:=(f3 h.next (by omega) (by omega)).trans g0
  have q1:=(f3 (h.next+1) (by omega) (by omega)).trans g1
  have q2:=(f3 (h.next+2) (by omega) (by omega)).trans g2
  have q4:=(f3 (h.next+4) (by omega) (by omega)).trans g4
  have x3:Ext h h3:=⟨by omega,fun c hc=>by rw[f3 c (by omega) (by omega)]; exact x2.old c hc,fun _=>ok3⟩
  have o3:c4y (h.next+5) h3 u acc:=Own.keep ow (fun c h1 h2'=>f3 c (by omega) (by omega)) (by omega)
  have s3:=Upd.set h3 (h2.next+3) (.cells 147 (c3y s).cs true) (by omega)
  obtain⟨v7,h7,e7,o7,k7⟩:=a8g (T:=TV n) (st:=132) (rest:=[132]) (h:=h3.set (h2.next+3) (.cells 147 (c3y s).cs true)) (x:=c3y s) (c:=h2.next+3) (Own.keep ow (fun c h1 h2'=>by rw[a0a.gn _ _ _ _ (by omega)]; exact f3 c (by omega) (by omega)) (by show h2.next≤h3.next; omega)) (a0a.gs _ _ _) (by show h2.next+3<h3.next; omega) (by show h.next+5≤h3.next; omega) (by omega) rfl rfl rfl rfl rfl (by exact Nat.le_of_ble_eq_true rfl) rfl (by decide) rfl
  have n7:h3.next≤h7.next:=k7.nx
  have c7:=Sl.cells o7.ls
  have d7:=Sl.one o7.ls
  have rl:(b4h s).length+4≤s.length:=by
   have:=a2q c.2.2
   have:=a1b (a0o 1 s) (a0h 1 s)
   have:=a1b 1 s
   unfold b4h
   omega
  have nb:(c3y s).key.length≤1000000:=by
   have:=a1s 1 s
   exact Nat.le_trans (a8i _ _) (by omega)
  refine walk ?_
  have f7:∀ c,c<h.next+5→h7.get c=h3.get c:=fun c hc=>by rw[k7.old c hc,a0a.gn _ _ _ _ (by omega)]
  have n7':h2.next+6≤h7.next:=by omega
  refine next (acc.length+1,v7,acc++[c3y s],b4h s) (by simp only; omega) (by exact hsub) ⟨?_,by show h.next+5≤h7.next; omega,?_,a0a.gs _ _ _,?_,?_,?_,?_,by simp,?_,?_,?_,?_⟩
  ·exact⟨by show h.next≤h7.next; omega,fun c hc=>by rw[a0a.gn _ _ _ _ (by omega),f7 c (by omega)]; exact x3.old c hc,fun _=>a0w (k7.ok (a0w ok3 _ _ (by omega))) _ _ (by omega)⟩
  ·rw[a0a.gn _ _ _ _ (by omega),f7 _ (by omega)]; exact q0
  ·rw[a0a.gn _ _ _ _ (by omega),f7 _ (by omega)]; exact q2
  ·rw[a0a.gn _ _ _ _ (by omega),f7 _ (by omega)]; exact r3
  ·rw[a0a.gn _ _ _ _ (by omega),f7 _ (by omega)]; exact q4
  ·exact Own.keep o7 (fun c h1 _=>a0a.gn _ _ _ _ (by omega)) (Nat.le_refl _)
  ·simp only; omega
  ·simp only; omega
  ·simp only
   intro b' hb'
   rcases List.mem_append.1 hb' with q|q
   ·exact nms b' q
   ·obtain rfl:=List.mem_singleton.1 q
    exact nb
  ·rw[par]
   simp only[Option.map_map]
   congr 1
   funext x
   simp
 ·have e0:p.count.toNat-acc.length=0:=by
   rcases Nat.eq_zero_or_pos acc.length with q|q
   ·omega
   ·have:=cnt q; omega
  have e1:a5x p.count.toNat p.body=some acc:=by rw[par,e0]; simp[a5x]
  have tm:b7y acc:=⟨by omega,nms⟩
  have w1:=d8u (n:=n) (by omega) (z:=(p.body.length:Int)+24) (p:=p.page) (tx:=p.tx) (h:=h2) ow.ls ok2 tm
  refine walk ?_
  refine a3e w1 rfl rfl rfl rfl ?_
  have key:ofB p=if b1t ((p.body.length:Int)+24) p.page p.tx acc=(p,0) then some acc else none:=by unfold ofB; rw[e1]
  generalize b1t ((p.body.length:Int)+24) p.page p.tx acc=r at key ⊢
  obtain⟨r1,r2⟩:=r
  by_cases c1:r2=0
  case neg =>
   rw[key,if_neg fun e=>c1 (congrArg Prod.snd e)]
   refine walk ?_
   refine a2x fun tm hs=>?_
   refine b8t hs rfl rfl (by exact a0g) (by exact a0g) ⟨_,_,rfl,?_,rfl⟩
   exact a0j
  subst c1
  refine walk ?_
  refine a1k rfl rfl rfl (a3n rfl rfl rfl (a8s (a5j r1 p) rfl) rfl) ?_
  have cu:=Sl.cells ow.ls
  have du:=Sl.one ow.ls
  by_cases c2:r1=p
  ·rw[key,if_pos (by rw[c2])]
   refine walk ?_
   refine a2x fun tm hs=>?_
   refine b8t hs rfl rfl (by exact a0g) (by exact a0g) ⟨_,_,rfl,?_,u,rfl,?_⟩
   ·exact a0j
   ·refine Own.lo (Own.keep ow (fun c h1 h2'=>?_) ?_) (by omega)
    ·show a0a.get (a0a.set (a0a.set (a0a.set (a0a.alloc h2 _) _ _) _ _) _ _) c=h2.get c
     rw[a0a.gn _ _ _ _ (by omega),a0a.gn _ _ _ _ (by omega),a0a.gn _ _ _ _ (by omega),a0a.ga _ _ _ (by omega)]
    ·show h2.next≤h2.next+1
     omega
  ·rw[key,if_neg fun e=>c2 (congrArg Prod.fst e)]
   refine walk ?_
   refine a2x fun tm hs=>?_
   refine b8t hs rfl rfl (by exact a0g) (by exact a0g) ⟨_,_,rfl,?_,rfl⟩
   exact a0j
end Go.Proofs.YtejfbaecadbdiaaGreat
