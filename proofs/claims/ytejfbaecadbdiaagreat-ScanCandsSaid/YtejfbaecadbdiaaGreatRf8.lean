/- What the functions of this part answer at any input, told by the rules over the evaluator. Conditions: those that each theorem states. -/
import Derived.Test.YtejfbaecadbdiaaGreatGaq
import Derived.Test.YtejfbaecadbdiaaGreatRf7
import Derived.Test.YtejfbaecadbdiaaGreatLea
set_option linter.unusedVariables false
set_option linter.unusedSimpArgs false
open Go Ev
namespace Go.Proofs.YtejfbaecadbdiaaGreat
set_option maxRecDepth 10000
set_option maxHeartbeats 4000000
theorem e4d {n:Nat}(hn:1<n) (x:It) (h:a0a):(TV n).sm 156 [.agg x.cs] h=some (.bool (decide (c3q x)),h):=by
 refine a3b hn rfl rfl rfl fun n hn=>a0s rfl rfl ?_
 have w1:=c6g (n:=n) (by omega) x.key
 have w2:=a4q (n:=n) (by omega) x.head
 unfold c3q
 by_cases c0:b1g x.key
 case neg =>
  rcases Bool.eq_false_or_eq_true x.over with ho|ho
  ·exact auto
  ·exact auto
 rcases Bool.eq_false_or_eq_true x.over with ho|ho
 ·by_cases c1:x.val=[]
  ·exact auto
  ·exact auto
 ·exact auto
theorem d9k {n:Nat}(hn:0<n) (x:It) (hb:x.key.length≤1000000∧x.val.length≤1000000) (h:a0a):(TV n).sm 157 [.agg x.cs] h=some (.int .i64 (szI x:Nat),h):=by
 refine a3b hn rfl rfl rfl fun n hn=>a0s rfl rfl ?_
 obtain⟨h1,h2⟩:=hb
 rcases Bool.eq_false_or_eq_true x.over with ho|ho
 ·have e:((szI x:Nat):Int)=10+(x.key.length:Int):=by unfold szI; rw[ho]; simp only[if_true]; omega
  rw[e]
  exact auto
 ·have e:((szI x:Nat):Int)=3+(x.key.length:Int)+(x.val.length:Int):=by unfold szI; rw[ho]; simp only[Bool.false_eq_true,if_false]; omega
  rw[e]
  exact auto
theorem d2u {n:Nat}(hn:1<n){v:AV}{l:List It}{h:a0a}(ls:LsI h v l) (hk:h.ok) (t:b5p l):(TV n).sm 131 [v] h=some (.int .i64 (a3t l),h):=by
 refine a9d hn (fun h=>h.ok∧LsI h v l) rfl rfl ⟨hk,ls⟩ (fun hp=>⟨a2f,ls.any (by simpa [AV.a1q,AV.plain] using hp)⟩) ?_
 clear hk ls h
 rintro n hn h ⟨hk,ls⟩
 refine a0s rfl rfl ?_
 have hlen:=ls.len
 refine walk ?_
 refine a0n (fun i=>l.length-i) (fun i=>[(0,v),(3,.int .i64 (a3t (l.take i))),(4,.int .i64 (i:Nat))]) (fun i h2=>i≤l.length∧Ext h h2) 0 hsub ⟨by omega,.refl h⟩ ?_
 rintro i h2 ⟨hi,x2⟩ next
 have t1:=t.1
 have bd:=b7q (l.take i) fun b hb=>t.2 b (List.mem_of_mem_take hb)
 rw[List.length_take] at bd
 by_cases hil:i<l.length
 ·obtain⟨y,hy⟩:∃ y,l[i]?=some y:=⟨l[i],List.getElem?_eq_getElem hil⟩
  obtain⟨b,p,e,all,rw',hb,hg,hpl,he,a1⟩:=(ls.ext x2).at It.csl hy
  have ty:=d1o t hy
  have sb:=e3s y ty
  have w1:=d9k (n:=n) (by omega) y ty
  have e2:((a3t (l.take (i+1)):Nat):Int)=(a3t (l.take i):Int)+((szI y:Nat):Int):=by rw[c1j l i y hy]; omega
  refine walk ?_
  refine next (i+1) (by omega) ?_ ⟨by omega,a0j⟩
  rw[e2]
  exact hsub
 ·refine walk ?_
  have e:l.take i=l:=List.take_of_length_le (by omega)
  rw[e]
  exact a0e hres ⟨rfl,a0j⟩
theorem d9p {n:Nat}(hn:2<n){v:AV}{l:List It}{h:a0a}(ls:LsI h v l) (hk:h.ok) (t:b5p l):(TV n).sm 130 [v] h=some (.bool (decide (b3y l)),h):=by
 refine a9d hn (fun h=>h.ok∧LsI h v l) rfl rfl ⟨hk,ls⟩ (fun hp=>⟨a2f,ls.any (by simpa [AV.a1q,AV.plain] using hp)⟩) ?_
 clear hk ls h
 rintro n hn h ⟨hk,ls⟩
 refine a0s rfl rfl ?_
 have hlen:=ls.len
 have t1:=t.1
 refine walk ?_
 refine a0n (fun i=>l.length-i) (fun i=>[(0,v),(3,.int .i64 (i:Nat))]) (fun i h2=>i≤l.length∧Ext h h2∧∀ j,j<i→∀ b,l[j]?=some b→c3q b∧(0<j→∀ a,l[j-1]?=some a→bytesLess a.key b.key=true)) 0 hsub ⟨by omega,.refl h,fun j hj=>by omega⟩ ?_
 rintro i h2 ⟨hi,x2,inv⟩ next
 have ok2:=x2.ok hk
 have nx:=x2.nx
 by_cases hil:i<l.length
 ·obtain⟨y,hy⟩:∃ y,l[i]?=some y:=⟨l[i],List.getElem?_eq_getElem hil⟩
  obtain⟨b,p,e,all,rw',hb,hg,hpl,he,a1⟩:=(ls.ext x2).at It.csl hy
  have w1:=e4d (n:=n) (by omega) y
  by_cases c1:c3q y
  case neg =>
   have bad:¬ b3y l:=fun m=>c1 (m.1 i y hy).1
   refine walk ?_
   refine a0c (q:=24) (ms:=[0,0,3,7,15,31,63,127,255,511,1023,1023,3071,8191,16383,32767,1023,1023,197631,459775,984063,2097151,4194303,8388607]) (hl:=[[11],[10],[],[],[],[],[],[],[],[],[21,22,26,27,28,29,30],[20,26,27,28,29,30],[20,26,27,28,29,30],[26,27,28,29,30],[26,27,28,29,30],[26,27,28,29,30],[20,21,22,23,24,25,27],[20,21,22,23,24,25,26],[20,21,22,23,24,25],[20,21,22,23,24,25],[20,21,22,23,24,25],[],[],[]]) hok rfl (by kernel_rfl) (by kernel_rfl) rfl ?_
   refine walk ?_
   exact a0e hres ⟨a3w bad,a0j⟩
  rcases Nat.eq_zero_or_pos i with rfl|hi0
  ·refine walk ?_
   refine a0c (q:=24) (ms:=[0,0,3,7,15,31,63,127,255,511,1023,1023,3071,8191,16383,32767,1023,1023,197631,459775,984063,2097151,4194303,8388607]) (hl:=[[11],[10],[],[],[],[],[],[],[],[],[21,22,26,27,28,29,30],[20,26,27,28,29,30],[20,26,27,28,29,30],[26,27,28,29,30],[26,27,28,29,30],[26,27,28,29,30],[20,21,22,23,24,25,27],[20,21,22,23,24,25,26],[20,21,22,23,24,25],[20,21,22,23,24,25],[20,21,22,23,24,25],[],[],[]]) hok rfl (by kernel_rfl) (by kernel_rfl) rfl ?_
   refine walk ?_
   refine next 1 (by omega) hsub ⟨by omega,a0j,fun j hj b hb=>?_⟩
   obtain rfl:j=0:=by omega
   rw[hy] at hb; cases hb
   exact⟨c1,fun h0=>by omega⟩
  obtain⟨j,rfl⟩:∃ j,i=j+1:=⟨i-1,by omega⟩
  obtain⟨a,ha⟩:∃ a,l[j]?=some a:=⟨l[j],List.getElem?_eq_getElem (by omega)⟩
  obtain⟨b',p',e',all',rw2,hb',hg',hpl',he',a2⟩:=(ls.ext x2).at It.csl ha
  cases c2:bytesLess a.key y.key with
  |false =>
   have c3:(!bytesLess a.key y.key)=true:=by rw[c2]; rfl
   have bad:¬ b3y l:=fun m=>by
    have:=(m.1 (j+1) y hy).2 (by omega) a ha
    rw[c2] at this; cases this
   refine walk ?_
   refine a0c (q:=24) (ms:=[0,0,3,7,15,31,63,127,255,511,1023,1023,3071,8191,16383,32767,1023,1023,197631,459775,984063,2097151,4194303,8388607]) (hl:=[[11],[10],[],[],[],[],[],[],[],[],[21,22,26,27,28,29,30],[20,26,27,28,29,30],[20,26,27,28,29,30],[26,27,28,29,30],[26,27,28,29,30],[26,27,28,29,30],[20,21,22,23,24,25,27],[20,21,22,23,24,25,26],[20,21,22,23,24,25],[20,21,22,23,24,25],[20,21,22,23,24,25],[],[],[]]) hok rfl (by kernel_rfl) (by kernel_rfl) rfl ?_
   refine walk ?_
   exact a0e hres ⟨a3w bad,a0j⟩
  |true =>
   have c3:(!bytesLess a.key y.key)=false:=by rw[c2]; rfl
   refine walk ?_
   refine a0c (q:=24) (ms:=[0,0,3,7,15,31,63,127,255,511,1023,1023,3071,8191,16383,32767,1023,1023,197631,459775,984063,2097151,4194303,8388607]) (hl:=[[11],[10],[],[],[],[],[],[],[],[],[21,22,26,27,28,29,30],[20,26,27,28,29,30],[20,26,27,28,29,30],[26,27,28,29,30],[26,27,28,29,30],[26,27,28,29,30],[20,21,22,23,24,25,27],[20,21,22,23,24,25,26],[20,21,22,23,24,25],[20,21,22,23,24,25],[20,21,22,23,24,25],[],[],[]]) hok rfl (by kernel_rfl) (by kernel_rfl) rfl ?_
   refine walk ?_
   refine next (j+1+1) (by omega) hsub ⟨by omega,a0j,fun k hk' b hb=>?_⟩
   rcases Nat.lt_or_ge k (j+1) with q|q
   ·exact inv k q b hb
   ·obtain rfl:k=j+1:=by omega
    rw[hy] at hb; cases hb
    refine⟨c1,fun _ a' ha'=>?_⟩
    have ha':l[j]?=some a':=ha'
    rw[ha] at ha'; cases ha'
    exact c2
 ·have fin:f1g l:=fun j b hb=>inv j (by
   rcases Nat.lt_or_ge j l.length with q|q
   ·omega
   ·rw[List.getElem?_eq_none q] at hb; cases hb) b hb
  have e:b3y l↔0<l.length:=⟨fun m=>m.2,fun m=>⟨fin,m⟩⟩
  refine walk ?_
  refine a0e hres ⟨?_,a0j⟩
  by_cases q:0<l.length
  ·exact(congrArg AV.bool (decide_eq_true (show(0:Int)<l.length by omega))).trans (b5l (e.2 q))
  ·exact(congrArg AV.bool (decide_eq_false (show ¬ (0:Int)<l.length by omega))).trans (a3w fun m=>q (e.1 m))
theorem d9e {l:List It}(m:b3y l):3≤a3t l:=by
 cases l with
 |nil=>exact absurd m.2 (by simp)
 |cons a l=>simp only[a3t,List.map_cons,List.sum_cons,szI]; split<;>omega
theorem d2w {n:Nat}(hn:4<n){z:Int}{p tx:Nat}{v:AV}{l:List It}{h:a0a}(ls:LsI h v l) (hk:h.ok) (t:b5p l):(TV n).sm 103 [.int .i64 z,.int .u32 p,.int .u64 tx,v] h=some (.tuple [(a8y z p tx l).1.av,.int .i64 (a8y z p tx l).2],h):=by
 refine a9d hn (fun h=>h.ok∧LsI h v l) rfl rfl ⟨hk,ls⟩ (fun hp=>⟨a2f,ls.any (by simpa [AV.a1q,AV.plain] using hp)⟩) ?_
 clear hk ls h
 rintro n hn h ⟨hk,ls⟩
 refine a0s rfl rfl ?_
 have hlen:=ls.len
 have t1:=t.1
 have w5:=a6p (n:=n) (by omega) z
 have w2:=a4q (n:=n) (by omega) p
 have w1:=b2e (n:=n) (by omega) z
 have x0:Ext h (h.alloc (.cells 64 Pg.zero.cs true)):=Ext.alloc _ _
 have w3:=d9p (n:=n) (by omega) (ls.ext x0) (x0.ok hk) t
 have w4:=d2u (n:=n) (by omega) (ls.ext x0) (x0.ok hk) t
 have bs:=b7q l t.2
 have rz:=room_le z
 unfold a8y
 by_cases c0:Good z
 case neg =>
  rw[if_neg fun c=>by have:=d9e c.1; rw[c3h c0] at c; have:=c.2.1; omega]
  rw[decide_eq_false c0] at w5
  exact auto
 rw[decide_eq_true c0] at w5
 refine walk ?_
 refine a3e w3 rfl rfl rfl rfl ?_
 by_cases c:b3y l∧(a3t l:Int)≤room z∧num p∧tx≤4611686018427387904
 case neg =>
  rw[if_neg c]
  by_cases c1:b3y l
  ·refine walk ?_
   refine a3e w4 rfl rfl rfl rfl ?_
   by_cases c2:(a3t l:Int)≤room z
   ·by_cases c3:num p
    ·have c4:¬ tx≤4611686018427387904:=fun c4=>c ⟨c1,c2,c3,c4⟩
     exact auto
    ·exact auto
   ·exact auto
  ·exact auto
 rw[if_pos c]
 obtain⟨c1,c2,c3,c4⟩:=c
 refine walk ?_
 refine a3e w4 rfl rfl rfl rfl ?_
 refine walk ?_
 refine a0n (ι:=Nat×AV) (fun a=>l.length-a.1) (fun a=>[(0,.int .i64 z),(1,.int .u32 p),(2,.int .u64 tx),(3,v),(8,.ptr h.next 0),(10,a.2),(11,.int .i64 (a.1:Nat))]) (fun a h2=>a.1≤l.length∧Ext (h.alloc (.cells 64 Pg.zero.cs true)) h2∧a2t 5 (h.next+1) h2 a.2 (b3j (l.take a.1))) (0,.nilslice) hsub ⟨by omega,.refl _,a2t.nil⟩ ?_
 rintro⟨i,u⟩ h2 ⟨hi,x2,ow⟩ next
 dsimp only at hi ow next ⊢
 have nx2:h.next+1≤h2.next:=x2.nx
 have g8:h2.get h.next=some (.cells 64 Pg.zero.cs true):=(x2.old _ (by show h.next<h.next+1; omega)).trans (a0t _ _)
 have ok2:=x2.ok (x0.ok hk)
 have hsz:(b3j (l.take i)).length≤4072:=by
  have:=c2l l i
  rw[c4t]; omega
 by_cases hil:i<l.length
 ·obtain⟨y,hy⟩:∃ y,l[i]?=some y:=⟨l[i],List.getElem?_eq_getElem hil⟩
  obtain⟨b,p',e,all,rw',hb,hg,hpl,he,a1⟩:=((ls.ext x0).ext x2).at It.csl hy
  have yok:=(c1.1 i y hy).1
  have ky:y.key.length≤40:=yok.1
  rcases yok.2 with ⟨ho,q1,q2,q3,q4⟩|⟨ho,q1,q2,q3⟩
  ·obtain⟨m,hm⟩:=Int.eq_ofNat_of_zero_le (show 0≤y.len by omega)
   have mb:m≤4096:=by omega
   have rb:y.head≤2147483647:=q4.2
   have ycs:y.cs=[.str y.key,.str y.val,.bool true,.int .i64 (m:Nat),.int .u32 y.head]:=by unfold It.cs; rw[ho,hm]
   rw[ycs] at he
   have ei:c0r y=leb 1 1++leb y.key.length 1++y.key++(leb m 4++leb y.head 4):=by unfold c0r c1r; rw[ho,hm]; rfl
   refine walk ?_
   refine a0b (a9p (x:=1) ow.by (by omega) (by decide) (by decide) (by omega) ow.by.ns) rfl rfl rfl rfl ?_
   rintro v1 g1 ⟨o1,x1⟩
   have nx1:h2.next≤g1.next:=x1.nx
   have hg1:g1.get b=some (.cells e all rw'):=(x1.old b hb).trans hg
   refine walk ?_
   refine a0b (a9p o1.by (by omega) (by decide) (by decide) (by simp[a1c]; omega) o1.by.ns) rfl rfl rfl rfl ?_
   rintro v2 g2 ⟨o2,x2'⟩
   have nx2':g1.next≤g2.next:=x2'.nx
   have hg2:g2.get b=some (.cells e all rw'):=(x2'.old b (by omega)).trans hg1
   obtain⟨v3,g3,e3,o3,k3⟩:=ast (q:=n) (lo:=g1.next) (r:=y.key) o2 (by simp[a1c]; omega)
   have nx3:=k3.nx
   have x3:Ext h2 g3:=by exact a0j
   have hg3:g3.get b=some (.cells e all rw'):=(x3.old b hb).trans hg
   refine walk ?_
   refine a0b (a9p o3.by (by omega) (by decide) (by decide) (by simp[a1c]; omega) o3.by.ns) rfl rfl rfl rfl ?_
   rintro v4 g4 ⟨o4,x4⟩
   have nx4:g3.next≤g4.next:=x4.nx
   have hg4:g4.get b=some (.cells e all rw'):=(x4.old b (by omega)).trans hg3
   refine walk ?_
   refine a0b (a9p o4.by (by omega) (by decide) (by decide) (by simp[a1c]; omega) o4.by.ns) rfl rfl rfl rfl ?_
   rintro v5 g5 ⟨o5,x5⟩
   have nx5:=x5.nx
   refine walk ?_
   refine next (i+1,v5) (by simp only; omega) (by exact hsub) ⟨by simp only; omega,by exact a0j,?_⟩
   simp only
   rw[b2o l i y hy,ei]
   have o6:=a2t.lo o5 (show h.next+1≤g4.next by omega)
   simpa using o6
  ·have ycs:y.cs=[.str y.key,.str y.val,.bool false,.int .i64 y.len,.int .u32 y.head]:=by unfold It.cs; rw[ho]
   rw[ycs] at he
   have ei:c0r y=leb 0 1++leb y.key.length 1++y.key++(leb y.val.length 1++y.val):=by unfold c0r c1r; rw[ho]; rfl
   refine walk ?_
   refine a0b (a9p (x:=0) ow.by (by omega) (by decide) (by decide) (by omega) ow.by.ns) rfl rfl rfl rfl ?_
   rintro v1 g1 ⟨o1,x1⟩
   have nx1:h2.next≤g1.next:=x1.nx
   have hg1:g1.get b=some (.cells e all rw'):=(x1.old b hb).trans hg
   refine walk ?_
   refine a0b (a9p o1.by (by omega) (by decide) (by decide) (by simp[a1c]; omega) o1.by.ns) rfl rfl rfl rfl ?_
   rintro v2 g2 ⟨o2,x2'⟩
   have nx2':g1.next≤g2.next:=x2'.nx
   have hg2:g2.get b=some (.cells e all rw'):=(x2'.old b (by omega)).trans hg1
   obtain⟨v3,g3,e3,o3,k3⟩:=ast (q:=n) (lo:=g1.next) (r:=y.key) o2 (by simp[a1c]; omega)
   have nx3:=k3.nx
   have x3:Ext h2 g3:=by exact a0j
   have hg3:g3.get b=some (.cells e all rw'):=(x3.old b hb).trans hg
   refine walk ?_
   refine a0b (a9p o3.by (by omega) (by decide) (by decide) (by simp[a1c]; omega) o3.by.ns) rfl rfl rfl rfl ?_
   rintro v4 g4 ⟨o4,x4⟩
   have nx4:g3.next≤g4.next:=x4.nx
   have hg4:g4.get b=some (.cells e all rw'):=(x4.old b (by omega)).trans hg3
   obtain⟨v5,g5,e5,o5,k5⟩:=ast (q:=n) (lo:=g3.next) (r:=y.val) o4 (by simp[a1c]; omega)
   have nx5:=k5.nx
   have x5:Ext h2 g5:=by exact a0j
   refine walk ?_
   refine next (i+1,v5) (by simp only; omega) (by exact hsub) ⟨by simp only; omega,by exact a0j,?_⟩
   simp only
   rw[b2o l i y hy,ei]
   have o6:=a2t.lo o5 (show h.next+1≤g3.next by omega)
   simpa using o6
 ·have e1:l.take i=l:=List.take_of_length_le (by omega)
  rw[e1] at ow
  have w6:=b2m (n:=n) (by omega) (z:=z) ow.by ok2 ow.by.ns
  rw[a4j] at w6
  refine walk ?_
  refine a3e w6 rfl rfl rfl rfl ?_
  refine walk ?_
  exact a0d (by exact hres) ⟨rfl,by exact a0j⟩
theorem d0t {n:Nat}(hn:6<n){p:Pg}{h:a0a}(hk:h.ok) (hl:p.body.length≤100000) (hc:p.count<1000000000):a0l (TV n) 70 [p.av] h (fun v h'=>Ext h h'∧match ofI p with
  |none=>v=.tuple [.nilslice,.int .i64 4]
  |some l=>∃ u,v=.tuple [u,.int .i64 0]∧b3l h.next h' u l):=by
 refine a0r (a1x rfl rfl) rfl rfl ?_
 refine walk ?_
 refine a0b (d7o p.body _) rfl rfl rfl rfl ?_
 rintro _ _ ⟨rfl,rfl⟩
 refine walk ?_
 refine a0n (ι:=Nat×AV×List It×List UInt8) (fun a=>p.count.toNat-a.1) (fun a=>[(1,.ptr h.next 0),(4,.ptr (h.next+1) 0),(5,a.2.1),(6,.int .i64 (a.1:Nat))]) (fun a h2=>Ext h h2∧h.next+2≤h2.next∧h2.get h.next=some (.cells 64 p.cs true)∧h2.get (h.next+1)=some (.cells 166 [.str a.2.2.2] true)∧b3l (h.next+2) h2 a.2.1 a.2.2.1∧a.1=a.2.2.1.length∧3*a.1+a.2.2.2.length≤p.body.length∧(0<a.1→(a.1:Int)≤p.count)∧(∀ b∈a.2.2.1,b.key.length≤1000000∧b.val.length≤1000000)∧a4v p.count.toNat p.body=(a4v (p.count.toNat-a.1) a.2.2.2).map (a.2.2.1 ++ ·)) (0,.nilslice,[],p.body) hsub ⟨by exact a0j,by show h.next+2≤h.next+1+1; omega,by exact a0g,by exact a0g,a9g.nil,rfl,by simp,by simp,by simp,by simp⟩ ?_
 rintro⟨i,u,acc,s⟩ h2 ⟨x2,n2,g0,g1,ow,ei,len,cnt,nms,par⟩ next
 dsimp only at g1 ow ei len nms par next cnt ⊢
 subst ei
 by_cases hi:(acc.length:Int)<p.count
 ·have par':p.count.toNat-acc.length=(p.count.toNat-(acc.length+1))+1:=by omega
  have e0:a4v ((p.count.toNat-(acc.length+1))+1) s=if okI s then(a4v (p.count.toNat-(acc.length+1)) (a5p s)).map (a6r s :: ·) else none:=rfl
  rw[par',e0] at par
  have none_if:¬ (okI s∧(a0o 1 s=1→a0o 4 (i3 s)≤4096))→ofI p=none:=fun w=>by
   unfold ofI
   rw[par]
   by_cases c:okI s
   case neg=>rw[if_neg c]; rfl
   rw[if_pos c]
   have c2:a0o 1 s=1∧¬ a0o 4 (i3 s)≤4096:=by
    refine⟨Decidable.byContradiction fun q=>w ⟨c,fun r=>absurd r q⟩,fun q=>w ⟨c,fun _=>q⟩⟩
   cases a4v (p.count.toNat-(acc.length+1)) (a5p s) with
   |none=>rfl
   |some l =>
    show(if a8y (p.body.length+24) p.page p.tx (acc++(a6r s::l))=(p,0) then some _ else none)=none
    have nm:¬ b3y (acc++(a6r s::l)):=fun m=>by
     have:=(m.1 acc.length (a6r s) (by simp)).1
     have e:a6r s=⟨a3p (a0o 1 (i1 s)) (i2 s),[],true,a0o 4 (i3 s),a0o 4 (i4 s)⟩:=by unfold a6r; rw[if_pos c2.1]
     rw[e] at this
     rcases this.2 with q|q
     ·have:=q.2.2.2.1; simp only at this; omega
     ·cases q.1
    have q:a8y (p.body.length+24) p.page p.tx (acc++(a6r s::l))=(Pg.zero,2):=by unfold a8y; rw[if_neg fun c=>nm c.1]
    rw[q,if_neg (by simp)]
  have v1:=a1s 1 s
  have v2:=a1s 1 (i1 s)
  have l1:(i1 s).length≤s.length:=a1b 1 s
  have l2:(i2 s).length≤(i1 s).length:=a1b 1 (i1 s)
  have l3:(i3 s).length≤(i2 s).length:=a1b _ _
  refine walk ?_
  refine a0b (b0j (n:=1) g1 (by omega) (by omega) (by decide) (by decide)) rfl rfl rfl rfl ?_
  rintro _ h3 ⟨rfl,u3⟩
  have n3:=u3.nx
  change Upd _ (.cells _ [.str (i1 s)] true) _ _ at u3
  refine walk ?_
  refine a0b (b0j (n:=1) u3.got (by omega) (by omega) (by decide) (by decide)) rfl rfl rfl rfl ?_
  rintro _ h4 ⟨rfl,u4⟩
  have n4:=u4.nx
  change Upd _ (.cells _ [.str (i2 s)] true) _ _ at u4
  refine walk ?_
  refine a0b (e5c (n:=a0o 1 (i1 s)) u4.got (by omega) (by omega) (by omega)) rfl rfl rfl rfl ?_
  rintro _ h5 ⟨rfl,u5⟩
  have n5:=u5.nx
  change Upd _ (.cells _ [.str (i3 s)] true) _ _ at u5
  have ok5:h5.ok:=u5.ok (u4.ok (u3.ok (x2.ok hk)))
  have k5:a4g (h.next+1) h2 h5:=⟨by omega,fun c hc=>by rw[u5.old c (by omega),u4.old c (by omega),u3.old c (by omega)],fun _=>ok5⟩
  have x5:Ext h h5:=x2.kp k5 (by omega)
  have o5:b3l (h.next+2) h5 u acc:=Own.keep ow (fun c h1 h2'=>by rw[u5.old c (by omega),u4.old c (by omega),u3.old c (by omega)]) (by omega)
  have g05:h5.get h.next=some (.cells 64 p.cs true):=by rw[u5.old _ (by omega),u4.old _ (by omega),u3.old _ (by omega)]; exact g0
  have g15:=u5.got
  clear u3 u4 u5 k5 g1 g0
  by_cases d1:1≤s.length
  case neg =>
   rw[a5k d1,none_if fun w=>by have:=w.1.1; omega]
   refine walk ?_
   exact a0d (by exact hres) ⟨by exact a0j,rfl⟩
  rw[a4b d1]
  by_cases d2:1≤(i1 s).length
  case neg =>
   rw[a5k d2,none_if fun w=>d2 w.1.1]
   refine walk ?_
   exact a0d (by exact hres) ⟨by exact a0j,rfl⟩
  rw[a4b d2]
  by_cases d3:a0o 1 (i1 s)≤(i2 s).length
  case neg =>
   rw[a5k d3,none_if fun w=>d3 w.1.2.2.1]
   refine walk ?_
   exact a0d (by exact hres) ⟨by exact a0j,rfl⟩
  rw[a4b d3]
  by_cases d4:a0o 1 s≤1
  case neg =>
   rw[none_if fun w=>d4 w.1.2.1]
   refine walk ?_
   exact a0d (by exact hres) ⟨by exact a0j,rfl⟩
  have bl:(a3p (a0o 1 (i1 s)) (i2 s)).length≤1000000:=Nat.le_trans (a8i _ _) (by omega)
  have fin:okI s→∀ b s',b=a6r s→s'=a5p s→a4v p.count.toNat p.body=(a4v (p.count.toNat-(acc.length+1)) s').map ((acc++[b]) ++ ·):=fun c b s' eb es=>by
   rw[par,if_pos c,eb,es]
   simp only[Option.map_map]
   congr 1
   funext x
   simp
  by_cases dv:a0o 1 s=1
  ·rw[dv]
   refine walk ?_
   refine a0b (b0j (n:=4) (s:=i3 s) (b:=h.next+1) (e:=166) (by exact a0g) (by show h.next+1<h5.next+1; omega) (by omega) (by decide) (by decide)) rfl rfl rfl rfl ?_
   rintro _ h6 ⟨rfl,u6⟩
   have n6:h6.next=h5.next+1:=u6.nx
   change Upd _ (.cells _ [.str (i4 s)] true) _ _ at u6
   refine walk ?_
   refine a0b (b0j (n:=4) u6.got (by omega) (by have:(i4 s).length≤(i3 s).length:=a1b _ _; omega) (by decide) (by decide)) rfl rfl rfl rfl ?_
   rintro _ h7 ⟨rfl,u7⟩
   have n7:=u7.nx
   have b3:=a1s 4 (i3 s)
   have b4:=a1s 4 (i4 s)
   have f7:∀ c,c<h5.next→c≠h.next+1→h7.get c=h5.get c:=fun c hc hn=>by rw[u7.old c hn,u6.old c hn,a0a.gn _ _ _ _ (by omega),a0a.ga _ _ _ (by omega)]
   have ok7:h7.ok:=u7.ok (u6.ok (by exact hok))
   have x7:Ext h h7:=⟨by have:=x5.nx; omega,fun c hc=>(f7 c (by omega) (by omega)).trans (x5.old c hc),fun _=>ok7⟩
   have g07:h7.get h.next=some (.cells 64 p.cs true):=(f7 _ (by omega) (by omega)).trans g05
   have o7:b3l (h.next+2) h7 u acc:=Own.keep o5 (fun c h1 h2'=>f7 c h2' (by omega)) (by omega)
   have it7:h7.get h5.next=some (.cells 175 [.str (a3p (a0o 1 (i1 s)) (i2 s)),.str [],.bool true,.int .i64 0,.int .u32 0] true):=by
    rw[u7.old _ (by omega),u6.old _ (by omega)]
    exact a0a.gs _ _ _
   have g17:=u7.got
   clear u6 u7 g15
   by_cases d5:4≤(i3 s).length
   case neg =>
    have:(i4 s).length=(i3 s).length:=by unfold i4 a0h; rw[if_neg d5]
    rw[a5k d5,none_if fun w=>by rcases w.1.2.2.2 with q|q<;>omega]
    refine walk ?_
    exact a0d (by exact hres) ⟨by exact a0j,rfl⟩
   rw[a4b d5]
   by_cases d6:4≤(i4 s).length
   case neg =>
    rw[a5k d6,none_if fun w=>by rcases w.1.2.2.2 with q|q<;>omega]
    refine walk ?_
    exact a0d (by exact hres) ⟨by exact a0j,rfl⟩
   rw[a4b d6]
   by_cases d7:a0o 4 (i3 s)≤4096
   case neg =>
    rw[none_if fun w=>d7 (w.2 dv)]
    refine walk ?_
    exact a0d (by exact hres) ⟨by exact a0j,rfl⟩
   have okc:okI s:=⟨d2,d4,d3,.inl ⟨dv,d6⟩⟩
   obtain⟨b,hb⟩:∃ b:It,b=a6r s:=⟨_,rfl⟩
   obtain⟨s',hs'⟩:∃ s',s'=a5p s:=⟨_,rfl⟩
   have par2:=fin okc b s' hb hs'
   have cb:b.cs=[.str (a3p (a0o 1 (i1 s)) (i2 s)),.str [],.bool true,.int .i64 (a0o 4 (i3 s)),.int .u32 (a0o 4 (i4 s))]:=by rw[hb]; unfold a6r; rw[if_pos dv]; rfl
   have nb:b.key.length≤1000000∧b.val.length≤1000000:=by rw[hb]; unfold a6r; rw[if_pos dv]; exact⟨bl,by simp⟩
   have es:a0h 4 (i4 s)=s':=by rw[hs']; unfold a5p; rw[if_pos dv]
   rw[es] at g17
   have sl:s'.length+4≤(i4 s).length:=by rw[← es]; exact Nat.le_of_eq (a2q d6)
   have sl2:(i4 s).length≤(i3 s).length:=a1b _ _
   refine walk ?_
   refine OJ.gen [(1,.ptr h.next 0),(4,.ptr (h.next+1) 0),(5,u),(6,.int .i64 (acc.length:Nat)),(116,u),(118,.slice h7.next 0 1 1)] (fun g=>Ext h g∧g.get h.next=some (.cells 64 p.cs true)∧g.get (h.next+1)=some (.cells 166 [.str s'] true)∧b3l (h.next+2) g u acc∧h7.next<g.next∧g.get h7.next=some (.cells 175 [.str (a3p (a0o 1 (i1 s)) (i2 s)),.str [],.bool true,.int .i64 (a0o 4 (i3 s)),.int .u32 (a0o 4 (i4 s))] true)) (by exact hsub) ⟨?_,by exact a0g,by exact a0g,?_,by show h7.next<h7.next+1; omega,by exact a0g⟩ ?_
   ·exact(⟨by show h.next≤h7.next; omega,fun c hc=>by simp only[a0a.gn _ _ _ _ (show c≠h5.next by omega)]; exact x7.old c hc,fun _=>by exact hok⟩:Ext h ((h7.set h5.next (.cells 175 [.str (a3p (a0o 1 (i1 s)) (i2 s)),.str [],.bool true,.int .i64 (a0o 4 (i3 s)),.int .u32 0] true)).set h5.next (.cells 175 [.str (a3p (a0o 1 (i1 s)) (i2 s)),.str [],.bool true,.int .i64 (a0o 4 (i3 s)),.int .u32 (a0o 4 (i4 s))] true))).trans (Ext.alloc _ _)
   ·exact(Own.keep (h':=((h7.set h5.next (.cells 175 [.str (a3p (a0o 1 (i1 s)) (i2 s)),.str [],.bool true,.int .i64 (a0o 4 (i3 s)),.int .u32 0] true)).set h5.next (.cells 175 [.str (a3p (a0o 1 (i1 s)) (i2 s)),.str [],.bool true,.int .i64 (a0o 4 (i3 s)),.int .u32 (a0o 4 (i4 s))] true))) o5 (fun c h1 h2'=>by simp only[a0a.gn _ _ _ _ (show c≠h5.next by omega)]; exact f7 c h2' (by omega)) (by show h5.next≤h7.next; omega)).ext (Ext.alloc _ _)
   rintro g ⟨xg,gp,gr,og,ng,gi⟩
   rw[← cb] at gi
   obtain⟨v8,h8,e8,o8,k8⟩:=a8g (T:=TV n) (st:=135) (rest:=[135]) (h:=g) (x:=b) og gi ng (by have:=xg.nx; omega) (by omega) rfl rfl rfl rfl rfl (by exact Nat.le_of_ble_eq_true rfl) rfl (by decide) rfl
   have n8:=k8.nx
   refine walk ?_
   refine next (acc.length+1,v8,acc++[b],s') (by simp only; omega) (by exact hsub) ⟨by exact a0j,by omega,by exact a0g,by exact a0g,o8,by simp,?_,?_,?_,par2⟩
   ·simp only; omega
   ·simp only; omega
   ·simp only
    intro b' hb'
    rcases List.mem_append.1 hb' with q|q
    ·exact nms b' q
    ·obtain rfl:=List.mem_singleton.1 q
     exact nb
  ·have dz:a0o 1 s=0:=by omega
   rw[dz]
   refine walk ?_
   refine a0b (b0j (n:=1) (s:=i3 s) (b:=h.next+1) (e:=166) (by exact a0g) (by show h.next+1<h5.next+1; omega) (by omega) (by decide) (by decide)) rfl rfl rfl rfl ?_
   rintro _ h6 ⟨rfl,u6⟩
   have n6:h6.next=h5.next+1:=u6.nx
   change Upd _ (.cells _ [.str (i5 s)] true) _ _ at u6
   have b3:=a1s 1 (i3 s)
   have l5:(i5 s).length≤(i3 s).length:=a1b _ _
   refine walk ?_
   refine a0b (e5c (n:=a0o 1 (i3 s)) u6.got (by omega) (by omega) (by omega)) rfl rfl rfl rfl ?_
   rintro _ h7 ⟨rfl,u7⟩
   have n7:=u7.nx
   have f7:∀ c,c<h5.next→c≠h.next+1→h7.get c=h5.get c:=fun c hc hn=>by rw[u7.old c hn,u6.old c hn,a0a.gn _ _ _ _ (by omega),a0a.ga _ _ _ (by omega)]
   have ok7:h7.ok:=u7.ok (u6.ok (by exact hok))
   have x7:Ext h h7:=⟨by have:=x5.nx; omega,fun c hc=>(f7 c (by omega) (by omega)).trans (x5.old c hc),fun _=>ok7⟩
   have g07:h7.get h.next=some (.cells 64 p.cs true):=(f7 _ (by omega) (by omega)).trans g05
   have o7:b3l (h.next+2) h7 u acc:=Own.keep o5 (fun c h1 h2'=>f7 c h2' (by omega)) (by omega)
   have it7:h7.get h5.next=some (.cells 175 [.str (a3p (a0o 1 (i1 s)) (i2 s)),.str [],.bool false,.int .i64 0,.int .u32 0] true):=by
    rw[u7.old _ (by omega),u6.old _ (by omega)]
    exact a0a.gs _ _ _
   have g17:=u7.got
   clear u6 u7 g15
   by_cases d5:1≤(i3 s).length
   case neg =>
    rw[a5k d5,none_if fun w=>by rcases w.1.2.2.2 with q|q<;>omega]
    refine walk ?_
    exact a0d (by exact hres) ⟨by exact a0j,rfl⟩
   rw[a4b d5]
   by_cases d6:a0o 1 (i3 s)≤(i5 s).length
   case neg =>
    rw[a5k d6,none_if fun w=>by rcases w.1.2.2.2 with q|q<;>omega]
    refine walk ?_
    exact a0d (by exact hres) ⟨by exact a0j,rfl⟩
   rw[a4b d6]
   have okc:okI s:=⟨d2,d4,d3,.inr ⟨dv,d5,d6⟩⟩
   obtain⟨b,hb⟩:∃ b:It,b=a6r s:=⟨_,rfl⟩
   obtain⟨s',hs'⟩:∃ s',s'=a5p s:=⟨_,rfl⟩
   have par2:=fin okc b s' hb hs'
   have cb:b.cs=[.str (a3p (a0o 1 (i1 s)) (i2 s)),.str (a3p (a0o 1 (i3 s)) (i5 s)),.bool false,.int .i64 0,.int .u32 0]:=by rw[hb]; unfold a6r; rw[if_neg dv]; rfl
   have nb:b.key.length≤1000000∧b.val.length≤1000000:=by rw[hb]; unfold a6r; rw[if_neg dv]; exact⟨bl,Nat.le_trans (a8i _ _) (by omega)⟩
   have es:a0h (a0o 1 (i3 s)) (i5 s)=s':=by rw[hs']; unfold a5p; rw[if_neg dv]
   rw[es] at g17
   have sl:s'.length+3≤s.length:=by rw[hs']; exact c3b okc
   refine walk ?_
   refine OJ.gen [(1,.ptr h.next 0),(4,.ptr (h.next+1) 0),(5,u),(6,.int .i64 (acc.length:Nat)),(116,u),(118,.slice h7.next 0 1 1)] (fun g=>Ext h g∧g.get h.next=some (.cells 64 p.cs true)∧g.get (h.next+1)=some (.cells 166 [.str s'] true)∧b3l (h.next+2) g u acc∧h7.next<g.next∧g.get h7.next=some (.cells 175 [.str (a3p (a0o 1 (i1 s)) (i2 s)),.str (a3p (a0o 1 (i3 s)) (i5 s)),.bool false,.int .i64 0,.int .u32 0] true)) (by exact hsub) ⟨?_,by exact a0g,by exact a0g,?_,by show h7.next<h7.next+1; omega,by exact a0g⟩ ?_
   ·exact(⟨by show h.next≤h7.next; omega,fun c hc=>by simp only[a0a.gn _ _ _ _ (show c≠h5.next by omega)]; exact x7.old c hc,fun _=>by exact hok⟩:Ext h (h7.set h5.next (.cells 175 [.str (a3p (a0o 1 (i1 s)) (i2 s)),.str (a3p (a0o 1 (i3 s)) (i5 s)),.bool false,.int .i64 0,.int .u32 0] true))).trans (Ext.alloc _ _)
   ·exact(Own.keep (h':=(h7.set h5.next (.cells 175 [.str (a3p (a0o 1 (i1 s)) (i2 s)),.str (a3p (a0o 1 (i3 s)) (i5 s)),.bool false,.int .i64 0,.int .u32 0] true))) o5 (fun c h1 h2'=>by simp only[a0a.gn _ _ _ _ (show c≠h5.next by omega)]; exact f7 c h2' (by omega)) (by show h5.next≤h7.next; omega)).ext (Ext.alloc _ _)
   rintro g ⟨xg,gp,gr,og,ng,gi⟩
   rw[← cb] at gi
   obtain⟨v8,h8,e8,o8,k8⟩:=a8g (T:=TV n) (st:=135) (rest:=[135]) (h:=g) (x:=b) og gi ng (by have:=xg.nx; omega) (by omega) rfl rfl rfl rfl rfl (by exact Nat.le_of_ble_eq_true rfl) rfl (by decide) rfl
   have n8:=k8.nx
   refine walk ?_
   refine next (acc.length+1,v8,acc++[b],s') (by simp only; omega) (by exact hsub) ⟨by exact a0j,by omega,by exact a0g,by exact a0g,o8,by simp,?_,?_,?_,par2⟩
   ·simp only; omega
   ·simp only; omega
   ·simp only
    intro b' hb'
    rcases List.mem_append.1 hb' with q|q
    ·exact nms b' q
    ·obtain rfl:=List.mem_singleton.1 q
     exact nb
 ·have e0:p.count.toNat-acc.length=0:=by
   rcases Nat.eq_zero_or_pos acc.length with q|q
   ·omega
   ·have:=cnt q; omega
  have e1:a4v p.count.toNat p.body=some acc:=by rw[par,e0]; simp[a4v]
  have tm:b5p acc:=⟨by omega,nms⟩
  have w1:=d2w (n:=n) (by omega) (z:=(p.body.length:Int)+24) (p:=p.page) (tx:=p.tx) (h:=h2) ow.ls (x2.ok hk) tm
  refine walk ?_
  refine a3e w1 rfl rfl rfl rfl ?_
  have key:ofI p=if a8y ((p.body.length:Int)+24) p.page p.tx acc=(p,0) then some acc else none:=by unfold ofI; rw[e1]
  generalize a8y ((p.body.length:Int)+24) p.page p.tx acc=r at key ⊢
  obtain⟨r1,r2⟩:=r
  by_cases c1:r2=0
  case neg =>
   rw[key,if_neg fun e=>c1 (congrArg Prod.snd e)]
   refine walk ?_
   exact a0d (by exact hres) ⟨by exact a0j,rfl⟩
  subst c1
  refine walk ?_
  refine a1k rfl rfl rfl (a3n rfl rfl rfl (a8s (a5j r1 p) rfl) rfl) ?_
  by_cases c2:r1=p
  ·rw[key,if_pos (by rw[c2])]
   refine walk ?_
   exact a0d (by exact hres) ⟨by exact a0j,u,rfl,Own.lo (Own.ext ow (by exact a0j)) (by omega)⟩
  ·rw[key,if_neg fun e=>c2 (congrArg Prod.fst e)]
   refine walk ?_
   exact a0d (by exact hres) ⟨by exact a0j,rfl⟩
end Go.Proofs.YtejfbaecadbdiaaGreat
