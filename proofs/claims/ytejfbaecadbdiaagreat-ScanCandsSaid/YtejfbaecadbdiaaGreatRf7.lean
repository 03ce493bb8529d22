/- What the functions of this part answer at any input, told by the rules over the evaluator. Conditions: those that each theorem states. -/
import Derived.Test.YtejfbaecadbdiaaGreatRf2
import Derived.Test.YtejfbaecadbdiaaGreatBra
set_option linter.unusedVariables false
set_option linter.unusedSimpArgs false
open Go Ev
namespace Go.Proofs.YtejfbaecadbdiaaGreat
set_option maxRecDepth 10000
set_option maxHeartbeats 4000000
theorem c6g {n:Nat}(hn:0<n) (s:List UInt8) (h:a0a):(TV n).sm 154 [.str s] h=some (.bool (decide (b1g s)),h):=by
 refine a3b hn rfl rfl rfl fun n hn=>a0s rfl rfl ?_
 unfold b1g
 exact auto
theorem d9m {n:Nat}(hn:0<n) (b:Fk) (hb:b.key.length≤1000000) (h:a0a):(TV n).sm 155 [.agg b.cs] h=some (.int .i64 (5+b.key.length:Nat),h):=by
 refine a3b hn rfl rfl rfl fun n hn=>a0s rfl rfl ?_
 have e:((5+b.key.length:Nat):Int)=5+(b.key.length:Int):=by omega
 rw[e]
 exact auto
theorem d2b {n:Nat}(hn:1<n){v:AV}{l:List Fk}{h:a0a}(ls:LsF h v l) (hk:h.ok) (t:b7y l):(TV n).sm 129 [v] h=some (.int .i64 (a3u l),h):=by
 refine a9d hn (fun h=>h.ok∧LsF h v l) rfl rfl ⟨hk,ls⟩ (fun hp=>⟨a2f,ls.any (by simpa [AV.a1q,AV.plain] using hp)⟩) ?_
 clear hk ls h
 rintro n hn h ⟨hk,ls⟩
 refine a0s rfl rfl ?_
 have hlen:=ls.len
 refine walk ?_
 refine a0n (fun i=>l.length-i) (fun i=>[(0,v),(3,.int .i64 (a3u (l.take i))),(4,.int .i64 (i:Nat))]) (fun i h2=>i≤l.length∧Ext h h2) 0 hsub ⟨by omega,.refl h⟩ ?_
 rintro i h2 ⟨hi,x2⟩ next
 have t1:=t.1
 have bd:=b8m (l.take i) fun b hb=>t.2 b (List.mem_of_mem_take hb)
 rw[List.length_take] at bd
 by_cases hil:i<l.length
 ·obtain⟨y,hy⟩:∃ y,l[i]?=some y:=⟨l[i],List.getElem?_eq_getElem hil⟩
  obtain⟨b,p,e,all,rw',hb,hg,hpl,he,a1⟩:=(ls.ext x2).at Fk.len hy
  have ty:=d0x t hy
  have w1:=d9m (n:=n) (by omega) y ty
  have e2:((a3u (l.take (i+1)):Nat):Int)=(a3u (l.take i):Int)+((5+y.key.length:Nat):Int):=by rw[c4i l i y hy]; omega
  refine walk ?_
  refine next (i+1) (by omega) ?_ ⟨by omega,a0j⟩
  rw[e2]
  exact hsub
 ·refine walk ?_
  have e:l.take i=l:=List.take_of_length_le (by omega)
  rw[e]
  exact a0e hres ⟨rfl,a0j⟩
theorem d8n {n:Nat}(hn:1<n){v:AV}{l:List Fk}{h:a0a}(ls:LsF h v l) (hk:h.ok) (t:b7y l):(TV n).sm 128 [v] h=some (.bool (decide (b3q l)),h):=by
 refine a9d hn (fun h=>h.ok∧LsF h v l) rfl rfl ⟨hk,ls⟩ (fun hp=>⟨a2f,ls.any (by simpa [AV.a1q,AV.plain] using hp)⟩) ?_
 clear hk ls h
 rintro n hn h ⟨hk,ls⟩
 refine a0s rfl rfl ?_
 have hlen:=ls.len
 have t1:=t.1
 refine walk ?_
 refine a0n (fun i=>l.length-i) (fun i=>[(0,v),(3,.int .i64 (i:Nat))]) (fun i h2=>i≤l.length∧Ext h h2∧∀ j,j<i→∀ b,l[j]?=some b→b1g b.key∧num b.child∧(0<j→∀ a,l[j-1]?=some a→bytesLess a.key b.key=true)) 0 hsub ⟨by omega,.refl h,fun j hj=>by omega⟩ ?_
 rintro i h2 ⟨hi,x2,inv⟩ next
 have ok2:=x2.ok hk
 have nx:=x2.nx
 by_cases hil:i<l.length
 ·obtain⟨y,hy⟩:∃ y,l[i]?=some y:=⟨l[i],List.getElem?_eq_getElem hil⟩
  obtain⟨b,p,e,all,rw',hb,hg,hpl,he,a1⟩:=(ls.ext x2).at Fk.len hy
  have w1:=c6g (n:=n) (by omega) y.key
  have w2:=a4q (n:=n) (by omega) y.child
  by_cases c1:b1g y.key
  case neg =>
   have bad:¬ b3q l:=fun m=>c1 (m.1 i y hy).1
   refine walk ?_
   refine a0c (q:=34) (ms:=[0,0,3,7,15,31,63,127,255,255,1023,2047,4095,8191,16383,32767,65535,131071,262143,524287,1048575,1048575,3145727,8388607,16777215,33554431,1048575,1048575,202375167,470810623,1007681535,2147483647,4294967295,8589934591]) (hl:=[[11],[10],[],[],[],[],[],[],[19],[18],[],[],[],[],[],[],[],[],[],[],[31,32,36,37,38,39,40],[30,36,37,38,39,40],[30,36,37,38,39,40],[36,37,38,39,40],[36,37,38,39,40],[36,37,38,39,40],[30,31,32,33,34,35,37],[30,31,32,33,34,35,36],[30,31,32,33,34,35],[30,31,32,33,34,35],[30,31,32,33,34,35],[],[],[]]) hok rfl (by kernel_rfl) (by kernel_rfl) rfl ?_
   refine walk ?_
   exact a0e hres ⟨a3w bad,a0j⟩
  by_cases c1':num y.child
  case neg =>
   have bad:¬ b3q l:=fun m=>c1' (m.1 i y hy).2.1
   refine walk ?_
   refine a0c (q:=34) (ms:=[0,0,3,7,15,31,63,127,255,255,1023,2047,4095,8191,16383,32767,65535,131071,262143,524287,1048575,1048575,3145727,8388607,16777215,33554431,1048575,1048575,202375167,470810623,1007681535,2147483647,4294967295,8589934591]) (hl:=[[11],[10],[],[],[],[],[],[],[19],[18],[],[],[],[],[],[],[],[],[],[],[31,32,36,37,38,39,40],[30,36,37,38,39,40],[30,36,37,38,39,40],[36,37,38,39,40],[36,37,38,39,40],[36,37,38,39,40],[30,31,32,33,34,35,37],[30,31,32,33,34,35,36],[30,31,32,33,34,35],[30,31,32,33,34,35],[30,31,32,33,34,35],[],[],[]]) hok rfl (by kernel_rfl) (by kernel_rfl) rfl ?_
   refine walk ?_
   exact a0e hres ⟨a3w bad,a0j⟩
  rcases Nat.eq_zero_or_pos i with rfl|hi0
  ·refine walk ?_
   refine a0c (q:=34) (ms:=[0,0,3,7,15,31,63,127,255,255,1023,2047,4095,8191,16383,32767,65535,131071,262143,524287,1048575,1048575,3145727,8388607,16777215,33554431,1048575,1048575,202375167,470810623,1007681535,2147483647,4294967295,8589934591]) (hl:=[[11],[10],[],[],[],[],[],[],[19],[18],[],[],[],[],[],[],[],[],[],[],[31,32,36,37,38,39,40],[30,36,37,38,39,40],[30,36,37,38,39,40],[36,37,38,39,40],[36,37,38,39,40],[36,37,38,39,40],[30,31,32,33,34,35,37],[30,31,32,33,34,35,36],[30,31,32,33,34,35],[30,31,32,33,34,35],[30,31,32,33,34,35],[],[],[]]) hok rfl (by kernel_rfl) (by kernel_rfl) rfl ?_
   refine walk ?_
   refine next 1 (by omega) hsub ⟨by omega,a0j,fun j hj b hb=>?_⟩
   obtain rfl:j=0:=by omega
   rw[hy] at hb; cases hb
   exact⟨c1,c1',fun h0=>by omega⟩
  obtain⟨j,rfl⟩:∃ j,i=j+1:=⟨i-1,by omega⟩
  obtain⟨a,ha⟩:∃ a,l[j]?=some a:=⟨l[j],List.getElem?_eq_getElem (by omega)⟩
  obtain⟨b',p',e',all',rw2,hb',hg',hpl',he',a2⟩:=(ls.ext x2).at Fk.len ha
  cases c2:bytesLess a.key y.key with
  |false =>
   have c3:(!bytesLess a.key y.key)=true:=by rw[c2]; rfl
   have bad:¬ b3q l:=fun m=>by
    have:=(m.1 (j+1) y hy).2.2 (by omega) a ha
    rw[c2] at this; cases this
   refine walk ?_
   refine a0c (q:=34) (ms:=[0,0,3,7,15,31,63,127,255,255,1023,2047,4095,8191,16383,32767,65535,131071,262143,524287,1048575,1048575,3145727,8388607,16777215,33554431,1048575,1048575,202375167,470810623,1007681535,2147483647,4294967295,8589934591]) (hl:=[[11],[10],[],[],[],[],[],[],[19],[18],[],[],[],[],[],[],[],[],[],[],[31,32,36,37,38,39,40],[30,36,37,38,39,40],[30,36,37,38,39,40],[36,37,38,39,40],[36,37,38,39,40],[36,37,38,39,40],[30,31,32,33,34,35,37],[30,31,32,33,34,35,36],[30,31,32,33,34,35],[30,31,32,33,34,35],[30,31,32,33,34,35],[],[],[]]) hok rfl (by kernel_rfl) (by kernel_rfl) rfl ?_
   refine walk ?_
   exact a0e hres ⟨a3w bad,a0j⟩
  |true =>
   have c3:(!bytesLess a.key y.key)=false:=by rw[c2]; rfl
   refine walk ?_
   refine a0c (q:=34) (ms:=[0,0,3,7,15,31,63,127,255,255,1023,2047,4095,8191,16383,32767,65535,131071,262143,524287,1048575,1048575,3145727,8388607,16777215,33554431,1048575,1048575,202375167,470810623,1007681535,2147483647,4294967295,8589934591]) (hl:=[[11],[10],[],[],[],[],[],[],[19],[18],[],[],[],[],[],[],[],[],[],[],[31,32,36,37,38,39,40],[30,36,37,38,39,40],[30,36,37,38,39,40],[36,37,38,39,40],[36,37,38,39,40],[36,37,38,39,40],[30,31,32,33,34,35,37],[30,31,32,33,34,35,36],[30,31,32,33,34,35],[30,31,32,33,34,35],[30,31,32,33,34,35],[],[],[]]) hok rfl (by kernel_rfl) (by kernel_rfl) rfl ?_
   refine walk ?_
   refine next (j+1+1) (by omega) hsub ⟨by omega,a0j,fun k hk' b hb=>?_⟩
   rcases Nat.lt_or_ge k (j+1) with q|q
   ·exact inv k q b hb
   ·obtain rfl:k=j+1:=by omega
    rw[hy] at hb; cases hb
    refine⟨c1,c1',fun _ a' ha'=>?_⟩
    have ha':l[j]?=some a':=ha'
    rw[ha] at ha'; cases ha'
    exact c2
 ·have fin:okB l:=fun j b hb=>inv j (by
   rcases Nat.lt_or_ge j l.length with q|q
   ·omega
   ·rw[List.getElem?_eq_none q] at hb; cases hb) b hb
  have e:b3q l↔0<l.length:=⟨fun m=>m.2,fun m=>⟨fin,m⟩⟩
  refine walk ?_
  refine a0e hres ⟨?_,a0j⟩
  by_cases q:0<l.length
  ·exact(congrArg AV.bool (decide_eq_true (show(0:Int)<l.length by omega))).trans (b5l (e.2 q))
  ·exact(congrArg AV.bool (decide_eq_false (show ¬ (0:Int)<l.length by omega))).trans (a3w fun m=>q (e.1 m))
theorem d9u {l:List Fk}(m:b3q l):5≤a3u l:=by
 cases l with
 |nil=>exact absurd m.2 (by simp)
 |cons a l=>simp only[a3u,List.map_cons,List.sum_cons]; omega
theorem c3h {z:Int}(g:¬ Good z):room z=0:=by unfold room; rw[if_neg g]
theorem d4v {n:Nat}(hn:4<n){z:Int}{p tx:Nat}{v:AV}{l:List Fk}{h:a0a}(ls:LsF h v l) (hk:h.ok) (t:b7y l):(TV n).sm 102 [.int .i64 z,.int .u32 p,.int .u64 tx,v] h=some (.tuple [(b1t z p tx l).1.av,.int .i64 (b1t z p tx l).2],h):=by
 refine a9d hn (fun h=>h.ok∧LsF h v l) rfl rfl ⟨hk,ls⟩ (fun hp=>⟨a2f,ls.any (by simpa [AV.a1q,AV.plain] using hp)⟩) ?_
 clear hk ls h
 rintro n hn h ⟨hk,ls⟩
 refine a0s rfl rfl ?_
 have hlen:=ls.len
 have t1:=t.1
 have w5:=a6p (n:=n) (by omega) z
 have w2:=a4q (n:=n) (by omega) p
 have w1:=b2e (n:=n) (by omega) z
 have x0:Ext h (h.alloc (.cells 64 Pg.zero.cs true)):=Ext.alloc _ _
 have w3:=d8n (n:=n) (by omega) (ls.ext x0) (x0.ok hk) t
 have w4:=d2b (n:=n) (by omega) (ls.ext x0) (x0.ok hk) t
 have bs:=b8m l t.2
 have rz:=room_le z
 unfold b1t
 by_cases c0:Good z
 case neg =>
  rw[if_neg fun c=>by have:=d9u c.1; rw[c3h c0] at c; have:=c.2.1; omega]
  rw[decide_eq_false c0] at w5
  exact auto
 rw[decide_eq_true c0] at w5
 refine walk ?_
 refine a3e w3 rfl rfl rfl rfl ?_
 by_cases c:b3q l∧(a3u l:Int)≤room z∧num p∧tx≤4611686018427387904
 case neg =>
  rw[if_neg c]
  by_cases c1:b3q l
  ·refine walk ?_
   refine a3e w4 rfl rfl rfl rfl ?_
   by_cases c2:(a3u l:Int)≤room z
   ·by_cases c3:num p
    ·have c4:¬ tx≤4611686018427387904:=fun c4=>c ⟨c1,c2,c3,c4⟩
     exact auto
    ·exact auto
   ·exact auto
  ·exact auto
 rw[if_pos c]
 obtain⟨c1,c2,c3,c4⟩:=c
 refine walk ?_
 refine a3e w4 rfl rfl rfl rfl ?_
 refine walk ?_
 refine a0n (ι:=Nat×AV) (fun a=>l.length-a.1) (fun a=>[(0,.int .i64 z),(1,.int .u32 p),(2,.int .u64 tx),(3,v),(8,.ptr h.next 0),(10,a.2),(11,.int .i64 (a.1:Nat))]) (fun a h2=>a.1≤l.length∧Ext (h.alloc (.cells 64 Pg.zero.cs true)) h2∧a2t 5 (h.next+1) h2 a.2 (b6d (l.take a.1))) (0,.nilslice) hsub ⟨by omega,.refl _,a2t.nil⟩ ?_
 rintro⟨i,u⟩ h2 ⟨hi,x2,ow⟩ next
 dsimp only at hi ow next ⊢
 have nx2:h.next+1≤h2.next:=x2.nx
 have g8:h2.get h.next=some (.cells 64 Pg.zero.cs true):=(x2.old _ (by show h.next<h.next+1; omega)).trans (a0t _ _)
 have ok2:=x2.ok (x0.ok hk)
 have hsz:(b6d (l.take i)).length≤4072:=by
  have:=c2g l i
  rw[c5h]; omega
 by_cases hil:i<l.length
 ·obtain⟨y,hy⟩:∃ y,l[i]?=some y:=⟨l[i],List.getElem?_eq_getElem hil⟩
  obtain⟨b,p',e,all,rw',hb,hg,hpl,he,a1⟩:=((ls.ext x0).ext x2).at Fk.len hy
  have ky:y.key.length≤40:=(c1.1 i y hy).1
  have rb:y.child≤2147483647:=(c1.1 i y hy).2.1.2
  have ycs:y.cs=[.str y.key,.int .u32 y.child]:=rfl
  rw[ycs] at he
  refine walk ?_
  refine a0b (a9p ow.by (by omega) (by decide) (by decide) (by omega) ow.by.ns) rfl rfl rfl rfl ?_
  rintro v1 g1 ⟨o1,x1⟩
  have nx1:h2.next≤g1.next:=x1.nx
  obtain⟨v2,g2,e2,o2,k2⟩:=ast (q:=n) (lo:=h2.next) (r:=y.key) o1 (by simp[a1c]; omega)
  have nx2':=k2.nx
  have x12:Ext h2 g2:=by exact a0j
  have hg1:g1.get b=some (.cells e all rw'):=(x1.old b hb).trans hg
  have hg2:g2.get b=some (.cells e all rw'):=(x12.old b hb).trans hg
  refine walk ?_
  refine a0b (a9p o2.by (by omega) (by decide) (by decide) (by simp[a1c]; omega) o2.by.ns) rfl rfl rfl rfl ?_
  rintro v5 g5 ⟨o5,x5⟩
  have nx5:=x5.nx
  refine walk ?_
  refine next (i+1,v5) (by simp only; omega) hsub ⟨by simp only; omega,by exact a0j,?_⟩
  simp only
  rw[c3v l i y hy]
  have o6:=a2t.lo o5 (show h.next+1≤g2.next by omega)
  simpa [d7z] using o6
 ·have e1:l.take i=l:=List.take_of_length_le (by omega)
  rw[e1] at ow
  have w6:=b2m (n:=n) (by omega) (z:=z) ow.by ok2 ow.by.ns
  rw[a4j] at w6
  refine walk ?_
  refine a3e w6 rfl rfl rfl rfl ?_
  refine walk ?_
  exact a0d (by exact hres) ⟨rfl,by exact a0j⟩
theorem d1f {n:Nat}(hn:6<n){p:Pg}{h:a0a}(hk:h.ok) (hl:p.body.length≤100000) (hc:p.count<1000000000):a0l (TV n) 69 [p.av] h (fun v h'=>Ext h h'∧match ofB p with
  |none=>v=.tuple [.nilslice,.int .i64 4]
  |some l=>∃ u,v=.tuple [u,.int .i64 0]∧c4y h.next h' u l):=by
 refine a0r (a1x rfl rfl) rfl rfl ?_
 refine walk ?_
 refine a0b (d7o p.body _) rfl rfl rfl rfl ?_
 rintro _ _ ⟨rfl,rfl⟩
 refine walk ?_
 refine a0n (ι:=Nat×AV×List Fk×List UInt8) (fun a=>p.count.toNat-a.1) (fun a=>[(1,.ptr h.next 0),(4,.ptr (h.next+1) 0),(5,a.2.1),(6,.int .i64 (a.1:Nat))]) (fun a h2=>Ext h h2∧h.next+2≤h2.next∧h2.get h.next=some (.cells 64 p.cs true)∧h2.get (h.next+1)=some (.cells 166 [.str a.2.2.2] true)∧c4y (h.next+2) h2 a.2.1 a.2.2.1∧a.1=a.2.2.1.length∧4*a.1+a.2.2.2.length≤p.body.length∧(0<a.1→(a.1:Int)≤p.count)∧(∀ b∈a.2.2.1,b.key.length≤1000000)∧a5x p.count.toNat p.body=(a5x (p.count.toNat-a.1) a.2.2.2).map (a.2.2.1 ++ ·)) (0,.nilslice,[],p.body) hsub ⟨by exact a0j,by show h.next+2≤h.next+1+1; omega,by exact a0g,by exact a0g,a9g.nil,rfl,by simp,by simp,by simp,by simp⟩ ?_
 rintro⟨i,u,acc,s⟩ h2 ⟨x2,n2,g0,g1,ow,ei,len,cnt,nms,par⟩ next
 dsimp only at g1 ow ei len nms par next cnt ⊢
 subst ei
 by_cases hi:(acc.length:Int)<p.count
 ·have v1:=a1s 1 s
  have l1:=a1b 1 s
  have l2:=a1b (a0o 1 s) (a0h 1 s)
  have v2:=a1s 4 (a0h (a0o 1 s) (a0h 1 s))
  refine walk ?_
  refine a0b (b0j (n:=1) g1 (by omega) (by omega) (by decide) (by decide)) rfl rfl rfl rfl ?_
  rintro _ h3 ⟨rfl,u3⟩
  have n3:=u3.nx
  refine walk ?_
  refine a0b (e5c (n:=a0o 1 s) u3.got (by omega) (by omega) (by omega)) rfl rfl rfl rfl ?_
  rintro _ h4 ⟨rfl,u4⟩
  have n4:=u4.nx
  refine walk ?_
  refine a0b (b0j (n:=4) u4.got (by omega) (by omega) (by decide) (by decide)) rfl rfl rfl rfl ?_
  rintro _ h6 ⟨rfl,u6⟩
  have n6:=u6.nx
  have oku:h6.ok:=u6.ok (u4.ok (u3.ok (x2.ok hk)))
  have k6:a4g (h.next+1) h2 h6:=⟨by omega,fun c hc=>by rw[u6.old c (by omega),u4.old c (by omega),u3.old c (by omega)],fun _=>oku⟩
  have x6:Ext h h6:=x2.kp k6 (by omega)
  have o6:c4y (h.next+2) h6 u acc:=Own.keep ow (fun c h1 h2'=>by rw[u6.old c (by omega),u4.old c (by omega),u3.old c (by omega)]) (by omega)
  have par':p.count.toNat-acc.length=(p.count.toNat-(acc.length+1))+1:=by omega
  have e0:a5x ((p.count.toNat-(acc.length+1))+1) s=if okF s then(a5x (p.count.toNat-(acc.length+1)) (b4h s)).map (c3y s :: ·) else none:=rfl
  rw[par',e0] at par
  by_cases c:okF s
  case neg =>
   have e4:ofB p=none:=by unfold ofB; rw[par,if_neg c]; rfl
   rw[e4]
   by_cases d1:1≤s.length
   ·by_cases d2:a0o 1 s≤(a0h 1 s).length
    ·have d3:¬ 4≤(a0h (a0o 1 s) (a0h 1 s)).length:=fun d3=>c ⟨d1,d2,d3⟩
     rw[a4b d1,a4b d2,a5k d3]
     refine walk ?_
     exact a0d (by exact hres) ⟨x6,rfl⟩
    ·rw[a4b d1,a5k d2]
     refine walk ?_
     exact a0d (by exact hres) ⟨x6,rfl⟩
   ·rw[a5k d1]
    refine walk ?_
    exact a0d (by exact hres) ⟨x6,rfl⟩
  rw[if_pos c] at par
  rw[a4b c.1,a4b c.2.1,a4b c.2.2]
  have l4:=a2q c.2.2
  obtain⟨b,hb⟩:∃ b:Fk,b=c3y s:=⟨_,rfl⟩
  obtain⟨s',hs'⟩:∃ s',s'=b4h s:=⟨_,rfl⟩
  rw[← hb,← hs'] at par
  have par2:a5x p.count.toNat p.body=(a5x (p.count.toNat-(acc.length+1)) s').map ((acc++[b]) ++ ·):=by
   rw[par]
   simp only[Option.map_map]
   congr 1
   funext x
   simp
  have nb:b.key.length≤1000000:=by rw[hb]; exact Nat.le_trans (a8i _ _) (by omega)
  have hs2:a0h 4 (a0h (a0o 1 s) (a0h 1 s))=s':=by rw[hs']; rfl
  rw[hs2] at l4 u6
  obtain⟨v7,h7,e7,o7,k7⟩:=a8g (T:=TV n) (st:=132) (rest:=[132]) (h:=h6.alloc (.cells 147 b.cs true)) (x:=b) (o6.ext (Ext.alloc _ _)) (a0t _ _) (by show h6.next<h6.next+1; omega) (by show h.next+2≤h6.next+1; omega) (by omega) rfl rfl rfl rfl rfl (by exact Nat.le_of_ble_eq_true rfl) rfl (by decide) rfl
  have n7:h6.next+1≤h7.next:=k7.nx
  have cb:b.cs=[.str (a3p (a0o 1 s) (a0h 1 s)),.int .u32 (a0o 4 (a0h (a0o 1 s) (a0h 1 s)))]:=by rw[hb]; rfl
  rw[cb] at e7
  refine walk ?_
  refine next (acc.length+1,v7,acc++[b],s') (by simp only; omega) (by exact hsub) ⟨by exact a0j,by omega,by exact a0g,by exact a0g,o7,by simp,?_,?_,?_,par2⟩
  ·simp only; omega
  ·simp only; omega
  ·simp only
   intro b' hb'
   rcases List.mem_append.1 hb' with q|q
   ·exact nms b' q
   ·obtain rfl:=List.mem_singleton.1 q
    exact nb
 ·have e0:p.count.toNat-acc.length=0:=by
   rcases Nat.eq_zero_or_pos acc.length with q|q
   ·omega
   ·have:=cnt q; omega
  have e1:a5x p.count.toNat p.body=some acc:=by rw[par,e0]; simp[a5x]
  have tm:b7y acc:=⟨by omega,nms⟩
  have w1:=d4v (n:=n) (by omega) (z:=(p.body.length:Int)+24) (p:=p.page) (tx:=p.tx) (h:=h2) ow.ls (x2.ok hk) tm
  refine walk ?_
  refine a3e w1 rfl rfl rfl rfl ?_
  have key:ofB p=if b1t ((p.body.length:Int)+24) p.page p.tx acc=(p,0) then some acc else none:=by unfold ofB; rw[e1]
  generalize b1t ((p.body.length:Int)+24) p.page p.tx acc=r at key ⊢
  obtain⟨r1,r2⟩:=r
  by_cases c1:r2=0
  case neg =>
   rw[key,if_neg fun e=>c1 (congrArg Prod.snd e)]
   refine walk ?_
   exact a0d (by exact hres) ⟨by exact a0j,rfl⟩
  subst c1
  refine walk ?_
  refine a1k rfl rfl rfl (a3n rfl rfl rfl (a8s (a5j r1 p) rfl) rfl) ?_
  by_cases c2:r1=p
  ·rw[key,if_pos (by rw[c2])]
   refine walk ?_
   exact a0d (by exact hres) ⟨by exact a0j,u,rfl,Own.lo (Own.ext ow (by exact a0j)) (by omega)⟩
  ·rw[key,if_neg fun e=>c2 (congrArg Prod.fst e)]
   refine walk ?_
   exact a0d (by exact hres) ⟨by exact a0j,rfl⟩
end Go.Proofs.YtejfbaecadbdiaaGreat
