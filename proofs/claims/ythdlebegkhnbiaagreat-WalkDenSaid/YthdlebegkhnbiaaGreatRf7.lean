/- What the functions of this part answer at any input, told by the rules over the evaluator. Conditions: those that each theorem states. -/
import Derived.Test.YthdlebegkhnbiaaGreatRf2
import Derived.Test.YthdlebegkhnbiaaGreatBra
set_option linter.unusedVariables false
set_option linter.unusedSimpArgs false
open Go Ev
namespace Go.Proofs.YthdlebegkhnbiaaGreat
set_option maxRecDepth 10000
set_option maxHeartbeats 4000000
theorem rbraKey_w {n:Nat} (hn:0<n) (s:List UInt8) (h:Heap):(TV n).sm 117 [.str s] h=some (.bool (decide (keyOk s)),h):=by
 refine w_of hn rfl rfl rfl fun n hn=>body_j rfl rfl ?_
 unfold keyOk
 exact auto
theorem rbraOne_w {n:Nat} (hn:0<n) (b:Fk) (hb:b.key.length≤1000000) (h:Heap):(TV n).sm 118 [.agg b.cs] h=some (.int .i64 (5+b.key.length:Nat),h):=by
 refine w_of hn rfl rfl rfl fun n hn=>body_j rfl rfl ?_
 have e:((5+b.key.length:Nat):Int)=5+(b.key.length:Int):=by omega
 rw [e]
 exact auto
theorem rbraSize_w {n:Nat} (hn:1<n) {v:AV} {l:List Fk} {h:Heap} (ls:LsF h v l) (hk:h.ok) (t:tameF l):(TV n).sm 90 [v] h=some (.int .i64 (sizeB l),h):=by
 refine w_in hn (fun h=>h.ok∧LsF h v l) rfl rfl ⟨hk,ls⟩ (fun hp=>⟨ok_nil,ls.any (by simpa [AV.plains,AV.plain] using hp)⟩) ?_
 clear hk ls h
 rintro n hn h ⟨hk,ls⟩
 refine body_j rfl rfl ?_
 have hlen:=ls.len
 refine walk ?_
 refine jg_loop (fun i=>l.length-i) (fun i=>[(0,v),(3,.int .i64 (sizeB (l.take i))),(4,.int .i64 (i:Nat))]) (fun i h2=>i≤l.length∧Ext h h2) 0 hsub ⟨by omega,.refl h⟩ ?_
 rintro i h2 ⟨hi,x2⟩ next
 have t1:=t.1
 have bd:=sizeB_le (l.take i) fun b hb=>t.2 b (List.mem_of_mem_take hb)
 rw [List.length_take] at bd
 by_cases hil:i<l.length
 ·obtain ⟨y,hy⟩:∃ y,l[i]?=some y:=⟨l[i],List.getElem?_eq_getElem hil⟩
  obtain ⟨b,p,e,all,rw',hb,hg,hpl,he,a1⟩:=(ls.ext x2).at Fk.len hy
  have ty:=tameF_at t hy
  have w1:=rbraOne_w (n:=n) (by omega) y ty
  have e2:((sizeB (l.take (i+1)):Nat):Int)=(sizeB (l.take i):Int)+((5+y.key.length:Nat):Int):=by rw [sizeB_take l i y hy]; omega
  refine walk ?_
  refine next (i+1) (by omega) ?_ ⟨by omega,hext⟩
  rw [e2]
  exact hsub
 ·refine walk ?_
  have e:l.take i=l:=List.take_of_length_le (by omega)
  rw [e]
  exact jg_ret1 hres ⟨rfl,hext⟩
theorem rbraMay_w {n:Nat} (hn:1<n) {v:AV} {l:List Fk} {h:Heap} (ls:LsF h v l) (hk:h.ok) (t:tameF l):(TV n).sm 89 [v] h=some (.bool (decide (mayB l)),h):=by
 refine w_in hn (fun h=>h.ok∧LsF h v l) rfl rfl ⟨hk,ls⟩ (fun hp=>⟨ok_nil,ls.any (by simpa [AV.plains,AV.plain] using hp)⟩) ?_
 clear hk ls h
 rintro n hn h ⟨hk,ls⟩
 refine body_j rfl rfl ?_
 have hlen:=ls.len
 have t1:=t.1
 refine walk ?_
 refine jg_loop (fun i=>l.length-i) (fun i=>[(0,v),(3,.int .i64 (i:Nat))]) (fun i h2=>i≤l.length∧Ext h h2∧∀ j,j<i→∀ b,l[j]?=some b→keyOk b.key∧num b.child∧(0<j→∀ a,l[j-1]?=some a→bytesLess a.key b.key=true)) 0 hsub ⟨by omega,.refl h,fun j hj=>by omega⟩ ?_
 rintro i h2 ⟨hi,x2,inv⟩ next
 have ok2:=x2.ok hk
 have nx:=x2.nx
 by_cases hil:i<l.length
 ·obtain ⟨y,hy⟩:∃ y,l[i]?=some y:=⟨l[i],List.getElem?_eq_getElem hil⟩
  obtain ⟨b,p,e,all,rw',hb,hg,hpl,he,a1⟩:=(ls.ext x2).at Fk.len hy
  have w1:=rbraKey_w (n:=n) (by omega) y.key
  have w2:=rnumber_w (n:=n) (by omega) y.child
  by_cases c1:keyOk y.key
  case neg =>
   have bad:¬ mayB l:=fun m=>c1 (m.1 i y hy).1
   refine walk ?_
   refine jg_drawn (q:=34) (ms:=[0,0,3,7,15,31,63,127,255,255,1023,2047,4095,8191,16383,32767,65535,131071,262143,524287,1048575,1048575,3145727,8388607,16777215,33554431,1048575,1048575,202375167,470810623,1007681535,2147483647,4294967295,8589934591]) (hl:=[[11],[10],[],[],[],[],[],[],[19],[18],[],[],[],[],[],[],[],[],[],[],[31,32,36,37,38,39,40],[30,36,37,38,39,40],[30,36,37,38,39,40],[36,37,38,39,40],[36,37,38,39,40],[36,37,38,39,40],[30,31,32,33,34,35,37],[30,31,32,33,34,35,36],[30,31,32,33,34,35],[30,31,32,33,34,35],[30,31,32,33,34,35],[],[],[]]) hok rfl (by kernel_rfl) (by kernel_rfl) rfl ?_
   refine walk ?_
   exact jg_ret1 hres ⟨av_f bad,hext⟩
  by_cases c1':num y.child
  case neg =>
   have bad:¬ mayB l:=fun m=>c1' (m.1 i y hy).2.1
   refine walk ?_
   refine jg_drawn (q:=34) (ms:=[0,0,3,7,15,31,63,127,255,255,1023,2047,4095,8191,16383,32767,65535,131071,262143,524287,1048575,1048575,3145727,8388607,16777215,33554431,1048575,1048575,202375167,470810623,1007681535,2147483647,4294967295,8589934591]) (hl:=[[11],[10],[],[],[],[],[],[],[19],[18],[],[],[],[],[],[],[],[],[],[],[31,32,36,37,38,39,40],[30,36,37,38,39,40],[30,36,37,38,39,40],[36,37,38,39,40],[36,37,38,39,40],[36,37,38,39,40],[30,31,32,33,34,35,37],[30,31,32,33,34,35,36],[30,31,32,33,34,35],[30,31,32,33,34,35],[30,31,32,33,34,35],[],[],[]]) hok rfl (by kernel_rfl) (by kernel_rfl) rfl ?_
   refine walk ?_
   exact jg_ret1 hres ⟨av_f bad,hext⟩
  rcases Nat.eq_zero_or_pos i with rfl|hi0
  ·refine walk ?_
   refine jg_drawn (q:=34) (ms:=[0,0,3,7,15,31,63,127,255,255,1023,2047,4095,8191,16383,32767,65535,131071,262143,524287,1048575,1048575,3145727,8388607,16777215,33554431,1048575,1048575,202375167,470810623,1007681535,2147483647,4294967295,8589934591]) (hl:=[[11],[10],[],[],[],[],[],[],[19],[18],[],[],[],[],[],[],[],[],[],[],[31,32,36,37,38,39,40],[30,36,37,38,39,40],[30,36,37,38,39,40],[36,37,38,39,40],[36,37,38,39,40],[36,37,38,39,40],[30,31,32,33,34,35,37],[30,31,32,33,34,35,36],[30,31,32,33,34,35],[30,31,32,33,34,35],[30,31,32,33,34,35],[],[],[]]) hok rfl (by kernel_rfl) (by kernel_rfl) rfl ?_
   refine walk ?_
   refine next 1 (by omega) hsub ⟨by omega,hext,fun j hj b hb=>?_⟩
   obtain rfl:j=0:=by omega
   rw [hy] at hb; cases hb
   exact ⟨c1,c1',fun h0=>by omega⟩
  obtain ⟨j,rfl⟩:∃ j,i=j+1:=⟨i-1,by omega⟩
  obtain ⟨a,ha⟩:∃ a,l[j]?=some a:=⟨l[j],List.getElem?_eq_getElem (by omega)⟩
  obtain ⟨b',p',e',all',rw2,hb',hg',hpl',he',a2⟩:=(ls.ext x2).at Fk.len ha
  cases c2:bytesLess a.key y.key with
  |false =>
   have c3:(!bytesLess a.key y.key)=true:=by rw [c2]; rfl
   have bad:¬ mayB l:=fun m=>by
    have:=(m.1 (j+1) y hy).2.2 (by omega) a ha
    rw [c2] at this; cases this
   refine walk ?_
   refine jg_drawn (q:=34) (ms:=[0,0,3,7,15,31,63,127,255,255,1023,2047,4095,8191,16383,32767,65535,131071,262143,524287,1048575,1048575,3145727,8388607,16777215,33554431,1048575,1048575,202375167,470810623,1007681535,2147483647,4294967295,8589934591]) (hl:=[[11],[10],[],[],[],[],[],[],[19],[18],[],[],[],[],[],[],[],[],[],[],[31,32,36,37,38,39,40],[30,36,37,38,39,40],[30,36,37,38,39,40],[36,37,38,39,40],[36,37,38,39,40],[36,37,38,39,40],[30,31,32,33,34,35,37],[30,31,32,33,34,35,36],[30,31,32,33,34,35],[30,31,32,33,34,35],[30,31,32,33,34,35],[],[],[]]) hok rfl (by kernel_rfl) (by kernel_rfl) rfl ?_
   refine walk ?_
   exact jg_ret1 hres ⟨av_f bad,hext⟩
  |true =>
   have c3:(!bytesLess a.key y.key)=false:=by rw [c2]; rfl
   refine walk ?_
   refine jg_drawn (q:=34) (ms:=[0,0,3,7,15,31,63,127,255,255,1023,2047,4095,8191,16383,32767,65535,131071,262143,524287,1048575,1048575,3145727,8388607,16777215,33554431,1048575,1048575,202375167,470810623,1007681535,2147483647,4294967295,8589934591]) (hl:=[[11],[10],[],[],[],[],[],[],[19],[18],[],[],[],[],[],[],[],[],[],[],[31,32,36,37,38,39,40],[30,36,37,38,39,40],[30,36,37,38,39,40],[36,37,38,39,40],[36,37,38,39,40],[36,37,38,39,40],[30,31,32,33,34,35,37],[30,31,32,33,34,35,36],[30,31,32,33,34,35],[30,31,32,33,34,35],[30,31,32,33,34,35],[],[],[]]) hok rfl (by kernel_rfl) (by kernel_rfl) rfl ?_
   refine walk ?_
   refine next (j+1+1) (by omega) hsub ⟨by omega,hext,fun k hk' b hb=>?_⟩
   rcases Nat.lt_or_ge k (j+1) with q|q
   ·exact inv k q b hb
   ·obtain rfl:k=j+1:=by omega
    rw [hy] at hb; cases hb
    refine ⟨c1,c1',fun _ a' ha'=>?_⟩
    have ha':l[j]?=some a':=ha'
    rw [ha] at ha'; cases ha'
    exact c2
 ·have fin:okB l:=fun j b hb=>inv j (by
   rcases Nat.lt_or_ge j l.length with q|q
   ·omega
   ·rw [List.getElem?_eq_none q] at hb; cases hb) b hb
  have e:mayB l↔0<l.length:=⟨fun m=>m.2,fun m=>⟨fin,m⟩⟩
  refine walk ?_
  refine jg_ret1 hres ⟨?_,hext⟩
  by_cases q:0<l.length
  ·exact (congrArg AV.bool (decide_eq_true (show (0:Int)<l.length by omega))).trans (av_t (e.2 q))
  ·exact (congrArg AV.bool (decide_eq_false (show ¬ (0:Int)<l.length by omega))).trans (av_f fun m=>q (e.1 m))
theorem sizeB_pos {l:List Fk} (m:mayB l):5≤sizeB l:=by
 cases l with
 |nil=>exact absurd m.2 (by simp)
 |cons a l=>simp only [sizeB,List.map_cons,List.sum_cons]; omega
theorem room_bad {z:Int} (g:¬ Good z):room z=0:=by unfold room; rw [if_neg g]
theorem rbraPage_w {n:Nat} (hn:4<n) {z:Int} {p tx:Nat} {v:AV} {l:List Fk} {h:Heap} (ls:LsF h v l) (hk:h.ok) (t:tameF l):(TV n).sm 63 [.int .i64 z,.int .u32 p,.int .u64 tx,v] h=some (.tuple [(pageB z p tx l).1.av,.int .i64 (pageB z p tx l).2],h):=by
 refine w_in hn (fun h=>h.ok∧LsF h v l) rfl rfl ⟨hk,ls⟩ (fun hp=>⟨ok_nil,ls.any (by simpa [AV.plains,AV.plain] using hp)⟩) ?_
 clear hk ls h
 rintro n hn h ⟨hk,ls⟩
 refine body_j rfl rfl ?_
 have hlen:=ls.len
 have t1:=t.1
 have w5:=rgood_w (n:=n) (by omega) z
 have w2:=rnumber_w (n:=n) (by omega) p
 have w1:=rroom_w (n:=n) (by omega) z
 have x0:Ext h (h.alloc (.cells 32 Pg.zero.cs true)):=Ext.alloc _ _
 have w3:=rbraMay_w (n:=n) (by omega) (ls.ext x0) (x0.ok hk) t
 have w4:=rbraSize_w (n:=n) (by omega) (ls.ext x0) (x0.ok hk) t
 have bs:=sizeB_le l t.2
 have rz:=room_le z
 unfold pageB
 by_cases c0:Good z
 case neg =>
  rw [if_neg fun c=>by have:=sizeB_pos c.1; rw [room_bad c0] at c; have:=c.2.1; omega]
  rw [decide_eq_false c0] at w5
  exact auto
 rw [decide_eq_true c0] at w5
 refine walk ?_
 refine jo_w w3 rfl rfl rfl rfl ?_
 by_cases c:mayB l∧(sizeB l:Int)≤room z∧num p∧tx≤4611686018427387904
 case neg =>
  rw [if_neg c]
  by_cases c1:mayB l
  ·refine walk ?_
   refine jo_w w4 rfl rfl rfl rfl ?_
   by_cases c2:(sizeB l:Int)≤room z
   ·by_cases c3:num p
    ·have c4:¬ tx≤4611686018427387904:=fun c4=>c ⟨c1,c2,c3,c4⟩
     exact auto
    ·exact auto
   ·exact auto
  ·exact auto
 rw [if_pos c]
 obtain ⟨c1,c2,c3,c4⟩:=c
 refine walk ?_
 refine jo_w w4 rfl rfl rfl rfl ?_
 refine walk ?_
 refine jg_loop (ι:=Nat×AV) (fun a=>l.length-a.1) (fun a=>[(0,.int .i64 z),(1,.int .u32 p),(2,.int .u64 tx),(3,v),(8,.ptr h.next 0),(10,a.2),(11,.int .i64 (a.1:Nat))]) (fun a h2=>a.1≤l.length∧Ext (h.alloc (.cells 32 Pg.zero.cs true)) h2∧OwnB 5 (h.next+1) h2 a.2 (encLF (l.take a.1))) (0,.nilslice) hsub ⟨by omega,.refl _,OwnB.nil⟩ ?_
 rintro ⟨i,u⟩ h2 ⟨hi,x2,ow⟩ next
 dsimp only at hi ow next ⊢
 have nx2:h.next+1≤h2.next:=x2.nx
 have g8:h2.get h.next=some (.cells 32 Pg.zero.cs true):=(x2.old _ (by show h.next<h.next+1; omega)).trans (get_new _ _)
 have ok2:=x2.ok (x0.ok hk)
 have hsz:(encLF (l.take i)).length≤4072:=by
  have:=sizeB_mono l i
  rw [encLF_len]; omega
 by_cases hil:i<l.length
 ·obtain ⟨y,hy⟩:∃ y,l[i]?=some y:=⟨l[i],List.getElem?_eq_getElem hil⟩
  obtain ⟨b,p',e,all,rw',hb,hg,hpl,he,a1⟩:=((ls.ext x0).ext x2).at Fk.len hy
  have ky:y.key.length≤40:=(c1.1 i y hy).1
  have rb:y.child≤2147483647:=(c1.1 i y hy).2.1.2
  have ycs:y.cs=[.str y.key,.int .u32 y.child]:=rfl
  rw [ycs] at he
  refine walk ?_
  refine jo_call (rput ow.by (by omega) (by decide) (by decide) (by omega) ow.by.ns) rfl rfl rfl rfl ?_
  rintro v1 g1 ⟨o1,x1⟩
  have nx1:h2.next≤g1.next:=x1.nx
  obtain ⟨v2,g2,e2,o2,k2⟩:=ast (q:=n) (lo:=h2.next) (r:=y.key) o1 (by simp [leb_len]; omega)
  have nx2':=k2.nx
  have x12:Ext h2 g2:=by exact hext
  have hg1:g1.get b=some (.cells e all rw'):=(x1.old b hb).trans hg
  have hg2:g2.get b=some (.cells e all rw'):=(x12.old b hb).trans hg
  refine walk ?_
  refine jo_call (rput o2.by (by omega) (by decide) (by decide) (by simp [leb_len]; omega) o2.by.ns) rfl rfl rfl rfl ?_
  rintro v5 g5 ⟨o5,x5⟩
  have nx5:=x5.nx
  refine walk ?_
  refine next (i+1,v5) (by simp only; omega) hsub ⟨by simp only; omega,by exact hext,?_⟩
  simp only
  rw [encLF_take l i y hy]
  have o6:=OwnB.lo o5 (show h.next+1≤g2.next by omega)
  simpa [encF] using o6
 ·have e1:l.take i=l:=List.take_of_length_le (by omega)
  rw [e1] at ow
  have w6:=rbody_w (n:=n) (by omega) (z:=z) ow.by ok2 ow.by.ns
  rw [bodyR_eq] at w6
  refine walk ?_
  refine jo_w w6 rfl rfl rfl rfl ?_
  refine walk ?_
  exact jg_ret2 (by exact hres) ⟨rfl,by exact hext⟩
theorem rbraOf_g {n:Nat} (hn:6<n) {p:Pg} {h:Heap} (hk:h.ok) (hl:p.body.length≤100000) (hc:p.count<1000000000):Gives (TV n) 33 [p.av] h (fun v h'=>Ext h h'∧match ofB p with
  |none=>v=.tuple [.nilslice,.int .i64 4]
  |some l=>∃ u,v=.tuple [u,.int .i64 0]∧OwnLF h.next h' u l):=by
 refine call_j (no_w rfl rfl) rfl rfl ?_
 refine walk ?_
 refine jo_call (rnew p.body _) rfl rfl rfl rfl ?_
 rintro _ _ ⟨rfl,rfl⟩
 refine walk ?_
 refine jg_loop (ι:=Nat×AV×List Fk×List UInt8) (fun a=>p.count.toNat-a.1) (fun a=>[(1,.ptr h.next 0),(4,.ptr (h.next+1) 0),(5,a.2.1),(6,.int .i64 (a.1:Nat))]) (fun a h2=>Ext h h2∧h.next+2≤h2.next∧h2.get h.next=some (.cells 32 p.cs true)∧h2.get (h.next+1)=some (.cells 128 [.str a.2.2.2] true)∧OwnLF (h.next+2) h2 a.2.1 a.2.2.1∧a.1=a.2.2.1.length∧4*a.1+a.2.2.2.length≤p.body.length∧(0<a.1→(a.1:Int)≤p.count)∧(∀ b∈a.2.2.1,b.key.length≤1000000)∧parseF p.count.toNat p.body=(parseF (p.count.toNat-a.1) a.2.2.2).map (a.2.2.1 ++ ·)) (0,.nilslice,[],p.body) hsub ⟨by exact hext,by show h.next+2≤h.next+1+1; omega,by exact hget,by exact hget,OwnL.nil,rfl,by simp,by simp,by simp,by simp⟩ ?_
 rintro ⟨i,u,acc,s⟩ h2 ⟨x2,n2,g0,g1,ow,ei,len,cnt,nms,par⟩ next
 dsimp only at g1 ow ei len nms par next cnt ⊢
 subst ei
 by_cases hi:(acc.length:Int)<p.count
 ·have v1:=numV_lt 1 s
  have l1:=restV_len 1 s
  have l2:=restV_len (numV 1 s) (restV 1 s)
  have v2:=numV_lt 4 (restV (numV 1 s) (restV 1 s))
  refine walk ?_
  refine jo_call (rnum (n:=1) g1 (by omega) (by omega) (by decide) (by decide)) rfl rfl rfl rfl ?_
  rintro _ h3 ⟨rfl,u3⟩
  have n3:=u3.nx
  refine walk ?_
  refine jo_call (rbyt (n:=numV 1 s) u3.got (by omega) (by omega) (by omega)) rfl rfl rfl rfl ?_
  rintro _ h4 ⟨rfl,u4⟩
  have n4:=u4.nx
  refine walk ?_
  refine jo_call (rnum (n:=4) u4.got (by omega) (by omega) (by decide) (by decide)) rfl rfl rfl rfl ?_
  rintro _ h6 ⟨rfl,u6⟩
  have n6:=u6.nx
  have oku:h6.ok:=u6.ok (u4.ok (u3.ok (x2.ok hk)))
  have k6:Keep (h.next+1) h2 h6:=⟨by omega,fun c hc=>by rw [u6.old c (by omega),u4.old c (by omega),u3.old c (by omega)],fun _=>oku⟩
  have x6:Ext h h6:=x2.kp k6 (by omega)
  have o6:OwnLF (h.next+2) h6 u acc:=Own.keep ow (fun c h1 h2'=>by rw [u6.old c (by omega),u4.old c (by omega),u3.old c (by omega)]) (by omega)
  have par':p.count.toNat-acc.length=(p.count.toNat-(acc.length+1))+1:=by omega
  have e0:parseF ((p.count.toNat-(acc.length+1))+1) s=if okF s then (parseF (p.count.toNat-(acc.length+1)) (fkRest s)).map (fkOf s :: ·) else none:=rfl
  rw [par',e0] at par
  by_cases c:okF s
  case neg =>
   have e4:ofB p=none:=by unfold ofB; rw [par,if_neg c]; rfl
   rw [e4]
   by_cases d1:1≤s.length
   ·by_cases d2:numV 1 s≤(restV 1 s).length
    ·have d3:¬ 4≤(restV (numV 1 s) (restV 1 s)).length:=fun d3=>c ⟨d1,d2,d3⟩
     rw [err_0 d1,err_0 d2,err_7 d3]
     refine walk ?_
     exact jg_ret2 (by exact hres) ⟨x6,rfl⟩
    ·rw [err_0 d1,err_7 d2]
     refine walk ?_
     exact jg_ret2 (by exact hres) ⟨x6,rfl⟩
   ·rw [err_7 d1]
    refine walk ?_
    exact jg_ret2 (by exact hres) ⟨x6,rfl⟩
  rw [if_pos c] at par
  rw [err_0 c.1,err_0 c.2.1,err_0 c.2.2]
  have l4:=restV_lt c.2.2
  obtain ⟨b,hb⟩:∃ b:Fk,b=fkOf s:=⟨_,rfl⟩
  obtain ⟨s',hs'⟩:∃ s',s'=fkRest s:=⟨_,rfl⟩
  rw [← hb,← hs'] at par
  have par2:parseF p.count.toNat p.body=(parseF (p.count.toNat-(acc.length+1)) s').map ((acc++[b]) ++ ·):=by
   rw [par]
   simp only [Option.map_map]
   congr 1
   funext x
   simp
  have nb:b.key.length≤1000000:=by rw [hb]; exact Nat.le_trans (bytV_len _ _) (by omega)
  have hs2:restV 4 (restV (numV 1 s) (restV 1 s))=s':=by rw [hs']; rfl
  rw [hs2] at l4 u6
  obtain ⟨v7,h7,e7,o7,k7⟩:=app_row (T:=TV n) (st:=84) (rest:=[84]) (h:=h6.alloc (.cells 104 b.cs true)) (x:=b) (o6.ext (Ext.alloc _ _)) (get_new _ _) (by show h6.next<h6.next+1; omega) (by show h.next+2≤h6.next+1; omega) (by omega) rfl rfl rfl rfl rfl (by exact Nat.le_of_ble_eq_true rfl) rfl (by decide) rfl
  have n7:h6.next+1≤h7.next:=k7.nx
  have cb:b.cs=[.str (bytV (numV 1 s) (restV 1 s)),.int .u32 (numV 4 (restV (numV 1 s) (restV 1 s)))]:=by rw [hb]; rfl
  rw [cb] at e7
  refine walk ?_
  refine next (acc.length+1,v7,acc++[b],s') (by simp only; omega) (by exact hsub) ⟨by exact hext,by omega,by exact hget,by exact hget,o7,by simp,?_,?_,?_,par2⟩
  ·simp only; omega
  ·simp only; omega
  ·simp only
   intro b' hb'
   rcases List.mem_append.1 hb' with q|q
   ·exact nms b' q
   ·obtain rfl:=List.mem_singleton.1 q
    exact nb
 ·have e0:p.count.toNat-acc.length=0:=by
   rcases Nat.eq_zero_or_pos acc.length with q|q
   ·omega
   ·have:=cnt q; omega
  have e1:parseF p.count.toNat p.body=some acc:=by rw [par,e0]; simp [parseF]
  have tm:tameF acc:=⟨by omega,nms⟩
  have w1:=rbraPage_w (n:=n) (by omega) (z:=(p.body.length:Int)+24) (p:=p.page) (tx:=p.tx) (h:=h2) ow.ls (x2.ok hk) tm
  refine walk ?_
  refine jo_w w1 rfl rfl rfl rfl ?_
  have key:ofB p=if pageB ((p.body.length:Int)+24) p.page p.tx acc=(p,0) then some acc else none:=by unfold ofB; rw [e1]
  generalize pageB ((p.body.length:Int)+24) p.page p.tx acc=r at key ⊢
  obtain ⟨r1,r2⟩:=r
  by_cases c1:r2=0
  case neg =>
   rw [key,if_neg fun e=>c1 (congrArg Prod.snd e)]
   refine walk ?_
   exact jg_ret2 (by exact hres) ⟨by exact hext,rfl⟩
  subst c1
  refine walk ?_
  refine jo_val rfl rfl rfl (k_bin rfl rfl rfl (bin_ne (page_eqv r1 p) rfl) rfl) ?_
  by_cases c2:r1=p
  ·rw [key,if_pos (by rw [c2])]
   refine walk ?_
   exact jg_ret2 (by exact hres) ⟨by exact hext,u,rfl,Own.lo (Own.ext ow (by exact hext)) (by omega)⟩
  ·rw [key,if_neg fun e=>c2 (congrArg Prod.fst e)]
   refine walk ?_
   exact jg_ret2 (by exact hres) ⟨by exact hext,rfl⟩
end Go.Proofs.YthdlebegkhnbiaaGreat
