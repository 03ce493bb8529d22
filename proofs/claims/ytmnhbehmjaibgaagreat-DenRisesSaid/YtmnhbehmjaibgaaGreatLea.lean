/- What the functions of this part answer at any input, told by the rules over the evaluator. Conditions: those that each theorem states. -/
import Derived.Test.YtmnhbehmjaibgaaGreatOvr
set_option linter.unusedVariables false
set_option linter.unusedSimpArgs false
open Go Ev
namespace Go.Proofs.YtmnhbehmjaibgaaGreat
set_option maxRecDepth 10000
set_option maxHeartbeats 4000000
structure It where
 key:List UInt8
 val:List UInt8
 over:Bool
 len:Int
 head:Nat
def It.cs (b:It):List AV:=[.str b.key,.str b.val,.bool b.over,.int .i64 b.len,.int .u32 b.head]
abbrev LsI (h:Heap) (v:AV) (l:List It):Prop:=Ls It.cs 5 h v l
abbrev OwnLI (lo:Nat) (h:Heap) (v:AV) (l:List It):Prop:=OwnL It.cs 135 5 lo h v l
theorem It.csl (b:It):b.cs.length=5:=rfl
theorem leaNum_w {n:Nat} (hn:0<n) (p:Nat) (h:Heap):(TV n).sm 152 [.int .u32 p] h=some (.bool (decide (num p)),h):=by
 refine w_of hn rfl rfl rfl fun n hn=>body_j rfl rfl ?_
 unfold num
 exact auto
def itOk (x:It):Prop:=keyOk x.key∧(x.over=true∧x.val=[]∧1≤x.len∧x.len≤4096∧num x.head∨x.over=false∧x.val.length≤255∧x.len=0∧x.head=0)
instance (x:It):Decidable (itOk x):=inferInstanceAs (Decidable (_∧_))
theorem leaValMay_w {n:Nat} (hn:1<n) (x:It) (h:Heap):(TV n).sm 192 [.agg x.cs] h=some (.bool (decide (itOk x)),h):=by
 refine w_of hn rfl rfl rfl fun n hn=>body_j rfl rfl ?_
 have w1:=braKey_w (n:=n) (by omega) x.key
 have w2:=leaNum_w (n:=n) (by omega) x.head
 unfold itOk
 by_cases c0:keyOk x.key
 case neg=>exact auto
 rcases Bool.eq_false_or_eq_true x.over with ho|ho
 ·by_cases c1:x.val=[]
  ·exact auto
  ·exact auto
 ·exact auto
def szI (x:It):Nat:=2+x.key.length+if x.over then 8 else 1+x.val.length
theorem leaValSize_w {n:Nat} (hn:0<n) (x:It) (hv:x.val.length≤1000000) (h:Heap):(TV n).sm 193 [.agg x.cs] h=some (.int .i64 (if x.over then (8:Nat) else 1+x.val.length:Nat),h):=by
 refine w_of hn rfl rfl rfl fun n hn=>body_j rfl rfl ?_
 rcases Bool.eq_false_or_eq_true x.over with ho|ho
 ·rw [ho]
  refine walk ?_
  exact jg_ret1 (by exact hres) rfl
 ·rw [ho]
  refine walk ?_
  exact jg_ret1 (by exact hres) rfl
def sizeI (l:List It):Nat:=(l.map szI).sum
def tameI (l:List It):Prop:=l.length≤70000∧∀ b∈l,b.key.length≤1000000∧b.val.length≤1000000
theorem tameI_at {l:List It} (t:tameI l) {i:Nat} {b:It} (h:l[i]?=some b):b.key.length≤1000000∧b.val.length≤1000000:=t.2 b (List.mem_of_getElem? h)
theorem szI_le (b:It) (h:b.key.length≤1000000∧b.val.length≤1000000):szI b≤2000010:=by unfold szI; split<;>omega
theorem sizeI_le (l:List It) (hb:∀ b∈l,b.key.length≤1000000∧b.val.length≤1000000):sizeI l≤l.length*2000010:=by
 induction l with
 |nil=>simp [sizeI]
 |cons a l ih =>
  have h1:=szI_le a (hb a (List.mem_cons_self ..))
  have h2:=ih fun b h=>hb b (List.mem_cons_of_mem _ h)
  simp only [sizeI,List.map_cons,List.sum_cons,List.length_cons] at h2 ⊢
  omega
theorem sizeI_take (l:List It) (i:Nat) (b:It) (h:l[i]?=some b):sizeI (l.take (i+1))=sizeI (l.take i)+szI b:=by
 rw [List.take_add_one,h]
 simp [sizeI]
theorem leaSize_w {n:Nat} (hn:1<n) {v:AV} {l:List It} {h:Heap} (ls:LsI h v l) (hk:h.ok) (t:tameI l):(TV n).sm 151 [v] h=some (.int .i64 (sizeI l),h):=by
 refine w_in hn (fun h=>h.ok∧LsI h v l) rfl rfl ⟨hk,ls⟩ (fun hp=>⟨ok_nil,ls.any (by simpa [AV.plains,AV.plain] using hp)⟩) ?_
 clear hk ls h
 rintro n hn h ⟨hk,ls⟩
 refine body_j rfl rfl ?_
 have hlen:=ls.len
 refine walk ?_
 refine jg_loop (fun i=>l.length-i) (fun i=>[(2,.int .i64 (sizeI (l.take i))),(5,v),(7,.int .i64 (i:Nat)),(6,.int .i64 l.length)]) (fun i h2=>i≤l.length∧Ext h h2) 0 hsub ⟨by omega,.refl h⟩ ?_
 rintro i h2 ⟨hi,x2⟩ next
 have t1:=t.1
 have bd:=sizeI_le (l.take i) fun b hb=>t.2 b (List.mem_of_mem_take hb)
 rw [List.length_take] at bd
 by_cases hil:i<l.length
 ·obtain ⟨y,hy⟩:∃ y,l[i]?=some y:=⟨l[i],List.getElem?_eq_getElem hil⟩
  obtain ⟨b,p,e,all,rw',hb,hg,hpl,he,a1⟩:=(ls.ext x2).at It.csl hy
  have ty:=tameI_at t hy
  have w1:=leaValSize_w (n:=n) (by omega) y ty.2
  have ok2:=x2.ok hk
  obtain ⟨k,hk'⟩:∃ k:Nat,k=(if y.over then 8 else 1+y.val.length):=⟨_,rfl⟩
  have kb:k≤1000001:=by
   rw [hk']
   split<;>omega
  have sz:szI y=2+y.key.length+k:=by unfold szI; rw [hk']
  rw [← hk'] at w1
  refine walk ?_
  refine jg_drawn (q:=10) (ms:=[0,0,2,6,14,0,32,126,255,511]) (hl:=[[12,13,14,15,16,17,18],[11,16,17],[11,16,17],[11,16,17],[11,16,17],[11,12,13,14,15],[11,12,13,14,15],[11],[],[]]) hok rfl (by kernel_rfl) (by kernel_rfl) rfl ?_
  refine walk ?_
  refine next (i+1) (by omega) ?_ ⟨by omega,hext⟩
  rw [sizeI_take l i y hy,sz]
  exact hsub
 ·refine walk ?_
  have e:l.take i=l:=List.take_of_length_le (by omega)
  rw [e]
  exact jg_ret1 hres ⟨rfl,hext⟩
def okIs (l:List It):Prop:=∀ i b,l[i]?=some b→itOk b∧(0<i→∀ a,l[i-1]?=some a→bytesLess a.key b.key=true)
def mayI (l:List It):Prop:=okIs l∧0<l.length
noncomputable instance (l:List It):Decidable (mayI l):=Classical.propDecidable _
theorem leaMay_w {n:Nat} (hn:2<n) {v:AV} {l:List It} {h:Heap} (ls:LsI h v l) (hk:h.ok) (t:tameI l):(TV n).sm 150 [v] h=some (.bool (decide (mayI l)),h):=by
 refine w_in hn (fun h=>h.ok∧LsI h v l) rfl rfl ⟨hk,ls⟩ (fun hp=>⟨ok_nil,ls.any (by simpa [AV.plains,AV.plain] using hp)⟩) ?_
 clear hk ls h
 rintro n hn h ⟨hk,ls⟩
 refine body_j rfl rfl ?_
 have hlen:=ls.len
 have t1:=t.1
 refine walk ?_
 refine jg_loop (fun i=>l.length-i) (fun i=>[(0,v),(5,v),(7,.int .i64 (i:Nat)),(6,.int .i64 l.length)]) (fun i h2=>i≤l.length∧Ext h h2∧∀ j,j<i→∀ b,l[j]?=some b→itOk b∧(0<j→∀ a,l[j-1]?=some a→bytesLess a.key b.key=true)) 0 hsub ⟨by omega,.refl h,fun j hj=>by omega⟩ ?_
 rintro i h2 ⟨hi,x2,inv⟩ next
 have ok2:=x2.ok hk
 have nx:=x2.nx
 by_cases hil:i<l.length
 ·obtain ⟨y,hy⟩:∃ y,l[i]?=some y:=⟨l[i],List.getElem?_eq_getElem hil⟩
  obtain ⟨b,p,e,all,rw',hb,hg,hpl,he,a1⟩:=(ls.ext x2).at It.csl hy
  have w1:=leaValMay_w (n:=n) (by omega) y
  by_cases c1:itOk y
  case neg =>
   have bad:¬ mayI l:=fun m=>c1 (m.1 i y hy).1
   refine walk ?_
   refine jg_drawn (q:=18) (ms:=[0,1,3,7,15,31,63,127,127,383,1023,2047,4095,127,8319,32767,65535,131071]) (hl:=[[],[],[],[],[],[],[],[20,21,25,26],[19,25,26],[19,25,26],[25,26],[25,26],[25,26],[19,20,21,22,23,24],[19,20,21,22,23,24],[],[],[]]) hok rfl (by kernel_rfl) (by kernel_rfl) rfl ?_
   refine walk ?_
   exact jg_ret1 hres ⟨av_f bad,hext⟩
  rcases Nat.eq_zero_or_pos i with rfl|hi0
  ·refine walk ?_
   refine jg_drawn (q:=18) (ms:=[0,1,3,7,15,31,63,127,127,383,1023,2047,4095,127,8319,32767,65535,131071]) (hl:=[[],[],[],[],[],[],[],[20,21,25,26],[19,25,26],[19,25,26],[25,26],[25,26],[25,26],[19,20,21,22,23,24],[19,20,21,22,23,24],[],[],[]]) hok rfl (by kernel_rfl) (by kernel_rfl) rfl ?_
   refine walk ?_
   refine next 1 (by omega) hsub ⟨by omega,hext,fun j hj b hb=>?_⟩
   obtain rfl:j=0:=by omega
   rw [hy] at hb; cases hb
   exact ⟨c1,fun h0=>by omega⟩
  obtain ⟨j,rfl⟩:∃ j,i=j+1:=⟨i-1,by omega⟩
  obtain ⟨a,ha⟩:∃ a,l[j]?=some a:=⟨l[j],List.getElem?_eq_getElem (by omega)⟩
  obtain ⟨b',p',e',all',rw2,hb',hg',hpl',he',a2⟩:=(ls.ext x2).at It.csl ha
  cases c2:bytesLess a.key y.key with
  |false =>
   have c3:(!bytesLess a.key y.key)=true:=by rw [c2]; rfl
   have bad:¬ mayI l:=fun m=>by
    have:=(m.1 (j+1) y hy).2 (by omega) a ha
    rw [c2] at this; cases this
   refine walk ?_
   refine jg_drawn (q:=18) (ms:=[0,1,3,7,15,31,63,127,127,383,1023,2047,4095,127,8319,32767,65535,131071]) (hl:=[[],[],[],[],[],[],[],[20,21,25,26],[19,25,26],[19,25,26],[25,26],[25,26],[25,26],[19,20,21,22,23,24],[19,20,21,22,23,24],[],[],[]]) hok rfl (by kernel_rfl) (by kernel_rfl) rfl ?_
   refine walk ?_
   exact jg_ret1 hres ⟨av_f bad,hext⟩
  |true =>
   have c3:(!bytesLess a.key y.key)=false:=by rw [c2]; rfl
   refine walk ?_
   refine jg_drawn (q:=18) (ms:=[0,1,3,7,15,31,63,127,127,383,1023,2047,4095,127,8319,32767,65535,131071]) (hl:=[[],[],[],[],[],[],[],[20,21,25,26],[19,25,26],[19,25,26],[25,26],[25,26],[25,26],[19,20,21,22,23,24],[19,20,21,22,23,24],[],[],[]]) hok rfl (by kernel_rfl) (by kernel_rfl) rfl ?_
   refine walk ?_
   refine next (j+1+1) (by omega) hsub ⟨by omega,hext,fun k hk' b hb=>?_⟩
   rcases Nat.lt_or_ge k (j+1) with q|q
   ·exact inv k q b hb
   ·obtain rfl:k=j+1:=by omega
    rw [hy] at hb; cases hb
    refine ⟨c1,fun _ a' ha'=>?_⟩
    have ha':l[j]?=some a':=ha'
    rw [ha] at ha'; cases ha'
    exact c2
 ·have fin:okIs l:=fun j b hb=>inv j (by
   rcases Nat.lt_or_ge j l.length with q|q
   ·omega
   ·rw [List.getElem?_eq_none q] at hb; cases hb) b hb
  have e:mayI l↔0<l.length:=⟨fun m=>m.2,fun m=>⟨fin,m⟩⟩
  refine walk ?_
  refine jg_ret1 hres ⟨?_,hext⟩
  by_cases q:0<l.length
  ·exact (congrArg AV.bool (decide_eq_true (show (0:Int)<l.length by omega))).trans (av_t (e.2 q))
  ·exact (congrArg AV.bool (decide_eq_false (show ¬ (0:Int)<l.length by omega))).trans (av_f fun m=>q (e.1 m))
def encV (b:It):List UInt8:=if b.over then leb b.len.toNat 4++leb b.head 4 else leb b.val.length 1++b.val
def encI (b:It):List UInt8:=leb (if b.over then 1 else 0) 1++leb b.key.length 1++b.key++encV b
def encLI (l:List It):List UInt8:=l.flatMap encI
theorem encI_len (b:It):(encI b).length=szI b:=by
 unfold encI encV szI
 split<;>simp [leb_len]<;>omega
theorem encLI_len (l:List It):(encLI l).length=sizeI l:=by
 induction l with
 |nil=>rfl
 |cons a l ih=>unfold encLI at ih ⊢; rw [List.flatMap_cons,List.length_append,ih,encI_len]; simp [sizeI]
theorem encLI_take (l:List It) (i:Nat) (b:It) (h:l[i]?=some b):encLI (l.take (i+1))=encLI (l.take i)++encI b:=by
 rw [List.take_add_one,h]
 simp [encLI]
theorem sizeI_mono (l:List It) (i:Nat):sizeI (l.take i)≤sizeI l:=by
 have e:sizeI l=sizeI (l.take i)+sizeI (l.drop i):=by
  rw [show sizeI l=sizeI (l.take i++l.drop i) by rw [List.take_append_drop]]
  simp only [sizeI,List.map_append,List.sum_append]
 omega
theorem put_g {q:Nat} {v:AV} {s:List UInt8} {x:It} {h:Heap} (bw:By h v s) (hk:h.ok) (hl:s.length≤900000) (ok:itOk x):Gives (TV q) 153 [.agg x.cs,v] h (fun v' h'=>OwnB 5 h.next h' v' (s++encV x)∧Ext h h'):=by
 refine call_j (no_w rfl rfl) rfl rfl ?_
 rcases ok.2 with ⟨ho,c1,c2,c3,c4⟩|⟨ho,c1,c2,c3⟩
 ·obtain ⟨k,hk'⟩:=Int.eq_ofNat_of_zero_le (show 0≤x.len by omega)
  have kb:k≤4096:=by omega
  have hb:x.head≤2147483647:=c4.2
  have xcs:x.cs=[.str x.key,.str x.val,.bool x.over,.int .i64 (k:Nat),.int .u32 x.head]:=by unfold It.cs; rw [hk']
  have ev:encV x=leb k 4++leb x.head 4:=by unfold encV; rw [ho,hk']; rfl
  rw [xcs,ev]
  refine walk ?_
  refine jg_drawn (q:=10) (ms:=[0,0,2,6,15,0,32,96,255,511]) (hl:=[[8,9,10,12,13,14],[7,12,13,14],[7,12,13,14],[7,12,13,14],[12,13,14],[7,8,9,10,11],[7,8,9,10,11],[7,8,9,10,11],[],[]]) hok rfl (by kernel_rfl) (by kernel_rfl) rfl ?_
  refine walk ?_
  refine jd_call (octet_put (bw.ext (by exact hext)) (by omega) (by decide) (by decide) (by omega) bw.ns) rfl rfl rfl rfl rfl rfl ?_
  rintro v1 g1 ⟨o1,x1⟩
  have n1:h.next+1+10≤g1.next:=x1.nx
  refine walk ?_
  refine jd_call (octet_put o1.by (by omega) (by decide) (by decide) (by simp [leb_len]; omega) o1.by.ns) rfl rfl rfl rfl rfl rfl ?_
  rintro v2 g2 ⟨o2,x2⟩
  refine walk ?_
  refine jg_ret1 (by exact hres) ⟨?_,by exact hext⟩
  have o3:=OwnB.lo o2 (show h.next≤g1.next by omega)
  simpa using o3
 ·have ev:encV x=leb x.val.length 1++x.val:=by unfold encV; rw [ho]; rfl
  rw [ev]
  refine walk ?_
  refine jg_drawn (q:=10) (ms:=[0,0,2,6,14,31,0,64,255,511]) (hl:=[[17,18,19,20,22,23],[16,22,23],[16,22,23],[16,22,23],[16,22,23],[22,23],[16,17,18,19,20,21],[16,17,18,19,20,21],[],[]]) hok rfl (by kernel_rfl) (by kernel_rfl) rfl ?_
  refine walk ?_
  refine jd_call (octet_put (bw.ext (by exact hext)) (by omega) (by decide) (by decide) (by omega) bw.ns) rfl rfl rfl rfl rfl rfl ?_
  rintro v1 g1 ⟨o1,x1⟩
  have n1:h.next+1+10≤g1.next:=x1.nx
  obtain ⟨v2,g2,e2,o2,k2⟩:=ast (q:=q) (lo:=h.next+1+10) (r:=x.val) o1 (by simp [leb_len]; omega)
  refine walk ?_
  refine jg_ret1 (by exact hres) ⟨?_,by exact hext⟩
  have o3:=OwnB.lo o2 (show h.next≤h.next+1+10 by omega)
  simpa using o3
noncomputable def pageI (z:Int) (p tx:Nat) (l:List It):Pg×Int:=if mayI l∧(sizeI l:Int)≤room z∧num p∧tx≤4611686018427387904 then (⟨4,l.length,p,0,tx,bodyS z (encLI l)⟩,0) else (Pg.zero,2)
theorem leaPage_w {n:Nat} (hn:4<n) {z:Int} {p tx:Nat} {v:AV} {l:List It} {h:Heap} (ls:LsI h v l) (hk:h.ok) (t:tameI l):(TV n).sm 112 [.int .i64 z,.int .u32 p,.int .u64 tx,v] h=some (.tuple [(pageI z p tx l).1.av,.int .i64 (pageI z p tx l).2],h):=by
 refine w_in hn (fun h=>h.ok∧LsI h v l) rfl rfl ⟨hk,ls⟩ (fun hp=>⟨ok_nil,ls.any (by simpa [AV.plains,AV.plain] using hp)⟩) ?_
 clear hk ls h
 rintro n hn h ⟨hk,ls⟩
 refine body_j rfl rfl ?_
 have hlen:=ls.len
 have t1:=t.1
 have w2:=leaNum_w (n:=n) (by omega) p
 have w1:=room_w (n:=n) (by omega) z
 have x0:Ext h (h.alloc (.cells 52 Pg.zero.cs true)):=Ext.alloc _ _
 have w3:=leaMay_w (n:=n) (by omega) (ls.ext x0) (x0.ok hk) t
 have w4:=leaSize_w (n:=n) (by omega) (ls.ext x0) (x0.ok hk) t
 have bs:=sizeI_le l t.2
 have rz:=room_le z
 unfold pageI
 refine walk ?_
 refine jo_w w3 rfl rfl rfl rfl ?_
 by_cases c:mayI l∧(sizeI l:Int)≤room z∧num p∧tx≤4611686018427387904
 case neg =>
  rw [if_neg c]
  by_cases c1:mayI l
  ·refine walk ?_
   refine jo_w w4 rfl rfl rfl rfl ?_
   by_cases c2:(sizeI l:Int)≤room z
   ·by_cases c3:num p
    ·have c4:¬ tx≤4611686018427387904:=fun c4=>c ⟨c1,c2,c3,c4⟩
     exact auto
    ·exact auto
   ·exact auto
  ·exact auto
 rw [if_pos c]
 obtain ⟨c1,c2,c3,c4⟩:=c
 refine walk ?_
 refine jo_w w4 rfl rfl rfl rfl ?_
 refine walk ?_
 refine jg_loop (ι:=Nat×AV) (fun a=>l.length-a.1) (fun a=>[(0,.int .i64 z),(1,.int .u32 p),(2,.int .u64 tx),(3,v),(8,.ptr h.next 0),(10,a.2),(36,v),(37,.int .i64 l.length),(38,.int .i64 (a.1:Nat))]) (fun a h2=>a.1≤l.length∧Ext (h.alloc (.cells 52 Pg.zero.cs true)) h2∧OwnB 5 (h.next+1) h2 a.2 (encLI (l.take a.1))) (0,.nilslice) hsub ⟨by omega,.refl _,OwnB.nil⟩ ?_
 rintro ⟨i,u⟩ h2 ⟨hi,x2,ow⟩ next
 dsimp only at hi ow next ⊢
 have nx2:h.next+1≤h2.next:=x2.nx
 have g8:h2.get h.next=some (.cells 52 Pg.zero.cs true):=(x2.old _ (by show h.next<h.next+1; omega)).trans (get_new _ _)
 have ok2:=x2.ok (x0.ok hk)
 have hsz:(encLI (l.take i)).length≤4072:=by
  have:=sizeI_mono l i
  rw [encLI_len]; omega
 by_cases hil:i<l.length
 ·obtain ⟨y,hy⟩:∃ y,l[i]?=some y:=⟨l[i],List.getElem?_eq_getElem hil⟩
  obtain ⟨b,p',e,all,rw',hb,hg,hpl,he,a1⟩:=((ls.ext x0).ext x2).at It.csl hy
  have yok:=(c1.1 i y hy).1
  have ky:y.key.length≤40:=yok.1
  rcases Bool.eq_false_or_eq_true y.over with ho|ho
  ·have ei:encI y=leb 1 1++leb y.key.length 1++y.key++encV y:=by unfold encI; rw [ho]; rfl
   refine walk ?_
   refine jg_drawn (q:=9) (ms:=[0,0,3,0,8,24,56,127,255]) (hl:=[[45,47,48,49,50],[44,47,48,49,50],[47,48,49,50],[44,45,46],[44,45,46],[44,45,46],[44,45,46],[],[]]) hok rfl (by kernel_rfl) (by kernel_rfl) rfl ?_
   refine walk ?_
   refine jd_call (octet_put (x:=1) (ow.by.ext (by exact hext)) (by omega) (by decide) (by decide) (by omega) ow.by.ns) rfl rfl rfl rfl rfl rfl ?_
   rintro v1 g1 ⟨o1,x1⟩
   have nx1:h2.next+1+9≤g1.next:=x1.nx
   refine walk ?_
   refine jd_call (octet_put o1.by (by omega) (by decide) (by decide) (by simp [leb_len]; omega) o1.by.ns) rfl rfl rfl rfl rfl rfl ?_
   rintro v2 g2 ⟨o2,x2'⟩
   have nx2':=x2'.nx
   refine walk ?_
   refine GJ.gen [(0,.int .i64 z),(1,.int .u32 p),(2,.int .u64 tx),(3,v),(8,.ptr h.next 0),(10,v2),(12,.ptr h2.next 0),(36,v),(37,.int .i64 l.length),(38,.int .i64 (i:Nat))] (fun g=>Ext (h.alloc (.cells 52 Pg.zero.cs true)) g∧g.get h2.next=some (.cells 135 y.cs true)∧OwnB 5 (h2.next+1) g v2 (encLI (l.take i)++leb 1 1++leb y.key.length 1)∧h2.next<g.next∧g.ok) hsub ⟨by exact hext,by exact hget,OwnB.lo o2 (by omega),by omega,by exact hok⟩ ?_
   rintro g3 ⟨x3,q12,o3,n3,ok3⟩
   obtain ⟨v4,g4,e4,o4,k4⟩:=ast (q:=n) (h:=Heap.mk g3.t (g3.next+7)) (lo:=h2.next+1) (r:=y.key) (o3.ext ((Ext.refl g3).more ok3 7)) (by simp [leb_len]; omega) (by show h2.next+1≤g3.next+7; omega)
   have nx4:g3.next+7≤g4.next:=k4.nx
   refine jg_drawn (q:=7) (ms:=[0,0,0,4,14,31,63]) (hl:=[[53,54,55,56],[52,54,55],[52,53],[52,53],[52],[],[]]) hok rfl (by kernel_rfl) (by kernel_rfl) rfl ?_
   refine walk ?_
   refine jd_call (put_g o4.by (by exact hok) (by simp [leb_len]; omega) yok) rfl rfl rfl rfl rfl rfl ?_
   rintro v5 g5 ⟨o5,x5⟩
   have nx5:=x5.nx
   refine walk ?_
   refine next (i+1,v5) (by simp only; omega) hsub ⟨by simp only; omega,by exact hext,?_⟩
   simp only
   rw [encLI_take l i y hy,ei]
   have o6:=OwnB.lo o5 (show h.next+1≤g4.next by omega)
   simpa using o6
  ·have ei:encI y=leb 0 1++leb y.key.length 1++y.key++encV y:=by unfold encI; rw [ho]; rfl
   refine walk ?_
   refine jg_drawn (q:=9) (ms:=[0,0,3,0,8,24,56,127,255]) (hl:=[[45,47,48,49,50],[44,47,48,49,50],[47,48,49,50],[44,45,46],[44,45,46],[44,45,46],[44,45,46],[],[]]) hok rfl (by kernel_rfl) (by kernel_rfl) rfl ?_
   refine walk ?_
   refine jd_call (octet_put (x:=0) (ow.by.ext (by exact hext)) (by omega) (by decide) (by decide) (by omega) ow.by.ns) rfl rfl rfl rfl rfl rfl ?_
   rintro v1 g1 ⟨o1,x1⟩
   have nx1:h2.next+1+9≤g1.next:=x1.nx
   refine walk ?_
   refine jd_call (octet_put o1.by (by omega) (by decide) (by decide) (by simp [leb_len]; omega) o1.by.ns) rfl rfl rfl rfl rfl rfl ?_
   rintro v2 g2 ⟨o2,x2'⟩
   have nx2':=x2'.nx
   refine walk ?_
   refine GJ.gen [(0,.int .i64 z),(1,.int .u32 p),(2,.int .u64 tx),(3,v),(8,.ptr h.next 0),(10,v2),(12,.ptr h2.next 0),(36,v),(37,.int .i64 l.length),(38,.int .i64 (i:Nat))] (fun g=>Ext (h.alloc (.cells 52 Pg.zero.cs true)) g∧g.get h2.next=some (.cells 135 y.cs true)∧OwnB 5 (h2.next+1) g v2 (encLI (l.take i)++leb 0 1++leb y.key.length 1)∧h2.next<g.next∧g.ok) hsub ⟨by exact hext,by exact hget,OwnB.lo o2 (by omega),by omega,by exact hok⟩ ?_
   rintro g3 ⟨x3,q12,o3,n3,ok3⟩
   obtain ⟨v4,g4,e4,o4,k4⟩:=ast (q:=n) (h:=Heap.mk g3.t (g3.next+7)) (lo:=h2.next+1) (r:=y.key) (o3.ext ((Ext.refl g3).more ok3 7)) (by simp [leb_len]; omega) (by show h2.next+1≤g3.next+7; omega)
   have nx4:g3.next+7≤g4.next:=k4.nx
   refine jg_drawn (q:=7) (ms:=[0,0,0,4,14,31,63]) (hl:=[[53,54,55,56],[52,54,55],[52,53],[52,53],[52],[],[]]) hok rfl (by kernel_rfl) (by kernel_rfl) rfl ?_
   refine walk ?_
   refine jd_call (put_g o4.by (by exact hok) (by simp [leb_len]; omega) yok) rfl rfl rfl rfl rfl rfl ?_
   rintro v5 g5 ⟨o5,x5⟩
   have nx5:=x5.nx
   refine walk ?_
   refine next (i+1,v5) (by simp only; omega) hsub ⟨by simp only; omega,by exact hext,?_⟩
   simp only
   rw [encLI_take l i y hy,ei]
   have o6:=OwnB.lo o5 (show h.next+1≤g4.next by omega)
   simpa using o6
 ·have e1:l.take i=l:=List.take_of_length_le (by omega)
  rw [e1] at ow
  have w5:=body_w (n:=n) (by omega) (z:=z) ow.by ok2 ow.by.ns
  rw [bodyR_eq] at w5
  refine walk ?_
  refine jo_w w5 rfl rfl rfl rfl ?_
  refine walk ?_
  exact jg_ret2 (by exact hres) ⟨rfl,by exact hext⟩
def i1 (s:List UInt8):List UInt8:=restV 1 s
def i2 (s:List UInt8):List UInt8:=restV 1 (i1 s)
def i3 (s:List UInt8):List UInt8:=restV (numV 1 (i1 s)) (i2 s)
def i4 (s:List UInt8):List UInt8:=restV 4 (i3 s)
def i5 (s:List UInt8):List UInt8:=restV 1 (i3 s)
def okI (s:List UInt8):Prop:=1≤(i1 s).length∧numV 1 s≤1∧numV 1 (i1 s)≤(i2 s).length∧(numV 1 s=1∧4≤(i4 s).length∨¬ numV 1 s=1∧1≤(i3 s).length∧numV 1 (i3 s)≤(i5 s).length)
instance (s:List UInt8):Decidable (okI s):=inferInstanceAs (Decidable (_∧_))
def itOf (s:List UInt8):It:=if numV 1 s=1 then ⟨bytV (numV 1 (i1 s)) (i2 s),[],true,numV 4 (i3 s),numV 4 (i4 s)⟩ else ⟨bytV (numV 1 (i1 s)) (i2 s),bytV (numV 1 (i3 s)) (i5 s),false,0,0⟩
def itRest (s:List UInt8):List UInt8:=if numV 1 s=1 then restV 4 (i4 s) else restV (numV 1 (i3 s)) (i5 s)
structure Turned (r:Nat) (h h':Heap):Prop where
 nx:h.next≤h'.next
 old:∀ c,c<h.next→c≠r→h'.get c=h.get c
 ok:h.ok→h'.ok
theorem item_g {q r:Nat} {e:TypeId} {s:List UInt8} {h:Heap} (g:h.get r=some (.cells e [.str s] true)) (hr:r<h.next) (hl:s.length<1000000):Gives (TV q) 111 [.ptr r 0] h (fun v h'=>Turned r h h'∧if okI s then v=.tuple [.agg (itOf s).cs,.int .i64 0]∧h'.get r=some (.cells e [.str (itRest s)] true) else ∃ (x:It) (k:Int),v=.tuple [.agg x.cs,.int .i64 k]∧k≠0):=by
 refine call_j (no_w rfl rfl) rfl rfl ?_
 have v1:=numV_lt 1 s
 have v2:=numV_lt 1 (i1 s)
 have v3:=numV_lt 4 (i3 s)
 have v4:=numV_lt 4 (i4 s)
 have v5:=numV_lt 1 (i3 s)
 have l1:(i1 s).length≤s.length:=restV_len _ _
 have l2:(i2 s).length≤(i1 s).length:=restV_len _ _
 have l3:(i3 s).length≤(i2 s).length:=restV_len _ _
 have l4:(i4 s).length≤(i3 s).length:=restV_len _ _
 have l5:(i5 s).length≤(i3 s).length:=restV_len _ _
 refine walk ?_
 refine jo_call (num_g (n:=1) (b:=r) (s:=s) (by exact hget) (by show r<h.next+1; omega) (by omega) (by decide) (by decide)) rfl rfl rfl rfl ?_
 rintro _ h3 ⟨rfl,u3⟩
 have n3:h3.next=h.next+1:=u3.nx
 have q3:h3.get h.next=some (.cells 135 [.str [],.str [],.bool false,.int .i64 0,.int .u32 0] true):=(u3.old _ (by omega)).trans (get_new _ _)
 have f3:∀ c,c<h.next→c≠r→h3.get c=h.get c:=fun c hc hcr=>by rw [u3.old c hcr,Heap.ga _ _ _ (by omega)]
 have k3:h.ok→h3.ok:=fun k=>u3.ok (ok_al k _)
 refine walk ?_
 refine jo_call (num_g (n:=1) (s:=i1 s) u3.got (by omega) (by omega) (by decide) (by decide)) rfl rfl rfl rfl ?_
 rintro _ h4 ⟨rfl,u4⟩
 have n4:=u4.nx
 have q4:=(u4.old h.next (by omega)).trans q3
 have f4:∀ c,c<h.next→c≠r→h4.get c=h.get c:=fun c hc hcr=>by rw [u4.old c hcr,f3 c hc hcr]
 have k4:h.ok→h4.ok:=fun k=>u4.ok (k3 k)
 have t4:∀ (cs:List AV),Turned r h (h4.set h.next (.cells 135 cs true)):=fun cs=>⟨by show h.next≤h4.next; omega,fun c hc hcr=>by rw [Heap.gn _ _ _ _ (by omega),f4 c hc hcr],fun k=>ok_st (k4 k) _ _ (by omega)⟩
 by_cases c1:1≤(i1 s).length
 case neg =>
  rw [err_7 c1]
  refine walk ?_
  exact jg_ret2 (v:=.agg (It.mk [] [] false 0 0).cs) (by exact hres) ⟨t4 _,by rw [if_neg fun c=>c1 c.1]; exact ⟨It.mk [] [] false 0 0,4,rfl,by decide⟩⟩
 rw [err_0 c1]
 by_cases c2:numV 1 s≤1
 case neg =>
  refine walk ?_
  exact jg_ret2 (v:=.agg (It.mk [] [] false 0 0).cs) (by exact hres) ⟨t4 _,by rw [if_neg fun c=>c2 c.2.1]; exact ⟨It.mk [] [] false 0 0,4,rfl,by decide⟩⟩
 refine walk ?_
 refine jo_call (byt_g (n:=numV 1 (i1 s)) (s:=i2 s) u4.got (by omega) (by omega) (by omega)) rfl rfl rfl rfl ?_
 rintro _ h5 ⟨rfl,u5⟩
 have n5:=u5.nx
 have q5:=(u5.old h.next (by omega)).trans q4
 have f5:∀ c,c<h.next→c≠r→h5.get c=h.get c:=fun c hc hcr=>by rw [u5.old c hcr,f4 c hc hcr]
 have k5:h.ok→h5.ok:=fun k=>u5.ok (k4 k)
 have t5:∀ (cs ds:List AV),Turned r h ((h5.set h.next (.cells 135 cs true)).set h.next (.cells 135 ds true)):=fun cs ds=>⟨by show h.next≤h5.next; omega,fun c hc hcr=>by rw [Heap.gn _ _ _ _ (by omega),Heap.gn _ _ _ _ (by omega),f5 c hc hcr],fun k=>ok_st (ok_st (k5 k) _ _ (by omega)) _ _ (by show h.next<h5.next; omega)⟩
 by_cases c3:numV 1 (i1 s)≤(i2 s).length
 case neg =>
  rw [err_7 c3]
  refine walk ?_
  exact jg_ret2 (v:=.agg (It.mk (bytV (numV 1 (i1 s)) (i2 s)) [] false 0 0).cs) (by exact hres) ⟨t5 _ _,by rw [if_neg fun c=>c3 c.2.2.1]; exact ⟨It.mk (bytV (numV 1 (i1 s)) (i2 s)) [] false 0 0,7,rfl,by decide⟩⟩
 rw [err_0 c3]
 by_cases c4:numV 1 s=1
 ·have ei:itOf s=⟨bytV (numV 1 (i1 s)) (i2 s),[],true,numV 4 (i3 s),numV 4 (i4 s)⟩:=by unfold itOf; rw [if_pos c4]
  have er:itRest s=restV 4 (i4 s):=by unfold itRest; rw [if_pos c4]
  refine walk ?_
  refine jo_call (num_g (n:=4) (b:=r) (s:=i3 s) (by exact hget) (by show r<h5.next; omega) (by omega) (by decide) (by decide)) rfl rfl rfl rfl ?_
  rintro _ h6 ⟨rfl,u6⟩
  have n6:h6.next=h5.next:=u6.nx
  have q6:=(u6.old h.next (by omega)).trans (Heap.gs _ _ _)
  have f6:∀ c,c<h.next→c≠r→h6.get c=h.get c:=fun c hc hcr=>by rw [u6.old c hcr,Heap.gn _ _ _ _ (by omega),Heap.gn _ _ _ _ (by omega),f5 c hc hcr]
  have k6:h.ok→h6.ok:=fun k=>u6.ok (ok_st (ok_st (k5 k) _ _ (by omega)) _ _ (by show h.next<h5.next; omega))
  refine walk ?_
  refine jo_call (num_g (n:=4) (b:=r) (s:=i4 s) u6.got (by omega) (by omega) (by decide) (by decide)) rfl rfl rfl rfl ?_
  rintro _ h7 ⟨rfl,u7⟩
  have n7:=u7.nx
  have q7:=(u7.old h.next (by omega)).trans q6
  have f7:∀ c,c<h.next→c≠r→h7.get c=h.get c:=fun c hc hcr=>by rw [u7.old c hcr,f6 c hc hcr]
  have k7:h.ok→h7.ok:=fun k=>u7.ok (k6 k)
  have t7:∀ (bs cs ds:List AV),Turned r h (((h7.set h.next (.cells 135 bs true)).set h.next (.cells 135 cs true)).set h.next (.cells 135 ds true)):=fun bs cs ds=>⟨by show h.next≤h7.next; omega,fun c hc hcr=>by rw [Heap.gn _ _ _ _ (by omega),Heap.gn _ _ _ _ (by omega),Heap.gn _ _ _ _ (by omega),f7 c hc hcr],fun k=>ok_st (ok_st (ok_st (k7 k) _ _ (by omega)) _ _ (by show h.next<h7.next; omega)) _ _ (by show h.next<h7.next; omega)⟩
  by_cases c5:4≤(i4 s).length
  ·rw [err_0 c5]
   have oi:okI s:=⟨c1,c2,c3,.inl ⟨c4,c5⟩⟩
   refine walk ?_
   exact jg_ret2 (v:=.agg (It.mk (bytV (numV 1 (i1 s)) (i2 s)) [] true (numV 4 (i3 s)) (numV 4 (i4 s))).cs) (by exact hres) ⟨t7 _ _ _,by rw [if_pos oi,ei,er]; exact ⟨rfl,by exact hget⟩⟩
  ·rw [err_7 c5]
   have oi:¬ okI s:=fun c=>c.2.2.2.elim (fun d=>c5 d.2) fun d=>d.1 c4
   refine walk ?_
   exact jg_ret2 (v:=.agg (It.mk (bytV (numV 1 (i1 s)) (i2 s)) [] true (numV 4 (i3 s)) (numV 4 (i4 s))).cs) (by exact hres) ⟨t7 _ _ _,by rw [if_neg oi]; exact ⟨_,7,rfl,by decide⟩⟩
 ·have ei:itOf s=⟨bytV (numV 1 (i1 s)) (i2 s),bytV (numV 1 (i3 s)) (i5 s),false,0,0⟩:=by unfold itOf; rw [if_neg c4]
  have er:itRest s=restV (numV 1 (i3 s)) (i5 s):=by unfold itRest; rw [if_neg c4]
  refine walk ?_
  refine jo_call (num_g (n:=1) (b:=r) (s:=i3 s) (by exact hget) (by show r<h5.next; omega) (by omega) (by decide) (by decide)) rfl rfl rfl rfl ?_
  rintro _ h6 ⟨rfl,u6⟩
  have n6:h6.next=h5.next:=u6.nx
  have q6:=(u6.old h.next (by omega)).trans (Heap.gs _ _ _)
  have f6:∀ c,c<h.next→c≠r→h6.get c=h.get c:=fun c hc hcr=>by rw [u6.old c hcr,Heap.gn _ _ _ _ (by omega),Heap.gn _ _ _ _ (by omega),f5 c hc hcr]
  have k6:h.ok→h6.ok:=fun k=>u6.ok (ok_st (ok_st (k5 k) _ _ (by omega)) _ _ (by show h.next<h5.next; omega))
  have t6:∀ (cs:List AV),Turned r h (h6.set h.next (.cells 135 cs true)):=fun cs=>⟨by show h.next≤h6.next; omega,fun c hc hcr=>by rw [Heap.gn _ _ _ _ (by omega),f6 c hc hcr],fun k=>ok_st (k6 k) _ _ (by omega)⟩
  by_cases c5:1≤(i3 s).length
  case neg =>
   rw [err_7 c5]
   have oi:¬ okI s:=fun c=>c.2.2.2.elim (fun d=>c4 d.1) fun d=>c5 d.2.1
   refine walk ?_
   exact jg_ret2 (v:=.agg (It.mk (bytV (numV 1 (i1 s)) (i2 s)) [] false 0 0).cs) (by exact hres) ⟨t6 _,by rw [if_neg oi]; exact ⟨_,7,rfl,by decide⟩⟩
  rw [err_0 c5]
  refine walk ?_
  refine jo_call (byt_g (n:=numV 1 (i3 s)) (s:=i5 s) u6.got (by omega) (by omega) (by omega)) rfl rfl rfl rfl ?_
  rintro _ h7 ⟨rfl,u7⟩
  have n7:=u7.nx
  have q7:=(u7.old h.next (by omega)).trans q6
  have f7:∀ c,c<h.next→c≠r→h7.get c=h.get c:=fun c hc hcr=>by rw [u7.old c hcr,f6 c hc hcr]
  have k7:h.ok→h7.ok:=fun k=>u7.ok (k6 k)
  have t7:∀ (cs ds:List AV),Turned r h ((h7.set h.next (.cells 135 cs true)).set h.next (.cells 135 ds true)):=fun cs ds=>⟨by show h.next≤h7.next; omega,fun c hc hcr=>by rw [Heap.gn _ _ _ _ (by omega),Heap.gn _ _ _ _ (by omega),f7 c hc hcr],fun k=>ok_st (ok_st (k7 k) _ _ (by omega)) _ _ (by show h.next<h7.next; omega)⟩
  by_cases c6:numV 1 (i3 s)≤(i5 s).length
  ·rw [err_0 c6]
   have oi:okI s:=⟨c1,c2,c3,.inr ⟨c4,c5,c6⟩⟩
   refine walk ?_
   exact jg_ret2 (v:=.agg (It.mk (bytV (numV 1 (i1 s)) (i2 s)) (bytV (numV 1 (i3 s)) (i5 s)) false 0 0).cs) (by exact hres) ⟨t7 _ _,by rw [if_pos oi,ei,er]; exact ⟨rfl,by exact hget⟩⟩
  ·rw [err_7 c6]
   have oi:¬ okI s:=fun c=>c.2.2.2.elim (fun d=>c4 d.1) fun d=>c6 d.2.2
   refine walk ?_
   exact jg_ret2 (v:=.agg (It.mk (bytV (numV 1 (i1 s)) (i2 s)) (bytV (numV 1 (i3 s)) (i5 s)) false 0 0).cs) (by exact hres) ⟨t7 _ _,by rw [if_neg oi]; exact ⟨_,7,rfl,by decide⟩⟩
end Go.Proofs.YtmnhbehmjaibgaaGreat
