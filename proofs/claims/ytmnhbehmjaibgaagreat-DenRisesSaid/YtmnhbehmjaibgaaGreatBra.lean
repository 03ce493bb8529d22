/- What the functions of this part answer at any input, told by the rules over the evaluator. Conditions: those that each theorem states. -/
import Derived.Test.YtmnhbehmjaibgaaGreatCat
import Derived.Test.YtmnhbehmjaibgaaGreatGap
set_option linter.unusedVariables false
set_option linter.unusedSimpArgs false
open Go Ev
namespace Go.Proofs.YtmnhbehmjaibgaaGreat
set_option maxRecDepth 10000
set_option maxHeartbeats 4000000
structure Fk where
 key:List UInt8
 child:Nat
def Fk.cs (b:Fk):List AV:=[.str b.key,.int .u32 b.child]
abbrev LsF (h:Heap) (v:AV) (l:List Fk):Prop:=Ls Fk.cs 2 h v l
abbrev OwnLF (lo:Nat) (h:Heap) (v:AV) (l:List Fk):Prop:=OwnL Fk.cs 132 2 lo h v l
theorem Fk.len (b:Fk):b.cs.length=2:=rfl
def keyOk (s:List UInt8):Prop:=s.length≤40
instance (s:List UInt8):Decidable (keyOk s):=inferInstanceAs (Decidable (_≤_))
theorem braKey_w {n:Nat} (hn:0<n) (s:List UInt8) (h:Heap):(TV n).sm 191 [.str s] h=some (.bool (decide (keyOk s)),h):=by
 refine w_of hn rfl rfl rfl fun n hn=>body_j rfl rfl ?_
 unfold keyOk
 exact auto
theorem braNum_w {n:Nat} (hn:0<n) (p:Nat) (h:Heap):(TV n).sm 149 [.int .u32 p] h=some (.bool (decide (num p)),h):=by
 refine w_of hn rfl rfl rfl fun n hn=>body_j rfl rfl ?_
 unfold num
 exact auto
def sizeB (l:List Fk):Nat:=(l.map fun b=>5+b.key.length).sum
theorem sizeB_le (l:List Fk) (hb:∀ b∈l,b.key.length≤1000000):sizeB l≤l.length*1000005:=by
 induction l with
 |nil=>simp [sizeB]
 |cons a l ih =>
  have h1:=hb a (List.mem_cons_self ..)
  have h2:=ih fun b h=>hb b (List.mem_cons_of_mem _ h)
  simp only [sizeB,List.map_cons,List.sum_cons,List.length_cons] at h2 ⊢
  omega
theorem sizeB_take (l:List Fk) (i:Nat) (b:Fk) (h:l[i]?=some b):sizeB (l.take (i+1))=sizeB (l.take i)+(5+b.key.length):=by
 rw [List.take_add_one,h]
 simp [sizeB]
def tameF (l:List Fk):Prop:=l.length≤70000∧∀ b∈l,b.key.length≤1000000
theorem tameF_at {l:List Fk} (t:tameF l) {i:Nat} {b:Fk} (h:l[i]?=some b):b.key.length≤1000000:=t.2 b (List.mem_of_getElem? h)
theorem braSize_w {n:Nat} (hn:0<n) {v:AV} {l:List Fk} {h:Heap} (ls:LsF h v l) (hk:h.ok) (t:tameF l):(TV n).sm 148 [v] h=some (.int .i64 (sizeB l),h):=by
 refine w_in hn (fun h=>h.ok∧LsF h v l) rfl rfl ⟨hk,ls⟩ (fun hp=>⟨ok_nil,ls.any (by simpa [AV.plains,AV.plain] using hp)⟩) ?_
 clear hk ls h
 rintro n hn h ⟨hk,ls⟩
 refine body_j rfl rfl ?_
 have hlen:=ls.len
 refine walk ?_
 refine jg_loop (fun i=>l.length-i) (fun i=>[(2,.int .i64 (sizeB (l.take i))),(5,v),(7,.int .i64 (i:Nat)),(6,.int .i64 l.length)]) (fun i h2=>i≤l.length∧Ext h h2) 0 hsub ⟨by omega,.refl h⟩ ?_
 rintro i h2 ⟨hi,x2⟩ next
 have t1:=t.1
 have bd:=sizeB_le (l.take i) fun b hb=>t.2 b (List.mem_of_mem_take hb)
 rw [List.length_take] at bd
 by_cases hil:i<l.length
 ·obtain ⟨y,hy⟩:∃ y,l[i]?=some y:=⟨l[i],List.getElem?_eq_getElem hil⟩
  obtain ⟨b,p,e,all,rw',hb,hg,hpl,he,a1⟩:=(ls.ext x2).at Fk.len hy
  have ty:=tameF_at t hy
  refine walk ?_
  refine next (i+1) (by omega) ?_ ⟨by omega,hext⟩
  rw [sizeB_take l i y hy]
  exact hsub
 ·refine walk ?_
  have e:l.take i=l:=List.take_of_length_le (by omega)
  rw [e]
  exact jg_ret1 hres ⟨rfl,hext⟩
def okB (l:List Fk):Prop:=∀ i b,l[i]?=some b→keyOk b.key∧num b.child∧(0<i→∀ a,l[i-1]?=some a→bytesLess a.key b.key=true)
def mayB (l:List Fk):Prop:=okB l∧0<l.length
noncomputable instance (l:List Fk):Decidable (mayB l):=Classical.propDecidable _
theorem braMay_w {n:Nat} (hn:1<n) {v:AV} {l:List Fk} {h:Heap} (ls:LsF h v l) (hk:h.ok) (t:tameF l):(TV n).sm 147 [v] h=some (.bool (decide (mayB l)),h):=by
 refine w_in hn (fun h=>h.ok∧LsF h v l) rfl rfl ⟨hk,ls⟩ (fun hp=>⟨ok_nil,ls.any (by simpa [AV.plains,AV.plain] using hp)⟩) ?_
 clear hk ls h
 rintro n hn h ⟨hk,ls⟩
 refine body_j rfl rfl ?_
 have hlen:=ls.len
 have t1:=t.1
 refine walk ?_
 refine jg_loop (fun i=>l.length-i) (fun i=>[(0,v),(5,v),(7,.int .i64 (i:Nat)),(6,.int .i64 l.length)]) (fun i h2=>i≤l.length∧Ext h h2∧∀ j,j<i→∀ b,l[j]?=some b→keyOk b.key∧num b.child∧(0<j→∀ a,l[j-1]?=some a→bytesLess a.key b.key=true)) 0 hsub ⟨by omega,.refl h,fun j hj=>by omega⟩ ?_
 rintro i h2 ⟨hi,x2,inv⟩ next
 have ok2:=x2.ok hk
 have nx:=x2.nx
 by_cases hil:i<l.length
 ·obtain ⟨y,hy⟩:∃ y,l[i]?=some y:=⟨l[i],List.getElem?_eq_getElem hil⟩
  obtain ⟨b,p,e,all,rw',hb,hg,hpl,he,a1⟩:=(ls.ext x2).at Fk.len hy
  have w1:=braKey_w (n:=n) (by omega) y.key
  have w2:=braNum_w (n:=n) (by omega) y.child
  by_cases c1:keyOk y.key
  case neg =>
   have bad:¬ mayB l:=fun m=>c1 (m.1 i y hy).1
   refine walk ?_
   refine jg_drawn (q:=25) (ms:=[0,1,3,7,15,31,63,127,255,511,1023,2047,4095,8191,16383,16383,49151,131071,262143,524287,16383,1064959,4194303,8388607,16777215]) (hl:=[[],[],[],[],[],[],[],[],[],[],[],[],[],[],[27,28,32,33],[26,32,33],[26,32,33],[32,33],[32,33],[32,33],[26,27,28,29,30,31],[26,27,28,29,30,31],[],[],[]]) hok rfl (by kernel_rfl) (by kernel_rfl) rfl ?_
   refine walk ?_
   exact jg_ret1 hres ⟨av_f bad,hext⟩
  by_cases c1':num y.child
  case neg =>
   have bad:¬ mayB l:=fun m=>c1' (m.1 i y hy).2.1
   refine walk ?_
   refine jg_drawn (q:=25) (ms:=[0,1,3,7,15,31,63,127,255,511,1023,2047,4095,8191,16383,16383,49151,131071,262143,524287,16383,1064959,4194303,8388607,16777215]) (hl:=[[],[],[],[],[],[],[],[],[],[],[],[],[],[],[27,28,32,33],[26,32,33],[26,32,33],[32,33],[32,33],[32,33],[26,27,28,29,30,31],[26,27,28,29,30,31],[],[],[]]) hok rfl (by kernel_rfl) (by kernel_rfl) rfl ?_
   refine walk ?_
   exact jg_ret1 hres ⟨av_f bad,hext⟩
  rcases Nat.eq_zero_or_pos i with rfl|hi0
  ·refine walk ?_
   refine jg_drawn (q:=25) (ms:=[0,1,3,7,15,31,63,127,255,511,1023,2047,4095,8191,16383,16383,49151,131071,262143,524287,16383,1064959,4194303,8388607,16777215]) (hl:=[[],[],[],[],[],[],[],[],[],[],[],[],[],[],[27,28,32,33],[26,32,33],[26,32,33],[32,33],[32,33],[32,33],[26,27,28,29,30,31],[26,27,28,29,30,31],[],[],[]]) hok rfl (by kernel_rfl) (by kernel_rfl) rfl ?_
   refine walk ?_
   refine next 1 (by omega) hsub ⟨by omega,hext,fun j hj b hb=>?_⟩
   obtain rfl:j=0:=by omega
   rw [hy] at hb; cases hb
   exact ⟨c1,c1',fun h0=>by omega⟩
  obtain ⟨j,rfl⟩:∃ j,i=j+1:=⟨i-1,by omega⟩
  obtain ⟨a,ha⟩:∃ a,l[j]?=some a:=⟨l[j],List.getElem?_eq_getElem (by omega)⟩
  obtain ⟨b',p',e',all',rw2,hb',hg',hpl',he',a2⟩:=(ls.ext x2).at Fk.len ha
  cases c2:bytesLess a.key y.key with
  |false =>
   have c3:(!bytesLess a.key y.key)=true:=by rw [c2]; rfl
   have bad:¬ mayB l:=fun m=>by
    have:=(m.1 (j+1) y hy).2.2 (by omega) a ha
    rw [c2] at this; cases this
   refine walk ?_
   refine jg_drawn (q:=25) (ms:=[0,1,3,7,15,31,63,127,255,511,1023,2047,4095,8191,16383,16383,49151,131071,262143,524287,16383,1064959,4194303,8388607,16777215]) (hl:=[[],[],[],[],[],[],[],[],[],[],[],[],[],[],[27,28,32,33],[26,32,33],[26,32,33],[32,33],[32,33],[32,33],[26,27,28,29,30,31],[26,27,28,29,30,31],[],[],[]]) hok rfl (by kernel_rfl) (by kernel_rfl) rfl ?_
   refine walk ?_
   exact jg_ret1 hres ⟨av_f bad,hext⟩
  |true =>
   have c3:(!bytesLess a.key y.key)=false:=by rw [c2]; rfl
   refine walk ?_
   refine jg_drawn (q:=25) (ms:=[0,1,3,7,15,31,63,127,255,511,1023,2047,4095,8191,16383,16383,49151,131071,262143,524287,16383,1064959,4194303,8388607,16777215]) (hl:=[[],[],[],[],[],[],[],[],[],[],[],[],[],[],[27,28,32,33],[26,32,33],[26,32,33],[32,33],[32,33],[32,33],[26,27,28,29,30,31],[26,27,28,29,30,31],[],[],[]]) hok rfl (by kernel_rfl) (by kernel_rfl) rfl ?_
   refine walk ?_
   refine next (j+1+1) (by omega) hsub ⟨by omega,hext,fun k hk' b hb=>?_⟩
   rcases Nat.lt_or_ge k (j+1) with q|q
   ·exact inv k q b hb
   ·obtain rfl:k=j+1:=by omega
    rw [hy] at hb; cases hb
    refine ⟨c1,c1',fun _ a' ha'=>?_⟩
    have ha':l[j]?=some a':=ha'
    rw [ha] at ha'; cases ha'
    exact c2
 ·have fin:okB l:=fun j b hb=>inv j (by
   rcases Nat.lt_or_ge j l.length with q|q
   ·omega
   ·rw [List.getElem?_eq_none q] at hb; cases hb) b hb
  have e:mayB l↔0<l.length:=⟨fun m=>m.2,fun m=>⟨fin,m⟩⟩
  refine walk ?_
  refine jg_ret1 hres ⟨?_,hext⟩
  by_cases q:0<l.length
  ·exact (congrArg AV.bool (decide_eq_true (show (0:Int)<l.length by omega))).trans (av_t (e.2 q))
  ·exact (congrArg AV.bool (decide_eq_false (show ¬ (0:Int)<l.length by omega))).trans (av_f fun m=>q (e.1 m))
def encF (b:Fk):List UInt8:=leb b.key.length 1++b.key++leb b.child 4
def encLF (l:List Fk):List UInt8:=l.flatMap encF
theorem encF_len (b:Fk):(encF b).length=5+b.key.length:=by simp [encF,leb_len]; omega
theorem encLF_len (l:List Fk):(encLF l).length=sizeB l:=by
 induction l with
 |nil=>rfl
 |cons a l ih=>unfold encLF at ih ⊢; rw [List.flatMap_cons,List.length_append,ih,encF_len]; simp [sizeB]
theorem encLF_take (l:List Fk) (i:Nat) (b:Fk) (h:l[i]?=some b):encLF (l.take (i+1))=encLF (l.take i)++encF b:=by
 rw [List.take_add_one,h]
 simp [encLF]
theorem sizeB_mono (l:List Fk) (i:Nat):sizeB (l.take i)≤sizeB l:=by
 have e:sizeB l=sizeB (l.take i)+sizeB (l.drop i):=by
  rw [show sizeB l=sizeB (l.take i++l.drop i) by rw [List.take_append_drop]]
  simp only [sizeB,List.map_append,List.sum_append]
 omega
noncomputable def pageB (z:Int) (p tx:Nat) (l:List Fk):Pg×Int:=if mayB l∧(sizeB l:Int)≤room z∧num p∧tx≤4611686018427387904 then (⟨3,l.length,p,0,tx,bodyS z (encLF l)⟩,0) else (Pg.zero,2)
theorem room_le (z:Int):0≤room z∧room z≤4072:=by
 unfold room
 split
 ·rename_i g
  have:=g.1
  have:=g.2.1
  omega
 ·omega
theorem braPage_w {n:Nat} (hn:4<n) {z:Int} {p tx:Nat} {v:AV} {l:List Fk} {h:Heap} (ls:LsF h v l) (hk:h.ok) (t:tameF l):(TV n).sm 108 [.int .i64 z,.int .u32 p,.int .u64 tx,v] h=some (.tuple [(pageB z p tx l).1.av,.int .i64 (pageB z p tx l).2],h):=by
 refine w_in hn (fun h=>h.ok∧LsF h v l) rfl rfl ⟨hk,ls⟩ (fun hp=>⟨ok_nil,ls.any (by simpa [AV.plains,AV.plain] using hp)⟩) ?_
 clear hk ls h
 rintro n hn h ⟨hk,ls⟩
 refine body_j rfl rfl ?_
 have hlen:=ls.len
 have t1:=t.1
 have w2:=braNum_w (n:=n) (by omega) p
 have w1:=room_w (n:=n) (by omega) z
 have x0:Ext h (h.alloc (.cells 52 Pg.zero.cs true)):=Ext.alloc _ _
 have w3:=braMay_w (n:=n) (by omega) (ls.ext x0) (x0.ok hk) t
 have w4:=braSize_w (n:=n) (by omega) (ls.ext x0) (x0.ok hk) t
 have bs:=sizeB_le l t.2
 have rz:=room_le z
 unfold pageB
 refine walk ?_
 refine jo_w w3 rfl rfl rfl rfl ?_
 by_cases c:mayB l∧(sizeB l:Int)≤room z∧num p∧tx≤4611686018427387904
 case neg =>
  rw [if_neg c]
  by_cases c1:mayB l
  ·refine walk ?_
   refine jo_w w4 rfl rfl rfl rfl ?_
   by_cases c2:(sizeB l:Int)≤room z
   ·by_cases c3:num p
    ·have c4:¬ tx≤4611686018427387904:=fun c4=>c ⟨c1,c2,c3,c4⟩
     exact auto
    ·exact auto
   ·exact auto
  ·exact auto
 rw [if_pos c]
 obtain ⟨c1,c2,c3,c4⟩:=c
 refine walk ?_
 refine jo_w w4 rfl rfl rfl rfl ?_
 refine walk ?_
 refine jg_loop (ι:=Nat×AV) (fun a=>l.length-a.1) (fun a=>[(0,.int .i64 z),(1,.int .u32 p),(2,.int .u64 tx),(3,v),(8,.ptr h.next 0),(10,a.2),(35,v),(36,.int .i64 l.length),(37,.int .i64 (a.1:Nat))]) (fun a h2=>a.1≤l.length∧Ext (h.alloc (.cells 52 Pg.zero.cs true)) h2∧OwnB 5 (h.next+1) h2 a.2 (encLF (l.take a.1))) (0,.nilslice) hsub ⟨by omega,.refl _,OwnB.nil⟩ ?_
 rintro ⟨i,u⟩ h2 ⟨hi,x2,ow⟩ next
 dsimp only at hi ow next ⊢
 have nx2:h.next+1≤h2.next:=x2.nx
 have g8:h2.get h.next=some (.cells 52 Pg.zero.cs true):=(x2.old _ (by show h.next<h.next+1; omega)).trans (get_new _ _)
 have ok2:=x2.ok (x0.ok hk)
 have hsz:(encLF (l.take i)).length≤4072:=by
  have:=sizeB_mono l i
  rw [encLF_len]; omega
 by_cases hil:i<l.length
 ·obtain ⟨y,hy⟩:∃ y,l[i]?=some y:=⟨l[i],List.getElem?_eq_getElem hil⟩
  obtain ⟨b,p',e,all,rw',hb,hg,hpl,he,a1⟩:=((ls.ext x0).ext x2).at Fk.len hy
  have ky:y.key.length≤40:=(c1.1 i y hy).1
  have rb:y.child≤2147483647:=(c1.1 i y hy).2.1.2
  have ycs:y.cs=[.str y.key,.int .u32 y.child]:=rfl
  rw [ycs] at he
  refine walk ?_
  refine jg_drawn (q:=10) (ms:=[0,0,2,6,14,31,0,64,255,511]) (hl:=[[42,43,44,45,47,48],[41,47,48],[41,47,48],[41,47,48],[41,47,48],[47,48],[41,42,43,44,45,46],[41,42,43,44,45,46],[],[]]) hok rfl (by kernel_rfl) (by kernel_rfl) rfl ?_
  refine walk ?_
  refine jd_call (octet_put (ow.by.ext (by exact hext)) (by omega) (by decide) (by decide) (by omega) ow.by.ns) rfl rfl rfl rfl rfl rfl ?_
  rintro v1 g1 ⟨o1,x1⟩
  have nx1:h2.next+1+10≤g1.next:=x1.nx
  obtain ⟨v2,g2,e2,o2,k2⟩:=ast (q:=n) (lo:=h2.next+1+10) (r:=y.key) o1 (by simp [leb_len]; omega)
  have nx2':=k2.nx
  refine walk ?_
  refine jo_call (octet_put o2.by (by omega) (by decide) (by decide) (by simp [leb_len]; omega) o2.by.ns) rfl rfl rfl rfl ?_
  rintro v5 g5 ⟨o5,x5⟩
  have nx5:=x5.nx
  refine walk ?_
  refine next (i+1,v5) (by simp only; omega) hsub ⟨by simp only; omega,by exact hext,?_⟩
  simp only
  rw [encLF_take l i y hy]
  have o6:=OwnB.lo o5 (show h.next+1≤g2.next by omega)
  simpa [encF] using o6
 ·have e1:l.take i=l:=List.take_of_length_le (by omega)
  rw [e1] at ow
  have w5:=body_w (n:=n) (by omega) (z:=z) ow.by ok2 ow.by.ns
  rw [bodyR_eq] at w5
  refine walk ?_
  refine jo_w w5 rfl rfl rfl rfl ?_
  refine walk ?_
  exact jg_ret2 (by exact hres) ⟨rfl,by exact hext⟩
def shortA:AV:=.iface 164 (.agg [])
theorem must_n {q:Nat} (x:Int) (h:Heap):Gives (TV q) 145 [.int .u64 x,.int .i64 0] h (fun v h'=>v=.int .u64 x∧h'=h):=by
 refine call_j (no_w rfl rfl) rfl rfl ?_
 refine walk ?_
 exact jg_ret1 hres ⟨rfl,rfl⟩
theorem must_s {q:Nat} (x:List UInt8) (h:Heap):Gives (TV q) 146 [.str x,.int .i64 0] h (fun v h'=>v=.str x∧h'=h):=by
 refine call_j (no_w rfl rfl) rfl rfl ?_
 refine walk ?_
 exact jg_ret1 hres ⟨rfl,rfl⟩
theorem must_n7 {q:Nat} (x:Int) (h:Heap):Wp (TV q) (.call 145 [.int .u64 x,.int .i64 7] h) (fun r=>(∃ v h2,r=.ret v h2∧False)∨∃ v h2,r=.thrown v h2∧v=shortA∧h2=h):=by
 refine call_jl (no_w rfl rfl) rfl rfl ?_
 refine walk ?_
 exact jo_panic rfl rfl fun tm hs=>leave_thrown rfl (.inr ⟨_,_,rfl,rfl,rfl⟩)
theorem must_s7 {q:Nat} (x:List UInt8) (h:Heap):Wp (TV q) (.call 146 [.str x,.int .i64 7] h) (fun r=>(∃ v h2,r=.ret v h2∧False)∨∃ v h2,r=.thrown v h2∧v=shortA∧h2=h):=by
 refine call_jl (no_w rfl rfl) rfl rfl ?_
 refine walk ?_
 exact jo_panic rfl rfl fun tm hs=>leave_thrown rfl (.inr ⟨_,_,rfl,rfl,rfl⟩)
def okF (s:List UInt8):Prop:=1≤s.length∧numV 1 s≤(restV 1 s).length∧4≤(restV (numV 1 s) (restV 1 s)).length
instance (s:List UInt8):Decidable (okF s):=inferInstanceAs (Decidable (_∧_))
def fkOf (s:List UInt8):Fk:=⟨bytV (numV 1 s) (restV 1 s),numV 4 (restV (numV 1 s) (restV 1 s))⟩
def fkRest (s:List UInt8):List UInt8:=restV 4 (restV (numV 1 s) (restV 1 s))
theorem err_0 {n:Nat} {s:List UInt8} (h:n≤s.length):errV n s=0:=by unfold errV; rw [if_pos h]
theorem err_7 {n:Nat} {s:List UInt8} (h:¬ n≤s.length):errV n s=7:=by unfold errV; rw [if_neg h]
theorem fork_g {q r:Nat} {e:TypeId} {s:List UInt8} {h:Heap} (g:h.get r=some (.cells e [.str s] true)) (hr:r<h.next) (hl:s.length<1000000) (ok:okF s):Gives (TV q) 107 [.agg [.ptr r 0]] h (fun v h'=>v=.agg (fkOf s).cs∧h'.get r=some (.cells e [.str (fkRest s)] true)∧h.next≤h'.next∧(∀ c,c<h.next→c≠r→h'.get c=h.get c)∧(h.ok→h'.ok)):=by
 refine call_j (no_w rfl rfl) rfl rfl ?_
 obtain ⟨o1,o2,o3⟩:=ok
 have v1:=numV_lt 1 s
 have v2:=numV_lt 4 (restV (numV 1 s) (restV 1 s))
 have l1:=restV_len 1 s
 have l2:=restV_len (numV 1 s) (restV 1 s)
 refine walk ?_
 refine jo_call (num_g (n:=1) (b:=r) (s:=s) (by exact hget) (by show r<h.next+1+1; omega) (by omega) (by decide) (by decide)) rfl rfl rfl rfl ?_
 rintro _ h3 ⟨rfl,u3⟩
 have n3:h3.next=h.next+1+1:=u3.nx
 rw [err_0 o1]
 refine walk ?_
 refine jo_call (must_n _ _) rfl rfl rfl rfl ?_
 rintro _ h3 ⟨rfl,rfl⟩
 refine walk ?_
 refine jo_call (byt_g (n:=numV 1 s) (s:=restV 1 s) u3.got (by omega) (by omega) (by omega)) rfl rfl rfl rfl ?_
 rintro _ h4 ⟨rfl,u4⟩
 have n4:=u4.nx
 rw [err_0 o2]
 refine walk ?_
 refine jo_call (must_s _ _) rfl rfl rfl rfl ?_
 rintro _ h4 ⟨rfl,rfl⟩
 refine walk ?_
 refine jo_call (num_g (n:=4) (s:=restV (numV 1 s) (restV 1 s)) u4.got (by omega) (by omega) (by decide) (by decide)) rfl rfl rfl rfl ?_
 rintro _ h5 ⟨rfl,u5⟩
 have n5:=u5.nx
 rw [err_0 o3]
 refine walk ?_
 refine jo_call (must_n _ _) rfl rfl rfl rfl ?_
 rintro _ h5 ⟨rfl,rfl⟩
 refine walk ?_
 refine jg_ret1 (v:=.agg (fkOf s).cs) (by exact hres) ⟨rfl,by exact hget,by show h.next≤h5.next; omega,fun c hc hcr=>?_,fun k=>?_⟩
 ·rw [Heap.gn _ _ _ _ (by show c≠h.next+1; omega),u5.old c hcr,u4.old c hcr,u3.old c hcr,Heap.ga _ _ _ (by show c≠h.next+1; omega),Heap.ga _ _ _ (by omega)]
 ·exact ok_st (u5.ok (u4.ok (u3.ok (ok_al (ok_al k _) _)))) _ _ (by show h.next+1<h5.next; omega)
theorem fork_bad {q r:Nat} {e:TypeId} {s:List UInt8} {h:Heap} (g:h.get r=some (.cells e [.str s] true)) (hr:r<h.next) (hl:s.length<1000000) (ok:¬ okF s):Wp (TV q) (.call 107 [.agg [.ptr r 0]] h) fun x=>∃ v h',x=.thrown v h'∧v=shortA∧h.next≤h'.next∧(∀ c,c<h.next→c≠r→h'.get c=h.get c)∧(h.ok→h'.ok):=by
 refine call_jl (no_w rfl rfl) rfl rfl ?_
 have v1:=numV_lt 1 s
 have v2:=numV_lt 4 (restV (numV 1 s) (restV 1 s))
 have l1:=restV_len 1 s
 have l2:=restV_len (numV 1 s) (restV 1 s)
 refine walk ?_
 refine jo_call (num_g (n:=1) (b:=r) (s:=s) (by exact hget) (by show r<h.next+1+1; omega) (by omega) (by decide) (by decide)) rfl rfl rfl rfl ?_
 rintro _ h3 ⟨rfl,u3⟩
 have n3:h3.next=h.next+1+1:=u3.nx
 have f3:∀ c,c<h.next→c≠r→h3.get c=h.get c:=fun c hc hcr=>by rw [u3.old c hcr,Heap.ga _ _ _ (by show c≠h.next+1; omega),Heap.ga _ _ _ (by omega)]
 have k3:h.ok→h3.ok:=fun k=>u3.ok (ok_al (ok_al k _) _)
 by_cases o1:1≤s.length
 case neg =>
  rw [err_7 o1]
  refine walk ?_
  refine jo_callx (must_n7 _ _) rfl rfl rfl rfl (fun _ _ f=>f.elim) ?_
  rintro _ h4 ⟨rfl,rfl⟩ tm hs
  exact leave_thrown rfl ⟨_,_,rfl,rfl,by show h.next≤h4.next; omega,f3,k3⟩
 rw [err_0 o1]
 refine walk ?_
 refine jo_call (must_n _ _) rfl rfl rfl rfl ?_
 rintro _ h3 ⟨rfl,rfl⟩
 refine walk ?_
 refine jo_call (byt_g (n:=numV 1 s) (s:=restV 1 s) u3.got (by omega) (by omega) (by omega)) rfl rfl rfl rfl ?_
 rintro _ h4 ⟨rfl,u4⟩
 have n4:=u4.nx
 have f4:∀ c,c<h.next→c≠r→h4.get c=h.get c:=fun c hc hcr=>by rw [u4.old c hcr,f3 c hc hcr]
 by_cases o2:numV 1 s≤(restV 1 s).length
 case neg =>
  rw [err_7 o2]
  refine walk ?_
  refine jo_callx (must_s7 _ _) rfl rfl rfl rfl (fun _ _ f=>f.elim) ?_
  rintro _ h5 ⟨rfl,rfl⟩ tm hs
  exact leave_thrown rfl ⟨_,_,rfl,rfl,by show h.next≤h5.next; omega,f4,fun k=>u4.ok (k3 k)⟩
 rw [err_0 o2]
 refine walk ?_
 refine jo_call (must_s _ _) rfl rfl rfl rfl ?_
 rintro _ h4 ⟨rfl,rfl⟩
 refine walk ?_
 refine jo_call (num_g (n:=4) (s:=restV (numV 1 s) (restV 1 s)) u4.got (by omega) (by omega) (by decide) (by decide)) rfl rfl rfl rfl ?_
 rintro _ h5 ⟨rfl,u5⟩
 have n5:=u5.nx
 have f5:∀ c,c<h.next→c≠r→h5.get c=h.get c:=fun c hc hcr=>by rw [u5.old c hcr,f4 c hc hcr]
 rw [err_7 fun o3=>ok ⟨o1,o2,o3⟩]
 refine walk ?_
 refine jo_callx (must_n7 _ _) rfl rfl rfl rfl (fun _ _ f=>f.elim) ?_
 rintro _ h6 ⟨rfl,rfl⟩ tm hs
 exact leave_thrown rfl ⟨_,_,rfl,rfl,by show h.next≤h6.next; omega,f5,fun k=>u5.ok (u4.ok (k3 k))⟩
def parseF:Nat→List UInt8→Option (List Fk)
 |0,_=>some []
 |k+1,s=>if okF s then (parseF k (fkRest s)).map (fkOf s :: ·) else none
noncomputable def ofB (p:Pg):Option (List Fk):=match parseF p.count.toNat p.body with
 |none=>none
 |some l=>if pageB (p.body.length+24) p.page p.tx l=(p,0) then some l else none
theorem braOf_end {q b2 b3:Nat} {tm:Tr AV} {L:List (Nat×AV)} {h:Heap} {x y:AV} (hs:Sees tm L) (h2:Ev.look L 2=some (.ptr b2 0)) (h3:Ev.look L 3=some (.ptr b3 0)) (g2:h.get b2=some (.cells 85 [x] true)) (g3:h.get b3=some (.cells 29 [y] true)) {Q:Res→Prop} (c:Q (.ret (.tuple [x,y]) h)) :
  Wp (TV q) (.leave 69 tm [.fn (.func 106) [.ptr b2 0,.ptr b3 0] []] none h) Q:=by
 refine dcall_j rfl rfl rfl rfl ?_
 refine jg_seq ?_
 refine jg_region ?_
 refine jo_recover0 rfl rfl rfl rfl rfl ?_
 refine walk ?_
 refine jg_dend ?_
 exact leave_ret (vs:=[x,y]) hs rfl (results_cell h2 (cell_one rfl rfl g2) (results_cell h3 (cell_one rfl rfl g3) rfl)) c
theorem braOf_fault {q b2 b3:Nat} {tm:Tr AV} {L:List (Nat×AV)} {h:Heap} {x y:AV} (hs:Sees tm L) (h2:Ev.look L 2=some (.ptr b2 0)) (h3:Ev.look L 3=some (.ptr b3 0)) (g2:h.get b2=some (.cells 85 [x] true)) (g3:h.get b3=some (.cells 29 [y] true)) (n23:b3≠b2) (l2:b2<h.next) (l3:b3<h.next) {Q:Res→Prop}
  (c:∀ h',h.next≤h'.next→(∀ c,c<h.next→c≠b2→c≠b3→h'.get c=h.get c)→(h.ok→h'.ok)→Q (.ret (.tuple [.nilslice,.int .i64 4]) h')) :
  Wp (TV q) (.leave 69 tm [.fn (.func 106) [.ptr b2 0,.ptr b3 0] []] (some (shortA,false)) h) Q:=by
 refine dcall_j rfl rfl rfl rfl ?_
 refine jg_seq ?_
 refine jg_region ?_
 refine jo_recover rfl rfl rfl rfl rfl ?_
 refine walk ?_
 refine jg_dend ?_
 refine leave_ret (vs:=[.nilslice,.int .i64 4]) hs rfl (results_cell h2 (cell_one rfl rfl hget) (results_cell h3 (cell_one rfl rfl (Heap.gs _ _ _)) rfl)) (c _ (by show h.next≤h.next+1; omega) (fun c hc h2' h3'=>?_) (fun k=>?_))
 ·rw [Heap.gn _ _ _ _ h3',Heap.gn _ _ _ _ h2',Heap.gn _ _ _ _ (by omega),Heap.ga _ _ _ (by omega)]
 ·exact ok_st (ok_st (ok_st (ok_al k _) _ _ (by show h.next<h.next+1; omega)) _ _ (by show b2<h.next+1; omega)) _ _ (by show b3<h.next+1; omega)
theorem braOf_g {n:Nat} (hn:6<n) {p:Pg} {h:Heap} (hk:h.ok) (hl:p.body.length≤100000) (hc:p.count<1000000000):Gives (TV n) 69 [p.av] h (fun v h'=>Ext h h'∧match ofB p with
  |none=>v=.tuple [.nilslice,.int .i64 4]
  |some l=>∃ u,v=.tuple [u,.int .i64 0]∧OwnLF h.next h' u l):=by
 refine call_jl (no_w rfl rfl) rfl rfl ?_
 refine walk ?_
 refine jo_defer rfl rfl rfl rfl ?_
 refine walk ?_
 refine jo_call (octet_new p.body _) rfl rfl rfl rfl ?_
 rintro _ _ ⟨rfl,rfl⟩
 refine walk ?_
 refine jg_loop (ι:=Nat×AV×List Fk×List UInt8) (fun a=>p.count.toNat-a.1) (fun a=>[(1,.ptr h.next 0),(2,.ptr (h.next+1) 0),(3,.ptr (h.next+2) 0),(4,.ptr (h.next+4) 0),(13,.int .i64 p.count),(14,.int .i64 (a.1:Nat))]) (fun a h2=>Ext h h2∧h.next+5≤h2.next∧h2.get h.next=some (.cells 52 p.cs true)∧h2.get (h.next+1)=some (.cells 85 [a.2.1] true)∧h2.get (h.next+2)=some (.cells 29 [.int .i64 0] true)∧h2.get (h.next+3)=some (.cells 149 [.str a.2.2.2] true)∧h2.get (h.next+4)=some (.cells 166 [.ptr (h.next+3) 0] true)∧OwnLF (h.next+5) h2 a.2.1 a.2.2.1∧a.1=a.2.2.1.length∧4*a.1+a.2.2.2.length≤p.body.length∧(0<a.1→(a.1:Int)≤p.count)∧(∀ b∈a.2.2.1,b.key.length≤1000000)∧parseF p.count.toNat p.body=(parseF (p.count.toNat-a.1) a.2.2.2).map (a.2.2.1 ++ ·)) (0,.nilslice,[],p.body) hsub ⟨by exact hext,by show h.next+5≤h.next+1+1+1+1+1; omega,by exact hget,by exact hget,by exact hget,by exact hget,by exact hget,OwnL.nil,rfl,by simp,by simp,by simp,by simp⟩ ?_
 rintro ⟨i,u,acc,s⟩ h2 ⟨x2,n2,g0,g1,g2,g3,g4,ow,ei,len,cnt,nms,par⟩ next
 dsimp only at g1 g3 ow ei len nms par next cnt ⊢
 subst ei
 have ok2:=x2.ok hk
 by_cases hi:(acc.length:Int)<p.count
 ·have par':p.count.toNat-acc.length=(p.count.toNat-(acc.length+1))+1:=by omega
  rw [par'] at par
  have e0:parseF ((p.count.toNat-(acc.length+1))+1) s=if okF s then (parseF (p.count.toNat-(acc.length+1)) (fkRest s)).map (fkOf s :: ·) else none:=rfl
  rw [e0] at par
  by_cases c:okF s
  case neg =>
   have e4:ofB p=none:=by unfold ofB; rw [par,if_neg c]; rfl
   rw [e4]
   refine walk ?_
   refine jg_drawn_pan (q:=6) (ms:=[0,0,2,6,15,31]) (hl:=[[17,18,19],[16],[16],[16],[],[]]) hok rfl (by kernel_rfl) (by kernel_rfl) rfl ?_
   refine pj_val rfl rfl rfl rfl opa ?_
   refine pj_val rfl rfl rfl rfl opa ?_
   refine pj_thrown (l:=[]) rfl (fork_bad (q:=n) (r:=h.next+3) (s:=s) (by exact hget) (by show h.next+3<h2.next+6; omega) (by omega) c) rfl rfl rfl rfl ?_
   rintro _ h3 ⟨rfl,n3,f3,k3⟩
   have n3:h2.next+6≤h3.next:=n3
   have q1:h3.get (h.next+1)=some (.cells 85 [u] true):=(f3 _ (by show h.next+1<h2.next+6; omega) (by omega)).trans g1
   have q2:h3.get (h.next+2)=some (.cells 29 [.int .i64 0] true):=(f3 _ (by show h.next+2<h2.next+6; omega) (by omega)).trans g2
   refine ⟨fun tm' hs=>?_,by exact hms,_,rfl,by exact hall⟩
   refine braOf_fault hs rfl rfl q1 q2 (by omega) (by omega) (by omega) fun h5 n5 f5 k5=>⟨_,_,rfl,?_,rfl⟩
   exact ⟨by omega,fun c hc=>by rw [f5 c (by omega) (by omega) (by omega),f3 c (by show c<h2.next+6; omega) (by omega)]; exact x2.old c hc,fun _=>k5 (k3 (Heap.ok_more ok2 6))⟩
  rw [if_pos c] at par
  refine walk ?_
  refine jg_drawn (q:=6) (ms:=[0,0,2,6,15,31]) (hl:=[[17,18,19],[16],[16],[16],[],[]]) hok rfl (by kernel_rfl) (by kernel_rfl) rfl ?_
  refine walk ?_
  refine jd_call (fork_g (r:=h.next+3) (s:=s) (by exact hget) (by show h.next+3<h2.next+6; omega) (by omega) c) rfl rfl rfl rfl rfl rfl ?_
  rintro _ h3 ⟨rfl,r3,n3,f3,k3⟩
  have n3:h2.next+6≤h3.next:=n3
  have f3:∀ c,c<h2.next+6→c≠h.next+3→h3.get c=h2.get c:=f3
  have ok3:h3.ok:=k3 (Heap.ok_more ok2 6)
  have q0:=(f3 h.next (by omega) (by omega)).trans g0
  have q1:=(f3 (h.next+1) (by omega) (by omega)).trans g1
  have q2:=(f3 (h.next+2) (by omega) (by omega)).trans g2
  have q4:=(f3 (h.next+4) (by omega) (by omega)).trans g4
  have x3:Ext h h3:=⟨by omega,fun c hc=>by rw [f3 c (by omega) (by omega)]; exact x2.old c hc,fun _=>ok3⟩
  have o3:OwnLF (h.next+5) h3 u acc:=Own.keep ow (fun c h1 h2'=>f3 c (by omega) (by omega)) (by omega)
  have s3:=Upd.set h3 (h2.next+3) (.cells 132 (fkOf s).cs true) (by omega)
  obtain ⟨v7,h7,e7,o7,k7⟩:=app_row (T:=TV n) (st:=85) (rest:=[85]) (h:=h3.set (h2.next+3) (.cells 132 (fkOf s).cs true)) (x:=fkOf s) (c:=h2.next+3) (Own.keep ow (fun c h1 h2'=>by rw [Heap.gn _ _ _ _ (by omega)]; exact f3 c (by omega) (by omega)) (by show h2.next≤h3.next; omega)) (Heap.gs _ _ _) (by show h2.next+3<h3.next; omega) (by show h.next+5≤h3.next; omega) (by omega) rfl rfl rfl rfl rfl (by exact Nat.le_of_ble_eq_true rfl) rfl (by decide) rfl
  have n7:h3.next≤h7.next:=k7.nx
  have c7:=Sl.cells o7.ls
  have d7:=Sl.one o7.ls
  have rl:(fkRest s).length+4≤s.length:=by
   have:=restV_lt c.2.2
   have:=restV_len (numV 1 s) (restV 1 s)
   have:=restV_len 1 s
   unfold fkRest
   omega
  have nb:(fkOf s).key.length≤1000000:=by
   have:=numV_lt 1 s
   exact Nat.le_trans (bytV_len _ _) (by omega)
  refine walk ?_
  have f7:∀ c,c<h.next+5→h7.get c=h3.get c:=fun c hc=>by rw [k7.old c hc,Heap.gn _ _ _ _ (by omega)]
  have n7':h2.next+6≤h7.next:=by omega
  refine next (acc.length+1,v7,acc++[fkOf s],fkRest s) (by simp only; omega) (by exact hsub) ⟨?_,by show h.next+5≤h7.next; omega,?_,Heap.gs _ _ _,?_,?_,?_,?_,by simp,?_,?_,?_,?_⟩
  ·exact ⟨by show h.next≤h7.next; omega,fun c hc=>by rw [Heap.gn _ _ _ _ (by omega),f7 c (by omega)]; exact x3.old c hc,fun _=>ok_st (k7.ok (ok_st ok3 _ _ (by omega))) _ _ (by omega)⟩
  ·rw [Heap.gn _ _ _ _ (by omega),f7 _ (by omega)]; exact q0
  ·rw [Heap.gn _ _ _ _ (by omega),f7 _ (by omega)]; exact q2
  ·rw [Heap.gn _ _ _ _ (by omega),f7 _ (by omega)]; exact r3
  ·rw [Heap.gn _ _ _ _ (by omega),f7 _ (by omega)]; exact q4
  ·exact Own.keep o7 (fun c h1 _=>Heap.gn _ _ _ _ (by omega)) (Nat.le_refl _)
  ·simp only; omega
  ·simp only; omega
  ·simp only
   intro b' hb'
   rcases List.mem_append.1 hb' with q|q
   ·exact nms b' q
   ·obtain rfl:=List.mem_singleton.1 q
    exact nb
  ·rw [par]
   simp only [Option.map_map]
   congr 1
   funext x
   simp
 ·have e0:p.count.toNat-acc.length=0:=by
   rcases Nat.eq_zero_or_pos acc.length with q|q
   ·omega
   ·have:=cnt q; omega
  have e1:parseF p.count.toNat p.body=some acc:=by rw [par,e0]; simp [parseF]
  have tm:tameF acc:=⟨by omega,nms⟩
  have w1:=braPage_w (n:=n) (by omega) (z:=(p.body.length:Int)+24) (p:=p.page) (tx:=p.tx) (h:=h2) ow.ls ok2 tm
  refine walk ?_
  refine jo_w w1 rfl rfl rfl rfl ?_
  have key:ofB p=if pageB ((p.body.length:Int)+24) p.page p.tx acc=(p,0) then some acc else none:=by unfold ofB; rw [e1]
  generalize pageB ((p.body.length:Int)+24) p.page p.tx acc=r at key ⊢
  obtain ⟨r1,r2⟩:=r
  by_cases c1:r2=0
  case neg =>
   rw [key,if_neg fun e=>c1 (congrArg Prod.snd e)]
   refine walk ?_
   refine jg_fin fun tm hs=>?_
   refine braOf_end hs rfl rfl (by exact hget) (by exact hget) ⟨_,_,rfl,?_,rfl⟩
   exact hext
  subst c1
  refine walk ?_
  refine jo_val rfl rfl rfl (k_bin rfl rfl rfl (bin_ne (page_eqv r1 p) rfl) rfl) ?_
  have cu:=Sl.cells ow.ls
  have du:=Sl.one ow.ls
  by_cases c2:r1=p
  ·rw [key,if_pos (by rw [c2])]
   refine walk ?_
   refine jg_fin fun tm hs=>?_
   refine braOf_end hs rfl rfl (by exact hget) (by exact hget) ⟨_,_,rfl,?_,u,rfl,?_⟩
   ·exact hext
   ·refine Own.lo (Own.keep ow (fun c h1 h2'=>?_) ?_) (by omega)
    ·show Heap.get (Heap.set (Heap.set (Heap.set (Heap.alloc h2 _) _ _) _ _) _ _) c=h2.get c
     rw [Heap.gn _ _ _ _ (by omega),Heap.gn _ _ _ _ (by omega),Heap.gn _ _ _ _ (by omega),Heap.ga _ _ _ (by omega)]
    ·show h2.next≤h2.next+1
     omega
  ·rw [key,if_neg fun e=>c2 (congrArg Prod.fst e)]
   refine walk ?_
   refine jg_fin fun tm hs=>?_
   refine braOf_end hs rfl rfl (by exact hget) (by exact hget) ⟨_,_,rfl,?_,rfl⟩
   exact hext
end Go.Proofs.YtmnhbehmjaibgaaGreat
