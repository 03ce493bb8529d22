/- What the functions of this part answer at any input, told by the rules over the evaluator. Conditions: those that each theorem states. -/
import Derived.Test.YtejfbaecadbdiaaGreatLv
import Derived.Test.YtejfbaecadbdiaaGreatGap
set_option linter.unusedVariables false
set_option linter.unusedSimpArgs false
open Go Ev
namespace Go.Proofs.YtejfbaecadbdiaaGreat
set_option maxRecDepth 10000
set_option maxHeartbeats 4000000
structure Bk where
 name:List UInt8
 root:Nat
 keys:Int
def Bk.cs (b:Bk):List AV:=[.str b.name,.int .u32 b.root,.int .i64 b.keys]
abbrev LsB (h:a0a) (v:AV) (l:List Bk):Prop:=Ls Bk.cs 3 h v l
abbrev c1o (lo:Nat) (h:a0a) (v:AV) (l:List Bk):Prop:=a9g Bk.cs 88 3 lo h v l
theorem Bk.len (b:Bk):b.cs.length=3:=rfl
def b6n (s:List UInt8):Prop:=1≤s.length∧s.length≤16
instance (s:List UInt8):Decidable (b6n s):=inferInstanceAs (Decidable (_∧_))
def num (n:Nat):Prop:=2≤n∧n≤2147483647
instance (n:Nat):Decidable (num n):=inferInstanceAs (Decidable (_∧_))
theorem d8l {n:Nat}(hn:0<n) (s:List UInt8) (h:a0a):(TV n).sm 192 [.str s] h=some (.bool (decide (b6n s)),h):=by
 refine a3b hn rfl rfl rfl fun n hn=>a0s rfl rfl ?_
 unfold b6n
 exact auto
theorem d1h {n:Nat}(hn:0<n) (p:Nat) (h:a0a):(TV n).sm 142 [.int .u32 p] h=some (.bool (decide (num p)),h):=by
 refine a3b hn rfl rfl rfl fun n hn=>a0s rfl rfl ?_
 unfold num
 exact auto
def c4m (b:Bk):Prop:=b6n b.name∧(b.root=0∧b.keys=0∨num b.root∧1≤b.keys∧b.keys≤2147483647)
instance (b:Bk):Decidable (c4m b):=inferInstanceAs (Decidable (_∧_))
theorem e3n {n:Nat}(hn:1<n) (b:Bk) (h:a0a):(TV n).sm 168 [.agg b.cs] h=some (.bool (decide (c4m b)),h):=by
 refine a3b hn rfl rfl rfl fun n hn=>a0s rfl rfl ?_
 have w1:=d8l (n:=n) (by omega) b.name
 have w2:=d1h (n:=n) (by omega) b.root
 unfold c4m
 exact auto
def a4o (l:List Bk):Nat:=(l.map fun b=>9+b.name.length).sum
theorem c2a (l:List Bk) (hb:∀ b∈l,b.name.length≤1000000):a4o l≤l.length*1000009:=by
 induction l with
 |nil=>simp[a4o]
 |cons a l ih =>
  have h1:=hb a (List.mem_cons_self ..)
  have h2:=ih fun b h=>hb b (List.mem_cons_of_mem _ h)
  simp only[a4o,List.map_cons,List.sum_cons,List.length_cons] at h2 ⊢
  omega
theorem d3l (l:List Bk) (i:Nat) (b:Bk) (h:l[i]?=some b):a4o (l.take (i+1))=a4o (l.take i)+(9+b.name.length):=by
 rw[List.take_add_one,h]
 simp[a4o]
def b5m (l:List Bk):Prop:=l.length≤70000∧∀ b∈l,b.name.length≤1000000
theorem d6c {l:List Bk}(t:b5m l){i:Nat}{b:Bk}(h:l[i]?=some b):b.name.length≤1000000:=t.2 b (List.mem_of_getElem? h)
theorem d7y {n:Nat}(hn:0<n){v:AV}{l:List Bk}{h:a0a}(ls:LsB h v l) (hk:h.ok) (t:b5m l):(TV n).sm 169 [v] h=some (.int .i64 (a4o l),h):=by
 refine a9d hn (fun h=>h.ok∧LsB h v l) rfl rfl ⟨hk,ls⟩ (fun hp=>⟨a2f,ls.any (by simpa [AV.a1q,AV.plain] using hp)⟩) ?_
 clear hk ls h
 rintro n hn h ⟨hk,ls⟩
 refine a0s rfl rfl ?_
 have hlen:=ls.len
 refine walk ?_
 refine a0n (fun i=>l.length-i) (fun i=>[(2,.int .i64 (a4o (l.take i))),(5,v),(7,.int .i64 (i:Nat)),(6,.int .i64 l.length)]) (fun i h2=>i≤l.length∧Ext h h2) 0 hsub ⟨by omega,.refl h⟩ ?_
 rintro i h2 ⟨hi,x2⟩ next
 have t1:=t.1
 have bd:=c2a (l.take i) fun b hb=>t.2 b (List.mem_of_mem_take hb)
 rw[List.length_take] at bd
 by_cases hil:i<l.length
 ·obtain⟨y,hy⟩:∃ y,l[i]?=some y:=⟨l[i],List.getElem?_eq_getElem hil⟩
  obtain⟨b,p,e,all,rw',hb,hg,hpl,he,a1⟩:=(ls.ext x2).at Bk.len hy
  have ty:=d6c t hy
  refine walk ?_
  refine next (i+1) (by omega) ?_ ⟨by omega,a0j⟩
  rw[d3l l i y hy]
  exact hsub
 ·refine walk ?_
  have e:l.take i=l:=List.take_of_length_le (by omega)
  rw[e]
  exact a0e hres ⟨rfl,a0j⟩
theorem e1u {q b0:Nat}{e:TypeId}{rw:Bool}{b:Bk}{nm:List UInt8}{h:a0a}(g:h.get b0=some (.cells e [.str nm] rw)) (hb:b0<h.next):a0l (TV q) 216 [.agg b.cs,.ptr b0 0] h (fun v h'=>v=.bool (a1w b.name nm)∧Ext h h'):=by
 refine a0r (a1x rfl rfl) rfl rfl ?_
 exact auto
theorem e3h {q b0:Nat}{e:TypeId}{rw:Bool}{b:Bk}{nm:List UInt8}{h:a0a}(g:h.get b0=some (.cells e [.str nm] rw)) (hb:b0<h.next):a0l (TV q) 217 [.agg b.cs,.ptr b0 0] h (fun v h'=>v=.bool (!bytesLess b.name nm)∧Ext h h'):=by
 refine a0r (a1x rfl rfl) rfl rfl ?_
 exact auto
def a6j {α:Type}(p:α→Bool):List α→Nat→Int
 |[],_ => -1
 |a::l,i=>if p a then i else a6j p l (i+1)
theorem c6d {α:Type}(p:α→Bool) (l:List α) (i:Nat) (a:α) (h:l[i]?=some a):a6j p (l.drop i) i=if p a then(i:Int) else a6j p (l.drop (i+1)) (i+1):=by
 have hi:i<l.length:=by
  rcases Nat.lt_or_ge i l.length with h1|h1
  ·exact h1
  ·rw[List.getElem?_eq_none h1] at h; cases h
 rw[List.drop_eq_getElem_cons hi]
 have:l[i]=a:=by rw[List.getElem?_eq_getElem hi] at h; simpa using h
 rw[this]; rfl
theorem c0g {q:Nat}{v:AV}{l:List Bk}{fn:AV}{f:FuncId}{cap:List AV}{p:Bk→Bool}{h:a0a}(ls:LsB h v l) (ht:l.length≤70000) (C:a0a→Prop) (hC:C h) (hx:∀ {a b},C a→Ext a b→C b)
  (hfn:fn=.func (.func f) [] cap) (hF:∃ F c,(TV q).fn f=some F∧F.body=some c) (hp:∀ b h,C h→a0l (TV q) f (.agg (Bk.cs b)::cap) h (fun v h'=>v=.bool (p b)∧Ext h h')):a0l (TV q) 215 [v,fn] h (fun v' h'=>v'=.int .i64 (a6j p l 0)∧Ext h h'):=by
 refine a0r (a1x rfl rfl) rfl rfl ?_
 have hlen:=ls.len
 subst hfn
 obtain⟨F,c,hF1,hF2⟩:=hF
 refine walk ?_
 refine a0n (fun i=>l.length-i) (fun i=>[(0,v),(1,.func (.func f) [] cap),(7,.int .i64 l.length),(8,.int .i64 (i:Nat))]) (fun i h2=>i≤l.length∧Ext h h2∧a6j p l 0=a6j p (l.drop i) i) 0 hsub ⟨by omega,.refl h,rfl⟩ ?_
 rintro i h2 ⟨hi,x2,e⟩ next
 by_cases hil:i<l.length
 ·obtain⟨y,hy⟩:∃ y,l[i]?=some y:=⟨l[i],List.getElem?_eq_getElem hil⟩
  obtain⟨b,q1,e1,all,rw',hb,hg,hpl,he,a1⟩:=(ls.ext x2).at Bk.len hy
  rw[c6d p l i y hy] at e
  refine walk ?_
  refine a0b (hp y h2 (hx hC x2)) rfl rfl rfl (d6b hF1 hF2 rfl rfl rfl rfl) ?_
  rintro _ h3 ⟨rfl,x3⟩
  cases hpy:p y with
  |true =>
   rw[hpy] at e
   refine walk ?_
   exact a0e hres ⟨by rw[e]; rfl,a0j⟩
  |false =>
   rw[hpy] at e
   refine walk ?_
   exact next (i+1) (by omega) hsub ⟨by omega,a0j,e⟩
 ·refine walk ?_
  have e2:l.drop i=[]:=List.drop_of_length_le (by omega)
  rw[e2] at e
  exact a0e hres ⟨by rw[e]; rfl,a0j⟩
def c7h (nm:List UInt8) (l:List Bk):Int:=a6j (fun b=>a1w b.name nm) l 0
def e7q (nm:List UInt8) (l:List Bk):Int:=a6j (fun b => !bytesLess b.name nm) l 0
def e1i (nm:List UInt8) (l:List Bk):AV:=if 0≤c7h nm l then .tuple [.int .i64 (c7h nm l),.bool true] else if 0≤e7q nm l then .tuple [.int .i64 (e7q nm l),.bool false] else .tuple [.int .i64 l.length,.bool false]
theorem d8v {q:Nat}{v:AV}{l:List Bk}{nm:List UInt8}{h:a0a}(ls:LsB h v l) (ht:l.length≤70000):a0l (TV q) 193 [v,.str nm] h (fun v' h'=>v'=e1i nm l∧Ext h h'):=by
 refine a0r (a1x rfl rfl) rfl rfl ?_
 have hlen:=ls.len
 have x0:Ext h (h.alloc (.cells 9 [.str nm] true)):=Ext.alloc _ _
 have C1:∀ {a b:a0a},(h.next<a.next∧a.get h.next=some (.cells 9 [.str nm] true))→Ext a b→(h.next<b.next∧b.get h.next=some (.cells 9 [.str nm] true)):=fun c x=>⟨Nat.lt_of_lt_of_le c.1 x.nx,(x.old _ c.1).trans c.2⟩
 unfold e1i
 refine walk ?_
 refine a0b (c0g (p:=fun b=>a1w b.name nm) (ls.ext x0) ht (fun a=>h.next<a.next∧a.get h.next=some (.cells 9 [.str nm] true)) ⟨by show h.next<h.next+1; omega,a0t _ _⟩ C1 rfl ⟨_,_,rfl,rfl⟩ fun b a c=>e1u c.2 c.1) rfl rfl rfl rfl ?_
 rintro _ h2 ⟨rfl,x2⟩
 show OJ _ _ _ _ _ ((10,.int .i64 (c7h nm l))::_) _ _ _ _
 by_cases c1:0≤c7h nm l
 ·rw[if_pos c1]
  refine walk ?_
  exact a0d hres ⟨rfl,a0j⟩
 rw[if_neg c1]
 refine walk ?_
 refine a0b (c0g (p:=fun b => !bytesLess b.name nm) (ls.ext (x0.trans x2)) ht (fun a=>h.next<a.next∧a.get h.next=some (.cells 9 [.str nm] true)) (C1 ⟨by show h.next<h.next+1; omega,a0t _ _⟩ x2) C1 rfl ⟨_,_,rfl,rfl⟩ fun b a c=>e3h c.2 c.1) rfl rfl rfl rfl ?_
 rintro _ h3 ⟨rfl,x3⟩
 show OJ _ _ _ _ _ ((16,.int .i64 (e7q nm l))::_) _ _ _ _
 by_cases c2:0≤e7q nm l
 ·rw[if_pos c2]
  refine walk ?_
  exact a0d hres ⟨rfl,a0j⟩
 ·rw[if_neg c2]
  refine walk ?_
  exact a0d hres ⟨rfl,a0j⟩
theorem e5q {q:Nat}{v:AV}{l:List Bk}{h:a0a}(ls:LsB h v l) (ht:l.length≤70000) (h0:0<l.length):a0l (TV q) 194 [v] h (fun v' h'=>v'=.oslice (h.next+1) 0 l.length 3∧h'.get (h.next+1)=some (.cells 88 (l.flatMap Bk.cs) true)∧h'.next=h.next+2∧Ext h h'):=by
 refine a0r (a1x rfl rfl) rfl rfl ?_
 have hr:a2u l.length Tryz.t88.bytes=true:=by
  unfold a2u
  exact Nat.ble_eq.mpr (Nat.le_trans (Nat.mul_le_mul_right _ (show 4*l.length+1000≤281000 by omega)) (Nat.le_of_ble_eq_true rfl))
 have e:=c8w (T:=TV q) (st:=79) (rest:=[79]) rfl rfl rfl rfl (a0t h _) (ls.ext (Ext.alloc h (.cells 88 [] true))) rfl h0 hr
 have hlen:=ls.len
 rcases Sl.shape ls with ⟨rfl,e,_⟩|⟨rfl,e,_⟩|⟨b,p,c,rfl⟩|⟨b,p,rfl⟩
 ·omega
 ·omega
 all_goals
  refine walk ?_
  exact a0e hres ⟨rfl,a0t _ _,rfl,a0j⟩
theorem e0d {q:Nat}{v:AV}{l:List Bk}{h:a0a}(ls:LsB h v l) (ht:l.length≤70000):a0l (TV q) 194 [v] h (fun v' h'=>c1o h.next h' v' l∧Ext h h'):=by
 refine a0r (a1x rfl rfl) rfl rfl ?_
 have hr:a2u (0+l.length) Tryz.t88.bytes=true:=by
  unfold a2u
  exact Nat.ble_eq.mpr (Nat.le_trans (Nat.mul_le_mul_right _ (show 4*(0+l.length)+1000≤281000 by omega)) (Nat.le_of_ble_eq_true rfl))
 have hone:(l.flatMap Bk.cs).all AV.one=true:=by
  rw[List.all_eq_true]
  intro x hx
  obtain⟨b,_,hb⟩:=List.mem_flatMap.1 hx
  simp only[Bk.cs,List.mem_cons,List.not_mem_nil,or_false] at hb
  rcases hb with rfl|rfl|rfl<;>rfl
 have ls':=ls.ext (Ext.alloc h (.cells 88 [] true))
 obtain⟨v1,h1,e,o1,k1⟩:=b2j (T:=TV q) (st:=79) (rest:=[79]) (lo:=h.next) (sz:=3) rfl rfl rfl rfl (by decide) (.sl (B:=h.next) (cap:=0) (n:=0) (all:=[]) (cs:=[]) (Nat.le_refl _) (by show h.next<h.next+1; omega) (a0t h _) (Nat.le_refl _) rfl rfl) (by show h.next≤h.next+1; omega) (b0e rfl ls') (b6e rfl ls') (a7l Bk.len l) hone hr
 have x1:Ext h h1:=(Ext.alloc h _).kp k1 (Nat.le_refl _)
 rw[Nat.zero_add,List.nil_append] at o1
 rcases Sl.shape ls with ⟨rfl,e0,e2⟩|⟨rfl,e0,_⟩|⟨b,p,c,rfl⟩|⟨b,p,rfl⟩
 ·refine walk ?_
  have:l=[]:=List.eq_nil_of_length_eq_zero e0
  subst this
  exact a0e (v:=.nilslice) rfl ⟨a9g.nil,a0j⟩
 all_goals
  refine walk ?_
  exact a0e (v:=v1) rfl ⟨o1,x1⟩
theorem e1m {q B i:Nat}{l:List Bk}{h:a0a}(hg:h.get B=some (.cells 88 (l.flatMap Bk.cs) true)) (hB:B<h.next) (hk:h.ok) (ht:l.length≤70000) (hi:i<l.length):a0l (TV q) 195 [.oslice B 0 l.length 3,.int .i64 i,.int .i64 ((i:Int)+1)] h (fun v' h'=>LsB h' v' (l.eraseIdx i)∧a4g B h h'):=by
 refine a0r (a1x rfl rfl) rfl rfl ?_
 have hc:=a7l Bk.len l
 refine walk ?_
 refine a1k rfl rfl rfl (f3v rfl rfl rfl rfl rfl rfl rfl (e6z hg hc (by decide) hi)) ?_
 refine walk ?_
 refine a0c (q:=8) (ms:=[0,0,3,0,0,24,63,127]) (hl:=[[21,23,24,25],[20,23,24,25],[23,24,25],[20,21,22,24],[20,21,22,23],[20,21,22],[],[]]) hok rfl (by kernel_rfl) (by kernel_rfl) rfl ?_
 refine walk ?_
 refine a4l rfl rfl rfl rfl (d2c rfl rfl rfl rfl rfl rfl (d3x (lo:=0) (hi:=i) hg hc (by decide) (by omega) (by omega) l.length none (some _) (.inl ⟨rfl,rfl⟩) (.inr ⟨_,rfl⟩) (by omega))) ?_
 refine walk ?_
 have ez:(0:Nat)*3=0:=rfl
 rw[ez,Nat.sub_zero]
 have e1:((l.drop (i+1)).flatMap Bk.cs).length=(l.length-(i+1))*3:=by rw[a7l Bk.len]; simp
 have hr:a2u (i+(l.length-(i+1))) Tryz.t88.bytes=true:=by
  unfold a2u
  exact Nat.ble_eq.mpr (Nat.le_trans (Nat.mul_le_mul_right _ (show 4*(i+(l.length-(i+1)))+1000≤281000 by omega)) (Nat.le_of_ble_eq_true rfl))
 have hone:((l.drop (i+1)).flatMap Bk.cs).all AV.one=true:=by
  rw[List.all_eq_true]
  intro x hx
  obtain⟨b,_,hb⟩:=List.mem_flatMap.1 hx
  simp only[Bk.cs,List.mem_cons,List.not_mem_nil,or_false] at hb
  rcases hb with rfl|rfl|rfl<;>rfl
 have hfit:(i+(l.length-(i+1)))*3≤(l.flatMap Bk.cs).length:=by rw[hc]; omega
 obtain⟨w,ew,cw,nw⟩:∃ w,a3j 3 (a0a.mk h.t (h.next+8)) (.oslice B 0 l.length 3) (some (.int .i64 ((i:Int)+1))) none none=some w∧b0z (TV q) [79] w=some (l.length-(i+1))∧c4r (TV q) 88 3 (l.length-(i+1)) (a0a.mk h.t (h.next+8)) [79] w=some ((l.drop (i+1)).flatMap Bk.cs):=by
  by_cases hl:i+1<l.length
  ·refine⟨_,d3x (lo:=i+1) (hi:=l.length) (h:=a0a.mk h.t (h.next+8)) hg hc (by decide) (by omega) (by omega) l.length (some _) none (.inr ⟨.i64,rfl⟩) (.inl ⟨rfl,rfl⟩) hl,rfl,?_⟩
   have hf:a3z 3 (l.length-(i+1)) (a0a.mk h.t (h.next+8)) (.oslice B ((i+1)*3) (l.length-(i+1)) 3)=some ((l.drop (i+1)).flatMap Bk.cs):=by
    have hg':(a0a.mk h.t (h.next+8)).get B=some (.cells 88 (l.flatMap Bk.cs) true):=hg
    simp only[a3z,a2j,hg',c4b,cut]
    rw[if_pos (by rw[hc]; omega),b8q Bk.len,List.take_of_length_le (by omega)]
   exact hf
  ·have hl':i+1=l.length:=by omega
   refine⟨.eslice,?_,?_,?_⟩
   ·have:=f1n (h:=a0a.mk h.t (h.next+8)) (n:=l.length) hg hc (by decide) (by omega) .i64
    rw[← hl'] at this ⊢
    exact this
   ·have e0:l.length-(i+1)=0:=by omega
    rw[e0]; rfl
   ·have e0:l.length-(i+1)=0:=by omega
    have e2:l.drop (i+1)=[]:=List.drop_of_length_le (by omega)
    rw[e0,e2]; rfl
 refine a4l rfl rfl rfl rfl (d2c rfl rfl rfl rfl rfl rfl ew) ?_
 have ea:=d3q (T:=TV q) (st:=79) (rest:=[79]) (h:=a0a.mk h.t (h.next+8)) (n:=i) (m:=l.length-(i+1)) (w:=w) rfl rfl rfl rfl (by decide) hg hfit cw nw e1 hone hr
 refine walk ?_
 have hin:i*3+((l.drop (i+1)).flatMap Bk.cs).length≤(l.flatMap Bk.cs).length:=by rw[e1,← Nat.add_mul]; exact hfit
 have hc2:(over (l.flatMap Bk.cs) (i*3) ((l.drop (i+1)).flatMap Bk.cs)).length=l.length*3:=by rw[a3v _ _ _ hin,hc]
 refine a1k rfl rfl rfl (d2c rfl rfl rfl rfl rfl rfl (d3x (lo:=i+(l.length-(i+1))) (hi:=l.length) (a0a.gs _ _ _) hc2 (by decide) (by omega) (by omega) _ (some _) (some _) (.inr ⟨_,rfl⟩) (.inr ⟨_,rfl⟩) (by omega))) ?_
 have e4:l.length-(i+(l.length-(i+1)))=1:=by omega
 have e5:i+(l.length-(i+1))=l.length-1:=by omega
 rw[e4,e5]
 refine c1d rfl rfl (e9a (d9w rfl rfl rfl rfl rfl (a0a.gs _ _ _) (Nat.le_trans (show(l.length-1)*3+3≤l.length*3 by omega) (Nat.le_of_eq hc2.symm))) rfl rfl rfl) ?_
 refine walk ?_
 have el:(l.eraseIdx i).length=l.length-1:=by rw[List.length_eraseIdx,if_pos hi]
 refine a0e (v:=.oslice B 0 (l.length-1) 3) rfl ⟨⟨el.symm,rfl,(by show B<h.next+8; omega),_,_,_,a0a.gs _ _ _,?_,?_⟩,?_⟩
 ·refine Nat.le_trans ?_ (Nat.le_of_eq (a3v _ _ _ (Nat.le_trans (show(l.length-1)*3+3≤l.length*3 by omega) (Nat.le_of_eq hc2.symm))).symm)
  refine Nat.le_trans ?_ (Nat.le_of_eq hc2.symm)
  rw[el]; omega
 ·rw[List.drop_zero,el]
  exact e1e Bk.len l i hi _
 ·exact(((a4g.refl B h).mr hk 8).st B _ (Nat.le_refl _) (by show B<h.next+8; omega)).st B _ (Nat.le_refl _) (by show B<h.next+8; omega)
def c0p (nm:List UInt8) (l:List Bk):List Bk:=if 0≤c7h nm l then l.eraseIdx (c7h nm l).toNat else l
theorem d5j {α:Type}(p:α→Bool):∀ (l:List α) (i:Nat),a6j p l i<i+l.length
 |[],i=>by simp[a6j]; omega
 |a::l,i=>by
  unfold a6j
  have:=d5j p l (i+1)
  split<;>simp only[List.length_cons]<;>omega
theorem f4g {q:Nat}{v:AV}{l:List Bk}{nm:List UInt8}{h:a0a}(ls:LsB h v l) (ht:l.length≤70000) (hk:h.ok):a0l (TV q) 170 [v,.str nm] h (fun v' h'=>LsB h' v' (c0p nm l)∧Ext h h'):=by
 refine a0r (a1x rfl rfl) rfl rfl ?_
 refine walk ?_
 refine a0b (d8v ls ht) rfl rfl rfl rfl ?_
 rintro _ h1 ⟨rfl,x1⟩
 have nx1:=x1.nx
 have ls1:=ls.ext x1
 have hlt:=d5j (fun b:Bk=>a1w b.name nm) l 0
 have hlt:c7h nm l<0+l.length:=hlt
 unfold e1i c0p
 by_cases c1:0≤c7h nm l
 ·rw[if_pos c1,if_pos c1]
  obtain⟨i,hi⟩:=Int.eq_ofNat_of_zero_le c1
  rw[hi] at hlt ⊢
  refine walk ?_
  refine a0b (e5q ls1 ht (by omega)) rfl rfl rfl rfl ?_
  rintro _ h2 ⟨rfl,g2,n2,x2⟩
  refine walk ?_
  refine a0b (e1m (i:=i) g2 (by omega) (x2.ok (x1.ok hk)) ht (by omega)) rfl rfl rfl rfl ?_
  rintro v3 h3 ⟨ls3,k3⟩
  refine walk ?_
  exact a0e hres ⟨ls3,(x1.trans x2).kp k3 (by omega)⟩
 ·rw[if_neg c1,if_neg c1]
  split
  all_goals
   refine walk ?_
   refine a0b (e0d ls1 ht) rfl rfl rfl rfl ?_
   rintro v2 h2 ⟨o2,x2⟩
   refine walk ?_
   exact a0e (v:=v2) rfl ⟨o2.ls,x1.trans x2⟩
def lost:List UInt8:=[108,111,115,116,43,102,111,117,110,100]
def okC (l:List Bk):Prop:=∀ i b,l[i]?=some b→c4m b∧(0<i→∀ a,l[i-1]?=some a→bytesLess a.name b.name=true)
def b1w (z:Int) (l:List Bk):Prop:=okC l∧Good z∧(a4o (c0p lost l):Int)≤room z-19
noncomputable instance (z:Int) (l:List Bk):Decidable (b1w z l):=Classical.propDecidable _
theorem e2v {l:List Bk}(t:b5m l) (nm:List UInt8):b5m (c0p nm l):=by
 unfold c0p
 split
 ·exact⟨Nat.le_trans (List.length_eraseIdx_le _ _) t.1,fun b hb=>t.2 b (List.mem_of_mem_eraseIdx hb)⟩
 ·exact t
theorem e1t {n:Nat}(hn:4<n){z:Int}{v:AV}{l:List Bk}{h:a0a}(ls:LsB h v l) (hk:h.ok) (t:b5m l):(TV n).sm 141 [.int .i64 z,v] h=some (.bool (decide (b1w z l)),h):=by
 refine a9d hn (fun h=>h.ok∧LsB h v l) rfl rfl ⟨hk,ls⟩ (fun hp=>⟨a2f,ls.any (by simpa [AV.a1q,AV.plain] using hp)⟩) ?_
 clear hk ls h
 rintro n hn h ⟨hk,ls⟩
 refine a0s rfl rfl ?_
 have hlen:=ls.len
 have t1:=t.1
 refine walk ?_
 refine a0n (fun i=>l.length-i) (fun i=>[(0,.int .i64 z),(1,v),(7,v),(9,.int .i64 (i:Nat)),(8,.int .i64 l.length)]) (fun i h2=>i≤l.length∧Ext h h2∧∀ j,j<i→∀ b,l[j]?=some b→c4m b∧(0<j→∀ a,l[j-1]?=some a→bytesLess a.name b.name=true)) 0 hsub ⟨by omega,.refl h,fun j hj=>by omega⟩ ?_
 rintro i h2 ⟨hi,x2,inv⟩ next
 by_cases hil:i<l.length
 ·obtain⟨y,hy⟩:∃ y,l[i]?=some y:=⟨l[i],List.getElem?_eq_getElem hil⟩
  obtain⟨b,p,e,all,rw',hb,hg,hpl,he,a1⟩:=(ls.ext x2).at Bk.len hy
  have w1:=e3n (n:=n) (by omega) y
  have ok2:=x2.ok hk
  have nx:=x2.nx
  by_cases c1:c4m y
  case neg =>
   have bad:¬ b1w z l:=fun m=>c1 (m.1 i y hy).1
   refine walk ?_
   refine a0c (q:=18) (ms:=[0,1,3,7,15,31,63,127,127,383,1023,2047,4095,127,8319,32767,65535,131071]) (hl:=[[],[],[],[],[],[],[],[22,23,27,28],[21,27,28],[21,27,28],[27,28],[27,28],[27,28],[21,22,23,24,25,26],[21,22,23,24,25,26],[],[],[]]) hok rfl (by kernel_rfl) (by kernel_rfl) rfl ?_
   refine walk ?_
   exact a0e hres ⟨a3w bad,a0j⟩
  rcases Nat.eq_zero_or_pos i with rfl|hi0
  ·refine walk ?_
   refine a0c (q:=18) (ms:=[0,1,3,7,15,31,63,127,127,383,1023,2047,4095,127,8319,32767,65535,131071]) (hl:=[[],[],[],[],[],[],[],[22,23,27,28],[21,27,28],[21,27,28],[27,28],[27,28],[27,28],[21,22,23,24,25,26],[21,22,23,24,25,26],[],[],[]]) hok rfl (by kernel_rfl) (by kernel_rfl) rfl ?_
   refine walk ?_
   refine next 1 (by omega) hsub ⟨by omega,a0j,fun j hj b hb=>?_⟩
   obtain rfl:j=0:=by omega
   rw[hy] at hb; cases hb
   exact⟨c1,fun h0=>by omega⟩
  obtain⟨j,rfl⟩:∃ j,i=j+1:=⟨i-1,by omega⟩
  obtain⟨a,ha⟩:∃ a,l[j]?=some a:=⟨l[j],List.getElem?_eq_getElem (by omega)⟩
  obtain⟨b',p',e',all',rw2,hb',hg',hpl',he',a2⟩:=(ls.ext x2).at Bk.len ha
  cases c2:bytesLess a.name y.name with
  |false =>
   have c3:(!bytesLess a.name y.name)=true:=by rw[c2]; rfl
   have bad:¬ b1w z l:=fun m=>by
    have:=(m.1 (j+1) y hy).2 (by omega) a ha
    rw[c2] at this; cases this
   refine walk ?_
   refine a0c (q:=18) (ms:=[0,1,3,7,15,31,63,127,127,383,1023,2047,4095,127,8319,32767,65535,131071]) (hl:=[[],[],[],[],[],[],[],[22,23,27,28],[21,27,28],[21,27,28],[27,28],[27,28],[27,28],[21,22,23,24,25,26],[21,22,23,24,25,26],[],[],[]]) hok rfl (by kernel_rfl) (by kernel_rfl) rfl ?_
   refine walk ?_
   exact a0e hres ⟨a3w bad,a0j⟩
  |true =>
   have c3:(!bytesLess a.name y.name)=false:=by rw[c2]; rfl
   refine walk ?_
   refine a0c (q:=18) (ms:=[0,1,3,7,15,31,63,127,127,383,1023,2047,4095,127,8319,32767,65535,131071]) (hl:=[[],[],[],[],[],[],[],[22,23,27,28],[21,27,28],[21,27,28],[27,28],[27,28],[27,28],[21,22,23,24,25,26],[21,22,23,24,25,26],[],[],[]]) hok rfl (by kernel_rfl) (by kernel_rfl) rfl ?_
   refine walk ?_
   refine next (j+1+1) (by omega) hsub ⟨by omega,a0j,fun k hk' b hb=>?_⟩
   rcases Nat.lt_or_ge k (j+1) with q|q
   ·exact inv k q b hb
   ·obtain rfl:k=j+1:=by omega
    rw[hy] at hb; cases hb
    refine⟨c1,fun _ a' ha'=>?_⟩
    have ha':l[j]?=some a':=ha'
    rw[ha] at ha'; cases ha'
    exact c2
 ·have fin:okC l:=fun j b hb=>inv j (by
   rcases Nat.lt_or_ge j l.length with q|q
   ·omega
   ·rw[List.getElem?_eq_none q] at hb; cases hb) b hb
  have w1:=b2h (n:=n) (by omega) z
  have w2:=b6k (n:=n) (by omega) z
  have ok2:=x2.ok hk
  refine walk ?_
  by_cases g:Good z
  case neg =>
   have bad:¬ b1w z l:=fun m=>g m.2.1
   refine walk ?_
   exact a0e hres ⟨a3w bad,a0j⟩
  refine walk ?_
  refine a0b (f4g (nm:=lost) (ls.ext x2) t1 ok2) rfl rfl rfl rfl ?_
  rintro v3 h3 ⟨ls3,x3⟩
  have t3:=e2v t lost
  have bd:=c2a (c0p lost l) t3.2
  have w3:=d7y (n:=n) (by omega) ls3 (x3.ok ok2) t3
  have hr : -24≤room z∧room z≤4096:=by unfold room; have:=g.1; have:=g.2.1; split<;>omega
  have:=t3.1
  refine walk ?_
  refine a3e w3 rfl rfl rfl rfl ?_
  have e:b1w z l↔(a4o (c0p lost l):Int)≤room z-19:=⟨fun m=>m.2.2,fun m=>⟨fin,g,m⟩⟩
  refine walk ?_
  exact a0e hres ⟨d1n e.symm,a0j⟩
def b8i (z:Int) (s:List UInt8):List UInt8:=if Good z∧(s.length:Int)≤z-24 then s++List.replicate (z.toNat-24-s.length) 0 else[]
def f0c (z:Int) (s:List UInt8):Int:=if Good z then if(s.length:Int)≤z-24 then 0 else 3 else 2
theorem a4j (z:Int) (s:List UInt8):b9v z s=.tuple [.str (b8i z s),.int .i64 (f0c z s)]:=by
 unfold b9v b8i f0c
 by_cases g:Good z<;>by_cases c:(s.length:Int)≤z-24<;>simp[g,c]
def c9w (b:Bk):List UInt8:=leb b.name.length 1++b.name++leb b.root 4++leb b.keys.toNat 4
def b6c (l:List Bk):List UInt8:=l.flatMap c9w
theorem e4h (b:Bk):(c9w b).length=9+b.name.length:=by simp[c9w,a1c]; omega
theorem d8d (l:List Bk):(b6c l).length=a4o l:=by
 induction l with
 |nil=>rfl
 |cons a l ih=>unfold b6c at ih ⊢; rw[List.flatMap_cons,List.length_append,ih,e4h]; simp[a4o]
theorem c3z (l:List Bk) (i:Nat) (b:Bk) (h:l[i]?=some b):b6c (l.take (i+1))=b6c (l.take i)++c9w b:=by
 rw[List.take_add_one,h]
 simp[b6c]
theorem e0y (l:List Bk):9*l.length≤a4o l:=by
 induction l with
 |nil=>simp[a4o]
 |cons a l ih=>simp only[a4o,List.map_cons,List.sum_cons,List.length_cons] at ih ⊢; omega
theorem c9p {z:Int}{l:List Bk}(m:b1w z l):l.length≤500:=by
 have h1:=m.2.2
 have h2:=e0y (c0p lost l)
 have h3:l.length≤(c0p lost l).length+1:=by
  unfold c0p
  split
  ·rw[List.length_eraseIdx]; split<;>omega
  ·omega
 have h4:room z≤4096:=by unfold room; have:=m.2.1.1; have:=m.2.1.2.1; split<;>omega
 omega
theorem e0i (l:List Bk) (hb:∀ b∈l,b.name.length≤16):a4o l≤l.length*25:=by
 induction l with
 |nil=>simp[a4o]
 |cons a l ih =>
  have h1:=hb a (List.mem_cons_self ..)
  have h2:=ih fun b h=>hb b (List.mem_cons_of_mem _ h)
  simp only[a4o,List.map_cons,List.sum_cons,List.length_cons] at h2 ⊢
  omega
theorem c6i {z:Int}{l:List Bk}(m:b1w z l) (i:Nat):(b6c (l.take i)).length≤12500:=by
 have h0:=c9p m
 have h1:=e0i (l.take i) fun b hb=>by
  obtain⟨j,hj⟩:=List.getElem?_of_mem (List.mem_of_mem_take hb)
  exact(m.1 j b hj).1.1.2
 rw[d8d]
 rw[List.length_take] at h1
 omega
noncomputable def a8z (z:Int) (p tx:Nat) (l:List Bk):Pg×Int:=if b1w z l∧num p∧tx≤4611686018427387904 then(⟨2,l.length,p,0,tx,b8i z (b6c l)⟩,0) else(Pg.zero,2)
theorem d7k {n:Nat}(hn:5<n){z:Int}{p tx:Nat}{v:AV}{l:List Bk}{h:a0a}(ls:LsB h v l) (hk:h.ok) (t:b5m l):(TV n).sm 111 [.int .i64 z,.int .u32 p,.int .u64 tx,v] h=some (.tuple [(a8z z p tx l).1.av,.int .i64 (a8z z p tx l).2],h):=by
 refine a9d hn (fun h=>h.ok∧LsB h v l) rfl rfl ⟨hk,ls⟩ (fun hp=>⟨a2f,ls.any (by simpa [AV.a1q,AV.plain] using hp)⟩) ?_
 clear hk ls h
 rintro n hn h ⟨hk,ls⟩
 refine a0s rfl rfl ?_
 have hlen:=ls.len
 have t1:=t.1
 have w2:=d1h (n:=n) (by omega) p
 have x0:Ext h (h.alloc (.cells 64 Pg.zero.cs true)):=Ext.alloc _ _
 have w3:=e1t (n:=n) (by omega) (z:=z) (ls.ext x0) (x0.ok hk) t
 unfold a8z
 refine walk ?_
 refine a3e w3 rfl rfl rfl rfl ?_
 by_cases c:b1w z l∧num p∧tx≤4611686018427387904
 case neg =>
  rw[if_neg c]
  by_cases c1:b1w z l
  ·by_cases c2:num p
   ·have c3:¬ tx≤4611686018427387904:=fun c3=>c ⟨c1,c2,c3⟩
    exact auto
   ·exact auto
  ·exact auto
 rw[if_pos c]
 obtain⟨c1,c2,c3⟩:=c
 refine walk ?_
 refine a0n (ι:=Nat×AV) (fun a=>l.length-a.1) (fun a=>[(0,.int .i64 z),(1,.int .u32 p),(2,.int .u64 tx),(3,v),(8,.ptr h.next 0),(10,a.2),(29,v),(30,.int .i64 l.length),(31,.int .i64 (a.1:Nat))]) (fun a h2=>a.1≤l.length∧Ext (h.alloc (.cells 64 Pg.zero.cs true)) h2∧a2t 5 (h.next+1) h2 a.2 (b6c (l.take a.1))) (0,.nilslice) hsub ⟨by omega,.refl _,a2t.nil⟩ ?_
 rintro⟨i,u⟩ h2 ⟨hi,x2,ow⟩ next
 dsimp only at hi ow next ⊢
 have nx2:h.next+1≤h2.next:=x2.nx
 have g8:h2.get h.next=some (.cells 64 Pg.zero.cs true):=(x2.old _ (by show h.next<h.next+1; omega)).trans (a0t _ _)
 have ok2:=x2.ok (x0.ok hk)
 have hsz:=c6i c1 i
 by_cases hil:i<l.length
 ·obtain⟨y,hy⟩:∃ y,l[i]?=some y:=⟨l[i],List.getElem?_eq_getElem hil⟩
  obtain⟨b,p',e,all,rw',hb,hg,hpl,he,a1⟩:=((ls.ext x0).ext x2).at Bk.len hy
  have ky:=(c1.1 i y hy).1
  have ky1:=ky.1.2
  obtain⟨k,hk'⟩:∃ k:Nat,y.keys=k:=Int.eq_ofNat_of_zero_le (by rcases ky.2 with q|q<;>omega)
  have kb:k≤2147483647:=by rcases ky.2 with q|q<;>omega
  have rb:y.root≤2147483647:=by
   rcases ky.2 with q|q
   ·omega
   ·exact q.1.2
  have ycs:y.cs=[.str y.name,.int .u32 y.root,.int .i64 (k:Nat)]:=by unfold Bk.cs; rw[hk']
  rw[ycs] at he
  refine walk ?_
  refine a0c (q:=10) (ms:=[0,0,2,6,14,31,0,64,255,511]) (hl:=[[36,37,38,39,41,42],[35,41,42],[35,41,42],[35,41,42],[35,41,42],[41,42],[35,36,37,38,39,40],[35,36,37,38,39,40],[],[]]) hok rfl (by kernel_rfl) (by kernel_rfl) rfl ?_
  refine walk ?_
  refine a2i (a2m (ow.by.ext (by exact a0j)) (by omega) (by decide) (by decide) (by omega) ow.by.ns) rfl rfl rfl rfl rfl rfl ?_
  rintro v1 g1 ⟨o1,x1⟩
  have nx1:h2.next+1+10≤g1.next:=x1.nx
  obtain⟨v2,g2,e2,o2,k2⟩:=ast (q:=n) (lo:=h2.next+1+10) (r:=y.name) o1 (by simp[a1c]; omega)
  have nx2':=k2.nx
  refine walk ?_
  refine GJ.gen [(0,.int .i64 z),(1,.int .u32 p),(2,.int .u64 tx),(3,v),(8,.ptr h.next 0),(10,v2),(12,.ptr h2.next 0),(29,v),(30,.int .i64 l.length),(31,.int .i64 (i:Nat))] (fun g=>Ext (h.alloc (.cells 64 Pg.zero.cs true)) g∧g.get h2.next=some (.cells 88 [.str y.name,.int .u32 y.root,.int .i64 (k:Nat)] true)∧a2t 5 (h.next+1) g v2 (b6c (l.take i)++leb y.name.length 1++y.name)∧h2.next<g.next∧g.ok) hsub ⟨by exact a0j,by exact a0g,Own.lo o2 (by omega),by omega,k2.ok (x1.ok (by exact hok))⟩ ?_
  rintro g3 ⟨x3,q12,o3,n3,ok3⟩
  refine a0c (q:=10) (ms:=[0,0,2,6,15,0,32,96,255,511]) (hl:=[[45,46,47,49,50,51],[44,49,50,51],[44,49,50,51],[44,49,50,51],[49,50,51],[44,45,46,47,48],[44,45,46,47,48],[44,45,46,47,48],[],[]]) hok rfl (by kernel_rfl) (by kernel_rfl) rfl ?_
  refine walk ?_
  refine a2i (a2m (o3.by.ext (by exact a0j)) (by omega) (by decide) (by decide) (by simp[a1c]; omega) o3.by.ns) rfl rfl rfl rfl rfl rfl ?_
  rintro v4 g4 ⟨o4,x4⟩
  refine walk ?_
  refine a2i (a2m o4.by (by omega) (by decide) (by decide) (by simp[a1c]; omega) o4.by.ns) rfl rfl rfl rfl rfl rfl ?_
  rintro v5 g5 ⟨o5,x5⟩
  have nx4:g3.next+10≤g4.next:=x4.nx
  have nx5:=x5.nx
  refine walk ?_
  refine next (i+1,v5) (by simp only; omega) hsub ⟨by simp only; omega,by exact a0j,?_⟩
  simp only
  rw[c3z l i y hy]
  have:c9w y=leb y.name.length 1++y.name++leb y.root 4++leb k 4:=by unfold c9w; rw[hk']; simp
  rw[this]
  have o6:=a2t.lo o5 (show h.next+1≤g4.next by omega)
  simpa using o6
 ·have e1:l.take i=l:=List.take_of_length_le (by omega)
  rw[e1] at ow
  have w4:=b6p (n:=n) (by omega) (z:=z) ow.by ok2 ow.by.ns
  rw[a4j] at w4
  refine walk ?_
  refine a3e w4 rfl rfl rfl rfl ?_
  refine walk ?_
  exact a0d (by exact hres) ⟨rfl,by exact a0j⟩
theorem a5j {q:Nat}(p r:Pg):eqv (TV q) 100 64 (.agg p.cs) (.agg r.cs)=some (decide (p=r)):=by
 refine(d5t rfl rfl (a7g rfl rfl rfl (b2x rfl) (a7g rfl rfl rfl (b2x rfl) (a7g rfl rfl rfl (b2x rfl) (a7g rfl rfl rfl (b2x rfl) (a7g rfl rfl rfl (b2x rfl) (a7g rfl rfl rfl (e6p rfl) d5p))))))).trans ?_
 congr 1
 rw[decide_eq_decide]
 cases p; cases r
 simp only[Pg.mk.injEq]
 constructor
 ·rintro⟨a,b,c,d,e,f,_⟩
  exact⟨a,b,by omega,by omega,by omega,f⟩
 ·rintro⟨a,b,c,d,e,f⟩
  exact⟨a,b,by omega,by omega,by omega,f,trivial⟩
def b1f (s:List UInt8):Option (Bk×List UInt8) :=
 if 4≤(a0h 4 (a0h (a0o 1 s) (a0h 1 s))).length then some (⟨a3p (a0o 1 s) (a0h 1 s),a0o 4 (a0h (a0o 1 s) (a0h 1 s)),a0o 4 (a0h 4 (a0h (a0o 1 s) (a0h 1 s)))⟩,a0h 4 (a0h 4 (a0h (a0o 1 s) (a0h 1 s)))) else none
def a5o:Nat→List UInt8→Option (List Bk)
 |0,_=>some []
 |k+1,s=>match b1f s with
  |none=>none
  |some (b,s')=>(a5o k s').map (b :: ·)
noncomputable def ofC (p:Pg):Option (List Bk):=match a5o p.count.toNat p.body with
 |none=>none
 |some l=>if a8z (p.body.length+24) p.page p.tx l=(p,0) then some l else none
theorem d5h {n:Nat}(hn:6<n){p:Pg}{h:a0a}(hk:h.ok) (hl:p.body.length≤100000) (hc:p.count<1000000000):a0l (TV n) 83 [p.av] h (fun v h'=>Ext h h'∧match ofC p with
  |none=>v=.tuple [.nilslice,.int .i64 4]
  |some l=>∃ u,v=.tuple [u,.int .i64 0]∧c1o h.next h' u l):=by
 refine a0r (a1x rfl rfl) rfl rfl ?_
 refine walk ?_
 refine a0b (a9j p.body _) rfl rfl rfl rfl ?_
 rintro _ _ ⟨rfl,rfl⟩
 refine walk ?_
 refine a0n (ι:=Nat×AV×List Bk×List UInt8) (fun a=>p.count.toNat-a.1) (fun a=>[(1,.ptr h.next 0),(4,.ptr (h.next+1) 0),(5,a.2.1),(20,.int .i64 p.count),(21,.int .i64 (a.1:Nat))]) (fun a h2=>Ext h h2∧h.next+2≤h2.next∧h2.get h.next=some (.cells 64 p.cs true)∧h2.get (h.next+1)=some (.cells 201 [.str a.2.2.2] true)∧c1o (h.next+2) h2 a.2.1 a.2.2.1∧a.1=a.2.2.1.length∧4*a.1+a.2.2.2.length≤p.body.length∧(0<a.1→(a.1:Int)≤p.count)∧(∀ b∈a.2.2.1,b.name.length≤1000000)∧a5o p.count.toNat p.body=(a5o (p.count.toNat-a.1) a.2.2.2).map (a.2.2.1 ++ ·)) (0,.nilslice,[],p.body) hsub ⟨by exact a0j,by show h.next+2≤h.next+1+1; omega,by exact a0g,by exact a0g,a9g.nil,rfl,by simp,by simp,by simp,by simp⟩ ?_
 rintro⟨i,u,acc,s⟩ h2 ⟨x2,n2,g0,g1,ow,ei,len,cnt,nms,par⟩ next
 dsimp only at g1 ow ei len nms par next cnt ⊢
 subst ei
 by_cases hi:(acc.length:Int)<p.count
 ·have v1:=a1s 1 s
  have l1:=a1b 1 s
  have l2:=a1b (a0o 1 s) (a0h 1 s)
  have l3:=a1b 4 (a0h (a0o 1 s) (a0h 1 s))
  have v2:=a1s 4 (a0h (a0o 1 s) (a0h 1 s))
  have v3:=a1s 4 (a0h 4 (a0h (a0o 1 s) (a0h 1 s)))
  refine walk ?_
  refine a0b (a8p (n:=1) g1 (by omega) (by omega) (by decide) (by decide)) rfl rfl rfl rfl ?_
  rintro _ h3 ⟨rfl,u3⟩
  have n3:=u3.nx
  refine walk ?_
  refine a0b (d0z (n:=a0o 1 s) u3.got (by omega) (by omega) (by omega)) rfl rfl rfl rfl ?_
  rintro _ h4 ⟨rfl,u4⟩
  have n4:=u4.nx
  refine walk ?_
  refine a0b (a8p (n:=4) u4.got (by omega) (by omega) (by decide) (by decide)) rfl rfl rfl rfl ?_
  rintro _ h5 ⟨rfl,u5⟩
  have n5:=u5.nx
  refine walk ?_
  refine a0b (a8p (n:=4) u5.got (by omega) (by omega) (by decide) (by decide)) rfl rfl rfl rfl ?_
  rintro _ h6 ⟨rfl,u6⟩
  have n6:=u6.nx
  have oku:h6.ok:=u6.ok (u5.ok (u4.ok (u3.ok (x2.ok hk))))
  have k6:a4g (h.next+1) h2 h6:=⟨by omega,fun c hc=>by rw[u6.old c (by omega),u5.old c (by omega),u4.old c (by omega),u3.old c (by omega)],fun _=>oku⟩
  have x6:Ext h h6:=x2.kp k6 (by omega)
  have o6:c1o (h.next+2) h6 u acc:=Own.keep ow (fun c h1 h2'=>by rw[u6.old c (by omega),u5.old c (by omega),u4.old c (by omega),u3.old c (by omega)]) (by omega)
  have par':p.count.toNat-acc.length=(p.count.toNat-(acc.length+1))+1:=by omega
  rw[par'] at par
  by_cases c:4≤(a0h 4 (a0h (a0o 1 s) (a0h 1 s))).length
  case neg =>
   have e:b1f s=none:=by unfold b1f; rw[if_neg c]
   have e2:b3n 4 (a0h 4 (a0h (a0o 1 s) (a0h 1 s)))=7:=by unfold b3n; rw[if_neg c]
   have e3:a5o p.count.toNat p.body=none:=by rw[par]; show Option.map _ (match b1f s with|none=>none|some (b,s')=>_)=_; rw[e]; rfl
   have e4:ofC p=none:=by unfold ofC; rw[e3]
   rw[e2,e4]
   refine walk ?_
   exact a0d (by exact hres) ⟨x6,rfl⟩
  have e2:b3n 4 (a0h 4 (a0h (a0o 1 s) (a0h 1 s)))=0:=by unfold b3n; rw[if_pos c]
  have l4:=a2q c
  rw[e2]
  obtain⟨b,hb⟩:∃ b:Bk,b=⟨a3p (a0o 1 s) (a0h 1 s),a0o 4 (a0h (a0o 1 s) (a0h 1 s)),a0o 4 (a0h 4 (a0h (a0o 1 s) (a0h 1 s)))⟩:=⟨_,rfl⟩
  obtain⟨s',hs'⟩:∃ s',s'=a0h 4 (a0h 4 (a0h (a0o 1 s) (a0h 1 s))):=⟨_,rfl⟩
  have e:b1f s=some (b,s'):=by unfold b1f; rw[if_pos c,hb,hs']
  have par2:a5o p.count.toNat p.body=(a5o (p.count.toNat-(acc.length+1)) s').map ((acc++[b]) ++ ·):=by
   rw[par]
   show Option.map _ (match b1f s with|none=>none|some (b,s')=>_)=_
   rw[e]
   simp only[Option.map_map]
   congr 1
   funext x
   simp
  have nb:b.name.length≤1000000:=by rw[hb]; exact Nat.le_trans (a8i _ _) (by omega)
  rw[← hs'] at l4 u6
  obtain⟨v7,h7,e7,o7,k7⟩:=a8g (T:=TV n) (st:=79) (rest:=[79]) (h:=h6.alloc (.cells 88 b.cs true)) (x:=b) (o6.ext (Ext.alloc _ _)) (a0t _ _) (by show h6.next<h6.next+1; omega) (by show h.next+2≤h6.next+1; omega) (by omega) rfl rfl rfl rfl rfl (by exact Nat.le_of_ble_eq_true rfl) rfl (by decide) rfl
  have n7:=k7.nx
  have n7:h6.next+1≤h7.next:=k7.nx
  have cb:b.cs=[.str (a3p (a0o 1 s) (a0h 1 s)),.int .u32 (a0o 4 (a0h (a0o 1 s) (a0h 1 s))),.int .i64 (a0o 4 (a0h 4 (a0h (a0o 1 s) (a0h 1 s))))]:=by rw[hb]; rfl
  rw[cb] at e7
  refine walk ?_
  refine next (acc.length+1,v7,acc++[b],s') (by simp only; omega) (by exact hsub) ⟨by exact a0j,by omega,by exact a0g,by exact a0g,o7,by simp,?_,?_,?_,par2⟩
  ·simp only; omega
  ·simp only; omega
  ·simp only
   intro b' hb'
   rcases List.mem_append.1 hb' with q|q
   ·exact nms b' q
   ·obtain rfl:=List.mem_singleton.1 q
    exact nb
 ·have e0:p.count.toNat-acc.length=0:=by
   rcases Nat.eq_zero_or_pos acc.length with q|q
   ·omega
   ·have:=cnt q; omega
  have e1:a5o p.count.toNat p.body=some acc:=by rw[par,e0]; simp[a5o]
  have tm:b5m acc:=⟨by omega,nms⟩
  have w1:=d7k (n:=n) (by omega) (z:=(p.body.length:Int)+24) (p:=p.page) (tx:=p.tx) (h:=h2) ow.ls (x2.ok hk) tm
  refine walk ?_
  refine a3e w1 rfl rfl rfl rfl ?_
  have key:ofC p=if a8z ((p.body.length:Int)+24) p.page p.tx acc=(p,0) then some acc else none:=by unfold ofC; rw[e1]
  generalize a8z ((p.body.length:Int)+24) p.page p.tx acc=r at key ⊢
  obtain⟨r1,r2⟩:=r
  by_cases c1:r2=0
  case neg =>
   rw[key,if_neg fun e=>c1 (congrArg Prod.snd e)]
   refine walk ?_
   exact a0d (by exact hres) ⟨by exact a0j,rfl⟩
  subst c1
  refine walk ?_
  refine a1k rfl rfl rfl (a3n rfl rfl rfl (a8s (a5j r1 p) rfl) rfl) ?_
  by_cases c2:r1=p
  ·rw[key,if_pos (by rw[c2])]
   refine walk ?_
   exact a0d (by exact hres) ⟨by exact a0j,u,rfl,Own.lo (Own.ext ow (by exact a0j)) (by omega)⟩
  ·rw[key,if_neg fun e=>c2 (congrArg Prod.fst e)]
   refine walk ?_
   exact a0d (by exact hres) ⟨by exact a0j,rfl⟩
end Go.Proofs.YtejfbaecadbdiaaGreat
