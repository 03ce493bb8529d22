/- What the functions of this part answer at any input, told by the rules over the evaluator. Conditions: those that each theorem states. -/
import Derived.Test.YtmnhbehmjaibgaaGreatBra
set_option linter.unusedVariables false
set_option linter.unusedSimpArgs false
open Go Ev
namespace Go.Proofs.YtmnhbehmjaibgaaGreat
set_option maxRecDepth 10000
set_option maxHeartbeats 4000000
theorem c9h {n:Nat}(hn:0<n) (p:Nat) (h:a0a):(TV n).sm 154 [.int .u32 p] h=some (.bool (decide (num p)),h):=by
 refine a3y hn rfl rfl rfl fun n hn=>a0u rfl rfl ?_
 unfold num
 exact auto
def okO (z:Int) (p nx tx:Nat) (s:List UInt8):Prop:=room z≠0∧s≠[]∧(s.length:Int)≤room z∧num p∧tx≤4611686018427387904∧(nx=0∨num nx∧¬ (s.length:Int)<room z)
instance (z:Int) (p nx tx:Nat) (s:List UInt8):Decidable (okO z p nx tx s):=inferInstanceAs (Decidable (_∧_))
def b3q (z:Int) (p nx tx:Nat) (s:List UInt8):Pg×Int:=if okO z p nx tx s then(⟨5,s.length,p,nx,tx,c3r z s⟩,0) else(Pg.zero,2)
theorem d8c {n:Nat}(hn:4<n){z:Int}{p nx tx:Nat}{s:List UInt8}(hl:s.length≤1000000) (h:a0a):(TV n).sm 113 [.int .i64 z,.int .u32 p,.int .u32 nx,.int .u64 tx,.str s] h=some (.tuple [(b3q z p nx tx s).1.av,.int .i64 (b3q z p nx tx s).2],h):=by
 refine a3y hn rfl rfl rfl fun n hn=>a0u rfl rfl ?_
 have w1:=b6o (n:=n) (by omega) z
 have w2:=c9h (n:=n) (by omega) p
 have w3:=c9h (n:=n) (by omega) nx
 unfold b3q
 by_cases c:okO z p nx tx s
 case neg =>
  rw[if_neg c]
  by_cases c1:room z=0
  ·exact auto
  by_cases c2:s=[]
  ·exact auto
  by_cases c3:(s.length:Int)≤room z
  case neg=>exact auto
  by_cases c4:num p
  case neg=>exact auto
  by_cases c5:tx≤4611686018427387904
  case neg=>exact auto
  have c6:¬ nx=0:=fun e=>c ⟨c1,c2,c3,c4,c5,.inl e⟩
  by_cases c7:num nx
  case neg=>exact auto
  have c8:(s.length:Int)<room z:=Decidable.byContradiction fun e=>c ⟨c1,c2,c3,c4,c5,.inr ⟨c7,e⟩⟩
  exact auto
 rw[if_pos c]
 obtain⟨c1,c2,c3,c4,c5,c6⟩:=c
 have fin:∀ {k:List K} {L:List (Nat×AV)} {Q:Res→Prop},True:=trivial
 by_cases c7:nx=0
 ·refine walk ?_
  refine a1r rfl rfl rfl (c1g (d:=.string) (by omega) rfl rfl rfl rfl rfl) ?_
  refine walk ?_
  refine a2y (b9d (n:=n) (by omega) (z:=z) (b8k _ _ s) (by exact hok) rfl) rfl rfl rfl rfl ?_
  rw[a5c]
  refine walk ?_
  exact a0e (by exact hres) rfl
 ·obtain⟨c8,c9⟩:num nx∧¬ (s.length:Int)<room z:=c6.resolve_left c7
  refine walk ?_
  refine a1r rfl rfl rfl (c1g (d:=.string) (by omega) rfl rfl rfl rfl rfl) ?_
  refine walk ?_
  refine a2y (b9d (n:=n) (by omega) (z:=z) (b8k _ _ s) (by exact hok) rfl) rfl rfl rfl rfl ?_
  rw[a5c]
  refine walk ?_
  exact a0e (by exact hres) rfl
def a7d (p:Pg):Prop:=0≤p.count∧p.count≤p.body.length∧b3q (p.body.length+24) p.page p.link p.tx (p.body.take p.count.toNat)=(p,0)
instance (p:Pg):Decidable (a7d p):=inferInstanceAs (Decidable (_∧_))
def ofO (p:Pg):AV:=if a7d p then .tuple [.str (p.body.take p.count.toNat),.int .u32 p.link,.int .i64 0] else .tuple [.str [],.int .u32 0,.int .i64 4]
theorem d6r {n:Nat}(hn:5<n){p:Pg}(hl:p.body.length≤1000000) (h:a0a):(TV n).sm 71 [p.av] h=some (ofO p,h):=by
 refine a3y hn rfl rfl (by unfold ofO; split<;>rfl) fun n hn=>a0u rfl rfl ?_
 unfold ofO
 by_cases c1:0≤p.count
 case neg=>rw[if_neg fun c=>c1 c.1]; exact auto
 by_cases c2:p.count≤p.body.length
 case neg=>rw[if_neg fun c=>c2 c.2.1]; exact auto
 obtain⟨m,hm⟩:=Int.eq_ofNat_of_zero_le c1
 have em:p.count.toNat=m:=by omega
 have w1:=d8c (n:=n) (by omega) (z:=(p.body.length:Int)+24) (p:=p.page) (nx:=p.link) (tx:=p.tx) (s:=p.body.take p.count.toNat) (by rw[List.length_take]; omega)
 have key:a7d p↔b3q ((p.body.length:Int)+24) p.page p.link p.tx (p.body.take p.count.toNat)=(p,0):=⟨fun c=>c.2.2,fun c=>⟨c1,c2,c⟩⟩
 generalize b3q ((p.body.length:Int)+24) p.page p.link p.tx (p.body.take p.count.toNat)=r at key w1
 obtain⟨r1,r2⟩:=r
 refine walk ?_
 by_cases c3:r2=0
 case neg =>
  rw[if_neg fun q=>c3 (congrArg Prod.snd (key.1 q))]
  refine walk ?_
  exact a0e (by exact hres) rfl
 subst c3
 refine walk ?_
 refine a1r rfl rfl rfl (a3k rfl rfl rfl (a8u (a5o r1 p) rfl) rfl) ?_
 by_cases c4:r1=p
 ·rw[if_pos (key.2 (by rw[c4]))]
  refine walk ?_
  refine a0b (q:=6) (ms:=[0,0,2,1,15,31]) (hl:=[[47,48],[46,2],[46,2],[47,48],[],[]]) hok rfl (by kernel_rfl) (by kernel_rfl) rfl ?_
  refine walk ?_
  exact a0e (by exact hres) rfl
 ·rw[if_neg fun q=>c4 (congrArg Prod.fst (key.1 q))]
  refine walk ?_
  exact a0e (by exact hres) rfl
set_option maxRecDepth 10000
set_option maxHeartbeats 4000000
def a2k (n:Nat):List AV:=[.int .u32 n]
theorem a2d (n:Nat):(a2k n).length=1:=rfl
abbrev LsN (h:a0a) (v:AV) (l:List Nat):Prop:=Ls a2k 1 h v l
abbrev c5b (lo:Nat) (h:a0a) (v:AV) (l:List Nat):Prop:=a9f a2k 22 1 lo h v l
theorem e0w {n:Nat}(hn:0<n) (p:Nat) (h:a0a):(TV n).sm 156 [.int .u32 p] h=some (.bool (decide (num p)),h):=by
 refine a3y hn rfl rfl rfl fun n hn=>a0u rfl rfl ?_
 unfold num
 exact auto
theorem b3n {n:Nat}(hn:1<n) (p:Nat) (h:a0a):(TV n).sm 155 [.int .u32 p] h=some (.bool (decide (¬ num p)),h):=by
 refine a3y hn rfl rfl rfl fun n hn=>a0u rfl rfl ?_
 have w1:=e0w (n:=n) (by omega) p
 exact auto
def most (z:Int):Int:=room z / 4
theorem d9i {n:Nat}(hn:2<n) (z:Int) (h:a0a):(TV n).sm 157 [.int .i64 z] h=some (.int .i64 (most z),h):=by
 refine a3y hn rfl rfl rfl fun n hn=>a0u rfl rfl ?_
 have w1:=b6o (n:=n) (by omega) z
 have rz:=room_le z
 have e:(room z).tdiv 4=room z / 4:=Int.tdiv_eq_ediv_of_nonneg (by omega)
 unfold most
 rw[← e]
 have:0≤(room z).tdiv 4:=by omega
 have:(room z).tdiv 4≤4072:=by omega
 exact auto
def a8y (l:List Nat):Prop:=∀ i a b,l[i]?=some a→l[i+1]?=some b→a<b
noncomputable instance (l:List Nat):Decidable (a8y l):=Classical.propDecidable _
theorem f3t {q:Nat}(a b:Nat) (h:a0a):a0l (TV q) 195 [.int .u32 a,.int .u32 b] h (fun v h'=>v=.int .i64 (if b<a then 1 else -1)∧h'=h):=by
 refine a0r (a1x rfl rfl) rfl rfl ?_
 by_cases c:b<a
 ·rw[if_pos c]
  refine walk ?_
  exact a0d (by exact hres) ⟨rfl,rfl⟩
 ·rw[if_neg c]
  refine walk ?_
  exact a0d (by exact hres) ⟨rfl,rfl⟩
theorem e2g {q:Nat}{v:AV}{l:List Nat}{h:a0a}(ls:LsN h v l) (hk:h.ok) (ht:l.length≤70000):a0l (TV q) 194 [v,.func (.func 195) [] []] h (fun v' h'=>v'=.bool (decide (a8y l))∧Ext h h'):=by
 refine a0r (a1x rfl rfl) rfl rfl ?_
 have hlen:=ls.len
 refine walk ?_
 by_cases h0:l.length=0
 ·have r:a8y l:=fun i a b ha _=>by
   have:l=[]:=List.eq_nil_of_length_eq_zero h0
   subst this; cases ha
  refine b3x ?_
  refine walk ?_
  exact a0d (by exact hres) ⟨b8q r,a0g⟩
 refine a0k (fun i=>i) (fun i=>[(0,v),(1,.func (.func 195) [] []),(5,.int .i64 (i:Nat))]) (fun i h2=>i<l.length∧Ext h h2∧∀ j,i≤j→∀ a b,l[j]?=some a→l[j+1]?=some b→a<b) (l.length-1) ?_ ⟨by omega,.refl h,fun j hj a b _ hb=>?_⟩ ?_
 ·have e:((l.length-1:Nat):Int)=(l.length:Int)-1:=by omega
  rw[e]
  exact hsub
 ·rw[List.getElem?_eq_none (by omega)] at hb; cases hb
 rintro i h2 ⟨hi,x2,inv⟩ next
 have ok2:=x2.ok hk
 rcases Nat.eq_zero_or_pos i with rfl|hi0
 ·have r:a8y l:=fun j a b ha hb=>inv j (Nat.zero_le _) a b ha hb
  refine walk ?_
  exact a0d (by exact hres) ⟨b8q r,a0g⟩
 obtain⟨j,rfl⟩:∃ j,i=j+1:=⟨i-1,by omega⟩
 obtain⟨y,hy⟩:∃ y,l[j+1]?=some y:=⟨l[j+1],List.getElem?_eq_getElem hi⟩
 obtain⟨x,hx⟩:∃ x,l[j]?=some x:=⟨l[j],List.getElem?_eq_getElem (by omega)⟩
 obtain⟨b,p,e,all,rw',hb,hg,hpl,he,a1⟩:=(ls.ext x2).at a2d hy
 obtain⟨b',p',e',all',rw2,hb',hg',hpl',he',a2⟩:=(ls.ext x2).at a2d hx
 have he:(all.drop p).take 1=[.int .u32 y]:=he
 have he':(all'.drop p').take 1=[.int .u32 x]:=he'
 refine walk ?_
 refine a0b (q:=12) (ms:=[0,0,0,6,14,0,0,64,224,480,1023,2047]) (hl:=[[14,15,16,17,18,19,20,21,22],[13,15,18,19,20,21,22],[13,14,18,19,20,21,22],[13,18,19,20,21,22],[13,18,19,20,21,22],[13,14,15,16,17,19,20],[13,14,15,16,17,18],[13,14,15,16,17,18],[13,14,15,16,17],[13,14,15,16,17],[],[]]) hok rfl (by kernel_rfl) (by kernel_rfl) rfl ?_
 refine walk ?_
 refine a2c (f3t y x _) rfl rfl rfl rfl rfl rfl ?_
 rintro _ h3 ⟨rfl,rfl⟩
 by_cases c:x<y
 ·rw[if_pos c]
  refine walk ?_
  refine next j (by omega) ?_ ⟨by omega,a0g,fun k hk' a b ha hb=>?_⟩
  ·have e5:((j:Nat):Int)=((j+1:Nat):Int)-1:=by omega
   rw[e5]
   exact hsub
  ·rcases Nat.lt_or_ge j k with q|q
   ·exact inv k (by omega) a b ha hb
   ·obtain rfl:k=j:=by omega
    rw[hx] at ha; cases ha
    rw[hy] at hb; cases hb
    exact c
 ·rw[if_neg c]
  have r:¬ a8y l:=fun r=>c (r j x y hx hy)
  refine walk ?_
  exact a0d (by exact hres) ⟨a6u r,a0g⟩
theorem d5i {n:Nat}(hn:0<n){v:AV}{l:List Nat}{h:a0a}(ls:LsN h v l) (hk:h.ok) (ht:l.length≤70000):(TV n).sm 158 [v] h=some (.bool (decide (a8y l)),h):=by
 refine a6l hn (fun h=>h.ok∧LsN h v l) rfl rfl ⟨hk,ls⟩ (fun hp=>⟨a2e,ls.any (by simpa [AV.a0z,AV.plain] using hp)⟩) ?_
 clear hk ls h
 rintro n hn h ⟨hk,ls⟩
 refine a0u rfl rfl ?_
 refine walk ?_
 refine a0c (e2g ls hk ht) rfl rfl rfl rfl ?_
 rintro _ h2 ⟨rfl,x2⟩
 refine walk ?_
 exact a0d (by exact hres) ⟨rfl,a0g⟩
theorem d3m {q:Nat}{v:AV}{l:List Nat}{fn:AV}{f:FuncId}{cap:List AV}{p:Nat→Bool}{h:a0a}(ls:LsN h v l) (ht:l.length≤70000)
  (hfn:fn=.func (.func f) [] cap) (hF:∃ F c,(TV q).fn f=some F∧F.body=some c) (hp:∀ b h,a0l (TV q) f (.int .u32 (b:Nat)::cap) h (fun v h'=>v=.bool (p b)∧Ext h h')):a0l (TV q) 196 [v,fn] h (fun v' h'=>v'=.int .i64 (a6n p l 0)∧Ext h h'):=by
 refine a0r (a1x rfl rfl) rfl rfl ?_
 have hlen:=ls.len
 subst hfn
 obtain⟨F,c,hF1,hF2⟩:=hF
 refine walk ?_
 refine a0k (fun i=>l.length-i) (fun i=>[(0,v),(1,.func (.func f) [] cap),(7,.int .i64 l.length),(8,.int .i64 (i:Nat))]) (fun i h2=>i≤l.length∧Ext h h2∧a6n p l 0=a6n p (l.drop i) i) 0 hsub ⟨by omega,.refl h,rfl⟩ ?_
 rintro i h2 ⟨hi,x2,e⟩ next
 by_cases hil:i<l.length
 ·obtain⟨y,hy⟩:∃ y,l[i]?=some y:=⟨l[i],List.getElem?_eq_getElem hil⟩
  obtain⟨b,q1,e1,all,rw',hb,hg,hpl,he,a1⟩:=(ls.ext x2).at a2d hy
  have he:(all.drop q1).take 1=[.int .u32 y]:=he
  rw[c5s p l i y hy] at e
  refine walk ?_
  refine a0c (hp y h2) rfl rfl rfl (d0x hF1 hF2 rfl rfl rfl rfl) ?_
  rintro _ h3 ⟨rfl,x3⟩
  cases hpy:p y with
  |true =>
   rw[hpy] at e
   refine walk ?_
   exact a0d (by exact hres) ⟨by rw[e]; rfl,a0g⟩
  |false =>
   rw[hpy] at e
   refine walk ?_
   exact next (i+1) (by omega) hsub ⟨by omega,a0g,e⟩
 ·refine walk ?_
  have e2:l.drop i=[]:=List.drop_of_length_le (by omega)
  rw[e2] at e
  exact a0d (by exact hres) ⟨by rw[e]; rfl,a0g⟩
theorem d1d {α:Type}(p:α→Bool):∀ (l:List α) (i:Nat),(0≤a6n p l i↔∃ a∈l,p a=true)
 |[],i=>by simp[a6n]
 |a::l,i=>by
  unfold a6n
  by_cases c:p a=true
  ·rw[if_pos c]; simp[c]
  ·rw[if_neg c,d1d p l (i+1)]; simp[c]
def a9q (l:List Nat):Prop:=∀ x∈l,num x
noncomputable instance (l:List Nat):Decidable (a9q l):=Classical.propDecidable _
theorem d4k {n:Nat}(hn:1<n){v:AV}{l:List Nat}{h:a0a}(ls:LsN h v l) (ht:l.length≤70000):a0l (TV n) 159 [v,.func (.func 155) [] []] h (fun v' h'=>v'=.bool (decide (¬ a9q l))∧Ext h h'):=by
 refine a0r (a1x rfl rfl) rfl rfl ?_
 refine walk ?_
 refine a0c (d3m (p:=fun b=>decide (¬ num b)) ls ht rfl ⟨_,_,rfl,rfl⟩ fun b h=>(d2e (b3n hn b h)).mono fun _ _ e=>⟨e.1,by rw[e.2]; exact .refl _⟩) rfl rfl rfl rfl ?_
 rintro _ h2 ⟨rfl,x2⟩
 have e:=d1d (fun b=>decide (¬ num b)) l 0
 have e2:(0≤a6n (fun b=>decide (¬ num b)) l 0)↔¬ a9q l:=by
  rw[e]
  unfold a9q
  constructor
  ·rintro⟨a,ha,hp⟩ hall
   exact(of_decide_eq_true hp) (hall a ha)
  ·intro hx
   exact Classical.byContradiction fun hne=>hx fun a ha=>Classical.byContradiction fun hp=>hne ⟨a,ha,decide_eq_true hp⟩
 generalize a6n (fun b=>decide (¬ num b)) l 0=z at e2 ⊢
 refine walk ?_
 exact a0d (by exact hres) ⟨d3a e2,a0g⟩
def c4p (l:List Nat):List UInt8:=l.flatMap fun n=>leb n 4
theorem c9x (l:List Nat):(c4p l).length=4*l.length:=by
 induction l with
 |nil=>rfl
 |cons a l ih=>unfold c4p at ih ⊢; rw[List.flatMap_cons,List.length_append,ih,a1n,List.length_cons]; omega
theorem c5e (l:List Nat) (i:Nat) (b:Nat) (h:l[i]?=some b):c4p (l.take (i+1))=c4p (l.take i)++leb b 4:=by
 rw[List.take_add_one,h]
 simp[c4p]
def okR (z:Int) (p nx tx:Nat) (l:List Nat):Prop:=most z≠0∧(l.length:Int)≤most z∧a8y l∧a9q l∧num p∧(nx=0∨num nx)∧tx≤4611686018427387904
noncomputable instance (z:Int) (p nx tx:Nat) (l:List Nat):Decidable (okR z p nx tx l):=Classical.propDecidable _
noncomputable def b4m (z:Int) (p nx tx:Nat) (l:List Nat):Pg×Int:=if okR z p nx tx l then(⟨6,l.length,p,nx,tx,c3r z (c4p l)⟩,0) else(Pg.zero,2)
theorem d7o {n:Nat}(hn:4<n){z:Int}{p nx tx:Nat}{v:AV}{l:List Nat}{h:a0a}(ls:LsN h v l) (hk:h.ok) (t1:l.length≤70000):(TV n).sm 114 [.int .i64 z,.int .u32 p,.int .u32 nx,.int .u64 tx,v] h=some (.tuple [(b4m z p nx tx l).1.av,.int .i64 (b4m z p nx tx l).2],h):=by
 refine a6l hn (fun h=>h.ok∧LsN h v l) rfl rfl ⟨hk,ls⟩ (fun hp=>⟨a2e,ls.any (by simpa [AV.a0z,AV.plain] using hp)⟩) ?_
 clear hk ls h
 rintro n hn h ⟨hk,ls⟩
 refine a0u rfl rfl ?_
 have hlen:=ls.len
 have w1:=d9i (n:=n) (by omega) z
 have x0:Ext h (h.alloc (.cells 52 Pg.zero.cs true)):=Ext.alloc _ _
 have w3:=d5i (n:=n) (by omega) (ls.ext x0) (x0.ok hk) t1
 unfold b4m
 by_cases c1:most z=0
 ·rw[if_neg fun c=>c.1 c1]
  exact auto
 by_cases c2:(l.length:Int)≤most z
 case neg=>rw[if_neg fun c=>c2 c.2.1]; exact auto
 refine walk ?_
 refine a2y w3 rfl rfl rfl rfl ?_
 by_cases c3:a8y l
 case neg=>rw[if_neg fun c=>c3 c.2.2.1]; exact auto
 refine walk ?_
 refine a0c (d4k (n:=n) (by omega) (ls.ext x0) t1) rfl rfl rfl rfl ?_
 rintro _ h2 ⟨rfl,x2⟩
 have nx2:h.next+1≤h2.next:=x2.nx
 have g8:h2.get h.next=some (.cells 52 Pg.zero.cs true):=(x2.old _ (by show h.next<h.next+1; omega)).trans (a0s _ _)
 by_cases c4:a9q l
 case neg=>rw[if_neg fun c=>c4 c.2.2.2.1]; exact auto
 refine walk ?_
 refine a2y (b3n (n:=n) (by omega) p _) rfl rfl rfl rfl ?_
 by_cases c5:num p
 case neg=>rw[if_neg fun c=>c5 c.2.2.2.2.1]; exact auto
 by_cases c6:nx=0∨num nx
 case neg =>
  rw[if_neg fun c=>c6 c.2.2.2.2.2.1]
  have d1:¬ nx=0:=fun e=>c6 (.inl e)
  have d2:¬ num nx:=fun e=>c6 (.inr e)
  refine walk ?_
  refine a2y (b3n (n:=n) (by omega) nx _) rfl rfl rfl rfl ?_
  exact auto
 have c7:nx=0∨¬ nx=0∧num nx:=by
  rcases Nat.eq_zero_or_pos nx with q|q
  ·exact .inl q
  ·exact .inr ⟨by omega,c6.resolve_left (by omega)⟩
 by_cases c8:tx≤4611686018427387904
 case neg =>
  rw[if_neg fun c=>c8 c.2.2.2.2.2.2]
  rcases c7 with c7|⟨c7,c9⟩
  ·exact auto
  ·refine walk ?_
   refine a2y (b3n (n:=n) (by omega) nx _) rfl rfl rfl rfl ?_
   exact auto
 rw[if_pos (show okR z p nx tx l from⟨c1,c2,c3,c4,c5,c6,c8⟩)]
 have rz:=room_le z
 have hm:l.length≤1018:=by unfold most at c2; omega
 rcases c7 with c7|⟨c7,c9⟩
 refine walk ?_
 rotate_left
 refine walk ?_
 refine a2y (b3n (n:=n) (by omega) nx _) rfl rfl rfl rfl ?_
 refine walk ?_
 all_goals
  refine a0k (ι:=Nat×AV) (fun a=>l.length-a.1) (fun a=>[(0,.int .i64 z),(1,.int .u32 p),(2,.int .u32 nx),(3,.int .u64 tx),(4,v),(10,.ptr h.next 0),(13,a.2),(57,v),(58,.int .i64 l.length),(59,.int .i64 (a.1:Nat))]) (fun a h3=>a.1≤l.length∧Ext h2 h3∧a2q 5 (h.next+1) h3 a.2 (c4p (l.take a.1))) (0,.nilslice) hsub ⟨by omega,.refl _,a2q.nil⟩ ?_
  rintro⟨i,u⟩ h3 ⟨hi,x3,ow⟩ next
  dsimp only at hi ow next ⊢
  have nx3:=x3.nx
  have g9:h3.get h.next=some (.cells 52 Pg.zero.cs true):=(x3.old _ (by omega)).trans g8
  have ok3:=x3.ok (x2.ok (x0.ok hk))
  have x23:=x2.trans x3
  have hsz:(c4p (l.take i)).length≤4072:=by rw[c9x,List.length_take]; omega
  by_cases hil:i<l.length
  ·obtain⟨y,hy⟩:∃ y,l[i]?=some y:=⟨l[i],List.getElem?_eq_getElem hil⟩
   obtain⟨b,p',e,all,rw',hb,hg,hpl,he,a1⟩:=((ls.ext x0).ext x23).at a2d hy
   have he:(all.drop p').take 1=[.int .u32 y]:=he
   have yb:y≤2147483647:=(c4 y (List.mem_of_getElem? hy)).2
   refine walk ?_
   refine a0c (a3p ow.by (by omega) (by decide) (by decide) (by omega) ow.by.ns) rfl rfl rfl rfl ?_
   rintro v5 g5 ⟨o5,x5⟩
   refine walk ?_
   refine next (i+1,v5) (by simp only; omega) hsub ⟨by simp only; omega,x3.trans x5,?_⟩
   simp only
   rw[c5e l i y hy]
   exact a2q.lo o5 (by omega)
  ·have e1:l.take i=l:=List.take_of_length_le (by omega)
   rw[e1] at ow
   have w5:=b9d (n:=n) (by omega) (z:=z) ow.by ok3 ow.by.ns
   rw[a5c] at w5
   refine walk ?_
   refine a2y w5 rfl rfl rfl rfl ?_
   refine walk ?_
   exact a0e (by exact hres) ⟨rfl,by exact a0g⟩
def a7o:Nat→List UInt8→Option (List Nat)
 |0,_=>some []
 |k+1,s=>if 4≤s.length then(a7o k (a0i 4 s)).map (a0o 4 s :: ·) else none
noncomputable def ofR (p:Pg):Option (List Nat):=match a7o p.count.toNat p.body with
 |none=>none
 |some l=>if b4m (p.body.length+24) p.page p.link p.tx l=(p,0) then some l else none
theorem e5n {n:Nat}(hn:6<n){p:Pg}{h:a0a}(hk:h.ok) (hl:p.body.length≤100000) (hc:p.count<1000000000):a0l (TV n) 72 [p.av] h (fun v h'=>Ext h h'∧match ofR p with
  |none=>v=.tuple [.nilslice,.int .u32 0,.int .i64 4]
  |some l=>∃ u,v=.tuple [u,.int .u32 p.link,.int .i64 0]∧LsN h' u l):=by
 refine a0r (a1x rfl rfl) rfl rfl ?_
 refine walk ?_
 refine a0c (b1g p.body _) rfl rfl rfl rfl ?_
 rintro _ _ ⟨rfl,rfl⟩
 refine walk ?_
 refine a0k (ι:=Nat×AV×List Nat×List UInt8) (fun a=>p.count.toNat-a.1) (fun a=>[(1,.ptr h.next 0),(5,.ptr (h.next+1) 0),(2,a.2.1),(14,.int .i64 p.count),(15,.int .i64 (a.1:Nat))]) (fun a h2=>Ext h h2∧h.next+2≤h2.next∧h2.get h.next=some (.cells 52 p.cs true)∧h2.get (h.next+1)=some (.cells 149 [.str a.2.2.2] true)∧c5b (h.next+2) h2 a.2.1 a.2.2.1∧a.1=a.2.2.1.length∧4*a.1+a.2.2.2.length≤p.body.length∧(0<a.1→(a.1:Int)≤p.count)∧a7o p.count.toNat p.body=(a7o (p.count.toNat-a.1) a.2.2.2).map (a.2.2.1 ++ ·)) (0,.nilslice,[],p.body) hsub ⟨by exact a0g,by show h.next+2≤h.next+1+1; omega,by exact a0j,by exact a0j,a9f.nil,rfl,by simp,by simp,by simp⟩ ?_
 rintro⟨i,u,acc,s⟩ h2 ⟨x2,n2,g0,g1,ow,ei,len,cnt,par⟩ next
 dsimp only at g1 ow ei len par next cnt ⊢
 subst ei
 have ok2:=x2.ok hk
 by_cases hi:(acc.length:Int)<p.count
 ·have par':p.count.toNat-acc.length=(p.count.toNat-(acc.length+1))+1:=by omega
  rw[par'] at par
  have e0:a7o ((p.count.toNat-(acc.length+1))+1) s=if 4≤s.length then(a7o (p.count.toNat-(acc.length+1)) (a0i 4 s)).map (a0o 4 s :: ·) else none:=rfl
  rw[e0] at par
  have v2:=a2h 4 s
  refine walk ?_
  refine a0c (b1q (n:=4) g1 (by omega) (by omega) (by decide) (by decide)) rfl rfl rfl rfl ?_
  rintro _ h3 ⟨rfl,u3⟩
  have n3:=u3.nx
  have k3:a4a (h.next+1) h2 h3:=⟨by omega,fun c hc=>u3.old c (by omega),fun _=>u3.ok ok2⟩
  have x3:Ext h h3:=x2.kp k3 (by omega)
  have o3:c5b (h.next+2) h3 u acc:=Own.keep ow (fun c h1 h2'=>u3.old c (by omega)) (by omega)
  by_cases c:4≤s.length
  case neg =>
   have e4:ofR p=none:=by unfold ofR; rw[par,if_neg c]; rfl
   rw[e4,a5l c]
   refine walk ?_
   exact a0e (by exact hres) ⟨x3,rfl⟩
  rw[if_pos c] at par
  rw[a3z c]
  have l4:=a4q c
  obtain⟨v7,h7,e7,o7,k7⟩:=a8c (T:=TV n) (st:=28) (rest:=[28]) (h:=h3.alloc (.cells 22 (a2k (a0o 4 s)) true)) (x:=a0o 4 s) (o3.ext (Ext.alloc _ _)) (a0s _ _) (by show h3.next<h3.next+1; omega) (by show h.next+2≤h3.next+1; omega) (by omega) rfl rfl rfl rfl rfl (by exact Nat.le_of_ble_eq_true rfl) rfl (by decide) rfl
  have n7:h3.next+1≤h7.next:=k7.nx
  have e7:a1b (TV n) [u,.slice h3.next 0 1 1] [28,28] (h3.alloc (.cells 22 [.int .u32 (a0o 4 s)] true))=.val v7 h7:=e7
  refine walk ?_
  refine next (acc.length+1,v7,acc++[a0o 4 s],a0i 4 s) (by simp only; omega) (by exact hsub) ⟨by exact a0g,by omega,by exact a0j,by exact a0j,o7,by simp,?_,?_,?_⟩
  ·simp only; omega
  ·simp only; omega
  ·rw[par]
   simp only[Option.map_map]
   congr 1
   funext x
   simp
 ·have e0:p.count.toNat-acc.length=0:=by
   rcases Nat.eq_zero_or_pos acc.length with q|q
   ·omega
   ·have:=cnt q; omega
  have e1:a7o p.count.toNat p.body=some acc:=by rw[par,e0]; simp[a7o]
  have w1:=d7o (n:=n) (by omega) (z:=(p.body.length:Int)+24) (p:=p.page) (nx:=p.link) (tx:=p.tx) (h:=h2) ow.ls ok2 (by omega)
  refine walk ?_
  refine a2y w1 rfl rfl rfl rfl ?_
  have key:ofR p=if b4m ((p.body.length:Int)+24) p.page p.link p.tx acc=(p,0) then some acc else none:=by unfold ofR; rw[e1]
  generalize b4m ((p.body.length:Int)+24) p.page p.link p.tx acc=r at key ⊢
  obtain⟨r1,r2⟩:=r
  by_cases c1:r2=0
  case neg =>
   rw[key,if_neg fun e=>c1 (congrArg Prod.snd e)]
   refine walk ?_
   exact a0e (by exact hres) ⟨by exact a0g,rfl⟩
  subst c1
  refine walk ?_
  refine a1r rfl rfl rfl (a3k rfl rfl rfl (a8u (a5o r1 p) rfl) rfl) ?_
  by_cases c2:r1=p
  ·rw[key,if_pos (by rw[c2])]
   refine walk ?_
   refine a0b (q:=6) (ms:=[0,0,2,1,15,31]) (hl:=[[53,54],[52,2],[52,2],[53,54],[],[]]) hok rfl (by kernel_rfl) (by kernel_rfl) rfl ?_
   refine walk ?_
   refine a0e (by exact hres) ⟨by exact a0g,u,rfl,ow.ls.ext (by exact a0g)⟩
  ·rw[key,if_neg fun e=>c2 (congrArg Prod.fst e)]
   refine walk ?_
   exact a0e (by exact hres) ⟨by exact a0g,rfl⟩
end Go.Proofs.YtmnhbehmjaibgaaGreat
