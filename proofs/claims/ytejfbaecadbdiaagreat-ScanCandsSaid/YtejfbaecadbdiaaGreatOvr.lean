/- What the functions of this part answer at any input, told by the rules over the evaluator. Conditions: those that each theorem states. -/
import Derived.Test.YtejfbaecadbdiaaGreatBra
set_option linter.unusedVariables false
set_option linter.unusedSimpArgs false
open Go Ev
namespace Go.Proofs.YtejfbaecadbdiaaGreat
set_option maxRecDepth 10000
set_option maxHeartbeats 4000000
theorem c9k {n:Nat}(hn:0<n) (p:Nat) (h:a0a):(TV n).sm 186 [.int .u32 p] h=some (.bool (decide (num p)),h):=by
 refine a3b hn rfl rfl rfl fun n hn=>a0s rfl rfl ?_
 unfold num
 exact auto
def okO (z:Int) (p nx tx:Nat) (s:List UInt8):Prop:=room z≠0∧s≠[]∧(s.length:Int)≤room z∧num p∧tx≤4611686018427387904∧(nx=0∨num nx∧¬ (s.length:Int)<room z)
instance (z:Int) (p nx tx:Nat) (s:List UInt8):Decidable (okO z p nx tx s):=inferInstanceAs (Decidable (_∧_))
def b4f (z:Int) (p nx tx:Nat) (s:List UInt8):Pg×Int:=if okO z p nx tx s then(⟨5,s.length,p,nx,tx,b8i z s⟩,0) else(Pg.zero,2)
theorem d9l {n:Nat}(hn:4<n){z:Int}{p nx tx:Nat}{s:List UInt8}(hl:s.length≤1000000) (h:a0a):(TV n).sm 166 [.int .i64 z,.int .u32 p,.int .u32 nx,.int .u64 tx,.str s] h=some (.tuple [(b4f z p nx tx s).1.av,.int .i64 (b4f z p nx tx s).2],h):=by
 refine a3b hn rfl rfl rfl fun n hn=>a0s rfl rfl ?_
 have w1:=b6k (n:=n) (by omega) z
 have w2:=c9k (n:=n) (by omega) p
 have w3:=c9k (n:=n) (by omega) nx
 unfold b4f
 by_cases c:okO z p nx tx s
 case neg =>
  rw[if_neg c]
  by_cases c1:room z=0
  ·exact auto
  by_cases c2:s=[]
  ·exact auto
  by_cases c3:(s.length:Int)≤room z
  case neg=>exact auto
  by_cases c4:num p
  case neg=>exact auto
  by_cases c5:tx≤4611686018427387904
  case neg=>exact auto
  have c6:¬ nx=0:=fun e=>c ⟨c1,c2,c3,c4,c5,.inl e⟩
  by_cases c7:num nx
  case neg=>exact auto
  have c8:(s.length:Int)<room z:=Decidable.byContradiction fun e=>c ⟨c1,c2,c3,c4,c5,.inr ⟨c7,e⟩⟩
  exact auto
 rw[if_pos c]
 obtain⟨c1,c2,c3,c4,c5,c6⟩:=c
 have fin:∀ {k:List K} {L:List (Nat×AV)} {Q:Res→Prop},True:=trivial
 by_cases c7:nx=0
 ·refine walk ?_
  refine a1k rfl rfl rfl (c1a (d:=.string) (by omega) rfl rfl rfl rfl rfl) ?_
  refine walk ?_
  refine a3e (b6p (n:=n) (by omega) (z:=z) (b8h _ _ s) (by exact hok) rfl) rfl rfl rfl rfl ?_
  rw[a4j]
  refine walk ?_
  exact a0d (by exact hres) rfl
 ·obtain⟨c8,c9⟩:num nx∧¬ (s.length:Int)<room z:=c6.resolve_left c7
  refine walk ?_
  refine a1k rfl rfl rfl (c1a (d:=.string) (by omega) rfl rfl rfl rfl rfl) ?_
  refine walk ?_
  refine a3e (b6p (n:=n) (by omega) (z:=z) (b8h _ _ s) (by exact hok) rfl) rfl rfl rfl rfl ?_
  rw[a4j]
  refine walk ?_
  exact a0d (by exact hres) rfl
def a6z (p:Pg):Prop:=0≤p.count∧p.count≤p.body.length∧b4f (p.body.length+24) p.page p.link p.tx (p.body.take p.count.toNat)=(p,0)
instance (p:Pg):Decidable (a6z p):=inferInstanceAs (Decidable (_∧_))
def ofO (p:Pg):AV:=if a6z p then .tuple [.str (p.body.take p.count.toNat),.int .u32 p.link,.int .i64 0] else .tuple [.str [],.int .u32 0,.int .i64 4]
theorem d6k {n:Nat}(hn:5<n){p:Pg}(hl:p.body.length≤1000000) (h:a0a):(TV n).sm 139 [p.av] h=some (ofO p,h):=by
 refine a3b hn rfl rfl (by unfold ofO; split<;>rfl) fun n hn=>a0s rfl rfl ?_
 unfold ofO
 by_cases c1:0≤p.count
 case neg=>rw[if_neg fun c=>c1 c.1]; exact auto
 by_cases c2:p.count≤p.body.length
 case neg=>rw[if_neg fun c=>c2 c.2.1]; exact auto
 obtain⟨m,hm⟩:=Int.eq_ofNat_of_zero_le c1
 have em:p.count.toNat=m:=by omega
 have w1:=d9l (n:=n) (by omega) (z:=(p.body.length:Int)+24) (p:=p.page) (nx:=p.link) (tx:=p.tx) (s:=p.body.take p.count.toNat) (by rw[List.length_take]; omega)
 have key:a6z p↔b4f ((p.body.length:Int)+24) p.page p.link p.tx (p.body.take p.count.toNat)=(p,0):=⟨fun c=>c.2.2,fun c=>⟨c1,c2,c⟩⟩
 generalize b4f ((p.body.length:Int)+24) p.page p.link p.tx (p.body.take p.count.toNat)=r at key w1
 obtain⟨r1,r2⟩:=r
 refine walk ?_
 by_cases c3:r2=0
 case neg =>
  rw[if_neg fun q=>c3 (congrArg Prod.snd (key.1 q))]
  refine walk ?_
  exact a0d (by exact hres) rfl
 subst c3
 refine walk ?_
 refine a1k rfl rfl rfl (a3n rfl rfl rfl (a8s (a5j r1 p) rfl) rfl) ?_
 by_cases c4:r1=p
 ·rw[if_pos (key.2 (by rw[c4]))]
  refine walk ?_
  refine a0c (q:=6) (ms:=[0,0,2,1,15,31]) (hl:=[[47,48],[46,2],[46,2],[47,48],[],[]]) hok rfl (by kernel_rfl) (by kernel_rfl) rfl ?_
  refine walk ?_
  exact a0d (by exact hres) rfl
 ·rw[if_neg fun q=>c4 (congrArg Prod.fst (key.1 q))]
  refine walk ?_
  exact a0d (by exact hres) rfl
set_option maxRecDepth 10000
set_option maxHeartbeats 4000000
def a3a (n:Nat):List AV:=[.int .u32 n]
theorem a2k (n:Nat):(a3a n).length=1:=rfl
abbrev LsN (h:a0a) (v:AV) (l:List Nat):Prop:=Ls a3a 1 h v l
abbrev c5l (lo:Nat) (h:a0a) (v:AV) (l:List Nat):Prop:=a9g a3a 29 1 lo h v l
theorem e4k {n:Nat}(hn:0<n) (p:Nat) (h:a0a):(TV n).sm 188 [.int .u32 p] h=some (.bool (decide (num p)),h):=by
 refine a3b hn rfl rfl rfl fun n hn=>a0s rfl rfl ?_
 unfold num
 exact auto
theorem b3v {n:Nat}(hn:1<n) (p:Nat) (h:a0a):(TV n).sm 187 [.int .u32 p] h=some (.bool (decide (¬ num p)),h):=by
 refine a3b hn rfl rfl rfl fun n hn=>a0s rfl rfl ?_
 have w1:=e4k (n:=n) (by omega) p
 exact auto
def most (z:Int):Int:=room z / 4
theorem d7l {n:Nat}(hn:2<n) (z:Int) (h:a0a):(TV n).sm 189 [.int .i64 z] h=some (.int .i64 (most z),h):=by
 refine a3b hn rfl rfl rfl fun n hn=>a0s rfl rfl ?_
 have w1:=b6k (n:=n) (by omega) z
 have rz:=room_le z
 have e:(room z).tdiv 4=room z / 4:=Int.tdiv_eq_ediv_of_nonneg (by omega)
 unfold most
 rw[← e]
 have:0≤(room z).tdiv 4:=by omega
 have:(room z).tdiv 4≤4072:=by omega
 exact auto
def a8x (l:List Nat):Prop:=∀ i a b,l[i]?=some a→l[i+1]?=some b→a<b
noncomputable instance (l:List Nat):Decidable (a8x l):=Classical.propDecidable _
theorem f4a {q:Nat}(a b:Nat) (h:a0a):a0l (TV q) 213 [.int .u32 a,.int .u32 b] h (fun v h'=>v=.int .i64 (if b<a then 1 else -1)∧h'=h):=by
 refine a0r (a1x rfl rfl) rfl rfl ?_
 by_cases c:b<a
 ·rw[if_pos c]
  refine walk ?_
  exact a0e (by exact hres) ⟨rfl,rfl⟩
 ·rw[if_neg c]
  refine walk ?_
  exact a0e (by exact hres) ⟨rfl,rfl⟩
theorem e3e {q:Nat}{v:AV}{l:List Nat}{h:a0a}(ls:LsN h v l) (hk:h.ok) (ht:l.length≤70000):a0l (TV q) 212 [v,.func (.func 213) [] []] h (fun v' h'=>v'=.bool (decide (a8x l))∧Ext h h'):=by
 refine a0r (a1x rfl rfl) rfl rfl ?_
 have hlen:=ls.len
 refine walk ?_
 by_cases h0:l.length=0
 ·have r:a8x l:=fun i a b ha _=>by
   have:l=[]:=List.eq_nil_of_length_eq_zero h0
   subst this; cases ha
  refine a7m ?_
  refine walk ?_
  exact a0e (by exact hres) ⟨b5l r,a0j⟩
 refine a0n (fun i=>i) (fun i=>[(0,v),(1,.func (.func 213) [] []),(5,.int .i64 (i:Nat))]) (fun i h2=>i<l.length∧Ext h h2∧∀ j,i≤j→∀ a b,l[j]?=some a→l[j+1]?=some b→a<b) (l.length-1) ?_ ⟨by omega,.refl h,fun j hj a b _ hb=>?_⟩ ?_
 ·have e:((l.length-1:Nat):Int)=(l.length:Int)-1:=by omega
  rw[e]
  exact hsub
 ·rw[List.getElem?_eq_none (by omega)] at hb; cases hb
 rintro i h2 ⟨hi,x2,inv⟩ next
 have ok2:=x2.ok hk
 rcases Nat.eq_zero_or_pos i with rfl|hi0
 ·have r:a8x l:=fun j a b ha hb=>inv j (Nat.zero_le _) a b ha hb
  refine walk ?_
  exact a0e (by exact hres) ⟨b5l r,a0j⟩
 obtain⟨j,rfl⟩:∃ j,i=j+1:=⟨i-1,by omega⟩
 obtain⟨y,hy⟩:∃ y,l[j+1]?=some y:=⟨l[j+1],List.getElem?_eq_getElem hi⟩
 obtain⟨x,hx⟩:∃ x,l[j]?=some x:=⟨l[j],List.getElem?_eq_getElem (by omega)⟩
 obtain⟨b,p,e,all,rw',hb,hg,hpl,he,a1⟩:=(ls.ext x2).at a2k hy
 obtain⟨b',p',e',all',rw2,hb',hg',hpl',he',a2⟩:=(ls.ext x2).at a2k hx
 have he:(all.drop p).take 1=[.int .u32 y]:=he
 have he':(all'.drop p').take 1=[.int .u32 x]:=he'
 refine walk ?_
 refine a0c (q:=12) (ms:=[0,0,0,6,14,0,0,64,224,480,1023,2047]) (hl:=[[14,15,16,17,18,19,20,21,22],[13,15,18,19,20,21,22],[13,14,18,19,20,21,22],[13,18,19,20,21,22],[13,18,19,20,21,22],[13,14,15,16,17,19,20],[13,14,15,16,17,18],[13,14,15,16,17,18],[13,14,15,16,17],[13,14,15,16,17],[],[]]) hok rfl (by kernel_rfl) (by kernel_rfl) rfl ?_
 refine walk ?_
 refine a2i (f4a y x _) rfl rfl rfl rfl rfl rfl ?_
 rintro _ h3 ⟨rfl,rfl⟩
 by_cases c:x<y
 ·rw[if_pos c]
  refine walk ?_
  refine next j (by omega) ?_ ⟨by omega,a0j,fun k hk' a b ha hb=>?_⟩
  ·have e5:((j:Nat):Int)=((j+1:Nat):Int)-1:=by omega
   rw[e5]
   exact hsub
  ·rcases Nat.lt_or_ge j k with q|q
   ·exact inv k (by omega) a b ha hb
   ·obtain rfl:k=j:=by omega
    rw[hx] at ha; cases ha
    rw[hy] at hb; cases hb
    exact c
 ·rw[if_neg c]
  have r:¬ a8x l:=fun r=>c (r j x y hx hy)
  refine walk ?_
  exact a0e (by exact hres) ⟨a3w r,a0j⟩
theorem d4j {n:Nat}(hn:0<n){v:AV}{l:List Nat}{h:a0a}(ls:LsN h v l) (hk:h.ok) (ht:l.length≤70000):(TV n).sm 190 [v] h=some (.bool (decide (a8x l)),h):=by
 refine a9d hn (fun h=>h.ok∧LsN h v l) rfl rfl ⟨hk,ls⟩ (fun hp=>⟨a2f,ls.any (by simpa [AV.a1q,AV.plain] using hp)⟩) ?_
 clear hk ls h
 rintro n hn h ⟨hk,ls⟩
 refine a0s rfl rfl ?_
 refine walk ?_
 refine a0b (e3e ls hk ht) rfl rfl rfl rfl ?_
 rintro _ h2 ⟨rfl,x2⟩
 refine walk ?_
 exact a0e (by exact hres) ⟨rfl,a0j⟩
theorem d2m {q:Nat}{v:AV}{l:List Nat}{fn:AV}{f:FuncId}{cap:List AV}{p:Nat→Bool}{h:a0a}(ls:LsN h v l) (ht:l.length≤70000)
  (hfn:fn=.func (.func f) [] cap) (hF:∃ F c,(TV q).fn f=some F∧F.body=some c) (hp:∀ b h,a0l (TV q) f (.int .u32 (b:Nat)::cap) h (fun v h'=>v=.bool (p b)∧Ext h h')):a0l (TV q) 214 [v,fn] h (fun v' h'=>v'=.int .i64 (a6j p l 0)∧Ext h h'):=by
 refine a0r (a1x rfl rfl) rfl rfl ?_
 have hlen:=ls.len
 subst hfn
 obtain⟨F,c,hF1,hF2⟩:=hF
 refine walk ?_
 refine a0n (fun i=>l.length-i) (fun i=>[(0,v),(1,.func (.func f) [] cap),(7,.int .i64 l.length),(8,.int .i64 (i:Nat))]) (fun i h2=>i≤l.length∧Ext h h2∧a6j p l 0=a6j p (l.drop i) i) 0 hsub ⟨by omega,.refl h,rfl⟩ ?_
 rintro i h2 ⟨hi,x2,e⟩ next
 by_cases hil:i<l.length
 ·obtain⟨y,hy⟩:∃ y,l[i]?=some y:=⟨l[i],List.getElem?_eq_getElem hil⟩
  obtain⟨b,q1,e1,all,rw',hb,hg,hpl,he,a1⟩:=(ls.ext x2).at a2k hy
  have he:(all.drop q1).take 1=[.int .u32 y]:=he
  rw[c6d p l i y hy] at e
  refine walk ?_
  refine a0b (hp y h2) rfl rfl rfl (d6b hF1 hF2 rfl rfl rfl rfl) ?_
  rintro _ h3 ⟨rfl,x3⟩
  cases hpy:p y with
  |true =>
   rw[hpy] at e
   refine walk ?_
   exact a0e (by exact hres) ⟨by rw[e]; rfl,a0j⟩
  |false =>
   rw[hpy] at e
   refine walk ?_
   exact next (i+1) (by omega) hsub ⟨by omega,a0j,e⟩
 ·refine walk ?_
  have e2:l.drop i=[]:=List.drop_of_length_le (by omega)
  rw[e2] at e
  exact a0e (by exact hres) ⟨by rw[e]; rfl,a0j⟩
theorem d0a {α:Type}(p:α→Bool):∀ (l:List α) (i:Nat),(0≤a6j p l i↔∃ a∈l,p a=true)
 |[],i=>by simp[a6j]
 |a::l,i=>by
  unfold a6j
  by_cases c:p a=true
  ·rw[if_pos c]; simp[c]
  ·rw[if_neg c,d0a p l (i+1)]; simp[c]
def a9r (l:List Nat):Prop:=∀ x∈l,num x
noncomputable instance (l:List Nat):Decidable (a9r l):=Classical.propDecidable _
theorem d3d {n:Nat}(hn:1<n){v:AV}{l:List Nat}{h:a0a}(ls:LsN h v l) (ht:l.length≤70000):a0l (TV n) 191 [v,.func (.func 187) [] []] h (fun v' h'=>v'=.bool (decide (¬ a9r l))∧Ext h h'):=by
 refine a0r (a1x rfl rfl) rfl rfl ?_
 refine walk ?_
 refine a0b (d2m (p:=fun b=>decide (¬ num b)) ls ht rfl ⟨_,_,rfl,rfl⟩ fun b h=>(d0b (b3v hn b h)).mono fun _ _ e=>⟨e.1,by rw[e.2]; exact .refl _⟩) rfl rfl rfl rfl ?_
 rintro _ h2 ⟨rfl,x2⟩
 have e:=d0a (fun b=>decide (¬ num b)) l 0
 have e2:(0≤a6j (fun b=>decide (¬ num b)) l 0)↔¬ a9r l:=by
  rw[e]
  unfold a9r
  constructor
  ·rintro⟨a,ha,hp⟩ hall
   exact(of_decide_eq_true hp) (hall a ha)
  ·intro hx
   exact Classical.byContradiction fun hne=>hx fun a ha=>Classical.byContradiction fun hp=>hne ⟨a,ha,decide_eq_true hp⟩
 generalize a6j (fun b=>decide (¬ num b)) l 0=z at e2 ⊢
 refine walk ?_
 exact a0e (by exact hres) ⟨d1n e2,a0j⟩
def c4k (l:List Nat):List UInt8:=l.flatMap fun n=>leb n 4
theorem d1j (l:List Nat):(c4k l).length=4*l.length:=by
 induction l with
 |nil=>rfl
 |cons a l ih=>unfold c4k at ih ⊢; rw[List.flatMap_cons,List.length_append,ih,a1c,List.length_cons]; omega
theorem c6k (l:List Nat) (i:Nat) (b:Nat) (h:l[i]?=some b):c4k (l.take (i+1))=c4k (l.take i)++leb b 4:=by
 rw[List.take_add_one,h]
 simp[c4k]
def okR (z:Int) (p nx tx:Nat) (l:List Nat):Prop:=most z≠0∧(l.length:Int)≤most z∧a8x l∧a9r l∧num p∧(nx=0∨num nx)∧tx≤4611686018427387904
noncomputable instance (z:Int) (p nx tx:Nat) (l:List Nat):Decidable (okR z p nx tx l):=Classical.propDecidable _
noncomputable def b4p (z:Int) (p nx tx:Nat) (l:List Nat):Pg×Int:=if okR z p nx tx l then(⟨6,l.length,p,nx,tx,b8i z (c4k l)⟩,0) else(Pg.zero,2)
theorem d7p {n:Nat}(hn:4<n){z:Int}{p nx tx:Nat}{v:AV}{l:List Nat}{h:a0a}(ls:LsN h v l) (hk:h.ok) (t1:l.length≤70000):(TV n).sm 167 [.int .i64 z,.int .u32 p,.int .u32 nx,.int .u64 tx,v] h=some (.tuple [(b4p z p nx tx l).1.av,.int .i64 (b4p z p nx tx l).2],h):=by
 refine a9d hn (fun h=>h.ok∧LsN h v l) rfl rfl ⟨hk,ls⟩ (fun hp=>⟨a2f,ls.any (by simpa [AV.a1q,AV.plain] using hp)⟩) ?_
 clear hk ls h
 rintro n hn h ⟨hk,ls⟩
 refine a0s rfl rfl ?_
 have hlen:=ls.len
 have w1:=d7l (n:=n) (by omega) z
 have x0:Ext h (h.alloc (.cells 64 Pg.zero.cs true)):=Ext.alloc _ _
 have w3:=d4j (n:=n) (by omega) (ls.ext x0) (x0.ok hk) t1
 unfold b4p
 by_cases c1:most z=0
 ·rw[if_neg fun c=>c.1 c1]
  exact auto
 by_cases c2:(l.length:Int)≤most z
 case neg=>rw[if_neg fun c=>c2 c.2.1]; exact auto
 refine walk ?_
 refine a3e w3 rfl rfl rfl rfl ?_
 by_cases c3:a8x l
 case neg=>rw[if_neg fun c=>c3 c.2.2.1]; exact auto
 refine walk ?_
 refine a0b (d3d (n:=n) (by omega) (ls.ext x0) t1) rfl rfl rfl rfl ?_
 rintro _ h2 ⟨rfl,x2⟩
 have nx2:h.next+1≤h2.next:=x2.nx
 have g8:h2.get h.next=some (.cells 64 Pg.zero.cs true):=(x2.old _ (by show h.next<h.next+1; omega)).trans (a0t _ _)
 by_cases c4:a9r l
 case neg=>rw[if_neg fun c=>c4 c.2.2.2.1]; exact auto
 refine walk ?_
 refine a3e (b3v (n:=n) (by omega) p _) rfl rfl rfl rfl ?_
 by_cases c5:num p
 case neg=>rw[if_neg fun c=>c5 c.2.2.2.2.1]; exact auto
 by_cases c6:nx=0∨num nx
 case neg =>
  rw[if_neg fun c=>c6 c.2.2.2.2.2.1]
  have d1:¬ nx=0:=fun e=>c6 (.inl e)
  have d2:¬ num nx:=fun e=>c6 (.inr e)
  refine walk ?_
  refine a3e (b3v (n:=n) (by omega) nx _) rfl rfl rfl rfl ?_
  exact auto
 have c7:nx=0∨¬ nx=0∧num nx:=by
  rcases Nat.eq_zero_or_pos nx with q|q
  ·exact .inl q
  ·exact .inr ⟨by omega,c6.resolve_left (by omega)⟩
 by_cases c8:tx≤4611686018427387904
 case neg =>
  rw[if_neg fun c=>c8 c.2.2.2.2.2.2]
  rcases c7 with c7|⟨c7,c9⟩
  ·exact auto
  ·refine walk ?_
   refine a3e (b3v (n:=n) (by omega) nx _) rfl rfl rfl rfl ?_
   exact auto
 rw[if_pos (show okR z p nx tx l from⟨c1,c2,c3,c4,c5,c6,c8⟩)]
 have rz:=room_le z
 have hm:l.length≤1018:=by unfold most at c2; omega
 rcases c7 with c7|⟨c7,c9⟩
 refine walk ?_
 rotate_left
 refine walk ?_
 refine a3e (b3v (n:=n) (by omega) nx _) rfl rfl rfl rfl ?_
 refine walk ?_
 all_goals
  refine a0n (ι:=Nat×AV) (fun a=>l.length-a.1) (fun a=>[(0,.int .i64 z),(1,.int .u32 p),(2,.int .u32 nx),(3,.int .u64 tx),(4,v),(10,.ptr h.next 0),(13,a.2),(57,v),(58,.int .i64 l.length),(59,.int .i64 (a.1:Nat))]) (fun a h3=>a.1≤l.length∧Ext h2 h3∧a2t 5 (h.next+1) h3 a.2 (c4k (l.take a.1))) (0,.nilslice) hsub ⟨by omega,.refl _,a2t.nil⟩ ?_
  rintro⟨i,u⟩ h3 ⟨hi,x3,ow⟩ next
  dsimp only at hi ow next ⊢
  have nx3:=x3.nx
  have g9:h3.get h.next=some (.cells 64 Pg.zero.cs true):=(x3.old _ (by omega)).trans g8
  have ok3:=x3.ok (x2.ok (x0.ok hk))
  have x23:=x2.trans x3
  have hsz:(c4k (l.take i)).length≤4072:=by rw[d1j,List.length_take]; omega
  by_cases hil:i<l.length
  ·obtain⟨y,hy⟩:∃ y,l[i]?=some y:=⟨l[i],List.getElem?_eq_getElem hil⟩
   obtain⟨b,p',e,all,rw',hb,hg,hpl,he,a1⟩:=((ls.ext x0).ext x23).at a2k hy
   have he:(all.drop p').take 1=[.int .u32 y]:=he
   have yb:y≤2147483647:=(c4 y (List.mem_of_getElem? hy)).2
   refine walk ?_
   refine a0b (a2m ow.by (by omega) (by decide) (by decide) (by omega) ow.by.ns) rfl rfl rfl rfl ?_
   rintro v5 g5 ⟨o5,x5⟩
   refine walk ?_
   refine next (i+1,v5) (by simp only; omega) hsub ⟨by simp only; omega,x3.trans x5,?_⟩
   simp only
   rw[c6k l i y hy]
   exact a2t.lo o5 (by omega)
  ·have e1:l.take i=l:=List.take_of_length_le (by omega)
   rw[e1] at ow
   have w5:=b6p (n:=n) (by omega) (z:=z) ow.by ok3 ow.by.ns
   rw[a4j] at w5
   refine walk ?_
   refine a3e w5 rfl rfl rfl rfl ?_
   refine walk ?_
   exact a0d (by exact hres) ⟨rfl,by exact a0j⟩
def a7d:Nat→List UInt8→Option (List Nat)
 |0,_=>some []
 |k+1,s=>if 4≤s.length then(a7d k (a0h 4 s)).map (a0o 4 s :: ·) else none
noncomputable def ofR (p:Pg):Option (List Nat):=match a7d p.count.toNat p.body with
 |none=>none
 |some l=>if b4p (p.body.length+24) p.page p.link p.tx l=(p,0) then some l else none
theorem e6d {n:Nat}(hn:6<n){p:Pg}{h:a0a}(hk:h.ok) (hl:p.body.length≤100000) (hc:p.count<1000000000):a0l (TV n) 140 [p.av] h (fun v h'=>Ext h h'∧match ofR p with
  |none=>v=.tuple [.nilslice,.int .u32 0,.int .i64 4]
  |some l=>∃ u,v=.tuple [u,.int .u32 p.link,.int .i64 0]∧LsN h' u l):=by
 refine a0r (a1x rfl rfl) rfl rfl ?_
 refine walk ?_
 refine a0b (a9j p.body _) rfl rfl rfl rfl ?_
 rintro _ _ ⟨rfl,rfl⟩
 refine walk ?_
 refine a0n (ι:=Nat×AV×List Nat×List UInt8) (fun a=>p.count.toNat-a.1) (fun a=>[(1,.ptr h.next 0),(5,.ptr (h.next+1) 0),(2,a.2.1),(14,.int .i64 p.count),(15,.int .i64 (a.1:Nat))]) (fun a h2=>Ext h h2∧h.next+2≤h2.next∧h2.get h.next=some (.cells 64 p.cs true)∧h2.get (h.next+1)=some (.cells 201 [.str a.2.2.2] true)∧c5l (h.next+2) h2 a.2.1 a.2.2.1∧a.1=a.2.2.1.length∧4*a.1+a.2.2.2.length≤p.body.length∧(0<a.1→(a.1:Int)≤p.count)∧a7d p.count.toNat p.body=(a7d (p.count.toNat-a.1) a.2.2.2).map (a.2.2.1 ++ ·)) (0,.nilslice,[],p.body) hsub ⟨by exact a0j,by show h.next+2≤h.next+1+1; omega,by exact a0g,by exact a0g,a9g.nil,rfl,by simp,by simp,by simp⟩ ?_
 rintro⟨i,u,acc,s⟩ h2 ⟨x2,n2,g0,g1,ow,ei,len,cnt,par⟩ next
 dsimp only at g1 ow ei len par next cnt ⊢
 subst ei
 have ok2:=x2.ok hk
 by_cases hi:(acc.length:Int)<p.count
 ·have par':p.count.toNat-acc.length=(p.count.toNat-(acc.length+1))+1:=by omega
  rw[par'] at par
  have e0:a7d ((p.count.toNat-(acc.length+1))+1) s=if 4≤s.length then(a7d (p.count.toNat-(acc.length+1)) (a0h 4 s)).map (a0o 4 s :: ·) else none:=rfl
  rw[e0] at par
  have v2:=a1s 4 s
  refine walk ?_
  refine a0b (a8p (n:=4) g1 (by omega) (by omega) (by decide) (by decide)) rfl rfl rfl rfl ?_
  rintro _ h3 ⟨rfl,u3⟩
  have n3:=u3.nx
  have k3:a4g (h.next+1) h2 h3:=⟨by omega,fun c hc=>u3.old c (by omega),fun _=>u3.ok ok2⟩
  have x3:Ext h h3:=x2.kp k3 (by omega)
  have o3:c5l (h.next+2) h3 u acc:=Own.keep ow (fun c h1 h2'=>u3.old c (by omega)) (by omega)
  by_cases c:4≤s.length
  case neg =>
   have e4:ofR p=none:=by unfold ofR; rw[par,if_neg c]; rfl
   rw[e4,a5k c]
   refine walk ?_
   exact a0d (by exact hres) ⟨x3,rfl⟩
  rw[if_pos c] at par
  rw[a4b c]
  have l4:=a2q c
  obtain⟨v7,h7,e7,o7,k7⟩:=a8g (T:=TV n) (st:=42) (rest:=[42]) (h:=h3.alloc (.cells 29 (a3a (a0o 4 s)) true)) (x:=a0o 4 s) (o3.ext (Ext.alloc _ _)) (a0t _ _) (by show h3.next<h3.next+1; omega) (by show h.next+2≤h3.next+1; omega) (by omega) rfl rfl rfl rfl rfl (by exact Nat.le_of_ble_eq_true rfl) rfl (by decide) rfl
  have n7:h3.next+1≤h7.next:=k7.nx
  have e7:a1h (TV n) [u,.slice h3.next 0 1 1] [42,42] (h3.alloc (.cells 29 [.int .u32 (a0o 4 s)] true))=.val v7 h7:=e7
  refine walk ?_
  refine next (acc.length+1,v7,acc++[a0o 4 s],a0h 4 s) (by simp only; omega) (by exact hsub) ⟨by exact a0j,by omega,by exact a0g,by exact a0g,o7,by simp,?_,?_,?_⟩
  ·simp only; omega
  ·simp only; omega
  ·rw[par]
   simp only[Option.map_map]
   congr 1
   funext x
   simp
 ·have e0:p.count.toNat-acc.length=0:=by
   rcases Nat.eq_zero_or_pos acc.length with q|q
   ·omega
   ·have:=cnt q; omega
  have e1:a7d p.count.toNat p.body=some acc:=by rw[par,e0]; simp[a7d]
  have w1:=d7p (n:=n) (by omega) (z:=(p.body.length:Int)+24) (p:=p.page) (nx:=p.link) (tx:=p.tx) (h:=h2) ow.ls ok2 (by omega)
  refine walk ?_
  refine a3e w1 rfl rfl rfl rfl ?_
  have key:ofR p=if b4p ((p.body.length:Int)+24) p.page p.link p.tx acc=(p,0) then some acc else none:=by unfold ofR; rw[e1]
  generalize b4p ((p.body.length:Int)+24) p.page p.link p.tx acc=r at key ⊢
  obtain⟨r1,r2⟩:=r
  by_cases c1:r2=0
  case neg =>
   rw[key,if_neg fun e=>c1 (congrArg Prod.snd e)]
   refine walk ?_
   exact a0d (by exact hres) ⟨by exact a0j,rfl⟩
  subst c1
  refine walk ?_
  refine a1k rfl rfl rfl (a3n rfl rfl rfl (a8s (a5j r1 p) rfl) rfl) ?_
  by_cases c2:r1=p
  ·rw[key,if_pos (by rw[c2])]
   refine walk ?_
   refine a0c (q:=6) (ms:=[0,0,2,1,15,31]) (hl:=[[53,54],[52,2],[52,2],[53,54],[],[]]) hok rfl (by kernel_rfl) (by kernel_rfl) rfl ?_
   refine walk ?_
   refine a0d (by exact hres) ⟨by exact a0j,u,rfl,ow.ls.ext (by exact a0j)⟩
  ·rw[key,if_neg fun e=>c2 (congrArg Prod.fst e)]
   refine walk ?_
   exact a0d (by exact hres) ⟨by exact a0j,rfl⟩
end Go.Proofs.YtejfbaecadbdiaaGreat
