/- What the functions of this part answer at any input, told by the rules over the evaluator. Conditions: those that each theorem states. -/
import Derived.Test.YtejfbaecadbdiaaGreatLea
import Derived.Test.YtejfbaecadbdiaaGreatRf8
import Derived.Test.YtejfbaecadbdiaaGreatOvr
set_option linter.unusedVariables false
set_option linter.unusedSimpArgs false
open Go Ev
namespace Go.Proofs.YtejfbaecadbdiaaGreat
set_option maxRecDepth 10000
set_option maxHeartbeats 4000000
def a2g (p:Pg):Prop:=p.kind=2∧ofC p≠none∨p.kind=3∧ofB p≠none∨p.kind=4∧ofI p≠none∨p.kind=5∧a6z p∨p.kind=6∧ofR p≠none
noncomputable instance (p:Pg):Decidable (a2g p):=Classical.propDecidable _
theorem e6e {n:Nat}(hn:7<n){p:Pg}(hl:p.body.length≤100000) (hc:p.count<1000000000) (h:a0a):(TV n).sm 109 [p.av] h=some (.bool (decide (a2g p)),h):=by
 refine a3b hn rfl rfl rfl fun n hn=>a0s rfl rfl ?_
 have ok0:a0a.ok ⟨.nil,0⟩:=a2f
 generalize (⟨.nil,0⟩:a0a)=h at ok0 ⊢
 by_cases k2:p.kind=2
 case pos =>
  have key:a2g p↔ofC p≠none:=by unfold a2g; simp[k2]
  refine walk ?_
  refine a0b (d5h (n:=n) (by omega) (p:=p) (by exact hok) hl hc) rfl rfl rfl rfl ?_
  rintro v h3 ⟨x3,c3⟩
  cases e:ofC p with
  |none =>
   rw[e] at c3 key
   subst c3
   refine walk ?_
   exact a0e (by exact hres) (a3w (by simp[key]))
  |some l =>
   rw[e] at c3 key
   obtain⟨u,rfl,ls⟩:=c3
   refine walk ?_
   exact a0e (by exact hres) (b5l (by simp[key]))
 by_cases k3:p.kind=3
 case pos =>
  have key:a2g p↔ofB p≠none:=by unfold a2g; simp[k3]
  refine walk ?_
  refine a0b (d5r (n:=n) (by omega) (p:=p) (by exact hok) hl hc) rfl rfl rfl rfl ?_
  rintro v h3 ⟨x3,c3⟩
  cases e:ofB p with
  |none =>
   rw[e] at c3 key
   subst c3
   refine walk ?_
   exact a0e (by exact hres) (a3w (by simp[key]))
  |some l =>
   rw[e] at c3 key
   obtain⟨u,rfl,ls⟩:=c3
   refine walk ?_
   exact a0e (by exact hres) (b5l (by simp[key]))
 by_cases k4:p.kind=4
 case pos =>
  have key:a2g p↔ofI p≠none:=by unfold a2g; simp[k4]
  refine walk ?_
  refine a0b (d6d (n:=n) (by omega) (p:=p) (by exact hok) hl hc) rfl rfl rfl rfl ?_
  rintro v h3 ⟨x3,c3⟩
  cases e:ofI p with
  |none =>
   rw[e] at c3 key
   subst c3
   refine walk ?_
   exact a0e (by exact hres) (a3w (by simp[key]))
  |some l =>
   rw[e] at c3 key
   obtain⟨u,rfl,ls⟩:=c3
   refine walk ?_
   exact a0e (by exact hres) (b5l (by simp[key]))
 by_cases k5:p.kind=5
 case pos =>
  have key:a2g p↔a6z p:=by unfold a2g; simp[k5]
  refine walk ?_
  refine a3e (d6k (n:=n) (by omega) (p:=p) (by omega) _) rfl rfl rfl rfl ?_
  unfold ofO
  by_cases c:a6z p
  ·rw[if_pos c]
   refine walk ?_
   exact a0e (by exact hres) (b5l (by simpa [key] using c))
  ·rw[if_neg c]
   refine walk ?_
   exact a0e (by exact hres) (a3w (by simpa [key] using c))
 by_cases k6:p.kind=6
 case pos =>
  have key:a2g p↔ofR p≠none:=by unfold a2g; simp[k6]
  refine walk ?_
  refine a0b (e6d (n:=n) (by omega) (p:=p) (by exact hok) hl hc) rfl rfl rfl rfl ?_
  rintro v h3 ⟨x3,c3⟩
  cases e:ofR p with
  |none =>
   rw[e] at c3 key
   subst c3
   refine walk ?_
   exact a0e (by exact hres) (a3w (by simp[key]))
  |some l =>
   rw[e] at c3 key
   obtain⟨u,rfl,ls⟩:=c3
   refine walk ?_
   exact a0e (by exact hres) (b5l (by simp[key]))
 have key:¬ a2g p:=by unfold a2g; simp[k2,k3,k4,k5,k6]
 refine walk ?_
 exact a0e (by exact hres) (a3w key)
theorem a4t (z:Int) (img:List UInt8) (p:Nat):((a0u z img p).2=0→a7a z (a0u z img p).1):=by
 unfold a0u b1a
 split
 ·split
  ·split
   ·rename_i _ _ c
    exact fun _=>c.2.1
   ·intro h; cases h
  ·intro h; cases h
 ·intro h; cases h
noncomputable def a1v (z:Int) (img:List UInt8) (p:Nat) (k:Int):Pg×Bool:=if(a0u z img p).2=0∧(a0u z img p).1.kind=k∧a2g (a0u z img p).1 then((a0u z img p).1,true) else(Pg.zero,false)
theorem d5n {n:Nat}(hn:8<n) (z:Int) (img:List UInt8) (p:Nat) (k:Int) (hi:img.length<1000000) (hp:p<4294967296) (h:a0a):(TV n).sm 80 [.int .i64 z,.str img,.int .u32 p,.int .i64 k] h=some (.tuple [(a1v z img p k).1.av,.bool (a1v z img p k).2],h):=by
 refine a3b hn rfl rfl rfl fun n hn=>a0s rfl rfl ?_
 have w1:=c8b (n:=n) (by omega) z img p hi hp
 have hm:=a4t z img p
 unfold a1v
 generalize a0u z img p=r at w1 hm ⊢
 obtain⟨g,e⟩:=r
 dsimp only at w1 hm ⊢
 by_cases c1:e=0
 case neg =>
  rw[if_neg fun c=>c1 c.1]
  exact auto
 by_cases c2:g.kind=k
 case neg =>
  rw[if_neg fun c=>c2 c.2.1]
  exact auto
 have m:=hm c1
 have rl:=room_le z
 have w2:=e6e (n:=n) (by omega) (p:=g) (by unfold a7a at m; omega) (by unfold a7a at m; omega)
 by_cases c3:a2g g
 ·rw[if_pos ⟨c1,c2,c3⟩]
  rw[decide_eq_true c3] at w2
  exact auto
 ·rw[if_neg fun c=>c3 c.2.2]
  rw[decide_eq_false c3] at w2
  exact auto
set_option maxRecDepth 10000
set_option maxHeartbeats 4000000
theorem d4c {n:Nat}(hn:4<n){z:Int}{p nx tx:Nat}{s:List UInt8}(hl:s.length≤1000000) (h:a0a):(TV n).sm 104 [.int .i64 z,.int .u32 p,.int .u32 nx,.int .u64 tx,.str s] h=some (.tuple [(b4f z p nx tx s).1.av,.int .i64 (b4f z p nx tx s).2],h):=by
 refine a3b hn rfl rfl rfl fun n hn=>a0s rfl rfl ?_
 have w1:=b2e (n:=n) (by omega) z
 have w2:=a4q (n:=n) (by omega) p
 have w3:=a4q (n:=n) (by omega) nx
 unfold b4f
 by_cases c:okO z p nx tx s
 case neg =>
  rw[if_neg c]
  by_cases c1:room z=0
  ·exact auto
  by_cases c2:s=[]
  ·exact auto
  by_cases c3:(s.length:Int)≤room z
  case neg=>exact auto
  by_cases c4:num p
  case neg=>exact auto
  by_cases c5:tx≤4611686018427387904
  case neg=>exact auto
  have c6:¬ nx=0:=fun e=>c ⟨c1,c2,c3,c4,c5,.inl e⟩
  by_cases c7:num nx
  case neg=>exact auto
  have c8:(s.length:Int)<room z:=Decidable.byContradiction fun e=>c ⟨c1,c2,c3,c4,c5,.inr ⟨c7,e⟩⟩
  exact auto
 rw[if_pos c]
 obtain⟨c1,c2,c3,c4,c5,c6⟩:=c
 have fin:∀ {k:List K} {L:List (Nat×AV)} {Q:Res→Prop},True:=trivial
 by_cases c7:nx=0
 ·refine walk ?_
  refine a1k rfl rfl rfl (c1a (d:=.string) (by omega) rfl rfl rfl rfl rfl) ?_
  refine walk ?_
  refine a3e (b2m (n:=n) (by omega) (z:=z) (b8h _ _ s) (by exact hok) rfl) rfl rfl rfl rfl ?_
  rw[a4j]
  refine walk ?_
  exact a0d (by exact hres) rfl
 ·obtain⟨c8,c9⟩:num nx∧¬ (s.length:Int)<room z:=c6.resolve_left c7
  refine walk ?_
  refine a1k rfl rfl rfl (c1a (d:=.string) (by omega) rfl rfl rfl rfl rfl) ?_
  refine walk ?_
  refine a3e (b2m (n:=n) (by omega) (z:=z) (b8h _ _ s) (by exact hok) rfl) rfl rfl rfl rfl ?_
  rw[a4j]
  refine walk ?_
  exact a0d (by exact hres) rfl
theorem c9s {n:Nat}(hn:5<n){p:Pg}(hl:p.body.length≤1000000) (h:a0a):(TV n).sm 71 [p.av] h=some (ofO p,h):=by
 refine a3b hn rfl rfl (by unfold ofO; split<;>rfl) fun n hn=>a0s rfl rfl ?_
 unfold ofO
 by_cases c1:0≤p.count
 case neg=>rw[if_neg fun c=>c1 c.1]; exact auto
 by_cases c2:p.count≤p.body.length
 case neg=>rw[if_neg fun c=>c2 c.2.1]; exact auto
 obtain⟨m,hm⟩:=Int.eq_ofNat_of_zero_le c1
 have em:p.count.toNat=m:=by omega
 have w1:=d4c (n:=n) (by omega) (z:=(p.body.length:Int)+24) (p:=p.page) (nx:=p.link) (tx:=p.tx) (s:=p.body.take p.count.toNat) (by rw[List.length_take]; omega)
 have key:a6z p↔b4f ((p.body.length:Int)+24) p.page p.link p.tx (p.body.take p.count.toNat)=(p,0):=⟨fun c=>c.2.2,fun c=>⟨c1,c2,c⟩⟩
 generalize b4f ((p.body.length:Int)+24) p.page p.link p.tx (p.body.take p.count.toNat)=r at key w1
 obtain⟨r1,r2⟩:=r
 refine walk ?_
 by_cases c3:r2=0
 case neg =>
  rw[if_neg fun q=>c3 (congrArg Prod.snd (key.1 q))]
  refine walk ?_
  exact a0d (by exact hres) rfl
 subst c3
 refine walk ?_
 refine a1k rfl rfl rfl (a3n rfl rfl rfl (a8s (a5j r1 p) rfl) rfl) ?_
 by_cases c4:r1=p
 ·rw[if_pos (key.2 (by rw[c4]))]
  refine walk ?_
  refine a0c (q:=6) (ms:=[0,0,2,1,15,31]) (hl:=[[47,48],[46,2],[46,2],[47,48],[],[]]) hok rfl (by kernel_rfl) (by kernel_rfl) rfl ?_
  refine walk ?_
  exact a0d (by exact hres) rfl
 ·rw[if_neg fun q=>c4 (congrArg Prod.fst (key.1 q))]
  refine walk ?_
  exact a0d (by exact hres) rfl
theorem e7l {n:Nat}(hn:2<n) (z:Int) (h:a0a):(TV n).sm 133 [.int .i64 z] h=some (.int .i64 (most z),h):=by
 refine a3b hn rfl rfl rfl fun n hn=>a0s rfl rfl ?_
 have w1:=b2e (n:=n) (by omega) z
 have:=room_le z
 have e:(room z).tdiv 4=room z / 4:=Int.tdiv_eq_ediv_of_nonneg (by omega)
 unfold most
 rw[← e]
 have:0≤(room z).tdiv 4:=by omega
 have:(room z).tdiv 4≤4072:=by omega
 exact auto
theorem e4g {n:Nat}(hn:0<n){v:AV}{l:List Nat}{h:a0a}(ls:LsN h v l) (hk:h.ok) (ht:l.length≤70000):(TV n).sm 158 [v] h=some (.bool (decide (a8x l)),h):=by
 refine a9d hn (fun h=>h.ok∧LsN h v l) rfl rfl ⟨hk,ls⟩ (fun hp=>⟨a2f,ls.any (by simpa [AV.a1q,AV.plain] using hp)⟩) ?_
 clear hk ls h
 rintro n hn h ⟨hk,ls⟩
 refine a0s rfl rfl ?_
 have hlen:=ls.len
 refine walk ?_
 refine a0n (fun i=>l.length+1-i) (fun i=>[(0,v),(3,.int .i64 (i:Nat))]) (fun i h2=>1≤i∧i≤l.length+1∧Ext h h2∧∀ j a b,j+1<i→l[j]?=some a→l[j+1]?=some b→a<b) 1 hsub ⟨by omega,by omega,.refl h,fun j a b hj=>by omega⟩ ?_
 rintro i h2 ⟨h1,hi,x2,inv⟩ next
 have ok2:=x2.ok hk
 by_cases hil:i<l.length
 ·obtain⟨j,rfl⟩:∃ j,i=j+1:=⟨i-1,by omega⟩
  obtain⟨x,hx⟩:∃ x,l[j]?=some x:=⟨l[j],List.getElem?_eq_getElem (by omega)⟩
  obtain⟨y,hy⟩:∃ y,l[j+1]?=some y:=⟨l[j+1],List.getElem?_eq_getElem (by omega)⟩
  obtain⟨b,p,e,all,rw',hb,hg,hpl,he,a1⟩:=(ls.ext x2).at a2k hx
  obtain⟨b',p',e',all',rw2,hb',hg',hpl',he',a2⟩:=(ls.ext x2).at a2k hy
  have he:(all.drop p).take 1=[.int .u32 x]:=he
  have he':(all'.drop p').take 1=[.int .u32 y]:=he'
  by_cases c:x<y
  ·refine walk ?_
   refine a0c (q:=10) (ms:=[0,0,2,7,15,0,0,96,224,511]) (hl:=[[11,12,15,16,17,18],[10,15,16,17,18],[10,15,16,17,18],[15,16,17,18],[15,16,17,18],[10,11,12,13,14,16],[10,11,12,13,14,15],[10,11,12,13,14],[10,11,12,13,14],[]]) hok rfl (by kernel_rfl) (by kernel_rfl) rfl ?_
   refine walk ?_
   refine next (j+1+1) (by omega) hsub ⟨by omega,by omega,by exact a0j,fun k a b hk ha hb=>?_⟩
   rcases Nat.lt_or_ge (k+1) (j+1) with q|q
   ·exact inv k a b q ha hb
   ·obtain rfl:k=j:=by omega
    rw[hx] at ha; rw[hy] at hb
    cases ha; cases hb
    exact c
  ·have bad:¬ a8x l:=fun r=>c (r j x y hx hy)
   refine walk ?_
   refine a0c (q:=10) (ms:=[0,0,2,7,15,0,0,96,224,511]) (hl:=[[11,12,15,16,17,18],[10,15,16,17,18],[10,15,16,17,18],[15,16,17,18],[15,16,17,18],[10,11,12,13,14,16],[10,11,12,13,14,15],[10,11,12,13,14],[10,11,12,13,14],[]]) hok rfl (by kernel_rfl) (by kernel_rfl) rfl ?_
   refine walk ?_
   exact a0e hres ⟨a3w bad,by exact a0j⟩
 ·have fin:a8x l:=fun j a b ha hb=>inv j a b (by
   have:=(List.getElem?_eq_some_iff.1 hb).1
   omega) ha hb
  refine walk ?_
  exact a0e hres ⟨b5l fin,by exact a0j⟩
theorem d3a {n:Nat}(hn:1<n){v:AV}{l:List Nat}{h:a0a}(ls:LsN h v l) (hk:h.ok) (ht:l.length≤70000):(TV n).sm 132 [v] h=some (.bool (decide (a9r l∧a8x l)),h):=by
 refine a9d hn (fun h=>h.ok∧LsN h v l) rfl rfl ⟨hk,ls⟩ (fun hp=>⟨a2f,ls.any (by simpa [AV.a1q,AV.plain] using hp)⟩) ?_
 clear hk ls h
 rintro n hn h ⟨hk,ls⟩
 refine a0s rfl rfl ?_
 have hlen:=ls.len
 refine walk ?_
 refine a0n (fun i=>l.length-i) (fun i=>[(0,v),(3,.int .i64 (i:Nat))]) (fun i h2=>i≤l.length∧Ext h h2∧∀ j b,j<i→l[j]?=some b→num b) 0 hsub ⟨by omega,.refl h,fun j b hj=>by omega⟩ ?_
 rintro i h2 ⟨hi,x2,inv⟩ next
 have ok2:=x2.ok hk
 by_cases hil:i<l.length
 ·obtain⟨y,hy⟩:∃ y,l[i]?=some y:=⟨l[i],List.getElem?_eq_getElem hil⟩
  obtain⟨b,p,e,all,rw',hb,hg,hpl,he,a1⟩:=(ls.ext x2).at a2k hy
  have he:(all.drop p).take 1=[.int .u32 y]:=he
  have w1:=a4q (n:=n) (by omega) y
  by_cases c:num y
  ·rw[decide_eq_true c] at w1
   refine walk ?_
   refine next (i+1) (by omega) hsub ⟨by omega,by exact a0j,fun k b hk hb=>?_⟩
   rcases Nat.lt_or_ge k i with q|q
   ·exact inv k b q hb
   ·obtain rfl:k=i:=by omega
    rw[hy] at hb; cases hb
    exact c
  ·rw[decide_eq_false c] at w1
   have bad:¬ (a9r l∧a8x l):=fun r=>c (r.1 y (List.mem_of_getElem? hy))
   refine walk ?_
   exact a0e hres ⟨a3w bad,by exact a0j⟩
 ·have fin:a9r l:=fun x hx=>by
   obtain⟨j,hj⟩:=List.getElem?_of_mem hx
   exact inv j x (by have:=(List.getElem?_eq_some_iff.1 hj).1; omega) hj
  have w1:=e4g (n:=n) (by omega) (ls.ext x2) ok2 ht
  have e:a9r l∧a8x l↔a8x l:=⟨fun c=>c.2,fun c=>⟨fin,c⟩⟩
  refine walk ?_
  refine a3e w1 rfl rfl rfl rfl ?_
  refine walk ?_
  exact a0e hres ⟨d1n e.symm,by exact a0j⟩
theorem e1c {z:Int}(g:¬ Good z):most z=0:=by unfold most; rw[c3h g]; rfl
theorem d7w {z:Int}(g:Good z):most z≠0:=by
 have g1:=g.1
 have e:room z=z-24:=by unfold room; rw[if_pos g]
 unfold most
 rw[e]
 omega
theorem d5e {n:Nat}(hn:4<n){z:Int}{p nx tx:Nat}{v:AV}{l:List Nat}{h:a0a}(ls:LsN h v l) (hk:h.ok) (t1:l.length≤70000):(TV n).sm 105 [.int .i64 z,.int .u32 p,.int .u32 nx,.int .u64 tx,v] h=some (.tuple [(b4p z p nx tx l).1.av,.int .i64 (b4p z p nx tx l).2],h):=by
 refine a9d hn (fun h=>h.ok∧LsN h v l) rfl rfl ⟨hk,ls⟩ (fun hp=>⟨a2f,ls.any (by simpa [AV.a1q,AV.plain] using hp)⟩) ?_
 clear hk ls h
 rintro n hn h ⟨hk,ls⟩
 refine a0s rfl rfl ?_
 have hlen:=ls.len
 have w1:=e7l (n:=n) (by omega) z
 have w2:=a4q (n:=n) (by omega) p
 have w4:=a4q (n:=n) (by omega) nx
 have w5:=a6p (n:=n) (by omega) z
 have x0:Ext h (h.alloc (.cells 64 Pg.zero.cs true)):=Ext.alloc _ _
 have w3:=d3a (n:=n) (by omega) (ls.ext x0) (x0.ok hk) t1
 unfold b4p
 by_cases c0:Good z
 case neg =>
  rw[if_neg fun c=>c.1 (e1c c0)]
  rw[decide_eq_false c0] at w5
  exact auto
 have c1:=d7w c0
 rw[decide_eq_true c0] at w5
 refine walk ?_
 refine a3e w3 rfl rfl rfl rfl ?_
 by_cases c34:a9r l∧a8x l
 case neg=>rw[if_neg fun c=>c34 ⟨c.2.2.2.1,c.2.2.1⟩]; exact auto
 have c4:=c34.1
 have c3:=c34.2
 by_cases c2:(l.length:Int)≤most z
 case neg=>rw[if_neg fun c=>c2 c.2.1]; exact auto
 by_cases c5:num p
 case neg=>rw[if_neg fun c=>c5 c.2.2.2.2.1]; exact auto
 by_cases c6:nx=0∨num nx
 case neg =>
  rw[if_neg fun c=>c6 c.2.2.2.2.2.1]
  have d1:¬ (nx:Int)=0:=fun e=>c6 (.inl (by omega))
  have d2:¬ num nx:=fun e=>c6 (.inr e)
  rw[decide_eq_false d2] at w4
  exact auto
 have c7:(nx:Int)=0∨¬ (nx:Int)=0∧num nx:=by
  rcases Nat.eq_zero_or_pos nx with q|q
  ·exact .inl (by omega)
  ·exact .inr ⟨by omega,c6.resolve_left (by omega)⟩
 by_cases c8:tx≤4611686018427387904
 case neg =>
  rw[if_neg fun c=>c8 c.2.2.2.2.2.2]
  rcases c7 with c7|⟨c7,c9⟩
  ·exact auto
  ·exact auto
 rw[if_pos (show okR z p nx tx l from⟨c1,c2,c3,c4,c5,c6,c8⟩)]
 have rz:=room_le z
 have hm:l.length≤1018:=by unfold most at c2; omega
 rcases c7 with c7|⟨c7,c9⟩
 all_goals
  refine walk ?_
  refine a0n (ι:=Nat×AV) (fun a=>l.length-a.1) (fun a=>[(0,.int .i64 z),(1,.int .u32 p),(2,.int .u32 nx),(3,.int .u64 tx),(4,v),(10,.ptr h.next 0),(12,a.2),(13,.int .i64 (a.1:Nat))]) (fun a h3=>a.1≤l.length∧Ext (h.alloc (.cells 64 Pg.zero.cs true)) h3∧a2t 5 (h.next+1) h3 a.2 (c4k (l.take a.1))) (0,.nilslice) hsub ⟨by omega,.refl _,a2t.nil⟩ ?_
  rintro⟨i,u⟩ h3 ⟨hi,x3,ow⟩ next
  dsimp only at hi ow next ⊢
  have nx3:h.next+1≤h3.next:=x3.nx
  have g9:h3.get h.next=some (.cells 64 Pg.zero.cs true):=(x3.old _ (by show h.next<h.next+1; omega)).trans (a0t _ _)
  have ok3:=x3.ok (x0.ok hk)
  have hsz:(c4k (l.take i)).length≤4072:=by rw[d1j,List.length_take]; omega
  by_cases hil:i<l.length
  ·obtain⟨y,hy⟩:∃ y,l[i]?=some y:=⟨l[i],List.getElem?_eq_getElem hil⟩
   obtain⟨b,p',e,all,rw',hb,hg,hpl,he,a1⟩:=((ls.ext x0).ext x3).at a2k hy
   have he:(all.drop p').take 1=[.int .u32 y]:=he
   have yb:y≤2147483647:=(c4 y (List.mem_of_getElem? hy)).2
   refine walk ?_
   refine a0b (a9p ow.by (by omega) (by decide) (by decide) (by omega) ow.by.ns) rfl rfl rfl rfl ?_
   rintro v5 g5 ⟨o5,x5⟩
   refine walk ?_
   refine next (i+1,v5) (by simp only; omega) hsub ⟨by simp only; omega,by exact a0j,?_⟩
   simp only
   rw[c6k l i y hy]
   exact a2t.lo o5 (by omega)
  ·have e1:l.take i=l:=List.take_of_length_le (by omega)
   rw[e1] at ow
   have w5:=b2m (n:=n) (by omega) (z:=z) ow.by ok3 ow.by.ns
   rw[a4j] at w5
   refine walk ?_
   refine a3e w5 rfl rfl rfl rfl ?_
   refine walk ?_
   exact a0d (by exact hres) ⟨rfl,by exact a0j⟩
theorem e4j {n:Nat}(hn:6<n){p:Pg}{h:a0a}(hk:h.ok) (hl:p.body.length≤100000) (hc:p.count<1000000000):a0l (TV n) 72 [p.av] h (fun v h'=>Ext h h'∧match ofR p with
  |none=>v=.tuple [.nilslice,.int .u32 0,.int .i64 4]
  |some l=>∃ u,v=.tuple [u,.int .u32 p.link,.int .i64 0]∧LsN h' u l):=by
 refine a0r (a1x rfl rfl) rfl rfl ?_
 refine walk ?_
 refine a0b (d7o p.body _) rfl rfl rfl rfl ?_
 rintro _ _ ⟨rfl,rfl⟩
 refine walk ?_
 refine a0n (ι:=Nat×AV×List Nat×List UInt8) (fun a=>p.count.toNat-a.1) (fun a=>[(1,.ptr h.next 0),(5,.ptr (h.next+1) 0),(6,a.2.1),(7,.int .i64 (a.1:Nat))]) (fun a h2=>Ext h h2∧h.next+2≤h2.next∧h2.get h.next=some (.cells 64 p.cs true)∧h2.get (h.next+1)=some (.cells 166 [.str a.2.2.2] true)∧c5l (h.next+2) h2 a.2.1 a.2.2.1∧a.1=a.2.2.1.length∧4*a.1+a.2.2.2.length≤p.body.length∧(0<a.1→(a.1:Int)≤p.count)∧a7d p.count.toNat p.body=(a7d (p.count.toNat-a.1) a.2.2.2).map (a.2.2.1 ++ ·)) (0,.nilslice,[],p.body) hsub ⟨by exact a0j,by show h.next+2≤h.next+1+1; omega,by exact a0g,by exact a0g,a9g.nil,rfl,by simp,by simp,by simp⟩ ?_
 rintro⟨i,u,acc,s⟩ h2 ⟨x2,n2,g0,g1,ow,ei,len,cnt,par⟩ next
 dsimp only at g1 ow ei len par next cnt ⊢
 subst ei
 have ok2:=x2.ok hk
 by_cases hi:(acc.length:Int)<p.count
 ·have par':p.count.toNat-acc.length=(p.count.toNat-(acc.length+1))+1:=by omega
  rw[par'] at par
  have e0:a7d ((p.count.toNat-(acc.length+1))+1) s=if 4≤s.length then(a7d (p.count.toNat-(acc.length+1)) (a0h 4 s)).map (a0o 4 s :: ·) else none:=rfl
  rw[e0] at par
  have v2:=a1s 4 s
  refine walk ?_
  refine a0b (b0j (n:=4) g1 (by omega) (by omega) (by decide) (by decide)) rfl rfl rfl rfl ?_
  rintro _ h3 ⟨rfl,u3⟩
  have n3:=u3.nx
  have k3:a4g (h.next+1) h2 h3:=⟨by omega,fun c hc=>u3.old c (by omega),fun _=>u3.ok ok2⟩
  have x3:Ext h h3:=x2.kp k3 (by omega)
  have o3:c5l (h.next+2) h3 u acc:=Own.keep ow (fun c h1 h2'=>u3.old c (by omega)) (by omega)
  by_cases c:4≤s.length
  case neg =>
   have e4:ofR p=none:=by unfold ofR; rw[par,if_neg c]; rfl
   rw[e4,a5k c]
   refine walk ?_
   exact a0d (by exact hres) ⟨x3,rfl⟩
  rw[if_pos c] at par
  rw[a4b c]
  have l4:=a2q c
  obtain⟨v7,h7,e7,o7,k7⟩:=a8g (T:=TV n) (st:=42) (rest:=[42]) (h:=h3.alloc (.cells 29 (a3a (a0o 4 s)) true)) (x:=a0o 4 s) (o3.ext (Ext.alloc _ _)) (a0t _ _) (by show h3.next<h3.next+1; omega) (by show h.next+2≤h3.next+1; omega) (by omega) rfl rfl rfl rfl rfl (by exact Nat.le_of_ble_eq_true rfl) rfl (by decide) rfl
  have n7:h3.next+1≤h7.next:=k7.nx
  have e7:a1h (TV n) [u,.slice h3.next 0 1 1] [42,42] (h3.alloc (.cells 29 [.int .u32 (a0o 4 s)] true))=.val v7 h7:=e7
  refine walk ?_
  refine next (acc.length+1,v7,acc++[a0o 4 s],a0h 4 s) (by simp only; omega) (by exact hsub) ⟨by exact a0j,by omega,by exact a0g,by exact a0g,o7,by simp,?_,?_,?_⟩
  ·simp only; omega
  ·simp only; omega
  ·rw[par]
   simp only[Option.map_map]
   congr 1
   funext x
   simp
 ·have e0:p.count.toNat-acc.length=0:=by
   rcases Nat.eq_zero_or_pos acc.length with q|q
   ·omega
   ·have:=cnt q; omega
  have e1:a7d p.count.toNat p.body=some acc:=by rw[par,e0]; simp[a7d]
  have w1:=d5e (n:=n) (by omega) (z:=(p.body.length:Int)+24) (p:=p.page) (nx:=p.link) (tx:=p.tx) (h:=h2) ow.ls ok2 (by omega)
  refine walk ?_
  refine a3e w1 rfl rfl rfl rfl ?_
  have key:ofR p=if b4p ((p.body.length:Int)+24) p.page p.link p.tx acc=(p,0) then some acc else none:=by unfold ofR; rw[e1]
  generalize b4p ((p.body.length:Int)+24) p.page p.link p.tx acc=r at key ⊢
  obtain⟨r1,r2⟩:=r
  by_cases c1:r2=0
  case neg =>
   rw[key,if_neg fun e=>c1 (congrArg Prod.snd e)]
   refine walk ?_
   exact a0d (by exact hres) ⟨by exact a0j,rfl⟩
  subst c1
  refine walk ?_
  refine a1k rfl rfl rfl (a3n rfl rfl rfl (a8s (a5j r1 p) rfl) rfl) ?_
  by_cases c2:r1=p
  ·rw[key,if_pos (by rw[c2])]
   refine walk ?_
   refine a0c (q:=6) (ms:=[0,0,2,1,15,31]) (hl:=[[56,57],[55,2],[55,2],[56,57],[],[]]) hok rfl (by kernel_rfl) (by kernel_rfl) rfl ?_
   refine walk ?_
   refine a0d (by exact hres) ⟨by exact a0j,u,rfl,ow.ls.ext (by exact a0j)⟩
  ·rw[key,if_neg fun e=>c2 (congrArg Prod.fst e)]
   refine walk ?_
   exact a0d (by exact hres) ⟨by exact a0j,rfl⟩
set_option maxRecDepth 10000
set_option maxHeartbeats 4000000
theorem e1h {n:Nat}(hn:8<n) (z:Int) (img:List UInt8) (p:Nat) (k:Int) (hi:img.length<1000000) (hp:p<4294967296) (h:a0a):(TV n).sm 35 [.int .i64 z,.str img,.int .u32 p,.int .i64 k] h=some (.tuple [(a1v z img p k).1.av,.bool (a1v z img p k).2],h):=by
 refine a3b hn rfl rfl rfl fun n hn=>a0s rfl rfl ?_
 have w1:=c0w (n:=n) (by omega) z img p hi hp
 have hm:=a4t z img p
 unfold a1v
 generalize a0u z img p=r at w1 hm ⊢
 obtain⟨g,e⟩:=r
 dsimp only at w1 hm ⊢
 by_cases c1:e=0
 case neg =>
  rw[if_neg fun c=>c1 c.1]
  exact auto
 subst c1
 by_cases c2:g.kind=k
 case neg =>
  rw[if_neg fun c=>c2 c.2.1]
  exact auto
 have m:=hm rfl
 have rl:=room_le z
 have bl:g.body.length≤100000:=by unfold a7a at m; omega
 have bc:g.count<1000000000:=by unfold a7a at m; omega
 clear hm
 by_cases k2:k=2
 case pos =>
  have key:a2g g↔ofC g≠none:=by unfold a2g; simp[c2,k2]
  refine walk ?_
  refine a0b (c9q (n:=n) (by omega) (p:=g) (by exact hok) bl bc) rfl rfl rfl rfl ?_
  rintro v h3 ⟨x3,c3⟩
  cases e:ofC g with
  |none =>
   rw[e] at c3 key
   subst c3
   rw[if_neg fun c=>by have:=key.1 c.2.2; exact absurd rfl this]
   refine walk ?_
   exact a0d (by exact hres) rfl
  |some l =>
   rw[e] at c3 key
   obtain⟨u,rfl,ls⟩:=c3
   rw[if_pos ⟨rfl,c2,key.2 (by simp)⟩]
   refine walk ?_
   exact a0d (by exact hres) rfl
 by_cases k3:k=3
 case pos =>
  have key:a2g g↔ofB g≠none:=by unfold a2g; simp[c2,k3]
  refine walk ?_
  refine a0b (d1f (n:=n) (by omega) (p:=g) (by exact hok) bl bc) rfl rfl rfl rfl ?_
  rintro v h3 ⟨x3,c3⟩
  cases e:ofB g with
  |none =>
   rw[e] at c3 key
   subst c3
   rw[if_neg fun c=>by have:=key.1 c.2.2; exact absurd rfl this]
   refine walk ?_
   exact a0d (by exact hres) rfl
  |some l =>
   rw[e] at c3 key
   obtain⟨u,rfl,ls⟩:=c3
   rw[if_pos ⟨rfl,c2,key.2 (by simp)⟩]
   refine walk ?_
   exact a0d (by exact hres) rfl
 by_cases k4:k=4
 case pos =>
  have key:a2g g↔ofI g≠none:=by unfold a2g; simp[c2,k4]
  refine walk ?_
  refine a0b (d0t (n:=n) (by omega) (p:=g) (by exact hok) bl bc) rfl rfl rfl rfl ?_
  rintro v h3 ⟨x3,c3⟩
  cases e:ofI g with
  |none =>
   rw[e] at c3 key
   subst c3
   rw[if_neg fun c=>by have:=key.1 c.2.2; exact absurd rfl this]
   refine walk ?_
   exact a0d (by exact hres) rfl
  |some l =>
   rw[e] at c3 key
   obtain⟨u,rfl,ls⟩:=c3
   rw[if_pos ⟨rfl,c2,key.2 (by simp)⟩]
   refine walk ?_
   exact a0d (by exact hres) rfl
 by_cases k5:k=5
 case pos =>
  have key:a2g g↔a6z g:=by unfold a2g; simp[c2,k5]
  refine walk ?_
  refine a3e (c9s (n:=n) (by omega) (p:=g) (by omega) _) rfl rfl rfl rfl ?_
  unfold ofO
  by_cases c:a6z g
  ·rw[if_pos c,if_pos ⟨rfl,c2,key.2 c⟩]
   refine walk ?_
   exact a0d (by exact hres) rfl
  ·rw[if_neg c,if_neg fun d=>c (key.1 d.2.2)]
   refine walk ?_
   exact a0d (by exact hres) rfl
 by_cases k6:k=6
 case pos =>
  have key:a2g g↔ofR g≠none:=by unfold a2g; simp[c2,k6]
  refine walk ?_
  refine a0b (e4j (n:=n) (by omega) (p:=g) (by exact hok) bl bc) rfl rfl rfl rfl ?_
  rintro v h3 ⟨x3,c3⟩
  cases e:ofR g with
  |none =>
   rw[e] at c3 key
   subst c3
   rw[if_neg fun c=>by have:=key.1 c.2.2; exact absurd rfl this]
   refine walk ?_
   exact a0d (by exact hres) rfl
  |some l =>
   rw[e] at c3 key
   obtain⟨u,rfl,ls⟩:=c3
   rw[if_pos ⟨rfl,c2,key.2 (by simp)⟩]
   refine walk ?_
   exact a0d (by exact hres) rfl
 have key:¬ a2g g:=by unfold a2g; simp[c2,k2,k3,k4,k5,k6]
 rw[if_neg fun d=>key d.2.2]
 refine walk ?_
 exact a0d (by exact hres) rfl
end Go.Proofs.YtejfbaecadbdiaaGreat
