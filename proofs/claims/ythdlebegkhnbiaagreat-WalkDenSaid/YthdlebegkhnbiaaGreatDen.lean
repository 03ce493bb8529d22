/- What the functions of this part answer at any input, told by the rules over the evaluator. Conditions: those that each theorem states. -/
import Derived.Test.YthdlebegkhnbiaaGreatLof
import Derived.Test.YthdlebegkhnbiaaGreatRf8
import Derived.Test.YthdlebegkhnbiaaGreatOvr
set_option linter.unusedVariables false
set_option linter.unusedSimpArgs false
open Go Ev
namespace Go.Proofs.YthdlebegkhnbiaaGreat
set_option maxRecDepth 10000
set_option maxHeartbeats 4000000
def rightP (p:Pg):Prop:=p.kind=2∧ofC p≠none∨p.kind=3∧ofB p≠none∨p.kind=4∧ofI p≠none∨p.kind=5∧okOf p∨p.kind=6∧ofR p≠none
noncomputable instance (p:Pg):Decidable (rightP p):=Classical.propDecidable _
theorem right_w {n:Nat} (hn:7<n) {p:Pg} (hl:p.body.length≤100000) (hc:p.count<1000000000) (h:Heap):(TV n).sm 73 [p.av] h=some (.bool (decide (rightP p)),h):=by
 refine w_of hn rfl rfl rfl fun n hn=>body_j rfl rfl ?_
 have ok0:Heap.ok ⟨.nil,0⟩:=ok_nil
 generalize (⟨.nil,0⟩:Heap)=h at ok0 ⊢
 by_cases k2:p.kind=2
 case pos =>
  have key:rightP p↔ofC p≠none:=by unfold rightP; simp [k2]
  refine walk ?_
  refine jo_call (catOf_g (n:=n) (by omega) (p:=p) (by exact hok) hl hc) rfl rfl rfl rfl ?_
  rintro v h3 ⟨x3,c3⟩
  cases e:ofC p with
  |none =>
   rw [e] at c3 key
   subst c3
   refine walk ?_
   exact jg_ret1 (by exact hres) (av_f (by simp [key]))
  |some l =>
   rw [e] at c3 key
   obtain ⟨u,rfl,ls⟩:=c3
   refine walk ?_
   exact jg_ret1 (by exact hres) (av_t (by simp [key]))
 by_cases k3:p.kind=3
 case pos =>
  have key:rightP p↔ofB p≠none:=by unfold rightP; simp [k3]
  refine walk ?_
  refine jo_call (braOf_g (n:=n) (by omega) (p:=p) (by exact hok) hl hc) rfl rfl rfl rfl ?_
  rintro v h3 ⟨x3,c3⟩
  cases e:ofB p with
  |none =>
   rw [e] at c3 key
   subst c3
   refine walk ?_
   exact jg_ret1 (by exact hres) (av_f (by simp [key]))
  |some l =>
   rw [e] at c3 key
   obtain ⟨u,rfl,ls⟩:=c3
   refine walk ?_
   exact jg_ret1 (by exact hres) (av_t (by simp [key]))
 by_cases k4:p.kind=4
 case pos =>
  have key:rightP p↔ofI p≠none:=by unfold rightP; simp [k4]
  refine walk ?_
  refine jo_call (leaOf_g (n:=n) (by omega) (p:=p) (by exact hok) hl hc) rfl rfl rfl rfl ?_
  rintro v h3 ⟨x3,c3⟩
  cases e:ofI p with
  |none =>
   rw [e] at c3 key
   subst c3
   refine walk ?_
   exact jg_ret1 (by exact hres) (av_f (by simp [key]))
  |some l =>
   rw [e] at c3 key
   obtain ⟨u,rfl,ls⟩:=c3
   refine walk ?_
   exact jg_ret1 (by exact hres) (av_t (by simp [key]))
 by_cases k5:p.kind=5
 case pos =>
  have key:rightP p↔okOf p:=by unfold rightP; simp [k5]
  refine walk ?_
  refine jo_w (ovrOf_w (n:=n) (by omega) (p:=p) (by omega) _) rfl rfl rfl rfl ?_
  unfold ofO
  by_cases c:okOf p
  ·rw [if_pos c]
   refine walk ?_
   exact jg_ret1 (by exact hres) (av_t (by simpa [key] using c))
  ·rw [if_neg c]
   refine walk ?_
   exact jg_ret1 (by exact hres) (av_f (by simpa [key] using c))
 by_cases k6:p.kind=6
 case pos =>
  have key:rightP p↔ofR p≠none:=by unfold rightP; simp [k6]
  refine walk ?_
  refine jo_call (freOf_g (n:=n) (by omega) (p:=p) (by exact hok) hl hc) rfl rfl rfl rfl ?_
  rintro v h3 ⟨x3,c3⟩
  cases e:ofR p with
  |none =>
   rw [e] at c3 key
   subst c3
   refine walk ?_
   exact jg_ret1 (by exact hres) (av_f (by simp [key]))
  |some l =>
   rw [e] at c3 key
   obtain ⟨u,rfl,ls⟩:=c3
   refine walk ?_
   exact jg_ret1 (by exact hres) (av_t (by simp [key]))
 have key:¬ rightP p:=by unfold rightP; simp [k2,k3,k4,k5,k6]
 refine walk ?_
 exact jg_ret1 (by exact hres) (av_f key)
theorem pages_len (z:Int) (img:List UInt8) (p:Nat):((readR z img p).2=0→mayF z (readR z img p).1):=by
 unfold readR getR
 split
 ·split
  ·split
   ·rename_i _ _ c
    exact fun _=>c.2.1
   ·intro h; cases h
  ·intro h; cases h
 ·intro h; cases h
noncomputable def rightR (z:Int) (img:List UInt8) (p:Nat) (k:Int):Pg×Bool:=if (readR z img p).2=0∧(readR z img p).1.kind=k∧rightP (readR z img p).1 then ((readR z img p).1,true) else (Pg.zero,false)
theorem Right_w {n:Nat} (hn:8<n) (z:Int) (img:List UInt8) (p:Nat) (k:Int) (hi:img.length<1000000) (hp:p<4294967296) (h:Heap):(TV n).sm 45 [.int .i64 z,.str img,.int .u32 p,.int .i64 k] h=some (.tuple [(rightR z img p k).1.av,.bool (rightR z img p k).2],h):=by
 refine w_of hn rfl rfl rfl fun n hn=>body_j rfl rfl ?_
 have w1:=read_w (n:=n) (by omega) z img p hi hp
 have hm:=pages_len z img p
 unfold rightR
 generalize readR z img p=r at w1 hm ⊢
 obtain ⟨g,e⟩:=r
 dsimp only at w1 hm ⊢
 by_cases c1:e=0
 case neg =>
  rw [if_neg fun c=>c1 c.1]
  exact auto
 by_cases c2:g.kind=k
 case neg =>
  rw [if_neg fun c=>c2 c.2.1]
  exact auto
 have m:=hm c1
 have rl:=room_le z
 have w2:=right_w (n:=n) (by omega) (p:=g) (by unfold mayF at m; omega) (by unfold mayF at m; omega)
 by_cases c3:rightP g
 ·rw [if_pos ⟨c1,c2,c3⟩]
  rw [decide_eq_true c3] at w2
  exact auto
 ·rw [if_neg fun c=>c3 c.2.2]
  rw [decide_eq_false c3] at w2
  exact auto
set_option maxRecDepth 10000
set_option maxHeartbeats 4000000
theorem rovrPage_w {n:Nat} (hn:4<n) {z:Int} {p nx tx:Nat} {s:List UInt8} (hl:s.length≤1000000) (h:Heap):(TV n).sm 65 [.int .i64 z,.int .u32 p,.int .u32 nx,.int .u64 tx,.str s] h=some (.tuple [(pageO z p nx tx s).1.av,.int .i64 (pageO z p nx tx s).2],h):=by
 refine w_of hn rfl rfl rfl fun n hn=>body_j rfl rfl ?_
 have w1:=rroom_w (n:=n) (by omega) z
 have w2:=rnumber_w (n:=n) (by omega) p
 have w3:=rnumber_w (n:=n) (by omega) nx
 unfold pageO
 by_cases c:okO z p nx tx s
 case neg =>
  rw [if_neg c]
  by_cases c1:room z=0
  ·exact auto
  by_cases c2:s=[]
  ·exact auto
  by_cases c3:(s.length:Int)≤room z
  case neg=>exact auto
  by_cases c4:num p
  case neg=>exact auto
  by_cases c5:tx≤4611686018427387904
  case neg=>exact auto
  have c6:¬ nx=0:=fun e=>c ⟨c1,c2,c3,c4,c5,.inl e⟩
  by_cases c7:num nx
  case neg=>exact auto
  have c8:(s.length:Int)<room z:=Decidable.byContradiction fun e=>c ⟨c1,c2,c3,c4,c5,.inr ⟨c7,e⟩⟩
  exact auto
 rw [if_pos c]
 obtain ⟨c1,c2,c3,c4,c5,c6⟩:=c
 have fin:∀ {k:List K} {L:List (Nat×AV)} {Q:Res→Prop},True:=trivial
 by_cases c7:nx=0
 ·refine walk ?_
  refine jo_val rfl rfl rfl (k_bytes (d:=.string) (by omega) rfl rfl rfl rfl rfl) ?_
  refine walk ?_
  refine jo_w (rbody_w (n:=n) (by omega) (z:=z) (by_bytes _ _ s) (by exact hok) rfl) rfl rfl rfl rfl ?_
  rw [bodyR_eq]
  refine walk ?_
  exact jg_ret2 (by exact hres) rfl
 ·obtain ⟨c8,c9⟩:num nx∧¬ (s.length:Int)<room z:=c6.resolve_left c7
  refine walk ?_
  refine jo_val rfl rfl rfl (k_bytes (d:=.string) (by omega) rfl rfl rfl rfl rfl) ?_
  refine walk ?_
  refine jo_w (rbody_w (n:=n) (by omega) (z:=z) (by_bytes _ _ s) (by exact hok) rfl) rfl rfl rfl rfl ?_
  rw [bodyR_eq]
  refine walk ?_
  exact jg_ret2 (by exact hres) rfl
theorem rovrOf_w {n:Nat} (hn:5<n) {p:Pg} (hl:p.body.length≤1000000) (h:Heap):(TV n).sm 35 [p.av] h=some (ofO p,h):=by
 refine w_of hn rfl rfl (by unfold ofO; split<;>rfl) fun n hn=>body_j rfl rfl ?_
 unfold ofO
 by_cases c1:0≤p.count
 case neg=>rw [if_neg fun c=>c1 c.1]; exact auto
 by_cases c2:p.count≤p.body.length
 case neg=>rw [if_neg fun c=>c2 c.2.1]; exact auto
 obtain ⟨m,hm⟩:=Int.eq_ofNat_of_zero_le c1
 have em:p.count.toNat=m:=by omega
 have w1:=rovrPage_w (n:=n) (by omega) (z:=(p.body.length:Int)+24) (p:=p.page) (nx:=p.link) (tx:=p.tx) (s:=p.body.take p.count.toNat) (by rw [List.length_take]; omega)
 have key:okOf p↔pageO ((p.body.length:Int)+24) p.page p.link p.tx (p.body.take p.count.toNat)=(p,0):=⟨fun c=>c.2.2,fun c=>⟨c1,c2,c⟩⟩
 generalize pageO ((p.body.length:Int)+24) p.page p.link p.tx (p.body.take p.count.toNat)=r at key w1
 obtain ⟨r1,r2⟩:=r
 refine walk ?_
 by_cases c3:r2=0
 case neg =>
  rw [if_neg fun q=>c3 (congrArg Prod.snd (key.1 q))]
  refine walk ?_
  exact jg_ret2 (by exact hres) rfl
 subst c3
 refine walk ?_
 refine jo_val rfl rfl rfl (k_bin rfl rfl rfl (bin_ne (page_eqv r1 p) rfl) rfl) ?_
 by_cases c4:r1=p
 ·rw [if_pos (key.2 (by rw [c4]))]
  refine walk ?_
  refine jg_drawn (q:=6) (ms:=[0,0,2,1,15,31]) (hl:=[[47,48],[46,2],[46,2],[47,48],[],[]]) hok rfl (by kernel_rfl) (by kernel_rfl) rfl ?_
  refine walk ?_
  exact jg_ret2 (by exact hres) rfl
 ·rw [if_neg fun q=>c4 (congrArg Prod.fst (key.1 q))]
  refine walk ?_
  exact jg_ret2 (by exact hres) rfl
theorem rmost_w {n:Nat} (hn:2<n) (z:Int) (h:Heap):(TV n).sm 95 [.int .i64 z] h=some (.int .i64 (most z),h):=by
 refine w_of hn rfl rfl rfl fun n hn=>body_j rfl rfl ?_
 have w1:=rroom_w (n:=n) (by omega) z
 have:=room_le z
 have e:(room z).tdiv 4=room z / 4:=Int.tdiv_eq_ediv_of_nonneg (by omega)
 unfold most
 rw [← e]
 have:0≤(room z).tdiv 4:=by omega
 have:(room z).tdiv 4≤4072:=by omega
 exact auto
theorem rrises_w {n:Nat} (hn:0<n) {v:AV} {l:List Nat} {h:Heap} (ls:LsN h v l) (hk:h.ok) (ht:l.length≤70000):(TV n).sm 121 [v] h=some (.bool (decide (rises l)),h):=by
 refine w_in hn (fun h=>h.ok∧LsN h v l) rfl rfl ⟨hk,ls⟩ (fun hp=>⟨ok_nil,ls.any (by simpa [AV.plains,AV.plain] using hp)⟩) ?_
 clear hk ls h
 rintro n hn h ⟨hk,ls⟩
 refine body_j rfl rfl ?_
 have hlen:=ls.len
 refine walk ?_
 refine jg_loop (fun i=>l.length+1-i) (fun i=>[(0,v),(3,.int .i64 (i:Nat))]) (fun i h2=>1≤i∧i≤l.length+1∧Ext h h2∧∀ j a b,j+1<i→l[j]?=some a→l[j+1]?=some b→a<b) 1 hsub ⟨by omega,by omega,.refl h,fun j a b hj=>by omega⟩ ?_
 rintro i h2 ⟨h1,hi,x2,inv⟩ next
 have ok2:=x2.ok hk
 by_cases hil:i<l.length
 ·obtain ⟨j,rfl⟩:∃ j,i=j+1:=⟨i-1,by omega⟩
  obtain ⟨x,hx⟩:∃ x,l[j]?=some x:=⟨l[j],List.getElem?_eq_getElem (by omega)⟩
  obtain ⟨y,hy⟩:∃ y,l[j+1]?=some y:=⟨l[j+1],List.getElem?_eq_getElem (by omega)⟩
  obtain ⟨b,p,e,all,rw',hb,hg,hpl,he,a1⟩:=(ls.ext x2).at u32c_len hx
  obtain ⟨b',p',e',all',rw2,hb',hg',hpl',he',a2⟩:=(ls.ext x2).at u32c_len hy
  have he:(all.drop p).take 1=[.int .u32 x]:=he
  have he':(all'.drop p').take 1=[.int .u32 y]:=he'
  by_cases c:x<y
  ·refine walk ?_
   refine jg_drawn (q:=10) (ms:=[0,0,2,7,15,0,0,96,224,511]) (hl:=[[11,12,15,16,17,18],[10,15,16,17,18],[10,15,16,17,18],[15,16,17,18],[15,16,17,18],[10,11,12,13,14,16],[10,11,12,13,14,15],[10,11,12,13,14],[10,11,12,13,14],[]]) hok rfl (by kernel_rfl) (by kernel_rfl) rfl ?_
   refine walk ?_
   refine next (j+1+1) (by omega) hsub ⟨by omega,by omega,by exact hext,fun k a b hk ha hb=>?_⟩
   rcases Nat.lt_or_ge (k+1) (j+1) with q|q
   ·exact inv k a b q ha hb
   ·obtain rfl:k=j:=by omega
    rw [hx] at ha; rw [hy] at hb
    cases ha; cases hb
    exact c
  ·have bad:¬ rises l:=fun r=>c (r j x y hx hy)
   refine walk ?_
   refine jg_drawn (q:=10) (ms:=[0,0,2,7,15,0,0,96,224,511]) (hl:=[[11,12,15,16,17,18],[10,15,16,17,18],[10,15,16,17,18],[15,16,17,18],[15,16,17,18],[10,11,12,13,14,16],[10,11,12,13,14,15],[10,11,12,13,14],[10,11,12,13,14],[]]) hok rfl (by kernel_rfl) (by kernel_rfl) rfl ?_
   refine walk ?_
   exact jg_ret1 hres ⟨av_f bad,by exact hext⟩
 ·have fin:rises l:=fun j a b ha hb=>inv j a b (by
   have:=(List.getElem?_eq_some_iff.1 hb).1
   omega) ha hb
  refine walk ?_
  exact jg_ret1 hres ⟨av_t fin,by exact hext⟩
theorem rnumbers_w {n:Nat} (hn:1<n) {v:AV} {l:List Nat} {h:Heap} (ls:LsN h v l) (hk:h.ok) (ht:l.length≤70000):(TV n).sm 94 [v] h=some (.bool (decide (numsOk l∧rises l)),h):=by
 refine w_in hn (fun h=>h.ok∧LsN h v l) rfl rfl ⟨hk,ls⟩ (fun hp=>⟨ok_nil,ls.any (by simpa [AV.plains,AV.plain] using hp)⟩) ?_
 clear hk ls h
 rintro n hn h ⟨hk,ls⟩
 refine body_j rfl rfl ?_
 have hlen:=ls.len
 refine walk ?_
 refine jg_loop (fun i=>l.length-i) (fun i=>[(0,v),(3,.int .i64 (i:Nat))]) (fun i h2=>i≤l.length∧Ext h h2∧∀ j b,j<i→l[j]?=some b→num b) 0 hsub ⟨by omega,.refl h,fun j b hj=>by omega⟩ ?_
 rintro i h2 ⟨hi,x2,inv⟩ next
 have ok2:=x2.ok hk
 by_cases hil:i<l.length
 ·obtain ⟨y,hy⟩:∃ y,l[i]?=some y:=⟨l[i],List.getElem?_eq_getElem hil⟩
  obtain ⟨b,p,e,all,rw',hb,hg,hpl,he,a1⟩:=(ls.ext x2).at u32c_len hy
  have he:(all.drop p).take 1=[.int .u32 y]:=he
  have w1:=rnumber_w (n:=n) (by omega) y
  by_cases c:num y
  ·rw [decide_eq_true c] at w1
   refine walk ?_
   refine next (i+1) (by omega) hsub ⟨by omega,by exact hext,fun k b hk hb=>?_⟩
   rcases Nat.lt_or_ge k i with q|q
   ·exact inv k b q hb
   ·obtain rfl:k=i:=by omega
    rw [hy] at hb; cases hb
    exact c
  ·rw [decide_eq_false c] at w1
   have bad:¬ (numsOk l∧rises l):=fun r=>c (r.1 y (List.mem_of_getElem? hy))
   refine walk ?_
   exact jg_ret1 hres ⟨av_f bad,by exact hext⟩
 ·have fin:numsOk l:=fun x hx=>by
   obtain ⟨j,hj⟩:=List.getElem?_of_mem hx
   exact inv j x (by have:=(List.getElem?_eq_some_iff.1 hj).1; omega) hj
  have w1:=rrises_w (n:=n) (by omega) (ls.ext x2) ok2 ht
  have e:numsOk l∧rises l↔rises l:=⟨fun c=>c.2,fun c=>⟨fin,c⟩⟩
  refine walk ?_
  refine jo_w w1 rfl rfl rfl rfl ?_
  refine walk ?_
  exact jg_ret1 hres ⟨av_d e.symm,by exact hext⟩
theorem most_bad {z:Int} (g:¬ Good z):most z=0:=by unfold most; rw [room_bad g]; rfl
theorem most_good {z:Int} (g:Good z):most z≠0:=by
 have g1:=g.1
 have e:room z=z-24:=by unfold room; rw [if_pos g]
 unfold most
 rw [e]
 omega
theorem rfrePage_w {n:Nat} (hn:4<n) {z:Int} {p nx tx:Nat} {v:AV} {l:List Nat} {h:Heap} (ls:LsN h v l) (hk:h.ok) (t1:l.length≤70000):(TV n).sm 66 [.int .i64 z,.int .u32 p,.int .u32 nx,.int .u64 tx,v] h=some (.tuple [(pageR z p nx tx l).1.av,.int .i64 (pageR z p nx tx l).2],h):=by
 refine w_in hn (fun h=>h.ok∧LsN h v l) rfl rfl ⟨hk,ls⟩ (fun hp=>⟨ok_nil,ls.any (by simpa [AV.plains,AV.plain] using hp)⟩) ?_
 clear hk ls h
 rintro n hn h ⟨hk,ls⟩
 refine body_j rfl rfl ?_
 have hlen:=ls.len
 have w1:=rmost_w (n:=n) (by omega) z
 have w2:=rnumber_w (n:=n) (by omega) p
 have w4:=rnumber_w (n:=n) (by omega) nx
 have w5:=rgood_w (n:=n) (by omega) z
 have x0:Ext h (h.alloc (.cells 32 Pg.zero.cs true)):=Ext.alloc _ _
 have w3:=rnumbers_w (n:=n) (by omega) (ls.ext x0) (x0.ok hk) t1
 unfold pageR
 by_cases c0:Good z
 case neg =>
  rw [if_neg fun c=>c.1 (most_bad c0)]
  rw [decide_eq_false c0] at w5
  exact auto
 have c1:=most_good c0
 rw [decide_eq_true c0] at w5
 refine walk ?_
 refine jo_w w3 rfl rfl rfl rfl ?_
 by_cases c34:numsOk l∧rises l
 case neg=>rw [if_neg fun c=>c34 ⟨c.2.2.2.1,c.2.2.1⟩]; exact auto
 have c4:=c34.1
 have c3:=c34.2
 by_cases c2:(l.length:Int)≤most z
 case neg=>rw [if_neg fun c=>c2 c.2.1]; exact auto
 by_cases c5:num p
 case neg=>rw [if_neg fun c=>c5 c.2.2.2.2.1]; exact auto
 by_cases c6:nx=0∨num nx
 case neg =>
  rw [if_neg fun c=>c6 c.2.2.2.2.2.1]
  have d1:¬ (nx:Int)=0:=fun e=>c6 (.inl (by omega))
  have d2:¬ num nx:=fun e=>c6 (.inr e)
  rw [decide_eq_false d2] at w4
  exact auto
 have c7:(nx:Int)=0∨¬ (nx:Int)=0∧num nx:=by
  rcases Nat.eq_zero_or_pos nx with q|q
  ·exact .inl (by omega)
  ·exact .inr ⟨by omega,c6.resolve_left (by omega)⟩
 by_cases c8:tx≤4611686018427387904
 case neg =>
  rw [if_neg fun c=>c8 c.2.2.2.2.2.2]
  rcases c7 with c7|⟨c7,c9⟩
  ·exact auto
  ·exact auto
 rw [if_pos (show okR z p nx tx l from ⟨c1,c2,c3,c4,c5,c6,c8⟩)]
 have rz:=room_le z
 have hm:l.length≤1018:=by unfold most at c2; omega
 rcases c7 with c7|⟨c7,c9⟩
 all_goals
  refine walk ?_
  refine jg_loop (ι:=Nat×AV) (fun a=>l.length-a.1) (fun a=>[(0,.int .i64 z),(1,.int .u32 p),(2,.int .u32 nx),(3,.int .u64 tx),(4,v),(10,.ptr h.next 0),(12,a.2),(13,.int .i64 (a.1:Nat))]) (fun a h3=>a.1≤l.length∧Ext (h.alloc (.cells 32 Pg.zero.cs true)) h3∧OwnB 5 (h.next+1) h3 a.2 (encN (l.take a.1))) (0,.nilslice) hsub ⟨by omega,.refl _,OwnB.nil⟩ ?_
  rintro ⟨i,u⟩ h3 ⟨hi,x3,ow⟩ next
  dsimp only at hi ow next ⊢
  have nx3:h.next+1≤h3.next:=x3.nx
  have g9:h3.get h.next=some (.cells 32 Pg.zero.cs true):=(x3.old _ (by show h.next<h.next+1; omega)).trans (get_new _ _)
  have ok3:=x3.ok (x0.ok hk)
  have hsz:(encN (l.take i)).length≤4072:=by rw [encN_len,List.length_take]; omega
  by_cases hil:i<l.length
  ·obtain ⟨y,hy⟩:∃ y,l[i]?=some y:=⟨l[i],List.getElem?_eq_getElem hil⟩
   obtain ⟨b,p',e,all,rw',hb,hg,hpl,he,a1⟩:=((ls.ext x0).ext x3).at u32c_len hy
   have he:(all.drop p').take 1=[.int .u32 y]:=he
   have yb:y≤2147483647:=(c4 y (List.mem_of_getElem? hy)).2
   refine walk ?_
   refine jo_call (rput ow.by (by omega) (by decide) (by decide) (by omega) ow.by.ns) rfl rfl rfl rfl ?_
   rintro v5 g5 ⟨o5,x5⟩
   refine walk ?_
   refine next (i+1,v5) (by simp only; omega) hsub ⟨by simp only; omega,by exact hext,?_⟩
   simp only
   rw [encN_take l i y hy]
   exact OwnB.lo o5 (by omega)
  ·have e1:l.take i=l:=List.take_of_length_le (by omega)
   rw [e1] at ow
   have w5:=rbody_w (n:=n) (by omega) (z:=z) ow.by ok3 ow.by.ns
   rw [bodyR_eq] at w5
   refine walk ?_
   refine jo_w w5 rfl rfl rfl rfl ?_
   refine walk ?_
   exact jg_ret2 (by exact hres) ⟨rfl,by exact hext⟩
theorem rfreOf_g {n:Nat} (hn:6<n) {p:Pg} {h:Heap} (hk:h.ok) (hl:p.body.length≤100000) (hc:p.count<1000000000):Gives (TV n) 36 [p.av] h (fun v h'=>Ext h h'∧match ofR p with
  |none=>v=.tuple [.nilslice,.int .u32 0,.int .i64 4]
  |some l=>∃ u,v=.tuple [u,.int .u32 p.link,.int .i64 0]∧LsN h' u l):=by
 refine call_j (no_w rfl rfl) rfl rfl ?_
 refine walk ?_
 refine jo_call (rnew p.body _) rfl rfl rfl rfl ?_
 rintro _ _ ⟨rfl,rfl⟩
 refine walk ?_
 refine jg_loop (ι:=Nat×AV×List Nat×List UInt8) (fun a=>p.count.toNat-a.1) (fun a=>[(1,.ptr h.next 0),(5,.ptr (h.next+1) 0),(6,a.2.1),(7,.int .i64 (a.1:Nat))]) (fun a h2=>Ext h h2∧h.next+2≤h2.next∧h2.get h.next=some (.cells 32 p.cs true)∧h2.get (h.next+1)=some (.cells 128 [.str a.2.2.2] true)∧OwnLN (h.next+2) h2 a.2.1 a.2.2.1∧a.1=a.2.2.1.length∧4*a.1+a.2.2.2.length≤p.body.length∧(0<a.1→(a.1:Int)≤p.count)∧parseN p.count.toNat p.body=(parseN (p.count.toNat-a.1) a.2.2.2).map (a.2.2.1 ++ ·)) (0,.nilslice,[],p.body) hsub ⟨by exact hext,by show h.next+2≤h.next+1+1; omega,by exact hget,by exact hget,OwnL.nil,rfl,by simp,by simp,by simp⟩ ?_
 rintro ⟨i,u,acc,s⟩ h2 ⟨x2,n2,g0,g1,ow,ei,len,cnt,par⟩ next
 dsimp only at g1 ow ei len par next cnt ⊢
 subst ei
 have ok2:=x2.ok hk
 by_cases hi:(acc.length:Int)<p.count
 ·have par':p.count.toNat-acc.length=(p.count.toNat-(acc.length+1))+1:=by omega
  rw [par'] at par
  have e0:parseN ((p.count.toNat-(acc.length+1))+1) s=if 4≤s.length then (parseN (p.count.toNat-(acc.length+1)) (restV 4 s)).map (numV 4 s :: ·) else none:=rfl
  rw [e0] at par
  have v2:=numV_lt 4 s
  refine walk ?_
  refine jo_call (rnum (n:=4) g1 (by omega) (by omega) (by decide) (by decide)) rfl rfl rfl rfl ?_
  rintro _ h3 ⟨rfl,u3⟩
  have n3:=u3.nx
  have k3:Keep (h.next+1) h2 h3:=⟨by omega,fun c hc=>u3.old c (by omega),fun _=>u3.ok ok2⟩
  have x3:Ext h h3:=x2.kp k3 (by omega)
  have o3:OwnLN (h.next+2) h3 u acc:=Own.keep ow (fun c h1 h2'=>u3.old c (by omega)) (by omega)
  by_cases c:4≤s.length
  case neg =>
   have e4:ofR p=none:=by unfold ofR; rw [par,if_neg c]; rfl
   rw [e4,err_7 c]
   refine walk ?_
   exact jg_ret2 (by exact hres) ⟨x3,rfl⟩
  rw [if_pos c] at par
  rw [err_0 c]
  have l4:=restV_lt c
  obtain ⟨v7,h7,e7,o7,k7⟩:=app_row (T:=TV n) (st:=36) (rest:=[36]) (h:=h3.alloc (.cells 22 (u32c (numV 4 s)) true)) (x:=numV 4 s) (o3.ext (Ext.alloc _ _)) (get_new _ _) (by show h3.next<h3.next+1; omega) (by show h.next+2≤h3.next+1; omega) (by omega) rfl rfl rfl rfl rfl (by exact Nat.le_of_ble_eq_true rfl) rfl (by decide) rfl
  have n7:h3.next+1≤h7.next:=k7.nx
  have e7:appendA (TV n) [u,.slice h3.next 0 1 1] [36,36] (h3.alloc (.cells 22 [.int .u32 (numV 4 s)] true))=.val v7 h7:=e7
  refine walk ?_
  refine next (acc.length+1,v7,acc++[numV 4 s],restV 4 s) (by simp only; omega) (by exact hsub) ⟨by exact hext,by omega,by exact hget,by exact hget,o7,by simp,?_,?_,?_⟩
  ·simp only; omega
  ·simp only; omega
  ·rw [par]
   simp only [Option.map_map]
   congr 1
   funext x
   simp
 ·have e0:p.count.toNat-acc.length=0:=by
   rcases Nat.eq_zero_or_pos acc.length with q|q
   ·omega
   ·have:=cnt q; omega
  have e1:parseN p.count.toNat p.body=some acc:=by rw [par,e0]; simp [parseN]
  have w1:=rfrePage_w (n:=n) (by omega) (z:=(p.body.length:Int)+24) (p:=p.page) (nx:=p.link) (tx:=p.tx) (h:=h2) ow.ls ok2 (by omega)
  refine walk ?_
  refine jo_w w1 rfl rfl rfl rfl ?_
  have key:ofR p=if pageR ((p.body.length:Int)+24) p.page p.link p.tx acc=(p,0) then some acc else none:=by unfold ofR; rw [e1]
  generalize pageR ((p.body.length:Int)+24) p.page p.link p.tx acc=r at key ⊢
  obtain ⟨r1,r2⟩:=r
  by_cases c1:r2=0
  case neg =>
   rw [key,if_neg fun e=>c1 (congrArg Prod.snd e)]
   refine walk ?_
   exact jg_ret2 (by exact hres) ⟨by exact hext,rfl⟩
  subst c1
  refine walk ?_
  refine jo_val rfl rfl rfl (k_bin rfl rfl rfl (bin_ne (page_eqv r1 p) rfl) rfl) ?_
  by_cases c2:r1=p
  ·rw [key,if_pos (by rw [c2])]
   refine walk ?_
   refine jg_drawn (q:=6) (ms:=[0,0,2,1,15,31]) (hl:=[[56,57],[55,2],[55,2],[56,57],[],[]]) hok rfl (by kernel_rfl) (by kernel_rfl) rfl ?_
   refine walk ?_
   refine jg_ret2 (by exact hres) ⟨by exact hext,u,rfl,ow.ls.ext (by exact hext)⟩
  ·rw [key,if_neg fun e=>c2 (congrArg Prod.fst e)]
   refine walk ?_
   exact jg_ret2 (by exact hres) ⟨by exact hext,rfl⟩
set_option maxRecDepth 10000
set_option maxHeartbeats 4000000
theorem rRight_w {n:Nat} (hn:8<n) (z:Int) (img:List UInt8) (p:Nat) (k:Int) (hi:img.length<1000000) (hp:p<4294967296) (h:Heap):(TV n).sm 17 [.int .i64 z,.str img,.int .u32 p,.int .i64 k] h=some (.tuple [(rightR z img p k).1.av,.bool (rightR z img p k).2],h):=by
 refine w_of hn rfl rfl rfl fun n hn=>body_j rfl rfl ?_
 have w1:=rread_w (n:=n) (by omega) z img p hi hp
 have hm:=pages_len z img p
 unfold rightR
 generalize readR z img p=r at w1 hm ⊢
 obtain ⟨g,e⟩:=r
 dsimp only at w1 hm ⊢
 by_cases c1:e=0
 case neg =>
  rw [if_neg fun c=>c1 c.1]
  exact auto
 subst c1
 by_cases c2:g.kind=k
 case neg =>
  rw [if_neg fun c=>c2 c.2.1]
  exact auto
 have m:=hm rfl
 have rl:=room_le z
 have bl:g.body.length≤100000:=by unfold mayF at m; omega
 have bc:g.count<1000000000:=by unfold mayF at m; omega
 clear hm
 by_cases k2:k=2
 case pos =>
  have key:rightP g↔ofC g≠none:=by unfold rightP; simp [c2,k2]
  refine walk ?_
  refine jo_call (rcatOf_g (n:=n) (by omega) (p:=g) (by exact hok) bl bc) rfl rfl rfl rfl ?_
  rintro v h3 ⟨x3,c3⟩
  cases e:ofC g with
  |none =>
   rw [e] at c3 key
   subst c3
   rw [if_neg fun c=>by have:=key.1 c.2.2; exact absurd rfl this]
   refine walk ?_
   exact jg_ret2 (by exact hres) rfl
  |some l =>
   rw [e] at c3 key
   obtain ⟨u,rfl,ls⟩:=c3
   rw [if_pos ⟨rfl,c2,key.2 (by simp)⟩]
   refine walk ?_
   exact jg_ret2 (by exact hres) rfl
 by_cases k3:k=3
 case pos =>
  have key:rightP g↔ofB g≠none:=by unfold rightP; simp [c2,k3]
  refine walk ?_
  refine jo_call (rbraOf_g (n:=n) (by omega) (p:=g) (by exact hok) bl bc) rfl rfl rfl rfl ?_
  rintro v h3 ⟨x3,c3⟩
  cases e:ofB g with
  |none =>
   rw [e] at c3 key
   subst c3
   rw [if_neg fun c=>by have:=key.1 c.2.2; exact absurd rfl this]
   refine walk ?_
   exact jg_ret2 (by exact hres) rfl
  |some l =>
   rw [e] at c3 key
   obtain ⟨u,rfl,ls⟩:=c3
   rw [if_pos ⟨rfl,c2,key.2 (by simp)⟩]
   refine walk ?_
   exact jg_ret2 (by exact hres) rfl
 by_cases k4:k=4
 case pos =>
  have key:rightP g↔ofI g≠none:=by unfold rightP; simp [c2,k4]
  refine walk ?_
  refine jo_call (rleaOf_g (n:=n) (by omega) (p:=g) (by exact hok) bl bc) rfl rfl rfl rfl ?_
  rintro v h3 ⟨x3,c3⟩
  cases e:ofI g with
  |none =>
   rw [e] at c3 key
   subst c3
   rw [if_neg fun c=>by have:=key.1 c.2.2; exact absurd rfl this]
   refine walk ?_
   exact jg_ret2 (by exact hres) rfl
  |some l =>
   rw [e] at c3 key
   obtain ⟨u,rfl,ls⟩:=c3
   rw [if_pos ⟨rfl,c2,key.2 (by simp)⟩]
   refine walk ?_
   exact jg_ret2 (by exact hres) rfl
 by_cases k5:k=5
 case pos =>
  have key:rightP g↔okOf g:=by unfold rightP; simp [c2,k5]
  refine walk ?_
  refine jo_w (rovrOf_w (n:=n) (by omega) (p:=g) (by omega) _) rfl rfl rfl rfl ?_
  unfold ofO
  by_cases c:okOf g
  ·rw [if_pos c,if_pos ⟨rfl,c2,key.2 c⟩]
   refine walk ?_
   exact jg_ret2 (by exact hres) rfl
  ·rw [if_neg c,if_neg fun d=>c (key.1 d.2.2)]
   refine walk ?_
   exact jg_ret2 (by exact hres) rfl
 by_cases k6:k=6
 case pos =>
  have key:rightP g↔ofR g≠none:=by unfold rightP; simp [c2,k6]
  refine walk ?_
  refine jo_call (rfreOf_g (n:=n) (by omega) (p:=g) (by exact hok) bl bc) rfl rfl rfl rfl ?_
  rintro v h3 ⟨x3,c3⟩
  cases e:ofR g with
  |none =>
   rw [e] at c3 key
   subst c3
   rw [if_neg fun c=>by have:=key.1 c.2.2; exact absurd rfl this]
   refine walk ?_
   exact jg_ret2 (by exact hres) rfl
  |some l =>
   rw [e] at c3 key
   obtain ⟨u,rfl,ls⟩:=c3
   rw [if_pos ⟨rfl,c2,key.2 (by simp)⟩]
   refine walk ?_
   exact jg_ret2 (by exact hres) rfl
 have key:¬ rightP g:=by unfold rightP; simp [c2,k2,k3,k4,k5,k6]
 rw [if_neg fun d=>key d.2.2]
 refine walk ?_
 exact jg_ret2 (by exact hres) rfl
end Go.Proofs.YthdlebegkhnbiaaGreat
