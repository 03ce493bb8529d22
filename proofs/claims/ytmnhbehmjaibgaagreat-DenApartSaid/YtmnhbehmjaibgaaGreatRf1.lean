/- What the functions of this part answer at any input, told by the rules over the evaluator. Conditions: those that each theorem states. -/
import Derived.Test.YtmnhbehmjaibgaaGreatLv
import Derived.Test.YtmnhbehmjaibgaaGreatOvr
set_option linter.unusedVariables false
set_option linter.unusedSimpArgs false
open Go Ev
namespace Go.Proofs.YtmnhbehmjaibgaaGreat
set_option maxRecDepth 10000
set_option maxHeartbeats 4000000
theorem rgood_w {n:Nat} (hn:0<n) (s:Int) (h:Heap):(TV n).sm 38 [.int .i64 s] h=some (.bool (decide (Good s)),h):=by
 refine w_of hn rfl rfl rfl fun n hn=>body_j rfl rfl ?_
 unfold Good
 exact auto
theorem rpages_w {n:Nat} (hn:1<n) (s:Int) (img:List UInt8) (hi:img.length<9223372036854775808) (h:Heap):(TV n).sm 10 [.int .i64 s,.str img] h=some (.int .i64 (pages s img),h):=by
 refine w_of hn rfl rfl rfl fun n hn=>body_j rfl rfl ?_
 have w1:=rgood_w (n:=n) (by omega) s
 unfold pages
 by_cases g:Good s
 ·rw [decide_eq_true g] at w1
  have g1:=g.1
  have g2:=g.2.1
  have e:(img.length:Int).tdiv s=((img.length / s.toNat:Nat):Int):=by
   obtain ⟨m,rfl⟩:=Int.eq_ofNat_of_zero_le (show 0≤s by omega)
   rfl
  have hq:img.length / s.toNat≤img.length:=Nat.div_le_self _ _
  rw [if_pos g,← e]
  have hq0:(0:Int)≤(img.length / s.toNat:Nat):=Int.natCast_nonneg _
  rw [← Int.ofNat_le,← e] at hq
  rw [← e] at hq0
  exact auto
 ·rw [if_neg g]
  rw [decide_eq_false g] at w1
  exact auto
set_option maxRecDepth 10000
set_option maxHeartbeats 4000000
theorem light_w {n:Nat} (hn:0<n) (img:List UInt8) (hi:img.length<9223372036854775808) (h:Heap):(TV n).sm 8 [.str img] h=some (.bool (decide (img.length≤5000)),h):=by
 refine w_of hn rfl rfl rfl fun n hn=>body_j rfl rfl ?_
 refine walk ?_
 exact jg_ret1 (by exact hres) (av_d (by omega))
theorem pick_w {n:Nat} (hn:0<n) (x m:Int) (hx : -9223372036854775808≤x∧x<9223372036854775808) (hm:1≤m∧m<1000000000) (h:Heap):(TV n).sm 13 [.int .i64 x,.int .i64 m] h=some (.int .i64 (x % m),h):=by
 refine w_of hn rfl rfl rfl fun n hn=>body_j rfl rfl ?_
 have e1:x.tmod m<m:=Int.tmod_lt_of_pos _ (by omega)
 have e2 : -m<x.tmod m:=Int.lt_tmod_of_pos _ (by omega)
 have e3:x % m=if x.tmod m<0 then x.tmod m+m else x.tmod m:=by
  split
  ·rename_i c
   rw [Int.emod_eq_tmod]
   have:¬ (0≤x∨m ∣ x):=by
    rintro (q|q)
    ·have:=Int.tmod_nonneg m q; omega
    ·rw [Int.tmod_eq_zero_of_dvd q] at c; omega
   rw [if_neg this]
   omega
  ·rename_i c
   rw [Int.emod_eq_tmod]
   split
   ·omega
   ·rename_i q
    have:x<0:=by omega
    have h0:=Int.neg_tmod (-x) m
    rw [Int.neg_neg] at h0
    have h1:=Int.tmod_nonneg m (show 0 ≤ -x by omega)
    have h2:x.tmod m=0:=by omega
    exact absurd (.inr (Int.dvd_of_tmod_eq_zero h2)) q
 rw [e3]
 by_cases c0:x.tmod m<0
 ·rw [if_pos c0]
  exact auto
 ·rw [if_neg c0]
  exact auto
theorem times_w {n:Nat} (hn:0<n) (m:Nat) (hm:m≤100000) (h:Heap):(TV n).sm 14 [.str [0],.int .i64 m] h=some (.str (List.replicate m 0),h):=by
 refine w_of hn rfl rfl rfl fun n hn=>body_j rfl rfl ?_
 refine walk ?_
 refine jg_loop (ι:=Nat×Nat×Nat) (fun a=>a.1) (fun a=>[(0,.str (List.replicate a.2.1 0)),(1,.int .i64 a.1),(5,.str (List.replicate a.2.2 0))]) (fun a _=>a.1≤m∧a.1*a.2.1+a.2.2=m∧a.2.1≤2*m+1) (m,1,0) hsub ⟨Nat.le_refl _,by simp,by simp only; omega⟩ ?_
 rintro ⟨q,w,r⟩ g ⟨h1,h2,h3⟩ next
 dsimp only at h1 h2 h3 next ⊢
 by_cases c:0<q
 case neg =>
  have e:q=0:=by omega
  rw [e,Nat.zero_mul,Nat.zero_add] at h2
  subst h2
  exact auto
 have hqw:w≤q*w:=Nat.le_mul_of_pos_left w c
 have hr:r≤m:=by omega
 have e2:((q:Nat):Int).tmod 2=((q % 2:Nat):Int):=rfl
 have e3:((q:Nat):Int).tdiv 2=((q / 2:Nat):Int):=rfl
 have hq:=Nat.div_add_mod q 2
 have hw:q*w=(q / 2)*(w+w)+(q % 2)*w:=by
  conv=>lhs; rw [← hq]
  rw [Nat.add_mul,Nat.mul_assoc,Nat.mul_left_comm,Nat.two_mul]
 by_cases d:q % 2=1
 ·rw [d,Nat.one_mul] at hw
  refine walk ?_
  refine jo_val rfl rfl rfl (k_bin rfl rfl rfl (b_cat (by simp; omega)) rfl) ?_
  rw [List.replicate_append_replicate]
  refine walk ?_
  refine jo_val rfl rfl rfl (k_bin rfl rfl rfl (b_cat (by simp; omega)) rfl) ?_
  rw [List.replicate_append_replicate]
  refine walk ?_
  rw [e3]
  exact next (q / 2,w+w,r+w) (by simp only; omega) (by exact hsub) ⟨by simp only; omega,by simp only; omega,by simp only; omega⟩
 ·rw [show q % 2=0 by omega,Nat.zero_mul,Nat.add_zero] at hw
  refine walk ?_
  refine jo_val rfl rfl rfl (k_bin rfl rfl rfl (b_cat (by simp; omega)) rfl) ?_
  rw [List.replicate_append_replicate]
  refine walk ?_
  rw [e3]
  exact next (q / 2,w+w,r) (by simp only; omega) (by exact hsub) ⟨by simp only; omega,by simp only; omega,by simp only; omega⟩
theorem same32_w {n:Nat} (hn:0<n) {v u:AV} {l:List Nat} {h:Heap} (lv:Ls u32c 1 h v l) (lu:Ls u32c 1 h u l) (ok:h.ok) (ll:l.length≤1000000):(TV n).sm 16 [v,u] h=some (.bool true,h):=by
 refine w_in hn (fun h=>Ls u32c 1 h v l∧Ls u32c 1 h u l∧h.ok) rfl rfl ⟨lv,lu,ok⟩ (fun hp=>⟨lv.any (by simp [AV.plains] at hp; exact hp.1),lu.any (by simp [AV.plains] at hp; exact hp.2),ok_nil⟩) ?_
 clear lv lu ok h
 rintro n hn h ⟨lv,lu,ok⟩
 refine body_j rfl rfl ?_
 have hv:=lv.len
 have hu:=lu.len
 have nv:=lv.ns
 have nu:=lu.ns
 have c2:(l.length:Int)=(l.length:Int):=rfl
 refine walk ?_
 refine jg_loop (ι:=Nat) (fun i=>l.length-i) (fun i=>[(0,v),(1,u),(5,.int .i64 (i:Nat))]) (fun i h2=>i≤l.length∧Ext h h2) 0 hsub ⟨Nat.zero_le _,.refl _⟩ ?_
 rintro i h2 ⟨hi,x2⟩ next
 by_cases hil:i<l.length
 case neg =>
  refine walk ?_
  exact jg_ret1 (by exact hres) ⟨rfl,x2⟩
 obtain ⟨x,hx⟩:∃ x,l[i]?=some x:=⟨l[i],List.getElem?_eq_getElem hil⟩
 obtain ⟨q1,p1,e1,all1,rw1,hb1,hg1,hpl1,he1,a1⟩:=(lv.ext x2).at u32c_len hx
 obtain ⟨q2,p2,e2,all2,rw2,hb2,hg2,hpl2,he2,a2⟩:=(lu.ext x2).at u32c_len hx
 have he1:(all1.drop p1).take 1=[.int .u32 (x:Nat)]:=he1
 have he2:(all2.drop p2).take 1=[.int .u32 (x:Nat)]:=he2
 have ok2:=x2.ok ok
 refine walk ?_
 refine jg_drawn (q:=9) (ms:=[0,0,3,7,0,0,48,112,255]) (hl:=[[18,21,22,23,24],[17,21,22,23,24],[21,22,23,24],[21,22,23,24],[17,18,19,20,22],[17,18,19,20,21],[17,18,19,20],[17,18,19,20],[]]) ok2 rfl (by kernel_rfl) (by kernel_rfl) rfl ?_
 refine walk ?_
 have c3:(x:Int)=(x:Int):=rfl
 refine walk ?_
 exact next (i+1) (by omega) hsub ⟨by omega,by exact hext⟩
theorem apart_get {img block:List UInt8} {k m:Nat} (hb:block.length=m) (hk:k*m+m≤img.length) (q:Nat) (hq:q<k*m∨k*m+m≤q):(img.take (k*m)++block++img.drop (k*m+m))[q]?=img[q]?:=by
 have l1:(img.take (k*m)).length=k*m:=by simp; omega
 have l2:(img.take (k*m)++block).length=k*m+m:=by simp; omega
 rcases hq with c|c
 ·rw [List.getElem?_append_left (by omega),List.getElem?_append_left (by omega),List.getElem?_take_of_lt c]
 ·rw [List.getElem?_append_right (by omega),l2,List.getElem?_drop]; congr 1; omega
theorem apart_at {z:Int} {img block:List UInt8} {k p:Nat} (hb:block.length=z.toNat) (hk:k*z.toNat+z.toNat≤img.length) (hp:p≠k):atL z (img.take (k*z.toNat)++block++img.drop (k*z.toNat+z.toNat)) p=atL z img p:=by
 unfold atL
 refine List.ext_getElem? fun j=>?_
 rw [List.getElem?_take,List.getElem?_take]
 split
 ·rename_i c
  rw [List.getElem?_drop,List.getElem?_drop]
  refine apart_get hb hk _ ?_
  rcases Nat.lt_or_ge p k with r|r
  ·have:=Nat.mul_le_mul_right z.toNat (show p+1≤k from r)
   rw [Nat.succ_mul] at this
   exact .inl (by omega)
  ·have:=Nat.mul_le_mul_right z.toNat (show k+1≤p by omega)
   rw [Nat.succ_mul] at this
   exact .inr (by omega)
 ·rfl
theorem apart_pages {z:Int} {img img2:List UInt8} (h:img2.length=img.length):pages z img2=pages z img:=by unfold pages; rw [h]
end Go.Proofs.YtmnhbehmjaibgaaGreat
