/- What the functions of this part answer at any input, told by the rules over the evaluator. Conditions: those that each theorem states. -/
import Derived.Test.YthdlebegkhnbiaaGreatWfl
import Derived.Test.YthdlebegkhnbiaaGreatSr6
set_option linter.unusedVariables false
set_option linter.unusedSimpArgs false
open Go Ev
namespace Go.Proofs.YthdlebegkhnbiaaGreat
set_option maxRecDepth 10000
set_option maxHeartbeats 2000000
def entd (l:List Sn):List Nat:=(l.filter fun s=>decide (s.why=0)).map fun s=>s.visit.page
theorem entd_app (l:List Sn) (s:Sn):entd (l++[s])=entd l++if s.why=0 then [s.visit.page] else []:=by
 unfold entd
 rw [List.filter_append,List.map_append]
 by_cases c:s.why=0<;>simp [c]
def metC (l:List Sn) (q:Nat):Nat:=(l.filter fun s=>decide (s.why≠1∧s.visit.page=q)).length
theorem metC_app (l:List Sn) (s:Sn) (q:Nat):metC (l++[s]) q=metC l q+if s.why≠1∧s.visit.page=q then 1 else 0:=by
 unfold metC
 rw [List.filter_append,List.length_append]
 by_cases c:s.why≠1∧s.visit.page=q
 ·rw [List.filter_cons,if_pos (by simpa using c),if_pos c]; rfl
 ·rw [List.filter_cons,if_neg (by simpa using c),if_neg c]; rfl
structure OnceI (z:Int) (img:List UInt8) (root:Nat) (acc:List Sn) (i:Nat) (m:List Nat) (left:List Vis):Prop where
 le:i≤acc.length
 run:Run z img m left (acc.drop i)
 st:i=0∧left=[root0 root]∨0<i∧∀ w∈left,w.from'∈entd (acc.take i)
 met:∀ q,q∈m↔0<metC (acc.take i) q
 rng:∀ q∈m,2≤q∧q<pages z img
 sub:∀ q∈entd (acc.take i),q∈m
 nd:(entd (acc.take i)).Nodup
theorem seenP_why (z:Int) (img:List UInt8) (m:List Nat) (v:Vis):((seenP z img m v).why=1↔v.page<2∨pages z img≤v.page)∧((seenP z img m v).why=2↔¬ (v.page<2∨pages z img≤v.page)∧v.page∈m)∧((seenP z img m v).why≠0→(seenP z img m v).page=Pg.zero)∧((seenP z img m v).why=0→(seenP z img m v).page.page=v.page):=by
 unfold seenP
 by_cases c1:v.page<2∨pages z img≤v.page
 ·rw [if_pos c1]; exact ⟨⟨fun _=>c1,fun _=>rfl⟩,⟨fun e=>absurd e (by decide:(1:Int)≠2),fun e=>absurd c1 e.1⟩,fun _=>rfl,fun e=>absurd e (by decide:(1:Int)≠0)⟩
 rw [if_neg c1]
 by_cases c2:v.page∈m
 ·rw [if_pos c2]; exact ⟨⟨fun e=>absurd e (by decide:(2:Int)≠1),fun e=>absurd e c1⟩,⟨fun _=>⟨c1,c2⟩,fun _=>rfl⟩,fun _=>rfl,fun e=>absurd e (by decide:(2:Int)≠0)⟩
 rw [if_neg c2]
 by_cases c3:v.depth>16
 ·rw [if_pos c3]; exact ⟨⟨fun e=>absurd e (by decide:(3:Int)≠1),fun e=>absurd e c1⟩,⟨fun e=>absurd e (by decide:(3:Int)≠2),fun e=>absurd e.2 c2⟩,fun _=>rfl,fun e=>absurd e (by decide:(3:Int)≠0)⟩
 rw [if_neg c3]
 cases e:(pageR2 z img v).2 with
 |true =>
  have ok:=pageR2_ok e
  exact ⟨⟨fun e=>absurd e (by decide:(0:Int)≠1),fun e=>absurd e c1⟩,⟨fun e=>absurd e (by decide:(0:Int)≠2),fun e=>absurd e.2 c2⟩,fun e=>absurd rfl e,fun _=>ok.2.1⟩
 |false =>
  have no:=pageR2_no e
  exact ⟨⟨fun e=>absurd e (by decide:(4:Int)≠1),fun e=>absurd e c1⟩,⟨fun e=>absurd e (by decide:(4:Int)≠2),fun e=>absurd e.2 c2⟩,fun _=>no,fun e=>absurd e (by decide:(4:Int)≠0)⟩
theorem OnceI.zero {z:Int} {img:List UInt8} {root:Nat} {acc:List Sn} (h:Run z img [] [root0 root] acc):OnceI z img root acc 0 [] [root0 root] :=
 ⟨by omega,h,.inl ⟨rfl,rfl⟩,fun q=>⟨fun e=>(by cases e),fun e=>(by simp [metC] at e)⟩,fun q e=>(by cases e),fun q e=>(by simp [entd] at e),by simp [entd]⟩
theorem OnceI.step {z:Int} {img:List UInt8} {root:Nat} {acc:List Sn} {i:Nat} {m:List Nat} {left:List Vis} (f:OnceI z img root acc i m left) (hi:i<acc.length) :
  ∃ s,acc[i]?=some s∧(0<i→s.visit.from'∈entd (acc.take i))∧(i=0→s.visit.from'=0∧s.visit.page=root)∧(s.why=2↔0<metC (acc.take i) s.visit.page)∧(s.why=1↔s.visit.page<2∨pages z img≤s.visit.page) ∧
   (s.why≠0→s.page=Pg.zero)∧(s.why=0→s.page.page=s.visit.page∧s.visit.page ∉ entd (acc.take i))∧∃ m' left',OnceI z img root acc (i+1) m' left':=by
 obtain ⟨le,run,st,met,rng,sub,nd⟩:=f
 have hd:acc.drop i=acc[i]::acc.drop (i+1):=by rw [List.drop_eq_getElem_cons hi]
 have hs0:acc[i]?=some acc[i]:=List.getElem?_eq_getElem hi
 rw [hd] at run
 generalize acc[i]=s at run hd hs0
 generalize hr:acc.drop (i+1)=r at run hd
 have tk:acc.take (i+1)=acc.take i++[s]:=by rw [List.take_add_one,hs0]; rfl
 cases run with
 |@step _ left' v _ run =>
  have sv:=seenP_visit z img m v
  obtain ⟨y1,y2,y3,y4⟩:=seenP_why z img m v
  have sm:=seenP_small z img m v
  have sd:=@seen_deep z img m v
  generalize seenP z img m v=s at *
  subst sv
  have d2:s.why=2↔0<metC (acc.take i) s.visit.page:=by
   rw [← met]
   exact ⟨fun e=>(y2.1 e).2,fun e=>y2.2 ⟨by have:=rng _ e; omega,e⟩⟩
  have d0:s.why=0→s.visit.page ∉ entd (acc.take i):=fun e h=>(sd e).2.2.2.1 (sub _ h)
  refine ⟨s,hs0,fun h0=>?_,fun h0=>?_,d2,y1,y3,fun e=>⟨y4 e,d0 e⟩,_,_,by omega,by rw [hr]; exact run,.inr ⟨by omega,fun w hw=>?_⟩,fun q=>?_,fun q hq=>?_,fun q hq=>?_,?_⟩
  ·rcases st with ⟨e,_⟩|⟨_,st⟩
   ·omega
   ·exact st _ (.head _)
  ·rcases st with ⟨_,e⟩|⟨e,_⟩
   ·simp only [List.cons.injEq] at e
    rw [e.1]; exact ⟨rfl,rfl⟩
   ·omega
  ·rw [tk,entd_app]
   rcases List.mem_append.1 hw with hw|hw
   ·have w0:s.why=0:=by
     by_cases q:s.why=0
     ·exact q
     ·rw [visits_why q] at hw; cases hw
    rw [if_pos w0,visits_from sm.2.2 w hw]
    simp
   ·rcases st with ⟨_,e⟩|⟨_,st⟩
    ·simp only [List.cons.injEq] at e
     rw [e.2] at hw; cases hw
    ·exact List.mem_append_left _ (st w (.tail _ hw))
  ·rw [tk,metC_app]
   by_cases w1:s.why=1
   ·rw [if_pos w1,if_neg (fun e=>e.1 w1),met]; simp
   ·rw [if_neg w1,List.mem_cons,met]
    by_cases c:q=s.visit.page
    ·rw [if_pos ⟨w1,c.symm⟩]; exact ⟨fun _=>by omega,fun _=>.inl c⟩
    ·rw [if_neg (fun e=>c e.2.symm)]; exact ⟨fun e=>by rcases e with e|e; exact absurd e c; omega,fun e=>.inr (by omega)⟩
  ·by_cases w1:s.why=1
   ·rw [if_pos w1] at hq; exact rng q hq
   ·rw [if_neg w1] at hq
    rcases List.mem_cons.1 hq with rfl|hq
    ·have:=mt y1.2 w1; omega
    ·exact rng q hq
  ·rw [tk,entd_app] at hq
   by_cases w1:s.why=1
   ·rw [if_pos w1]
    rw [if_neg (by omega),List.append_nil] at hq
    exact sub q hq
   ·rw [if_neg w1]
    rcases List.mem_append.1 hq with hq|hq
    ·exact .tail _ (sub q hq)
    ·split at hq
     ·rw [List.mem_singleton.1 hq]; exact .head _
     ·cases hq
  ·rw [tk,entd_app]
   split
   ·rename_i w0
    rw [List.nodup_append]
    exact ⟨nd,by simp,fun a ha b hb=>by rw [List.mem_singleton.1 hb]; exact fun e=>d0 w0 (e ▸ ha)⟩
   ·rw [List.append_nil]; exact nd
theorem nodup_len {l:List Nat} {N:Nat} (hn:l.Nodup) (hl:∀ q∈l,q<N):l.length≤N:=by
 have key:l.length+unm N l≤N:=by
  induction l with
  |nil=>have:=unm_le N []; simpa using this
  |cons p l ih =>
   have ih:=ih (List.nodup_cons.1 hn).2 fun q hq=>hl q (.tail _ hq)
   have lt:=unm_lt (hl p (.head _)) (List.nodup_cons.1 hn).1
   rw [List.length_cons]
   omega
 omega
theorem once_all {z:Int} {img:List UInt8} {root:Nat} {acc:List Sn} (r:RunR z img root acc):(entd acc).Nodup∧(entd acc).length≤pages z img:=by
 rcases r with ⟨_,e⟩|⟨_,r⟩
 ·subst e; exact ⟨by simp [entd],by simp [entd]⟩
 have key:∀ k,k≤acc.length→∃ m left,OnceI z img root acc k m left:=by
  intro k
  induction k with
  |zero=>intro _; exact ⟨_,_,.zero r⟩
  |succ k ih =>
   intro h
   obtain ⟨m,left,o⟩:=ih (by omega)
   obtain ⟨s,_,_,_,_,_,_,_,m',left',o'⟩:=o.step (by omega)
   exact ⟨m',left',o'⟩
 obtain ⟨m,left,o⟩:=key acc.length (Nat.le_refl _)
 have nd:=o.nd
 have sub:=o.sub
 rw [List.take_length] at nd sub
 exact ⟨nd,nodup_len nd fun q hq=>(o.rng q (sub q hq)).2⟩
theorem pages_fn_g {n:Nat} (hn:2<n) {w:AV} {acc:List Sn} {h:Heap} (ls:Ls Sn.cs 15 h w acc) (hk:h.ok) (la:acc.length≤300000) (nd:(entd acc).Nodup) (len:(entd acc).length<50) (lp:∀ s∈acc,s.visit.page<4294967296):Gives (TV n) 9 [w] h (fun v h'=>Ext h h'∧∃ l',IsSort (entd acc) l'∧LsW h' v l'):=by
 refine call_j (no_w rfl rfl) rfl rfl ?_
 have lw:=ls.len
 have nw:=ls.ns
 refine walk ?_
 refine jg_loop (ι:=Nat×AV) (fun a=>acc.length-a.1) (fun a=>[(3,a.2),(6,w),(7,.int .i64 acc.length),(8,.int .i64 (a.1:Nat))]) (fun a h2=>a.1≤acc.length∧Ext h h2∧OwnW (h.next ≤ ·) h2 a.2 (entd (acc.take a.1))) (0,.nilslice) hsub ⟨by simp only; omega,.refl _,by rw [List.take_zero]; exact OwnLS.nil⟩ ?_
 rintro ⟨i,u⟩ h2 ⟨hi,x2,ow⟩ next
 dsimp only at hi ow next ⊢
 have nx2:=x2.nx
 by_cases hil:i<acc.length
 case neg =>
  obtain rfl:i=acc.length:=by omega
  rw [List.take_length] at ow
  have k2:=x2.ok hk
  refine walk ?_
  refine jo_call (sort_own (n:=n) hn ow k2 len) rfl rfl rfl rfl ?_
  rintro _ h3 ⟨rfl,l',so,ow3,t3⟩
  have x3:Ext h h3:=⟨by have:=t3.nx; omega,fun c hc=>(t3.old c (by omega) (by omega)).trans (x2.old c hc),fun k=>t3.ok (x2.ok k)⟩
  refine walk ?_
  refine jo_call (compact_g (n:=n) ow3.ls (x3.ok hk) (by have:=so.1.length_eq; omega) (issort_lt so nd)) rfl rfl rfl rfl ?_
  rintro _ h4 ⟨rfl,x4⟩
  refine walk ?_
  exact jg_ret1 (by exact hres) ⟨x3.trans x4,l',so,ow3.ls.ext x4⟩
 obtain ⟨s,hs⟩:∃ s,acc[i]?=some s:=⟨acc[i],List.getElem?_eq_getElem hil⟩
 obtain ⟨b,p',e',all,rw',hb,hg,hpl,he,a1⟩:=(ls.ext x2).at Sn.csl hs
 have tk:acc.take (i+1)=acc.take i++[s]:=by rw [List.take_add_one,hs]; rfl
 have el:(entd (acc.take i)).length≤acc.length:=by
  unfold entd
  rw [List.length_map]
  exact Nat.le_trans (List.length_filter_le _ _) (by simp; omega)
 by_cases c1:s.why=0
 ·have e1:entd (acc.take (i+1))=entd (acc.take i)++[s.visit.page]:=by rw [tk,entd_app,if_pos c1]
  have x4:Ext h2 (((h2.alloc (.cells 34 zeroSn.cs true)).set h2.next (.cells 34 s.cs true)).alloc (.cells 22 (u32c s.visit.page) true)):=by exact hext
  obtain ⟨v7,h7,e7,o7,t7⟩:=app_row_s (T:=TV n) (st:=36) (rest:=[36]) (h:=(((h2.alloc (.cells 34 zeroSn.cs true)).set h2.next (.cells 34 s.cs true)).alloc (.cells 22 (u32c s.visit.page) true))) (x:=s.visit.page) (c:=h2.next+1) (OwnS.keep ow (fun c _ hc=>x4.old c hc) x4.nx) (get_new _ _) (by show h2.next+1<h2.next+1+1; omega) (by omega) rfl rfl rfl rfl rfl (by exact Nat.le_of_ble_eq_true rfl) rfl (by decide) rfl
  refine walk ?_
  refine next (i+1,v7) (by simp only; omega) hsub ⟨by simp only; omega,⟨by have:=t7.nx; have:=x4.nx; omega,fun c hc=>(t7.old c (by have:=x4.nx; omega) (by omega)).trans ((x4.old c (by omega)).trans (x2.old c hc)),fun k=>t7.ok (x4.ok (x2.ok k))⟩,?_⟩
  simp only
  rw [e1]
  exact OwnS.mono o7 fun c q _=>by rcases q with q|q; exact q; (have:=x4.nx; omega)
 ·have e1:entd (acc.take (i+1))=entd (acc.take i):=by rw [tk,entd_app,if_neg c1,List.append_nil]
  refine walk ?_
  refine next (i+1,u) (by simp only; omega) hsub ⟨by simp only; omega,by exact hext,?_⟩
  simp only
  rw [e1]
  exact ow.keep (fun c _ hc=>by rw [Heap.gn _ _ _ _ (by omega),Heap.ga _ _ _ (by omega)]) (Nat.le_succ _)
end Go.Proofs.YthdlebegkhnbiaaGreat
