/- What the functions of this part answer at any input, told by the rules over the evaluator. Conditions: those that each theorem states. -/
import Derived.Test.YthdlebegkhnbiaaGreatEac
import Derived.Test.YthdlebegkhnbiaaGreatGao
import Derived.Test.YthdlebegkhnbiaaGreatRf1
set_option linter.unusedVariables false
set_option linter.unusedSimpArgs false
open Go Ev
namespace Go.Proofs.YthdlebegkhnbiaaGreat
set_option maxRecDepth 10000
set_option maxHeartbeats 4000000
theorem light_w {n:Nat} (hn:0<n) (img:List UInt8) (hi:img.length<9223372036854775808) (h:Heap):(TV n).sm 6 [.str img] h=some (.bool (decide (img.length≤5000)),h):=by
 refine w_of hn rfl rfl rfl fun n hn=>body_j rfl rfl ?_
 refine walk ?_
 exact jg_ret1 (by exact hres) (av_d (by omega))
theorem visits_from {s:Sn} (hl:s.page.link<4294967296):∀ w∈visitsV s,w.from'=s.visit.page:=fun w h=>(visits_mem hl h).1
structure FromI (z:Int) (img:List UInt8) (root:Nat) (acc:List Sn) (i c:Nat) (met:List Nat) (left:List Vis) (sent:Nat→List Vis):Prop where
 le:i≤acc.length
 run:Run z img met left (acc.drop i)
 st:i=0∧left=[root0 root]∧(∀ q,sent q=[])∨0<i∧(∀ q,sent q=left.filter fun w=>decide (w.from'=q))∧∀ w∈left,w.from'∈met
 tame:∀ w∈left,0≤w.depth∧w.depth≤17
 cnt:c+1=i+left.length
theorem filter_all {α:Type} {p:α→Bool} {l:List α} (h:∀ x∈l,p x=true):l.filter p=l:=List.filter_eq_self.2 h
theorem FromI.step {z:Int} {img:List UInt8} {root:Nat} {acc:List Sn} {i c:Nat} {met:List Nat} {left:List Vis} {sent:Nat→List Vis} (f:FromI z img root acc i c met left sent) (hi:i<acc.length) :
  ∃ s rest left',acc[i]?=some s∧left=s.visit::left'∧s.page.link<4294967296∧s.page.body.length≤4072∧s.page.count<1000000000∧0≤s.visit.depth∧s.visit.depth≤17∧(s.why≠0→visitsV s=[])∧(0<i→sent s.visit.from'=s.visit::rest) ∧
   ∃ met',FromI z img root acc (i+1) (c+(visitsV s).length) met' (visitsV s++left') (fun q=>if s.why=0∧q=s.visit.page then visitsV s else if 0<i∧q=s.visit.from' then rest else sent q):=by
 obtain ⟨le,run,st,tame,cnt⟩:=f
 have hd:acc.drop i=acc[i]::acc.drop (i+1):=by rw [List.drop_eq_getElem_cons hi]
 rw [hd] at run
 generalize hs:acc[i]=s at run hd
 generalize hr:acc.drop (i+1)=r at run hd
 cases run with
 |@step _ left' v _ run =>
  have sv:=seenP_visit z img met v
  have sm:=seenP_small z img met v
  have sd:=@seen_deep z img met v
  generalize seenP z img met v=s at *
  have t0:=tame v (.head _)
  refine ⟨s,left'.filter (fun w=>decide (w.from'=s.visit.from')),left',by rw [List.getElem?_eq_getElem hi,hs],by rw [sv],sm.2.2,sm.1,sm.2.1,by rw [sv]; exact t0.1,by rw [sv]; exact t0.2,visits_why,fun h0=>?_,if s.why=1 then met else v.page::met,?_⟩
  ·rcases st with ⟨e,-⟩|⟨-,st,-⟩
   ·omega
   ·rw [st,sv]; simp
  ·have sub:∀ q∈met,q∈(if s.why=1 then met else v.page::met):=fun q hq=>by
    split
    ·exact hq
    ·exact .tail _ hq
   refine ⟨by omega,by rw [hr]; exact run,.inr ⟨by omega,fun q=>?_,fun w hw=>?_⟩,fun w hw=>?_,?_⟩
   ·have lf:∀ q,(0<i∧q=s.visit.from'∨¬ (0<i∧q=s.visit.from')):=fun q=>Classical.em _
    have base:(if 0<i∧q=s.visit.from' then left'.filter (fun w=>decide (w.from'=s.visit.from')) else sent q)=left'.filter (fun w=>decide (w.from'=q)):=by
     rcases st with ⟨e,e2,st⟩|⟨h0,st,-⟩
     ·rw [if_neg (by omega),st]
      simp only [List.cons.injEq] at e2
      rw [e2.2]; rfl
     ·by_cases c:q=s.visit.from'
      ·rw [if_pos ⟨h0,c⟩,c]
      ·rw [if_neg (fun k=>c k.2),st,List.filter_cons,if_neg (by rw [sv] at c; simp; exact fun k=>c k.symm)]
    by_cases w0:s.why=0
    ·have key:∀ w∈left',w.from'≠v.page:=fun w hw e=>by
      rcases st with ⟨_,e2,-⟩|⟨-,-,st⟩
      ·simp only [List.cons.injEq] at e2
       rw [e2.2] at hw; cases hw
      ·exact (sd w0).2.2.2.1 (e ▸ st w (.tail _ hw))
     rw [List.filter_append]
     by_cases c:q=s.visit.page
     ·rw [if_pos ⟨w0,c⟩,filter_all (fun w hw=>by simp [visits_from sm.2.2 w hw,c]),List.filter_eq_nil_iff.2 (fun w hw=>by rw [c,sv]; simp; exact key w hw),List.append_nil]
     ·have e0:(visitsV s).filter (fun w=>decide (w.from'=q))=[]:=List.filter_eq_nil_iff.2 fun w hw=>by simp [visits_from sm.2.2 w hw]; exact fun k=>c k.symm
      rw [if_neg (fun k=>c k.2),base,e0,List.nil_append]
    ·rw [if_neg (fun k=>w0 k.1),base,visits_why w0,List.nil_append]
   ·rcases List.mem_append.1 hw with hw|hw
    ·have w0:s.why=0:=by
      by_cases q:s.why=0
      ·exact q
      ·rw [visits_why q] at hw; cases hw
     rw [visits_from sm.2.2 w hw,sv,if_neg (by rw [w0]; decide)]
     exact .head _
    ·rcases st with ⟨_,e2,-⟩|⟨-,-,st⟩
     ·simp only [List.cons.injEq] at e2
      rw [e2.2] at hw; cases hw
     ·exact sub _ (st w (.tail _ hw))
   ·rcases List.mem_append.1 hw with hw|hw
    ·have w0:s.why=0:=by
      by_cases q:s.why=0
      ·exact q
      ·rw [visits_why q] at hw; cases hw
     have dp:=sd w0
     obtain ⟨-,-,q3⟩:=visits_mem sm.2.2 hw
     rw [sv] at q3
     exact ⟨by omega,by omega⟩
    ·exact tame w (.tail _ hw)
   ·simp only [List.length_cons,List.length_append] at cnt ⊢
    omega
theorem FromI.zero {z:Int} {img:List UInt8} {root:Nat} {acc:List Sn} (h:Run z img [] [root0 root] acc):FromI z img root acc 0 0 [] [root0 root] (fun _=>[]) :=
 ⟨by omega,h,.inl ⟨rfl,rfl,fun _=>rfl⟩,fun w hw=>by obtain rfl:=List.mem_singleton.1 hw; exact ⟨(by decide:(0:Int)≤0),(by decide:(0:Int)≤17)⟩,rfl⟩
theorem FromI.fin {z:Int} {img:List UInt8} {root:Nat} {acc:List Sn} {i c:Nat} {met:List Nat} {left:List Vis} {sent:Nat→List Vis} (f:FromI z img root acc i c met left sent) (hi:¬ i<acc.length):c+1=acc.length:=by
 obtain ⟨le,run,st,tame,cnt⟩:=f
 rw [List.drop_eq_nil_of_le (by omega)] at run
 cases run
 simp at cnt
 omega
theorem run_mem {z:Int} {img:List UInt8} {met:List Nat} {left:List Vis} {l:List Sn} (r:Run z img met left l) (hl:∀ v∈left,v.page<4294967296):∀ s∈l,(∃ m,s=seenP z img m s.visit)∧s.visit.page<4294967296:=by
 induction r with
 |done=>intro s hs; cases hs
 |@step m left v l r ih =>
  intro s hs
  have sv:=seenP_visit z img m v
  rcases List.mem_cons.1 hs with rfl|hs
  ·exact ⟨⟨m,by rw [sv]⟩,by rw [sv]; exact hl v (.head _)⟩
  ·refine ih (fun w hw=>?_) s hs
   rcases List.mem_append.1 hw with hw|hw
   ·exact (visits_mem (seenP_small z img m v).2.2 hw).2.1
   ·exact hl w (.tail _ hw)
set_option maxRecDepth 10000
set_option maxHeartbeats 4000000
end Go.Proofs.YthdlebegkhnbiaaGreat
