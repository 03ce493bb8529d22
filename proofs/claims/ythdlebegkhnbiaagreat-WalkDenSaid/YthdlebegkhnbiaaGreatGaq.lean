/- A part of an evaluator of the program's form in Lean, of the proof that what it says of a call is what the machine does, and of the rules by which proofs walk over it. Conditions: those that each theorem states. -/
import Derived.Test.YthdlebegkhnbiaaGreatGao
set_option linter.unusedVariables false
set_option linter.unusedSimpArgs false
section
namespace Ev
open Go
theorem OwnS.back {h:Heap} {e:TypeId} {sz n k:Nat} {S:Nat→Prop} {v:AV} {cs:List AV} {kd:IntKind} (w:OwnS e sz S h v n cs) (hk:k≤n) (hs:0<sz):∃ v',sliceS sz h v (some (.int kd (k:Nat))) none none=some v'∧Sl h sz v' (n-k) (cs.drop (k*sz)):=by
 cases w with
 |nil =>
  obtain rfl:k=0:=by omega
  exact ⟨.nilslice,rfl,rfl,by simp⟩
 |@sl B cap n all cs hb hl hg hn ha hc =>
  have hk':(k:Int)≤(n:Int):=by omega
  refine ⟨.slice B (if cap=k then 0 else 0+k*sz) (n-k) (cap-k),?_,rfl,hl,e,all,true,hg,?_,?_⟩
  ·simp [sliceS,boundsA,mxA,hiA,loA,boundA,hk']
  ·have:=Nat.mul_le_mul_right sz hn
   have h2:=Nat.mul_le_mul_right sz hk
   rw [Nat.sub_mul]
   split<;>omega
  ·by_cases c:cap=k
   ·have:n=k:=by omega
    subst this
    rw [Nat.sub_self,Nat.zero_mul,List.take_zero,List.drop_eq_nil_of_le]
    rw [← hc,List.length_take]; omega
   ·rw [if_neg c,← hc,Nat.zero_add,List.drop_take,Nat.sub_mul]
 |@os B cap n all cs hb hl hg hn ha hc =>
  have hkn:(all.length-0) / sz=cap:=by rw [Nat.sub_zero,ha]; exact Nat.mul_div_cancel _ hs
  have hkn2:all.length / sz=cap:=by rw [ha]; exact Nat.mul_div_cancel _ hs
  have hk':(k:Int)≤(n:Int):=by omega
  have b1:loA n (some (.int kd (k:Nat)))=some k:=by simp only [loA,boundA]; rw [if_pos ⟨by omega,hk'⟩]; simp
  by_cases c:k<cap
  ·refine ⟨.oslice B (0+k*sz) (n-k) sz,?_,rfl,rfl,hl,e,all,true,hg,?_,?_⟩
   ·simp only [sliceS,hg,hkn,boundsA,mxA,hiA,b1,ne_eq,not_true_eq_false,if_false,c,if_true]
   ·have:=Nat.mul_le_mul_right sz hn
    have h2:=Nat.mul_le_mul_right sz hk
    rw [Nat.sub_mul]
    omega
   ·rw [← hc,Nat.zero_add,List.drop_take,Nat.sub_mul]
  ·by_cases c0:k=0
   ·subst c0
    refine ⟨.oslice B 0 n sz,?_,by simp,rfl,hl,e,all,true,hg,?_,?_⟩
    ·simp only [sliceS,hg,hkn,boundsA,mxA,hiA,b1,ne_eq,not_true_eq_false,if_false,c,if_true,Nat.sub_zero,hkn2]
    ·have:n=0:=by omega
     subst this; simp
    ·have:n=0:=by omega
     subst this; simp [← hc]
   ·refine ⟨.eslice,?_,by omega,?_⟩
    ·have:n=k:=by omega
     subst this
     simp only [sliceS,hg,hkn,boundsA,mxA,hiA,b1,ne_eq,not_true_eq_false,if_false,c,c0,if_true,hkn2,Nat.sub_zero,Nat.lt_irrefl]
    ·have:n=k:=by omega
     subst this
     rw [List.drop_eq_nil_of_le]
     rw [← hc,List.length_take]; omega
theorem OwnS.cut_same {h h':Heap} {e:TypeId} {sz n:Nat} {S:Nat→Prop} {v:AV} {cs:List AV} (w:OwnS e sz S h v n cs) (k:∀ b,S b→b<h.next→h'.get b=h.get b) (lo hi mx:Option AV):sliceS sz h' v lo hi mx=sliceS sz h v lo hi mx:=by
 cases w with
 |nil=>rfl
 |sl hb hl hg hn ha hc=>rfl
 |os hb hl hg hn ha hc=>simp only [sliceS,k _ hb hl]
end Ev
end
