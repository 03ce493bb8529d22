/- A part of an evaluator of the program's form in Lean, of the proof that what it says of a call is what the machine does, and of the rules by which proofs walk over it. Conditions: those that each theorem states. -/
import Derived.Test.YtejfbaecadbdiaaGreatGac
import Derived.Lib.ConvBytes
import Derived.Laws.BytesString
import Derived.RangeFuncRecord
set_option linter.unusedVariables false
set_option linter.unusedSimpArgs false
section
namespace Ev
open Go Go.RowKit
variable {P:Program}{T:a0k}{base:Nat}{w0:World}
theorem c3f {B:Nat}{e:TypeId}{z:Nat×Nat}:∀ (vs:List Value) (w:World) (c:Array Value) (o i:Nat),w.heap[B]?=some (.cells c e z)→o+i+vs.length≤c.size→(∀ v∈vs,v.oneCell'=true) →
  (∀ j,o+i≤j→j<c.size→¬ (z.1≤j∧j<z.2)) →
  ∃ w',(storeCells ⟨B,o,none⟩ vs i).run P w=.ok () w'∧(∃ c',w'.heap[B]?=some (.cells c' e z)∧c'.toList=over c.toList (o+i) vs)∧(∀ k,k≠B→w'.heap[k]?=w.heap[k]?)∧w'.heap.size=w.heap.size ∧
   w'.os=w.os∧w'.tape=w.tape∧w'.output=w.output∧w'.drawn=w.drawn
 |[],w,c,o,i,hw,_,_,_=>⟨w,by simp[storeCells],⟨c,hw,by rw[c2d]⟩,fun _ _=>rfl,rfl,rfl,rfl,rfl,rfl⟩
 |v::vs,w,c,o,i,hw,hl,h1,hf=>by
  simp only[List.length_cons] at hl
  have ha:(⟨B,o,none⟩:Addr).add i=⟨B,o+i,none⟩:=by
   unfold Addr.add; split
   ·rename_i h; subst h; rfl
   ·rfl
  have hc:w.cell? ⟨B,o+i,none⟩=some c[o+i]:=by
   unfold World.cell?; simp[hw]
  have hz:w.frozen? ⟨B,o+i,none⟩=false:=by
   unfold World.frozen?
   simp only[hw]
   have:=hf (o+i) (Nat.le_refl _) (by omega)
   simp only[Bool.and_eq_false_iff,decide_eq_false_iff_not]
   omega
  have hw1:(w.setCell ⟨B,o+i,none⟩ v).heap[B]?=some (.cells (c.setIfInBounds (o+i) v) e z):=by
   simp only[World.setCell,Array.getElem?_modify,if_true,hw,Option.map_some]
   simp
  obtain⟨w',r1,⟨c',r2,r3⟩,r4,r5,r6,r7,r8,r9⟩:=c3f vs (w.setCell ⟨B,o+i,none⟩ v) (c.setIfInBounds (o+i) v) o (i+1) hw1 (by simp; omega) (fun x hx=>h1 x (List.mem_cons_of_mem _ hx)) (fun j hj hj'=>hf j (by omega) (by simpa using hj'))
  refine⟨w',?_,⟨c',r2,?_⟩,?_,?_,r6,r7,r8,r9⟩
  ·simp only[storeCells,Sem.run_bind,ha,run_store P w _ v _ (h1 v (List.mem_cons_self ..))]
   simp[hc,hz,r1]
  ·rw[r3,Array.toList_setIfInBounds,← c5j _ _ _ (by simp; omega),← Nat.add_assoc,b9l _ _ _ _ (by simp; omega)]
  ·intro k hk; rw[r4 k hk]; exact Below.heap_setCell w _ v k hk
  ·rw[r5]; simp
theorem e3g {E:En}{h:a0a}{w:World}(H:HR P base w0 E h w) (b:Nat) (hd:E.dom b):HR P base w0 E (h.set b .dead) w∧Ste E h w E (h.set b .dead) w:=by
 refine⟨⟨H.dlt,?_,?_,H.wd,H.drawn,H.bsz,H.blt⟩,⟨.refl E,fun _ h=>.inl h,Nat.le_refl _,?_,Nat.le_refl _,fun _ _ _=>rfl,fun _ h=>.inl h⟩⟩
 ·intro x o hx ho
  rw[a0a.a1d] at ho
  by_cases e:x=b
  ·rw[if_pos e] at ho; simp at ho; subst ho; trivial
  ·rw[if_neg e] at ho; exact H.obj x o hx ho
 ·intro x x' o1 o2 hx hx' ho1 ho2 w1 w2 e
  rw[a0a.a1d] at ho1 ho2
  by_cases e1:x=b
  ·rw[if_pos e1] at ho1; simp at ho1; subst ho1; exact w1.elim
  ·by_cases e2:x'=b
   ·rw[if_pos e2] at ho2; simp at ho2; subst ho2; exact w2.elim
   ·rw[if_neg e1] at ho1; rw[if_neg e2] at ho2
    exact H.inj x x' o1 o2 hx hx' ho1 ho2 w1 w2 e
 ·intro x hx hn
  rw[a0a.a1d,if_neg (fun e:x=b=>hn (e ▸ hd))]
theorem e2k {E:En}{h:a0a}{w w':World}(H:HR P base w0 E h w){b:Nat}(hd:E.dom b){e:TypeId}{cs:List AV}(hg:h.get b=some (.cells e cs true)){off:Nat}(hoff:off≤E.ext b)
  {c':Array Value} {z:Nat×Nat} (hw':w'.heap[E.blk b]?=some (.cells c' e z)) (hoth:∀ k,k≠E.blk b→w'.heap[k]?=w.heap[k]?) (hsz:w'.heap.size=w.heap.size)
  (ho:w'.os=w.os) (ht:w'.tape=w.tape) (hu:w'.output=w.output) (hdr:w'.drawn=w.drawn) (hcs:c'.size=E.off b+E.ext b) (hfz:z.1=z.2∨(c'.size≤z.1∧P.underlying e=some (.int .u8)))
  {cs2:List AV} (hl:cs2.length≤E.ext b-off) (hv:∀ (i:Nat) (v:AV),cs2[i]?=some v→∃ v',c'[E.off b+off+i]?=some v'∧VR E v v') :
  let E':=E.push h.next (E.blk b) (E.off b+off) (E.ext b-off)
  HR P base w0 E' ((h.set b .dead).alloc (.cells e cs2 true)) w'∧Ste E h w E' ((h.set b .dead).alloc (.cells e cs2 true)) w':=by
 have hnd:¬ E.dom h.next:=fun hd=>by have:=H.dlt _ hd; omega
 have le:=E.b0w h.next (E.blk b) (E.off b+off) (E.ext b-off) hnd
 have hbase:=(H.obj b _ hd hg).base rfl
 have ne:∀ x,E.dom x→x≠h.next:=fun x hx e=>hnd (e ▸ hx)
 have get:∀ x,((h.set b .dead).alloc (.cells e cs2 true)).get x=if x=h.next then some (.cells e cs2 true) else if x=b then some .dead else h.get x:=by
  intro x
  rw[a0a.a4f]
  simp only[a0a.c1w,a0a.a1d]
 have blk0:(E.push h.next (E.blk b) (E.off b+off) (E.ext b-off)).blk h.next=E.blk b:=by simp[En.push]
 have other:∀ x o,E.dom x→x≠b→h.get x=some o→o≠.dead→E.blk x≠E.blk b:=by
  intro x o hx hxb ho hdead hbb
  have h1:=H.obj x o hx ho
  cases o with
  |cells e' cs' rw =>
   cases rw with
   |true=>exact hxb (H.inj x b _ _ hx hd ho hg rfl rfl hbb)
   |false=>obtain⟨_,_,_,_,_,_,_,p6⟩:=h1; have:=p6 rfl; omega
  |dead=>exact hdead rfl
  |map=>exact hxb (H.inj x b _ _ hx hd ho hg trivial rfl hbb)
  |loop=>exact hxb (H.inj x b _ _ hx hd ho hg trivial rfl hbb)
  |dfr=>exact hxb (H.inj x b _ _ hx hd ho hg trivial rfl hbb)
  |iter=>exact hxb (H.inj x b _ _ hx hd ho hg trivial rfl hbb)
 refine⟨⟨?_,?_,?_,?_,?_,?_,?_⟩,⟨le,?_,by simp,?_,by omega,?_,?_⟩⟩
 ·intro x hx
  rcases hx with rfl|hx
  ·simp
  ·have:=H.dlt x hx; simp; omega
 ·intro x o hx hgx
  rw[get] at hgx
  rcases hx with rfl|hx
  ·simp at hgx; subst hgx
   refine⟨c',z,by rw[blk0]; exact hw',?_,?_,?_,?_,by simp⟩
   ·simp[En.push]; omega
   ·simpa [En.push] using hl
   ·intro i v hi
    obtain⟨v',h1,h2⟩:=hv i v hi
    exact⟨v',by simpa [En.push] using h1,h2.mono le⟩
   ·intro _
    exact⟨by rw[blk0]; exact hbase,hfz⟩
  ·rw[if_neg (ne x hx)] at hgx
   by_cases hxb:x=b
   ·rw[if_pos hxb] at hgx; simp at hgx; subst hgx; trivial
   ·rw[if_neg hxb] at hgx
    by_cases hdead:o=.dead
    ·subst hdead; trivial
    ·refine OR'.same ?_ (OR'.mono le hx (H.obj x o hx hgx))
     rw[le.blk x hx]
     exact hoth _ (other x o hx hxb hgx hdead)
 ·intro x x' o1 o2 hx hx' ho1 ho2 w1 w2 e
  rw[get] at ho1 ho2
  have nd:∀ o:a1t,o.own→o≠.dead:=fun o ho e=>by subst e; exact ho
  rcases hx with rfl|hx<;>rcases hx' with rfl|hx'
  ·rfl
  ·rw[if_neg (ne x' hx')] at ho2
   by_cases hxb:x'=b
   ·rw[if_pos hxb] at ho2; simp at ho2; subst ho2; exact w2.elim
   ·rw[if_neg hxb] at ho2
    rw[blk0,le.blk x' hx'] at e
    exact absurd e.symm (other x' o2 hx' hxb ho2 (nd _ w2))
  ·rw[if_neg (ne x hx)] at ho1
   by_cases hxb:x=b
   ·rw[if_pos hxb] at ho1; simp at ho1; subst ho1; exact w1.elim
   ·rw[if_neg hxb] at ho1
    rw[blk0,le.blk x hx] at e
    exact absurd e (other x o1 hx hxb ho1 (nd _ w1))
  ·rw[if_neg (ne x hx)] at ho1
   rw[if_neg (ne x' hx')] at ho2
   by_cases hxb:x=b
   ·rw[if_pos hxb] at ho1; simp at ho1; subst ho1; exact w1.elim
   ·by_cases hxb':x'=b
    ·rw[if_pos hxb'] at ho2; simp at ho2; subst ho2; exact w2.elim
    ·rw[if_neg hxb] at ho1; rw[if_neg hxb'] at ho2
     rw[le.blk x hx,le.blk x' hx'] at e
     exact H.inj x x' o1 o2 hx hx' ho1 ho2 w1 w2 e
 ·refine⟨ho.trans H.wd.os,ht.trans H.wd.tape,hu.trans H.wd.output,by rw[hsz]; exact H.wd.size,fun k hk=>?_⟩
  rw[hoth k (by omega)]; exact H.wd.block k hk
 ·rw[hdr]; exact H.drawn
 ·rw[hsz]; exact H.bsz
 ·intro x hx
  rw[hsz]
  rcases hx with rfl|hx
  ·rw[blk0]; exact H.blt b hd
  ·rw[le.blk x hx]; exact H.blt x hx
 ·intro x hx
  rcases hx with rfl|hx
  ·exact .inr (Nat.le_refl _)
  ·exact .inl hx
 ·intro x hx hn
  rw[get,if_neg (by omega),if_neg (fun e:x=b=>hn (e ▸ hd))]
 ·intro k hk hn
  exact hoth k (fun e=>hn b hd e.symm)
 ·intro x hx
  rcases hx with rfl|hx
  ·exact .inr (.inr ⟨b,hd,by rw[blk0]⟩)
  ·exact .inl hx
end Ev
end
section
namespace Ev
open Go Go.RowKit
variable {P:Program}{T:a0k}{base:Nat}{w0:World}
theorem HR.drew {E:En}{h:a0a}{w:World}(H:HR P base w0 E h w):HR P base w0 E h w.drew:=H.heap rfl rfl rfl rfl (by simp)
theorem c2o (E:En) (h:a0a) (w:World):Ste E h w E h w.drew :=
 ⟨.refl E,fun _ h=>.inl h,Nat.le_refl _,fun _ _ _=>rfl,Nat.le_refl _,fun _ _ _=>rfl,fun _ h=>.inl h⟩
theorem VRs.one {E:En}:∀ {a:List AV}{v:List Value},VRs E a v→a.all AV.one=true→∀ x∈v,x.oneCell'=true
 |_,_,.nil,_,x,hx=>by simp at hx
 |_,_,.cons a v l l' h hl,ho,x,hx=>by
  simp only[List.all_cons,Bool.and_eq_true] at ho
  rcases List.mem_cons.1 hx with rfl|hx
  ·exact h.one ho.1
  ·exact hl.one ho.2 x hx
def e1v (base:Nat) (w0:World) (E:En) (h:a0a) (w:World) (v:AV) (h':a0a) (s:Sem Value) (P:Program):Prop :=
 ∃ E' w' v',s.run P w=.ok v' w'∧VR E' v v'∧HR P base w0 E' h' w'∧Ste E h w E' h' w'
set_option maxRecDepth 4000 in
theorem c7i (ok:a0v P T){ty st elem:TypeId}{rest:List TypeId}{x':Value}(hu:T.und st=some (.slice elem)){sz n sl sCap:Nat}{basea:Option Addr}(hsz:T.size elem=some sz)
  {ei:TypeInfo} (hei:T.ti elem=some ei) {E:En} {h:a0a} {w:World} (H:HR P base w0 E h w) {new old:List AV} (S:Src P T E elem rest x' sz n new w) (hroom:a2u (sl+n) ei.bytes=true) (hzero:a5y T elem sz=true) (hlt:sCap<sl+n)
  (hnl:new.length=n*sz) (hol:old.length=sl*sz) {oc:Array Value} (hoc:(Builtin.firstCells sz sl (.slice basea sl sCap)).run P w.drew=.ok oc w.drew) (hov:VRs E old oc.toList) :
  e1v base w0 E h w (.oslice h.next 0 (sl+n) sz) (h.alloc (.cells elem (old++new) true)) (Builtin.append_ (st::rest).toArray ty #[.slice basea sl sCap,x']) P:=by
 obtain⟨newCap,nc,zc,h1,h2,h3,h4⟩:=d4d ok (ty:=ty) hu hsz hei S hroom hzero hlt hoc
 have l1:=hov.length
 have l2:=h3.length
 simp at l1 l2
 have hsize:(oc++nc++zc).size=newCap*sz:=by
  simp only[Array.size_append]
  rw[← l1,← l2,hol,hnl,h2,← Nat.add_mul,← Nat.add_mul]
  congr 1; omega
 have hall:VRs E (old++new) (oc.toList++nc.toList):=hov.append h3
 have K:=c5s (base:=base) (w0:=w0) H.drew elem (old++new) (oc++nc++zc) (by
  rw[hsize,List.length_append,hol,hnl,← Nat.add_mul]; exact Nat.mul_le_mul_right _ h1) (fun i v hi=>by
  obtain⟨v',e1,e2⟩:=hall.get hi
  refine⟨v',?_,e2⟩
  have hlt:i<(oc.toList++nc.toList).length:=(List.getElem?_eq_some_iff.1 e1).1
  rw[← Array.getElem?_toList]
  simp only[Array.toList_append]
  rw[List.getElem?_append_left (by simpa using hlt)]
  exact e1)
 obtain⟨k1,k2,k3,k4,k5⟩:=K
 refine⟨_,_,_,h4,?_,k1,(c2o E h w).trans k2⟩
 have:=VR.oslice (E:=E.push h.next w.drew.heap.size 0 (oc++nc++zc).size) h.next 0 (sl+n) sz newCap k3 (by rw[k5,hsize]; simp)
 rw[k4] at this
 exact this
set_option maxHeartbeats 1000000 in
set_option maxRecDepth 4000 in
theorem c6w (ok:a0v P T){E:En}{h:a0a}{w:World}(H:HR P base w0 E h w){args:List AV}{args':List Value}(ha:VRs E args args') (argTypes:List TypeId) (ty:TypeId) :
  Out P base w0 E h w (a1h T args argTypes h) ((do pure (Next.value (← Builtin.append_ argTypes.toArray ty args'.toArray)):Sem Next).run P w):=by
 unfold a1h
 split
 ·rename_i s x st rest
  cases ha with|cons _ s' _ _ hs ha =>
  cases ha with|cons _ x' _ _ hx ha =>
  cases ha
  split
  ·rename_i elem hu
   split
   ·rename_i sz sl n ei hsz hsl hn hei
    split
    ·rename_i new old hnew hold
     split
     ·trivial
     ·rename_i hc
      simp only[not_or,Bool.not_eq_false] at hc
      obtain⟨hroom,hzero,hnl,hol⟩:=hc
      have hnl:=Nat.eq_of_beq_eq_true hnl
      have hol:=Nat.eq_of_beq_eq_true hol
      have S:=f0l (P:=P) ok H hx hn hnew hzero
      have fin:∀ {v:AV} {h':a0a},e1v base w0 E h w v h' (Builtin.append_ (st::rest).toArray ty #[s',x']) P→Out P base w0 E h w (.val v h') ((do pure (Next.value (← Builtin.append_ (st::rest).toArray ty [s',x'].toArray)):Sem Next).run P w):=fun h=>a6e _ h
      have old2:∃ oc:Array Value,(Builtin.firstCells sz sl s').run P w.drew=.ok oc w.drew∧VRs E old oc.toList:=b3z H.drew hold hs
      obtain⟨oc,ho1,ho2⟩:=old2
      split
      ·rename_i b off len cap
       simp[a5a] at hsl; subst hsl
       cases hs with|slice _ _ _ _ hd =>
       split
       ·rename_i hle
        split
        ·rename_i h' hw
         apply fin
         obtain⟨nc,hv,hr⟩:=b1e ok (ty:=ty) (basea:=some (E.at b off)) hu hsz hei S hroom hle
         obtain⟨w',r1,r2,r3⟩:=a6w (P:=P) H hd hw hv
         refine⟨E,w',_,?_,.slice _ _ _ _ hd,r2,r3⟩
         rw[hr]
         simp only[inPlace,Sem.run_bind,En.a4u,r1,Result.andThen_ok,Sem.run_pure]
        ·trivial
       ·rename_i hle
        apply fin
        exact c7i ok hu hsz hei H S hroom hzero (by omega) hnl hol ho1 ho2
      ·rename_i b off len sz'
       simp[a5a] at hsl; subst hsl
       cases hs with|oslice _ _ _ _ k hd hk =>
       split
       ·rename_i e cs hg
        split
        ·trivial
        ·rename_i hc
         simp only[not_or,Bool.not_eq_false,Decidable.not_not] at hc
         obtain⟨rfl,hsz0,rfl,hone⟩:=hc
         have hor:=H.obj b _ hd hg
         obtain⟨c',z,p1,p2,p3,p4,p5,p6⟩:=hor
         obtain⟨q1,q2⟩:=p5 rfl
         split
         ·rename_i hle
          have hlek:len+n≤k:=by
           apply Nat.le_of_mul_le_mul_right _ (Nat.pos_of_ne_zero hsz0)
           omega
          split
          ·rename_i h' hw
           apply fin
           obtain⟨nc,hv,hr⟩:=b1e ok (ty:=ty) (basea:=some (E.at b off)) hu hsz hei S hroom hlek
           obtain⟨w',r1,r2,r3⟩:=a6w (P:=P) H hd hw hv
           refine⟨E,w',_,?_,.oslice _ _ _ _ _ hd hk,r2,r3⟩
           rw[hr]
           simp only[inPlace,Sem.run_bind,En.a4u,r1,Result.andThen_ok,Sem.run_pure]
          ·trivial
         ·rename_i hgt
          apply fin
          by_cases hlek:len+n≤k
          ·-- in place, beyond what is known
           obtain⟨nc,hv,hr⟩:=b1e ok (ty:=ty) (basea:=some (E.at b off)) hu hsz hei S hroom hlek
           have hncl:=hv.length
           simp at hncl
           have hmul:len*sz'+n*sz'≤k*sz':=by rw[← Nat.add_mul]; exact Nat.mul_le_mul_right _ hlek
           have hoffle:off≤E.ext b:=by omega
           obtain⟨w',r1,⟨c2,r2,r3⟩,r4,r5,r6,r7,r8,r9⟩:=c3f (P:=P) nc.toList w c' (E.off b+(off+len*sz')) 0 p1 (by simp; omega) (hv.one hone) (fun j hj hj'=>by omega)
           have hc2:c2.size=c'.size:=by
            have:=a3v c'.toList (E.off b+(off+len*sz')+0) nc.toList (by simp; omega)
            rw[← r3] at this; simpa using this
           have oldv:∀ (i:Nat) (v:AV),(old++new)[i]?=some v→∃ v',c2[E.off b+off+i]?=some v'∧VR E v v':=by
            intro i v hi
            rw[← Array.getElem?_toList,r3,b1i _ _ _ (by simp; omega)]
            by_cases hil:i<old.length
            ·rw[List.getElem?_append_left hil] at hi
             have hold':=hold
             unfold a3z at hold'
             simp only at hold'
             unfold a2j at hold'
             rw[hg] at hold'
             simp only at hold'
             obtain⟨hb,rfl⟩:=b1s hold'
             rw[List.getElem?_take,if_pos (by rw[hol] at hil; exact hil),List.getElem?_drop] at hi
             obtain⟨v',e1,e2⟩:=p4 _ _ hi
             refine⟨v',?_,e2⟩
             rw[if_neg (by omega),Array.getElem?_toList]
             rw[Nat.add_assoc]; exact e1
            ·rw[List.getElem?_append_right (by omega)] at hi
             obtain⟨v',e1,e2⟩:=hv.get hi
             refine⟨v',?_,e2⟩
             have hin:i-old.length<new.length:=(List.getElem?_eq_some_iff.1 hi).1
             rw[if_pos (by simp; omega)]
             rw[← e1]; congr 1; omega
           have M:=e2k H hd hg (off:=off) hoffle r2 r4 r5 r6 r7 r8 r9 (by rw[hc2]; exact p2) (by rw[hc2]; exact q2) (cs2:=old++new) (by
            rw[List.length_append,hol,hnl]; omega) oldv
           refine⟨_,w',.slice (some (E.at b off)) (len+n) k,?_,?_,M.1,M.2⟩
           ·rw[hr]
            have ha:(E.at b off).add (len*sz')=⟨E.blk b,E.off b+(off+len*sz'),none⟩:=by rw[En.a4u]; rfl
            simp only[inPlace,Sem.run_bind,ha,r1,Result.andThen_ok,Sem.run_pure]
           ·have:=VR.oslice (E:=E.push h.next (E.blk b) (E.off b+off) (E.ext b-off)) h.next 0 (len+n) sz' k (.inl rfl) (by simp[En.push]; omega)
            have he:(E.push h.next (E.blk b) (E.off b+off) (E.ext b-off)).at h.next 0=E.at b off:=by simp[En.at,En.push]
            rw[he] at this
            exact this
          ·have K:=e3g H b hd
           obtain⟨E',w',v',r1,r2,r3,r4⟩:=c7i ok (ty:=ty) hu hsz hei K.1 S hroom hzero (by omega) hnl hol ho1 ho2
           exact⟨E',w',v',r1,r2,r3,K.2.trans r4⟩
       ·trivial
      ·simp[a5a] at hsl; subst hsl
       cases hs
       split
       ·rename_i hn0
        subst hn0
        apply fin
        obtain⟨nc,hv,hr⟩:=b1e ok (ty:=ty) (basea:=none) (sl:=0) (sCap:=0) hu hsz hei S hroom (by omega)
        exact⟨E,w,.slice none 0 0,by rw[hr]; simp[inPlace],.nilslice,H,.refl E h w⟩
       ·rename_i hn0
        apply fin
        have:=c7i ok (ty:=ty) (sl:=0) (sCap:=0) (basea:=none) hu hsz hei H S hroom hzero (by omega) hnl hol ho1 ho2
        simpa using this
      ·simp[a5a] at hsl; subst hsl
       cases hs with|eslice a k =>
       split
       ·rename_i hn0
        subst hn0
        apply fin
        obtain⟨nc,hv,hr⟩:=b1e ok (ty:=ty) (basea:=some a) (sl:=0) (sCap:=k) hu hsz hei S hroom (by omega)
        have:new=[]:=by apply List.eq_nil_of_length_eq_zero; rw[hnl]; simp
        subst this
        have hnc:nc.toList=[]:=by cases hx:nc.toList with
         |nil=>rfl
         |cons a l=>rw[hx] at hv; cases hv
        refine⟨E,w,.slice (some a) 0 k,by rw[hr]; simp[inPlace,hnc,storeCells],.eslice _ _,H,.refl E h w⟩
       ·trivial
      ·trivial
    ·trivial
   ·trivial
  ·trivial
 ·trivial
end Ev
end
section
namespace Ev
open Go Go.RowKit
variable {P:Program}{T:a0k}{base:Nat}{w0:World}
def b1x (basea:Option Addr) (c:Array Value) (n:Nat):Sem Value:=match basea with
 |some a=>do
  storeCells a c.toList
  pure (goInt n)
 |none=>pure (goInt n)
theorem d2s (ok:a0v P T){E:En}{h:a0a}{w:World}(H:HR P base w0 E h w){args:List AV}{args':List Value}(ha:VRs E args args') (argTypes:List TypeId) (ty:TypeId) :
  Out P base w0 E h w (c0d T args argTypes h) ((do pure (Next.value (← Builtin.copy_ argTypes.toArray ty args'.toArray)):Sem Next).run P w):=by
 unfold c0d
 split
 ·rename_i d s dt rest
  cases ha with|cons _ d' _ _ hd ha =>
  cases ha with|cons _ s' _ _ hs ha =>
  cases ha
  split
  ·rename_i elem hu
   split
   ·rename_i sz dl sl hsz hdl hsl
    simp only
    have rl:=c3p (P:=P) hsl hs w
    have pre:∀ (basea:Option Addr) (cap:Nat) (new:List AV),a3z sz (Nat.min sl dl) h s=some new→d'=.slice basea dl cap→∃ c:Array Value,VRs E new c.toList ∧
      (Builtin.copy_ (dt::rest).toArray ty #[d',s']).run P w=(b1x basea c (Nat.min sl dl)).run P w:=by
     rintro basea cap new hf rfl
     obtain⟨c,r1,v1⟩:=b3z (P:=P) H hf hs
     refine⟨c,v1,?_⟩
     unfold Builtin.copy_
     unfold b1x
     simp[a0i ok hu,a1o ok hsz,rl,r1]
     cases basea<;>simp
    split
    ·rename_i new b off n cap hf
     cases hd with|slice _ _ _ _ hdd =>
     simp[a5a] at hdl; subst hdl
     split
     ·rename_i h' hw
      apply a6e
      obtain⟨c,v1,r1⟩:=pre _ _ _ hf rfl
      obtain⟨w',r2,r3,r4⟩:=a6w (P:=P) H hdd hw v1
      refine⟨E,w',_,?_,.int _ _,r3,r4⟩
      rw[show([Value.slice (some (E.at b off)) n cap,s'].toArray) = #[Value.slice (some (E.at b off)) n cap,s'] from rfl,r1]
      simp[b1x,r2,goInt]
     ·trivial
    ·rename_i new b off n sz' hf
     cases hd with|oslice _ _ _ _ k hdd hk =>
     simp[a5a] at hdl; subst hdl
     split
     ·rename_i h' hw
      apply a6e
      obtain⟨c,v1,r1⟩:=pre _ _ _ hf rfl
      obtain⟨w',r2,r3,r4⟩:=a6w (P:=P) H hdd hw v1
      refine⟨E,w',_,?_,.int _ _,r3,r4⟩
      rw[show([Value.slice (some (E.at b off)) n k,s'].toArray) = #[Value.slice (some (E.at b off)) n k,s'] from rfl,r1]
      simp[b1x,r2,goInt]
     ·trivial
    ·rename_i new hf
     cases hd
     simp[a5a] at hdl; subst hdl
     apply a2r H
     obtain⟨c,v1,r1⟩:=pre _ _ _ hf rfl
     refine⟨_,?_,.int _ _⟩
     rw[show([Value.slice none 0 0,s'].toArray) = #[Value.slice none 0 0,s'] from rfl,r1]
     simp[b1x,goInt]
    ·rename_i hf
     cases hd with|eslice a k =>
     simp[a5a] at hdl; subst hdl
     apply a2r H
     obtain⟨c,v1,r1⟩:=pre _ _ _ hf rfl
     have hnc:c.toList=[]:=by cases hx:c.toList with
      |nil=>rfl
      |cons a l=>rw[hx] at v1; cases v1
     refine⟨_,?_,.int _ _⟩
     rw[show([Value.slice (some a) 0 k,s'].toArray) = #[Value.slice (some a) 0 k,s'] from rfl,r1]
     simp[b1x,goInt,hnc,storeCells]
    ·trivial
   ·trivial
  ·trivial
 ·trivial
theorem b7g (ok:a0v P T){E:En}{h:a0a}{w:World}(H:HR P base w0 E h w){t elem:TypeId}(hu:T.und t=some (.slice elem)){b off n k:Nat}(hd:E.dom b) (ts:List TypeId) (l':List Value) (ty:TypeId) :
  Out P base w0 E h w (b6x T elem h b off n) ((do pure (Next.value (← Builtin.clear_ (t::ts).toArray ty (Value.slice (some (E.at b off)) n k::l').toArray)):Sem Next).run P w):=by
 unfold b6x
 split
 ·apply a2r H
  refine⟨_,?_,.tuple [] [] .nil⟩
  simp[Builtin.clear_,a0i ok hu]
 ·rename_i n
  split
  ·rename_i sz l hsz hz
   split
   ·rename_i hlen
    have hlen:=Nat.eq_of_beq_eq_true hlen
    split
    ·rename_i h' hw
     apply a6e
     obtain⟨z,hz1⟩:∃ z,T.zero elem=some z:=by
      unfold a5w at hz
      rw[if_neg (by omega)] at hz
      split at hz
      ·exact⟨_,by assumption⟩
      ·cases hz
     obtain⟨zv,rz,vz⟩:=a4r ok hz1
     obtain⟨z2,r2,v2⟩:=a6y ok hz hlen (E:=E) w
     have hzs:zv.cells.size=sz:=by
      have h1:=(vz E).cells.length
      unfold a5w at hz
      rw[if_neg (by omega),hz1] at hz
      simp only[Option.some.injEq] at hz
      subst hz
      rw[a6c] at hlen
      have:z.cells.length=sz:=Nat.eq_of_mul_eq_mul_left (by omega) hlen
      simp at h1
      omega
     have e:(Builtin.zeroCells zv.cells (n+1))=(Array.range ((n+1)*sz)).map fun i=>z2[i % z2.size]! := by
      unfold Builtin.zeroCells
      rw[hzs]
      by_cases h0:(n+1)*sz=0
      ·rw[h0]; simp
      ·simp[h0,rz] at r2
       subst r2
       rw[hzs]
     rw[← e] at v2
     obtain⟨w',r3,r4,r5⟩:=a6w (P:=P) H hd hw v2
     refine⟨E,w',_,?_,.tuple [] [] .nil,r4,r5⟩
     simp[Builtin.clear_,a0i ok hu,rz,r3]
    ·trivial
   ·trivial
  ·trivial
theorem c9x (ok:a0v P T){E:En}{h:a0a}{w:World}(H:HR P base w0 E h w){x:AV}{x':Value}(hx:VR E x x') (t:TypeId) (ts:List TypeId) (l':List Value) (ty:TypeId) :
  Out P base w0 E h w (b4e T t h x) ((do pure (Next.value (← Builtin.clear_ (t::ts).toArray ty (x'::l').toArray)):Sem Next).run P w):=by
 unfold b4e
 split
 ·rename_i elem hu
  split
  ·cases hx
   apply a2r H
   refine⟨_,?_,.tuple [] [] .nil⟩
   simp[Builtin.clear_,a0i ok hu]
  ·cases hx
   apply a2r H
   refine⟨_,?_,.tuple [] [] .nil⟩
   simp[Builtin.clear_,a0i ok hu]
  ·cases hx with|slice _ _ _ _ hd=>exact b7g ok H hu hd ts l' ty
  ·cases hx with|oslice _ _ _ _ k hd hk=>exact b7g ok H hu hd ts l' ty
  ·trivial
 ·trivial
theorem a6k {E:En}:∀ (l:List AV) (s:List UInt8),a7k l=some s→∀ (l':List Value),VRs E l l' →
  ∃ ns:List Int,l'=ns.map (Value.int .u8)∧s=ns.map fun n=>UInt8.ofNat n.toNat
 |[],s,h,l',hl=>by
  cases hl
  simp[a7k] at h; subst h
  exact⟨[],rfl,rfl⟩
 |x::l,s,h,l',hl=>by
  cases hl with|cons _ v _ l'' hv hl =>
  unfold a7k at h
  split at h
  ·rename_i heq; cases heq
  ·rename_i n l2 heq
   cases heq
   split at h<;>simp at h
   rename_i r hr
   subst h
   obtain⟨ns,rfl,rfl⟩:=a6k l r hr l'' hl
   cases hv
   exact⟨n::ns,rfl,rfl⟩
  ·simp at h
theorem foldl_push:∀ (ns:List Int) (s:ByteArray),ns.foldl (fun r n=>r.push (UInt8.ofNat n.toNat)) s=⟨s.data++(ns.map fun n=>UInt8.ofNat n.toNat).toArray⟩
 |[],s=>by simp
 |n::ns,s=>by
  rw[List.foldl_cons,foldl_push ns]
  simp[ByteArray.push]
theorem a6g {a:Addr}{n k:Nat}{ns:List Int}{w:World}(h:(loadCells a n).run P w=.ok (ns.map (Value.int .u8)).toArray w) :
  (Conv.bytesToString (.slice (some a) n k)).run P w=.ok (.string ⟨(ns.map fun n=>UInt8.ofNat n.toNat).toArray⟩) w:=by
 rw[run_bytesToString w a n k ns h,foldl_push]
 simp
theorem b5y (w:World) (e:TypeId) (s:ByteArray):Lib.bytesWorld w e s=w.drew.alloc (.cells (Lib.bytesCells w e s) e ((Lib.bytesCells w e s).size,(Lib.bytesCells w e s).size+1)):=by
 have hh:(Lib.bytesWorld w e s).heap=(w.drew.alloc (.cells (Lib.bytesCells w e s) e ((Lib.bytesCells w e s).size,(Lib.bytesCells w e s).size+1))).heap:=by
  apply Array.ext_getElem?
  intro i
  by_cases h1:i<w.heap.size
  ·rw[Lib.bytesWorld_at_old w e s i h1]
   exact(Below.heap_alloc w.drew _ i h1).symm
  ·by_cases h2:i=w.heap.size
   ·subst h2
    rw[Lib.bytesWorld_at_new]
    exact(heap_alloc_new (w:=w.drew)).symm
   ·rw[Array.getElem?_eq_none (by rw[Lib.bytesWorld_size]; omega),Array.getElem?_eq_none (by simp; omega)]
 have h2:Lib.bytesWorld w e s={ (w.drew.alloc (.cells (Lib.bytesCells w e s) e ((Lib.bytesCells w e s).size,(Lib.bytesCells w e s).size+1))) with heap:=(Lib.bytesWorld w e s).heap }:=by
  unfold Lib.bytesWorld World.freeze
  rw[if_neg (by decide)]
  rfl
 rw[h2,hh]
set_option maxRecDepth 8000 in
set_option maxHeartbeats 1000000 in
theorem d4u (ok:a0v P T){E:En}{h:a0a}{w:World}(H:HR P base w0 E h w) (src dst:TypeId){x:AV}{x':Value}(hx:VR E x x') :
  Out P base w0 E h w (b4q T src dst h x) ((do pure (Next.value (← convert src dst x')):Sem Next).run P w):=by
 unfold b4q
 split
 ·rename_i d k k2 n hs hd
  cases hx
  apply a2r H
  exact⟨_,by simp[convert,a0i ok hs,a0i ok hd,Conv.intToInt],.int _ _⟩
 ·rename_i d s hs hd
  cases hx
  apply a2r H
  exact⟨_,by simp[convert,a0i ok hs,a0i ok hd],.str _⟩
 ·rename_i d e s hs hd
  cases hx
  split
  ·rename_i he
   split
   ·trivial
   ·apply a6e
    have r:=Lib.run_convert_string_bytes (P:=P) w src dst e ⟨s.toArray⟩ (ok.und _ _ hs) (ok.und _ _ hd) (ok.und _ _ he)
    rw[b5y] at r
    generalize hC:Lib.bytesCells w e ⟨s.toArray⟩=C at r
    have hCs:C.size=grownCap w s.length 0 e:=by
     rw[← hC]
     have:s.length≤grownCap w s.length 0 e:=grownCap_ge w s.length 0 e
     simp[Lib.bytesCells]
     have:(⟨s.toArray⟩:ByteArray).size=s.length:=by simp[ByteArray.size]
     rw[this]; omega
    have hCv:∀ (i:Nat) (v:AV),(u8s s)[i]?=some v→∃ v',C[i]?=some v'∧VR E v v':=by
     intro i v hi
     obtain⟨v',h1,h2⟩:=(b5a E s).get hi
     refine⟨v',?_,h2⟩
     have hil:i<s.length:=by simpa using (List.getElem?_eq_some_iff.1 h1).1
     rw[← hC]
     simp only[Lib.bytesCells]
     rw[Array.getElem?_append_left (by simpa using hil)]
     rw[← h1]
     simp
    have hnd:¬ E.dom h.next:=fun hd=>by have:=H.dlt _ hd; omega
    have le:=E.b0w h.next w.heap.size 0 C.size hnd
    have K:=b2z (H.drew) (.cells e (u8s s) true) (.cells C e (C.size,C.size+1)) C.size (by
     refine⟨C,(C.size,C.size+1),?_,?_,?_,?_,?_,by simp⟩
     ·simp only[En.push,if_true]; exact heap_alloc_new (w:=w.drew)
     ·simp[En.push]
     ·simp[En.push,u8s]; rw[hCs]; exact grownCap_ge w s.length 0 e
     ·intro i v hi
      obtain⟨v',h1,h2⟩:=hCv i v hi
      exact⟨v',by simpa [En.push] using h1,h2.mono le⟩
     ·intro _
      exact⟨by simpa [En.push] using H.bsz,.inr ⟨Nat.le_refl _,ok.und _ _ (by assumption)⟩⟩)
    refine⟨_,_,_,r,?_,K.1,(c2o E h w).trans K.2⟩
    have hsz:(⟨s.toArray⟩:ByteArray).size=s.length:=by simp[ByteArray.size]
    rw[hsz]
    have:=VR.oslice (E:=E.push h.next w.heap.size 0 C.size) h.next 0 s.length 1 (grownCap w s.length 0 e) (.inl rfl) (by simp[En.push,hCs])
    simpa [En.at,En.push] using this
  ·trivial
 ·rename_i e e2 x hs hd hno1
  split
  ·trivial
  ·rename_i hsd
   have hsd:src=dst:=by simpa using hsd
   subst hsd
   rw[hs] at hd
   cases hd
   split
   ·rename_i b off n c he
    cases hx with|slice _ _ _ _ hdd =>
    split
    ·rename_i ee cs hg
     split
     case h_2=>trivial
     rename_i hue
     apply a6e
     obtain⟨c',z,p1,p2,p3,p4,p5,p6⟩:=H.obj b _ hdd hg
     obtain⟨q1,q2⟩:=p5 rfl
     have hsh:w.shape? (E.at b off).block=some (ee,c'.size):=by
      show w.shape? (E.blk b)=_
      unfold World.shape?; rw[p1]
     have r:(convert src src (.slice (some (E.at b off)) n c)).run P w=.ok (.slice (some (E.at b off)) n c) (w.freeze ⟨E.blk b,c'.size,none⟩ 1):=by
      simp[convert,a0i ok hs,a0i ok he,markStringish,hsh]
      rfl
     have hfh:(w.freeze ⟨E.blk b,c'.size,none⟩ 1).heap[E.blk b]?=some (.cells c' ee (if z.1==z.2 then(c'.size,c'.size+1) else(min z.1 c'.size,max z.2 (c'.size+1)))):=by
      unfold World.freeze
      rw[if_neg (by decide)]
      simp only[Array.getElem?_modify,if_true,p1,Option.map_some]
     have hfo:∀ k,k≠E.blk b→(w.freeze ⟨E.blk b,c'.size,none⟩ 1).heap[k]?=w.heap[k]?:=by
      intro k hk
      unfold World.freeze
      rw[if_neg (by decide)]
      simp only[Array.getElem?_modify,if_neg (Ne.symm hk)]
     have hfs:(w.freeze ⟨E.blk b,c'.size,none⟩ 1).heap.size=w.heap.size:=by
      unfold World.freeze
      rw[if_neg (by decide)]
      simp
     have hrest:(w.freeze ⟨E.blk b,c'.size,none⟩ 1).os=w.os∧(w.freeze ⟨E.blk b,c'.size,none⟩ 1).tape=w.tape∧(w.freeze ⟨E.blk b,c'.size,none⟩ 1).output=w.output∧(w.freeze ⟨E.blk b,c'.size,none⟩ 1).drawn=w.drawn:=by
      unfold World.freeze
      rw[if_neg (by decide)]
      exact⟨rfl,rfl,rfl,rfl⟩
     have K:=c8s H hdd hg rfl (w':=w.freeze ⟨E.blk b,c'.size,none⟩ 1) (a':=.cells ee cs true)
      ⟨hrest.1,hrest.2.1,hrest.2.2.1,by rw[hfs]; exact Nat.le_refl _,fun k hk=>hfo k (by omega)⟩ (by rw[hrest.2.2.2]; exact Nat.le_refl _) hfs hfo
      ⟨c',_,hfh,p2,p3,p4,fun _=>⟨q1,by
       split
       ·exact .inr ⟨Nat.le_refl _,ok.und _ _ hue⟩
       ·rename_i hz
        have hz:z.1≠z.2:=by simpa using hz
        right
        refine⟨?_,ok.und _ _ hue⟩
        show c'.size≤min z.1 c'.size
        omega⟩,by simp⟩
     have same:∀ x,h.get x=(h.set b (.cells ee cs true)).get x:=by
      intro x
      rw[a0a.a1d]
      split
      ·rename_i e; subst e; exact hg
      ·rfl
     exact⟨E,_,_,r,.slice _ _ _ _ hdd,K.1.ext rfl same,K.2.ext rfl same⟩
    ·trivial
   ·trivial
 ·rename_i e x hs hd hno
  split
  ·rename_i n he hn
   split
   ·rename_i cs hf
    split
    ·rename_i s hb
     apply a2r H
     unfold a3z at hf
     cases hx with
     |str s=>simp[a5a] at hn; exact absurd rfl (hno _)
     |nilslice =>
      simp at hf
      obtain⟨_,rfl⟩:=hf
      simp[a7k] at hb; subst hb
      exact⟨_,by simp[convert,a0i ok hs,a0i ok hd,a0i ok he,Conv.bytesToString]; rfl,.str []⟩
     |eslice a k =>
      simp at hf
      obtain⟨_,rfl⟩:=hf
      simp[a7k] at hb; subst hb
      refine⟨.string ⟨#[]⟩,?_,.str []⟩
      have:=a6g (P:=P) (a:=a) (n:=0) (k:=k) (ns:=[]) (w:=w) (by simp[loadCells,loadCellsFrom])
      simp[convert,a0i ok hs,a0i ok hd,a0i ok he]
      simpa using this
     |slice b off n2 c hdd =>
      simp[a5a] at hn; subst hn
      simp at hf
      obtain⟨l',r1,v1⟩:=a5t (P:=P) hdd H hf
      obtain⟨ns,rfl,rfl⟩:=a6k _ _ hb _ v1
      have:=a6g (P:=P) (k:=c) r1
      refine⟨_,?_,.str _⟩
      simp[convert,a0i ok hs,a0i ok hd,a0i ok he]
      exact this
     |oslice b off n2 sz k hdd hk =>
      simp[a5a] at hn; subst hn
      simp at hf
      obtain⟨l',r1,v1⟩:=a5t (P:=P) hdd H hf
      obtain⟨ns,rfl,rfl⟩:=a6k _ _ hb _ v1
      have:=a6g (P:=P) (k:=k) r1
      refine⟨_,?_,.str _⟩
      simp[convert,a0i ok hs,a0i ok hd,a0i ok he]
      exact this
     |_=>simp[a5a] at hn
    ·trivial
   ·trivial
  ·trivial
 ·trivial
end Ev
end
section
namespace Ev
open Go Go.RowKit
variable {P:Program}{T:a0k}{base:Nat}{w0:World}
theorem b2t {t:TypeId}{k:AV}(h:b5x T t k=true):∃ d,T.und t=some d∧((∃ k0 k1 n,d=.int k0∧k=.int k1 n)∨(∃ s,d=.string∧k=.str s)):=by
 unfold b5x at h
 split at h
 ·rename_i k0 k1 n hu
  exact⟨_,hu,.inl ⟨k0,k1,n,rfl,rfl⟩⟩
 ·rename_i s hu
  exact⟨_,hu,.inr ⟨s,rfl,rfl⟩⟩
 ·simp at h
theorem c3e {d:TypeDesc}{k kk:AV}{r:Bool}(hd:(∃ k0 k1 n,d=.int k0∧k=.int k1 n)∨(∃ s,d=.string∧k=.str s)) (h:sameKey k kk=some r){E:En}{k' kk':Value}(hk:VR E k k') (hkk:VR E kk kk') :
  Instr.sameNow d k' kk'=some r∧(r=true→kk=k):=by
 rcases hd with ⟨k0,k1,n,rfl,rfl⟩|⟨s,rfl,rfl⟩
 ·cases hk
  unfold sameKey at h
  split at h
  ·rename_i heq
   cases heq
   cases hkk
   split at h<;>simp at h
   rename_i hkk
   subst hkk; subst h
   simp[Instr.sameNow]
   intro e; exact e.symm
  ·rename_i heq; cases heq
  ·simp at h
 ·cases hk
  unfold sameKey at h
  split at h
  ·rename_i heq; cases heq
  ·rename_i a b heq
   cases heq
   cases hkk
   simp at h; subst h
   simp[Instr.sameNow,a6b,c8m]
   intro e; exact e.symm
  ·simp at h
inductive FR (E:En) (k:AV) (es:List (AV×AV×Nat)) (es':List MapEntry) (i:Nat):Option (Nat×AV)→Option (Nat×Value)→Prop
 |none:FR E k es es' i none none
 |some (j:Nat) (v:AV) (v':Value) (born:Nat) (k':Value) (h:es[j]?=some (k,v,born)) (h':es'[j]?=some { key:=k',val:=v',born:=born }) (hv:VR E v v'):FR E k es es' i (some (i+j,v)) (some (i+j,v'))
theorem FR.up {E:En}{k:AV}{es:List (AV×AV×Nat)}{es':List MapEntry}{i:Nat}{r:Option (Nat×AV)}{r':Option (Nat×Value)}(e:AV×AV×Nat) (e':MapEntry) (h:FR E k es es' (i+1) r r'):FR E k (e::es) (e'::es') i r r':=by
 cases h with
 |none=>exact .none
 |some j v v' born k' h1 h2 h3 =>
  have:=FR.some (E:=E) (k:=k) (es:=e::es) (es':=e'::es') (i:=i) (j+1) v v' born k' (by simpa using h1) (by simpa using h2) h3
  have he:i+1+j=i+(j+1):=by omega
  rw[he]; exact this
theorem a8a {d:TypeDesc}{k:AV}(hd:(∃ k0 k1 n,d=.int k0∧k=.int k1 n)∨(∃ s,d=.string∧k=.str s)){E:En}{k':Value}(hk:VR E k k') :
  ∀ (es:List (AV×AV×Nat)) (es':List MapEntry) (i:Nat) (r:Option (Nat×AV)),ER E es es'→b1p k es i=some r→∃ r',Instr.findNow d k' es' i=some r'∧FR E k es es' i r r'
 |[],_,i,r,.nil,h=>by
  simp[b1p] at h; subst h
  exact⟨none,rfl,.none⟩
 |(kk,v,n)::es,_,i,r,.cons _ _ kk' v' _ _ es' hkk hv hl,h=>by
  unfold b1p at h
  split at h
  ·rename_i hs
   simp at h; subst h
   obtain⟨h1,h2⟩:=c3e hd hs hk hkk
   have:=h2 rfl; subst this
   exact⟨some (i+0,v'),by simp only[Instr.findNow,h1]; rfl,FR.some 0 v v' n kk' rfl rfl hv⟩
  ·rename_i hs
   obtain⟨h1,_⟩:=c3e hd hs hk hkk
   obtain⟨r',h3,h4⟩:=a8a hd hk es es' (i+1) r hl h
   exact⟨r',by simp only[Instr.findNow,h1]; exact h3,h4.up _ _⟩
  ·simp at h
theorem run_checkKey' (ok:a0v P T){kt:TypeId}{d:TypeDesc}{k:AV}(hu:T.und kt=some d) (hd:(∃ k0 k1 n,d=.int k0∧k=.int k1 n)∨(∃ s,d=.string∧k=.str s)){E:En}{k':Value}(hk:VR E k k') (e:Bool) (w:World) :
  (Instr.checkKey e 10000 kt k').run P w=.ok () w:=by
 unfold Instr.checkKey
 simp only[Sem.run_bind,a0i ok hu,Result.andThen_ok]
 rcases hd with ⟨k0,k1,n,rfl,rfl⟩|⟨s,rfl,rfl⟩<;>cases hk<;>simp
theorem run_find' (ok:a0v P T){kt:TypeId}{d:TypeDesc}(hu:T.und kt=some d){k':Value}{l:List MapEntry}{a:Option (Nat×Value)}(h:Instr.findNow d k' l 0=some a) (w:World):(Instr.findKey kt k' l).run P w=.ok a w:=by
 simp[Instr.findKey,a0i ok hu,h]
theorem a3l {w:World}{r:Nat}{es:Array MapEntry}{c:Nat}(h:w.heap[r]?=some (.map es c)):(getObj r).run P w=.ok (.map es c) w:=by simp[getObj,Sem.run,h]
theorem b2a {w:World}{r:Nat}{es:Array MapEntry}{c:Nat}(h:w.heap[r]?=some (.map es c)) (o:Obj):(setObj r o).run P w=.ok () (w.putObj r o):=by simp[setObj,Sem.run,h,World.putObj]
theorem HR.put {E:En}{h:a0a}{w:World}(H:HR P base w0 E h w){b:Nat}(hd:E.dom b){a:a1t}(hg:h.get b=some a) (hown:a.own) (o:Obj) (a':a1t) (hor:OR' P base E b (w.putObj (E.blk b) o) a') :
  HR P base w0 E (h.set b a') (w.putObj (E.blk b) o)∧Ste E h w E (h.set b a') (w.putObj (E.blk b) o):=by
 have hb:=(H.obj b a hd hg).base hown
 exact c8s H hd hg hown ⟨rfl,rfl,rfl,by simp,fun k hk=>World.putObj_heap_other (by omega)⟩ (Nat.le_refl _) (by simp) (fun k hk=>World.putObj_heap_other hk) hor
theorem HR.live {E:En}{h:a0a}{w:World}(H:HR P base w0 E h w){b:Nat}(hd:E.dom b){a:a1t}(hg:h.get b=some a) (hown:a.own):E.blk b<w.heap.size :=
 (H.obj b a hd hg).lt (fun e=>by subst e; exact hown)
theorem b8b (ok:a0v P T){E:En}{h:a0a}{w:World}(H:HR P base w0 E h w){t:TypeId}{m k v:AV}{cok:Bool}(hl:c0z T t h m k cok=some v){m' k':Value}(hm:VR E m m') (hk:VR E k k') :
  ∃ v',(Instr.lookup t m' k' cok).run P w=.ok v' w∧VR E v v':=by
 unfold c0z at hl
 split at hl
 ·rename_i kt et hu
  split at hl
  ·simp at hl
  ·rename_i hki
   obtain⟨d,hud,hd⟩:=b2t (by simpa using hki)
   have fin:∀ (r:Option (Nat×AV)) (r':Option (Nat×Value)) (es:List (AV×AV×Nat)) (es':List MapEntry),FR E k es es' 0 r r' →
     (match r with
      |some (_,v)=>some (if cok then AV.tuple [v,.bool true] else v)
      |none=>match T.zero et with
       |some z=>some (if cok then AV.tuple [z,.bool false] else z)
       |none=>none)=some v →
     ∃ v',(do
      let (v,ok) ← match r' with
       |some (_,v)=>pure (v,true)
       |none=>pure (← zeroValue et,false)
      pure (if cok then Value.tuple #[v,.bool ok] else v):Sem Value).run P w=.ok v' w∧VR E v v':=by
    intro r r' es es' hf he
    cases hf with
    |none =>
     simp only at he
     split at he<;>simp at he
     rename_i z hz
     obtain⟨zv,rz,vz⟩:=a4r ok hz
     refine⟨_,by simp[rz]; rfl,?_⟩
     subst he
     cases cok
     ·exact vz E
     ·exact .tuple _ _ (.cons _ _ _ _ (vz E) (.cons _ _ _ _ (.bool _) .nil))
    |some j x x' born kk h1 h2 h3 =>
     simp at he
     refine⟨_,by simp; rfl,?_⟩
     subst he
     cases cok
     ·exact h3
     ·exact .tuple _ _ (.cons _ _ _ _ h3 (.cons _ _ _ _ (.bool _) .nil))
   simp only at hl
   split at hl
   ·cases hm
    obtain⟨v',h1,h2⟩:=fin none none [] [] .none hl
    refine⟨v',?_,h2⟩
    unfold Instr.lookup
    simp[a0i ok hu,run_checkKey' ok hud hd hk,run_find' (P:=P) ok hud (k':=k') (l:=[]) (a:=none) rfl]
    simpa using h1
   ·rename_i b
    cases hm with|map _ hdb =>
    split at hl
    ·rename_i es clock hg
     split at hl
     ·rename_i r hf
      obtain⟨hb,es',he1,he2⟩:=H.obj b _ hdb hg
      obtain⟨r',hr1,hr2⟩:=a8a hd hk es es'.toList 0 r he2 hf
      obtain⟨v',h1,h2⟩:=fin r r' _ _ hr2 hl
      refine⟨v',?_,h2⟩
      unfold Instr.lookup
      simp[a0i ok hu,a3l he1,run_checkKey' ok hud hd hk,run_find' (P:=P) ok hud hr1]
      cases r'<;>simpa using h1
     ·simp at hl
    ·simp at hl
   ·simp at hl
 ·simp at hl
theorem ER.get {E:En}:∀ {es:List (AV×AV×Nat)}{es':List MapEntry},ER E es es'→∀ {j:Nat}{e:AV×AV×Nat},es[j]?=some e→∃ e',es'[j]?=some e'∧VR E e.1 e'.key∧VR E e.2.1 e'.val∧e.2.2=e'.born
 |_,_,.nil,j,e,h=>by simp at h
 |_,_,.cons k v k' v' n l l' hk hv hl,j,e,h=>by
  cases j with
  |zero=>simp at h; subst h; exact⟨{ key:=k',val:=v',born:=n },by simp,hk,hv,rfl⟩
  |succ j=>simp at h; obtain⟨e',h1,h2⟩:=hl.get h; exact⟨e',by simpa using h1,h2⟩
theorem ER.append {E:En}:∀ {es:List (AV×AV×Nat)}{es':List MapEntry}{fs:List (AV×AV×Nat)}{fs':List MapEntry},ER E es es'→ER E fs fs'→ER E (es++fs) (es'++fs')
 |_,_,_,_,.nil,h=>h
 |_,_,_,_,.cons k v k' v' n l l' hk hv hl,h=>.cons k v k' v' n _ _ hk hv (hl.append h)
theorem ER.a8v {E:En}{k v:AV}{k' v':Value}{n:Nat}(hk:VR E k k') (hv:VR E v v'):∀ {es:List (AV×AV×Nat)}{es':List MapEntry},ER E es es'→∀ j,j<es.length→ER E (Ev.a8v es j (k,v,n)) (es'.set j { key:=k',val:=v',born:=n })
 |_,_,.nil,j,h=>by simp at h
 |_,_,.cons a b a' b' m l l' ha hb hl,j,h=>by
  cases j with
  |zero=>simp only[Ev.a8v,List.set_cons_zero]; exact .cons _ _ _ _ _ _ _ hk hv hl
  |succ j=>simp only[Ev.a8v,List.set_cons_succ]; exact .cons _ _ _ _ _ _ _ ha hb (hl.a8v hk hv j (by simpa using h))
theorem ER.b1b {E:En}:∀ {es:List (AV×AV×Nat)}{es':List MapEntry},ER E es es'→∀ j,ER E (Ev.b1b es j) (es'.eraseIdx j)
 |_,_,.nil,j=>by simp[Ev.b1b]; exact .nil
 |_,_,.cons a b a' b' m l l' ha hb hl,j=>by
  cases j with
  |zero=>simp only[Ev.b1b,List.eraseIdx_cons_zero]; exact hl
  |succ j=>simp only[Ev.b1b,List.eraseIdx_cons_succ]; exact .cons _ _ _ _ _ _ _ ha hb (hl.b1b j)
theorem d1m {k:AV}(hd:(∃ k1 n,k=.int k1 n)∨(∃ s,k=.str s)){E:En}{a b:Value}(ha:VR E k a) (hb:VR E k b):a=b∧Instr.sameBits 10000 a b=true:=by
 rcases hd with ⟨k1,n,rfl⟩|⟨s,rfl⟩<;>cases ha<;>cases hb
 ·simp[Instr.sameBits]
 ·simp[Instr.sameBits,c8m]
theorem b7k (ok:a0v P T){E:En}{h h':a0a}{w:World}(H:HR P base w0 E h w){t:TypeId}{m k v:AV}(hl:a8f T t h m k v=some h'){m' k' v':Value}(hm:VR E m m') (hk:VR E k k') (hv:VR E v v') :
  ∃ w',(Instr.mapUpdate t m' k' v').run P w=.ok () w'∧HR P base w0 E h' w'∧Ste E h w E h' w':=by
 unfold a8f at hl
 split at hl
 ·rename_i kt et b hu
  cases hm with|map _ hdb =>
  split at hl
  ·simp at hl
  ·rename_i hki
   obtain⟨d,hud,hd⟩:=b2t (by simpa using hki)
   have hd2:(∃ k1 n,k=.int k1 n)∨(∃ s,k=.str s):=by
    rcases hd with ⟨k0,k1,n,rfl,rfl⟩|⟨s,rfl,rfl⟩
    ·exact .inl ⟨_,_,rfl⟩
    ·exact .inr ⟨_,rfl⟩
   split at hl
   ·rename_i es clock hg
    obtain⟨hb,es',he1,he2⟩:=H.obj b _ hdb hg
    have hlt:=H.live hdb hg trivial
    split at hl
    ·rename_i i x hf
     obtain⟨r',hr1,hr2⟩:=a8a hd hk es es'.toList 0 _ he2 hf
     split at hl<;>simp at hl
     rename_i kk x0 born hn
     subst hl
     cases hr2 with|some j _ x' born' kk' h1 h2 h3 =>
     simp at hn
     rw[a4w,h1] at hn
     simp at hn
     obtain⟨rfl,rfl,rfl⟩:=hn
     obtain⟨e',g1,g2,g3,g4⟩:=he2.get h1
     rw[h2] at g1
     simp at g1; subst g1
     simp at g2
     obtain⟨rfl,hsb⟩:=d1m hd2 g2 hk
     have hlen:j<es.length:=(List.getElem?_eq_some_iff.1 h1).1
     have hmod:es'.modify j (fun e=>{ e with key:=kk',val:=v' })=(es'.toList.set j { key:=kk',val:=v',born:=born' }).toArray:=by
      apply Array.ext_getElem?
      intro q
      rw[Array.getElem?_modify]
      simp only[List.getElem?_toArray,List.getElem?_set]
      rw[← Array.getElem?_toList]
      by_cases hq:j=q
      ·subst hq
       have hlt':j<es'.toList.length:=(List.getElem?_eq_some_iff.1 h2).1
       simp only[if_true,h2,Option.map_some]
       simp at hlt'
       simp[hlt']
      ·simp[hq]
     have K:=HR.put H hdb hg trivial (.map (es'.modify j fun e=>{ e with key:=kk',val:=v' }) clock) (.map (a8v es j (k,v,born')) clock) (by
      refine⟨hb,_,World.putObj_heap_same hlt,?_⟩
      rw[hmod]
      simpa using ER.a8v hk hv he2 j hlen)
     refine⟨_,?_,by simpa using K.1,by simpa using K.2⟩
     have h2':es'[j]?=some { key:=kk',val:=x',born:=born' }:=by rw[← Array.getElem?_toList]; exact h2
     unfold Instr.mapUpdate
     simp at hr1
     simp[a0i ok hu,a3l he1,run_checkKey' ok hud hd hk,run_find' (P:=P) ok hud hr1,Instr.keyThatStays,h2',hsb,b2a he1]
    ·rename_i hf
     simp at hl; subst hl
     obtain⟨r',hr1,hr2⟩:=a8a hd hk es es'.toList 0 _ he2 hf
     cases hr2
     have K:=HR.put H hdb hg trivial (.map (es'.push { key:=k',val:=v',born:=clock }) (clock+1)) (.map (es++[(k,v,clock)]) (clock+1)) (by
      refine⟨hb,_,World.putObj_heap_same hlt,?_⟩
      simp only[Array.toList_push]
      exact he2.append (.cons _ _ _ _ _ _ _ hk hv .nil))
     refine⟨_,?_,K.1,K.2⟩
     unfold Instr.mapUpdate
     simp[a0i ok hu,a3l he1,run_checkKey' ok hud hd hk,run_find' (P:=P) ok hud hr1,b2a he1]
    ·simp at hl
   ·simp at hl
 ·simp at hl
theorem c7x (ok:a0v P T){E:En}{h h':a0a}{w:World}(H:HR P base w0 E h w){t:TypeId}{m k:AV}(hl:c6v T t h m k=some h'){m' k':Value}(hm:VR E m m') (hk:VR E k k') (rest:List TypeId) (ty:TypeId) :
  ∃ w',(Builtin.delete_ (t::rest).toArray ty #[m',k']).run P w=.ok (.tuple #[]) w'∧HR P base w0 E h' w'∧Ste E h w E h' w':=by
 unfold c6v at hl
 split at hl
 ·rename_i kt et hu
  cases hm
  split at hl<;>simp at hl
  rename_i hki
  subst hl
  obtain⟨d,hud,hd⟩:=b2t hki
  refine⟨w,?_,H,.refl E h w⟩
  unfold Builtin.delete_
  simp[a0i ok hu,run_checkKey' ok hud hd hk]
 ·rename_i kt et b hu
  cases hm with|map _ hdb =>
  split at hl
  ·simp at hl
  ·rename_i hki
   obtain⟨d,hud,hd⟩:=b2t (by simpa using hki)
   split at hl
   ·rename_i es clock hg
    obtain⟨hb,es',he1,he2⟩:=H.obj b _ hdb hg
    have hlt:=H.live hdb hg trivial
    split at hl
    ·rename_i i x hf
     simp at hl; subst hl
     obtain⟨r',hr1,hr2⟩:=a8a hd hk es es'.toList 0 _ he2 hf
     cases hr2 with|some j _ x' born' kk' h1 h2 h3 =>
     have K:=HR.put H hdb hg trivial (.map (es'.eraseIdxIfInBounds (0+j)) clock) (.map (b1b es (0+j)) clock) (by
      refine⟨hb,_,World.putObj_heap_same hlt,?_⟩
      have hj:0+j<es'.size:=by simpa using (List.getElem?_eq_some_iff.1 h2).1
      simp only[Array.eraseIdxIfInBounds,hj,dif_pos,Array.toList_eraseIdx]
      exact he2.b1b _)
     refine⟨_,?_,K.1,K.2⟩
     unfold Builtin.delete_
     simp[a0i ok hu,a3l he1,run_checkKey' ok hud hd hk,run_find' (P:=P) ok hud hr1,b2a he1]
    ·rename_i hf
     simp at hl; subst hl
     obtain⟨r',hr1,hr2⟩:=a8a hd hk es es'.toList 0 _ he2 hf
     cases hr2
     have same:∀ x,h.get x=(h.set b (.map es clock)).get x:=by
      intro x
      rw[a0a.a1d]
      split
      ·rename_i e; subst e; exact hg
      ·rfl
     have K:=HR.put H hdb hg trivial (.map es' clock) (.map es clock) ⟨hb,_,World.putObj_heap_same hlt,he2⟩
     refine⟨_,?_,K.1.ext rfl same,K.2.ext rfl same⟩
     unfold Builtin.delete_
     simp[a0i ok hu,a3l he1,run_checkKey' ok hud hd hk,run_find' (P:=P) ok hud hr1,b2a he1]
    ·simp at hl
   ·simp at hl
 ·simp at hl
end Ev
end
section
namespace Ev
open Go Go.RowKit
variable {P:Program}{T:a0k}{base:Nat}{w0:World}
theorem b8p (ok:a0v P T){E:En}{h:a0a}{w:World}(H:HR P base w0 E h w){t:TypeId}{x v:AV}(hl:d4o T t h x=some v){x':Value}(hx:VR E x x') (rest:List TypeId) (rest':List Value) (ty:TypeId) :
  ∃ v',(Builtin.len_ (t::rest).toArray ty (x'::rest').toArray).run P w=.ok v' w∧VR E v v':=by
 unfold d4o at hl
 split at hl
 ·rename_i n e hu
  simp at hl; subst hl
  exact⟨_,by cases hx<;>simp[Builtin.len_,a0i ok hu,goInt]<;>rfl,.int _ _⟩
 ·rename_i arr hu
  split at hl<;>simp at hl
  rename_i n e hu2
  subst hl
  exact⟨_,by cases hx<;>simp[Builtin.len_,a0i ok hu,a0i ok hu2,goInt]<;>rfl,.int _ _⟩
 ·rename_i k e hu
  simp at hl; subst hl
  cases hx
  exact⟨_,by simp[Builtin.len_,a0i ok hu,goInt],.int _ _⟩
 ·rename_i k e b hu
  cases hx with|map _ hd =>
  split at hl<;>simp at hl
  rename_i es clock hg
  subst hl
  obtain⟨hb,es',he1,he2⟩:=H.obj b _ hd hg
  have:=he2.length
  simp at this
  exact⟨.int .i64 es'.size,by simp[Builtin.len_,a0i ok hu,a3l he1,goInt],by rw[this]; exact .int _ _⟩
 ·rename_i s hu
  cases hx
  simp at hl; subst hl
  refine⟨.int .i64 s.length,?_,.int _ _⟩
  have hsz:(⟨s.toArray⟩:ByteArray).size=s.length:=by simp[ByteArray.size]
  simp[Builtin.len_,a0i ok hu,goInt,hsz]
 ·simp at hl
 ·rename_i e x hu hns
  split at hl<;>simp at hl
  rename_i n hn
  subst hl
  refine⟨.int .i64 n,?_,.int _ _⟩
  unfold a5a at hn
  split at hn<;>simp at hn<;>subst hn<;>cases hx<;>first|(simp[Builtin.len_,a0i ok hu,goInt]; done)|exact absurd rfl (hns _)
 ·simp at hl
theorem a7j {E:En}{w:World}(up:Bool):∀ (l:List AV) (x v:AV) (l':List Value) (x':Value),b5j up x l=some v→VR E x x'→VRs E l l' →
  ∃ v',(l'.foldlM (m:=Sem) (if up then Builtin.max2 else Builtin.min2) x').run P w=.ok v' w∧VR E v v'
 |[],x,v,_,x',h,hx,.nil=>by
  unfold b5j at h
  simp at h; subst h; exact⟨x',by simp,hx⟩
 |y::l,x,v,_,x',h,hx,.cons _ y' _ l' hy hl=>by
  unfold b5j at h
  split at h
  ·rename_i heq; cases heq
  ·rename_i k a k2 b l2 heq
   cases heq
   cases hx; cases hy
   obtain⟨v',h1,h2⟩:=a7j up l _ v l' (.int k (if up then(if b>a then b else a) else(if b<a then b else a))) h (.int _ _) hl
   refine⟨v',?_,h2⟩
   rw[List.foldlM_cons]
   cases up
   ·simp only[Bool.false_eq_true,if_false,Builtin.min2,Sem.run_bind,Sem.run_pure,Result.andThen_ok] at h1 ⊢; exact h1
   ·simp only[if_true,Builtin.max2,Sem.run_bind,Sem.run_pure,Result.andThen_ok] at h1 ⊢; exact h1
  ·simp at h
theorem a6s {E:En}{ρ:Operand→Option AV}{f:Operand→Value}(hρ:d1s E ρ f){x:Option Operand}{a:Option AV}(h:a5b ρ x=some a):OVR E a (x.map f):=by
 unfold a5b at h
 split at h
 ·simp at h; subst h; exact .none
 ·split at h<;>simp at h
  subst h
  rename_i v hv
  exact .some _ _ (hρ _ _ hv)
theorem fresh {E:En}{h:a0a}{w:World}(H:HR P base w0 E h w) (e:TypeId){cs:List AV}{c:Array Value}(hv:VRs E cs c.toList) :
  ∃ E',HR P base w0 E' (h.alloc (.cells e cs true)) (w.alloc (.cells c e))∧Ste E h w E' (h.alloc (.cells e cs true)) (w.alloc (.cells c e))∧E'.dom h.next∧E'.at h.next 0=⟨w.heap.size,0,none⟩:=by
 have hl:=hv.length
 simp at hl
 have K:=c5s H e cs c (by omega) (fun i v hi=>by
  obtain⟨v',h1,h2⟩:=hv.get hi
  exact⟨v',by rw[← Array.getElem?_toList]; exact h1,h2⟩)
 exact⟨_,K.1,K.2.1,K.2.2.1,K.2.2.2.1⟩
set_option maxRecDepth 8000 in
theorem b5t (ok:a0v P T){w:World}{t elem:TypeId}(hu:T.und t=some (.slice elem)){sz:Nat}(hsz:T.size elem=some sz){ei:TypeInfo}(hei:T.ti elem=some ei)
  {k k2:IntKind} {l c:Int} (hb:0≤l∧l≤c∧c≤1073741824∧a2u c.toNat ei.bytes=true) {z:Array Value} (r1:((if c.toNat*sz=0 then pure #[] else do pure (← Go.zeroValue elem).cells:Sem (Array Value))).run P w=.ok z w) :
  (Instr.makeSlice t (.int k l) (.int k2 c)).run P w=.ok (.slice (some ⟨w.heap.size,0,none⟩) l.toNat c.toNat) (w.alloc (.cells ((Array.range (c.toNat*sz)).map fun i=>z[i % z.size]!) elem)):=by
 have hr:=c2t hb.2.2.2
 have hw1:IntKind.i64.wrap l=l:=by simp[IntKind.wrap,IntKind.bits,IntKind.signed]; omega
 have hw2:IntKind.i64.wrap c=c:=by simp[IntKind.wrap,IntKind.bits,IntKind.signed]; omega
 have hmul:c.toNat*ei.bytes≤140737488355328:=by
  have:c.toNat*ei.bytes≤(4*c.toNat+1000)*(ei.bytes+1):=Nat.mul_le_mul (by omega) (by omega)
  omega
 have hmulZ:(ei.bytes:Int)*c≤140737488355328:=by
  have hc:c=(c.toNat:Int):=by omega
  rw[hc,← Int.natCast_mul,Nat.mul_comm]
  omega
 have h1:¬ (281474976710656:Int)<(ei.bytes:Int)*c:=by omega
 have h2:¬ c<0:=by omega
 have h3:¬ l<0:=by omega
 have h4:¬ c<l:=by omega
 have h5:¬ 140737488355328<c.toNat*ei.bytes:=by omega
 unfold Instr.makeSlice
 simp only[Sem.run_bind,a0i ok hu,Result.andThen_ok,asInt,asIntOf,Sem.run_pure,b4i ok hei,hw1,hw2,a1o ok hsz]
 simp[h1,h2,h3,h4,askRoom,roomBytes,h5,a1o ok hsz]
 by_cases h0:c.toNat*sz=0
 ·rw[if_pos h0] at r1 ⊢
  simp at r1
  subst r1
  simp[newRow]
 ·rw[if_neg h0] at r1 ⊢
  simp at r1
  generalize hq:(zeroValue elem).run P w=q at r1 ⊢
  cases q with
  |ok zz ww =>
   simp at r1
   obtain⟨rfl,rfl⟩:=r1
   simp[newRow]
  |halt _ _=>simp at r1
theorem c0q (ok:a0v P T){E:En}{h:a0a}{w:World}(H:HR P base w0 E h w){t elem:TypeId}(hu:T.und t=some (.slice elem)){sz:Nat}(hsz:T.size elem=some sz){ei:TypeInfo}(hei:T.ti elem=some ei)
  {k k2:IntKind} {l c:Int} (hb:0≤l∧l≤c∧c≤1073741824∧a2u c.toNat ei.bytes=true) {cs:List AV} (hz:a5w T elem c.toNat=some cs) (hl:cs.length=c.toNat*sz) :
  ∃ E' w' v',(Instr.makeSlice t (.int k l) (.int k2 c)).run P w=.ok v' w'∧VR E' (.slice h.next 0 l.toNat c.toNat) v'∧HR P base w0 E' (h.alloc (.cells elem cs true)) w'∧Ste E h w E' (h.alloc (.cells elem cs true)) w':=by
 obtain⟨z,r1,v1⟩:=a6y ok hz hl (E:=E) w
 obtain⟨E',f1,f2,f3,f4⟩:=fresh H elem v1
 have hs:=VR.slice (E:=E') h.next 0 l.toNat c.toNat f3
 rw[f4] at hs
 exact⟨E',_,_,b5t ok hu hsz hei hb r1,hs,f1,f2⟩
end Ev
end
