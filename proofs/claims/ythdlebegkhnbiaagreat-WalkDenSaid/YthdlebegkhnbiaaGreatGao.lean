/- A part of an evaluator of the program's form in Lean, of the proof that what it says of a call is what the machine does, and of the rules by which proofs walk over it. Conditions: those that each theorem states. -/
import Derived.Test.YthdlebegkhnbiaaGreatGan
set_option linter.unusedVariables false
set_option linter.unusedSimpArgs false
section
namespace Ev
open Go
variable {T:Tabs} {ρ:Operand→Option AV} {h h':Heap} {t:TypeId} {x y ix a:Operand} {o:Oper}
theorem Sl.shape {sz n:Nat} {v:AV} {cs:List AV} (s:Sl h sz v n cs):(v=.nilslice∧n=0∧cs=[])∨(v=.eslice∧n=0∧cs=[])∨(∃ b p c,v=.slice b p n c)∨∃ b p,v=.oslice b p n sz:=by
 cases v<;>first|exact s.elim|exact .inl ⟨rfl,s⟩|exact .inr (.inl ⟨rfl,s⟩)|(obtain ⟨rfl,_⟩:=s; exact .inr (.inr (.inl ⟨_,_,_,rfl⟩)))|(obtain ⟨rfl,rfl,_⟩:=s; exact .inr (.inr (.inr ⟨_,_,rfl⟩)))
theorem Sl.cells {sz n:Nat} {v:AV} {cs:List AV} (s:Sl h sz v n cs):v.cells=[v]:=by
 cases v<;>first|exact s.elim|rfl
theorem Sl.one {sz n:Nat} {v:AV} {cs:List AV} (s:Sl h sz v n cs):v.one=true:=by
 cases v<;>first|exact s.elim|rfl
theorem append_zero {st elem:TypeId} {rest:List TypeId} {sz m b:Nat} {ei:TypeInfo} {w:AV} {new:List AV} (hu:T.und st=some (.slice elem)) (hsz:T.size elem=some sz) (hti:T.ti elem=some ei) (hz:zeroOk T elem sz=true)
  (hb:h.get b=some (.cells elem [] true)) (s:Sl h sz w m new) (hm:isMake T rest=some false) (h0:0<m) (hr:roomA m ei.bytes=true) :
  appendA T [.slice b 0 0 0,w] (st::rest) h=.val (.oslice h.next 0 m sz) (h.alloc (.cells elem new true)):=by
 have hlen:=s.length
 have hf:firstA sz 0 h (.slice b 0 0 0)=some []:=by simp [firstA,readCells,hb,cutE,cut]
 unfold appendA
 have hl:lenS (.slice b 0 0 0)=some 0:=rfl
 simp only [hu,hsz,hl,count_sl hm s,hti,new_sl hm s,hf]
 simp [hr,hz,hlen]
 omega
theorem append_fit {st elem:TypeId} {rest:List TypeId} {sz n m B:Nat} {ei:TypeInfo} {w:AV} {cs new:List AV} (hu:T.und st=some (.slice elem)) (hsz:T.size elem=some sz) (hti:T.ti elem=some ei) (hz:zeroOk T elem sz=true) (hs0:0<sz)
  (hb:h.get B=some (.cells elem cs true)) (hfit:(n+m)*sz≤cs.length) (hc:countA T rest w=some m) (hn:newA T elem sz m h rest w=some new) (hlen:new.length=m*sz) (hone:new.all AV.one=true) (hr:roomA (n+m) ei.bytes=true) :
  appendA T [.oslice B 0 n sz,w] (st::rest) h=.val (.oslice B 0 (n+m) sz) (h.set B (.cells elem (over cs (n*sz) new) true)):=by
 have hfn:n*sz≤cs.length:=Nat.le_trans (Nat.mul_le_mul_right _ (Nat.le_add_right n m)) hfit
 have hf:firstA sz n h (.oslice B 0 n sz)=some (cs.take (n*sz)):=by simp [firstA,readCells,hb,cutE,hfn,cut]
 have hw:writeCells h B (n*sz) new=some (h.set B (.cells elem (over cs (n*sz) new) true)):=by
  simp only [writeCells,hb]
  rw [if_pos ⟨by rw [hlen,← Nat.add_mul]; exact hfit,hone⟩]
 unfold appendA
 have hl:lenS (.oslice B 0 n sz)=some n:=rfl
 simp only [hu,hsz,hl,hc,hti,hn,hf]
 have e0:¬ sz=0:=by omega
 simp [hr,hz,hlen,hb,hone,hfit,hw,e0,hfn]
theorem k_sl {st elem:TypeId} {sz:Nat} {v:AV} {lo hi:Option Operand} {l u:Option AV} {w:AV} (ho:o.op=.slice st x lo hi none) (ht:T.und st=some (.slice elem)) (hsz:T.size elem=some sz) (hx:ρ x=some v) (hl:optOp ρ lo=some l) (hu:optOp ρ hi=some u) (e:sliceS sz h v l u none=some w):opA T ρ o h=.val w h:=by
 cases o; cases ho
 have hn:optOp ρ (none:Option Operand)=some none:=rfl
 simp only [opA,hx,hl,hu,hn]
 unfold sliceA
 rw [ht]
 cases v<;>simp only [hsz,e,rv]
theorem os_sub3 {B n sz i:Nat} {e:TypeId} {cs:List AV} {k k' k2:IntKind} (hg:h.get B=some (.cells e cs true)) (hc:cs.length=n*sz) (hs:0<sz) (hi:i<n):sliceS sz h (.oslice B 0 n sz) (some (.int k (i:Nat))) (some (.int k' ((i:Int)+1))) (some (.int k2 (n:Nat)))=some (.slice B (i*sz) 1 (n-i)):=by
 have hk:(cs.length-0) / sz=n:=by rw [hc,Nat.sub_zero,Nat.mul_div_cancel _ hs]
 have b0:mxA n (some (.int k2 (n:Nat)))=some n:=by simp [mxA,boundA]
 have b1:hiA n n (some (.int k' ((i:Int)+1))) (some (.int k2 (n:Nat)))=some (i+1):=by
  simp only [hiA,boundA]; rw [if_pos ⟨by omega,by omega⟩]; congr 1
 have b2:loA (i+1) (some (.int k (i:Nat)))=some i:=by simp only [loA,boundA]; rw [if_pos ⟨by omega,by omega⟩]; simp
 simp only [sliceS,hg,hk,boundsA,b0,b1,b2]
 simp [hi]
theorem k_sl3 {st elem:TypeId} {sz:Nat} {v:AV} {lo hi mx:Option Operand} {l u m:Option AV} {w:AV} (ho:o.op=.slice st x lo hi mx) (ht:T.und st=some (.slice elem)) (hsz:T.size elem=some sz) (hx:ρ x=some v) (hl:optOp ρ lo=some l) (hu:optOp ρ hi=some u) (hm:optOp ρ mx=some m) (e:sliceS sz h v l u m=some w):opA T ρ o h=.val w h:=by
 cases o; cases ho
 simp only [opA,hx,hl,hu,hm]
 unfold sliceA
 rw [ht]
 cases v<;>simp only [hsz,e,rv]
theorem clear_one {st elem e:TypeId} {sz B p:Nat} {zv:AV} {cs:List AV} (hu:T.und st=some (.slice elem)) (hsz:T.size elem=some sz) (hz:T.zero elem=some zv) (hz1:zv.cells.length=sz) (hone:zv.cells.all AV.one=true) (hg:h.get B=some (.cells e cs true)) (hfit:p+sz≤cs.length) :
  clearA T st h (.oslice B p 1 sz)=.val (.tuple []) (h.set B (.cells e (over cs p zv.cells) true)):=by
 have hw:writeCells h B p (zv.cells++[])=some (h.set B (.cells e (over cs p zv.cells) true)):=by
  rw [List.append_nil]
  simp only [writeCells,hg]
  rw [if_pos ⟨by rw [hz1]; exact hfit,hone⟩]
 have hzz:zerosA T elem 1=some (zv.cells++[]):=by simp [zerosA,hz,times]
 have hb:Nat.beq (zv.cells++[]).length ((0+1)*sz)=true:=by simp [hz1]
 unfold clearA
 simp only [hu]
 unfold clear1
 simp only [hsz,hzz,hb,hw]
theorem k_clear {x:Operand} {st:TypeId} {ats:Array TypeId} {rest:List TypeId} {v w:AV} (e:clearA T st h v=.val w h') (ho:o.op=.call { callee:=.builtin .clear,args := #[x],argTypes:=ats }) (hat:ats.toList=st::rest) (hx:ρ x=some v):opA T ρ o h=.val w h':=by
 cases o; cases ho
 simp only [opA,argMap,hx,hat,e]
theorem flat_take {α:Type} {enc:α→List AV} {sz:Nat} (hs:∀ x,(enc x).length=sz):∀ (l:List α) (i:Nat),(l.flatMap enc).take (i*sz)=(l.take i).flatMap enc
 |[],i=>by simp
 |a::l,0=>by simp
 |a::l,i+1=>by
  simp only [List.flatMap_cons,List.take_succ_cons]
  have:(i+1)*sz=(enc a).length+i*sz:=by rw [hs,Nat.add_mul]; omega
  rw [this,List.take_length_add_append,flat_take hs l i]
theorem flat_drop {α:Type} {enc:α→List AV} {sz:Nat} (hs:∀ x,(enc x).length=sz):∀ (l:List α) (i:Nat),(l.flatMap enc).drop (i*sz)=(l.drop i).flatMap enc
 |[],i=>by simp
 |a::l,0=>by simp
 |a::l,i+1=>by
  simp only [List.flatMap_cons,List.drop_succ_cons]
  have:(i+1)*sz=(enc a).length+i*sz:=by rw [hs,Nat.add_mul]; omega
  rw [this,List.drop_length_add_append,flat_drop hs l i]
theorem flat_len {α:Type} {enc:α→List AV} {sz:Nat} (hs:∀ x,(enc x).length=sz) (l:List α):(l.flatMap enc).length=l.length*sz:=by
 induction l with
 |nil=>simp
 |cons a l ih=>simp [hs,ih,Nat.add_mul]; omega
theorem over_front {α:Type} (cs z:List α) (k:Nat) (hk:k≤cs.length):(over cs k z).take k=cs.take k:=by
 unfold over
 rw [List.append_assoc,List.take_append_of_le_length (by simp; omega),List.take_take,Nat.min_self]
theorem flat_del {α:Type} {enc:α→List AV} {sz:Nat} (hs:∀ x,(enc x).length=sz) (l:List α) (i:Nat) (hi:i<l.length) (z:List AV) :
  (over (over (l.flatMap enc) (i*sz) ((l.drop (i+1)).flatMap enc)) ((l.length-1)*sz) z).take ((l.length-1)*sz)=(l.eraseIdx i).flatMap enc:=by
 have e1:((l.drop (i+1)).flatMap enc).length=(l.length-(i+1))*sz:=by rw [flat_len hs]; simp
 have e2:i*sz+(l.length-(i+1))*sz=(l.length-1)*sz:=by rw [← Nat.add_mul]; congr 1; omega
 have e3:(l.length-1)*sz≤(l.flatMap enc).length:=by rw [flat_len hs]; exact Nat.mul_le_mul_right _ (by omega)
 have hfit:i*sz+((l.drop (i+1)).flatMap enc).length≤(l.flatMap enc).length:=by rw [e1,e2]; exact e3
 rw [over_front _ _ _ (by rw [over_length _ _ _ hfit]; exact e3)]
 have:=over_take (l.flatMap enc) ((l.drop (i+1)).flatMap enc) (i*sz) hfit
 rw [e1,e2] at this
 rw [this,flat_take hs,List.eraseIdx_eq_take_drop_succ,List.flatMap_append]
theorem OwnB.lo {e:TypeId} {lo lo':Nat} {v:AV} {s:List UInt8} (w:OwnB e lo h v s) (hl:lo'≤lo):OwnB e lo' h v s:=Own.lo w hl
theorem eqv_int {t:TypeId} {k k':IntKind} {x y:Int} {d:Nat} (hu:T.und t=some (.int k')):eqv T (d+1) t (.int k x) (.int k y)=some (decide (x=y)):=by
 unfold eqv
 rw [hu]
 simp
 rfl
theorem eqv_str {t:TypeId} {x y:List UInt8} {d:Nat} (hu:T.und t=some .string):eqv T (d+1) t (.str x) (.str y)=some (decide (x=y)):=by
 unfold eqv
 rw [hu]
 show some (bytesEq x y)=_
 rw [bytesEq_eq]
 by_cases e:x=y<;>simp [e]
theorem eqv_agg {t:TypeId} {xs ys:List AV} {fs:Array Field} {d:Nat} {r:Option Bool} (hu:T.und t=some (.struct fs)) (hs:T.stood t=false) (e:eqFields T (eqv T d) fs.toList xs ys=r):eqv T (d+1) t (.agg xs) (.agg ys)=r:=by
 rw [← e]
 conv=>lhs; unfold eqv
 rw [hu]
 simp [hs]
theorem eqF_cons {e : TypeId → AV → AV → Option Bool} {f : Field} {fs : List Field} {xs ys : List AV} {a b : AV} {p q : Prop} [Decidable p] [Decidable q] (hn : (f.name == "_") = false) (ha : part T f.type xs f.offset = some a) (hb : part T f.type ys f.offset = some b) (he : e f.type a b = some (decide p)) (r : eqFields T e fs xs ys = some (decide q)) : eqFields T e (f :: fs) xs ys = some (decide (p ∧ q)) := by
 have hn' : ¬ f.name = "_" := by simpa using hn
 unfold eqFields
 rw [if_neg hn']
 simp only [ha,hb,he]
 by_cases hp:p
 ·simp only [decide_eq_true hp]
  rw [r]
  simp [hp]
 ·simp [hp]
theorem eqF_nil {e:TypeId→AV→AV→Option Bool} {xs ys:List AV}:eqFields T e [] xs ys=some (decide True):=rfl
theorem bin_eq {op:BinOp} {t:TypeId} {xs ys:List AV} {p:Prop} [Decidable p] (e:eqv T 100 t (.agg xs) (.agg ys)=some (decide p)) (ho:op=.eql):binA T op t (.agg xs) (.agg ys)=some (.bool (decide p)):=by
 subst ho
 show (match eqv T 100 t (.agg xs) (.agg ys) with|some r=>some (AV.bool r)|none=>none)=_
 rw [e]
theorem bin_ne {op:BinOp} {t:TypeId} {xs ys:List AV} {p:Prop} [Decidable p] (e:eqv T 100 t (.agg xs) (.agg ys)=some (decide p)) (ho:op=.neq):binA T op t (.agg xs) (.agg ys)=some (.bool (decide (¬ p))):=by
 subst ho
 show (match eqv T 100 t (.agg xs) (.agg ys) with|some r=>some (AV.bool (!r))|none=>none)=_
 rw [e]
 simp
theorem k_bytes {src e:TypeId} {s:List UInt8} {x:Operand} {d:TypeDesc} (hr:s.length≤10000000) (ho:o.op=.convert src t x) (hs:T.und src=some .string) (hd:T.und t=some (.slice e)) (he:T.und e=some (.int .u8)) (hx:ρ x=some (.str s)):opA T ρ o h=.val (.oslice h.next 0 s.length 1) (h.alloc (.cells e (u8s s) true)):=by
 cases o; cases ho
 have hr':roomA s.length 1=true:=by unfold roomA; exact Nat.ble_eq.mpr (by omega)
 simp only [opA,hx]
 unfold convA
 simp only [hs,hd,he,hr']
 simp
theorem by_bytes (h:Heap) (e:TypeId) (s:List UInt8):By (h.alloc (.cells e (u8s s) true)) (.oslice h.next 0 s.length 1) s :=
 ⟨rfl,rfl,by show h.next<h.next+1; omega,e,_,true,get_new _ _,by simp [u8s],by simp [u8s,← List.map_take]⟩
end Ev
end
section
namespace Ev
open Go
variable {T:Tabs} {cx:Cx} {k:List K} {Q:Res→Prop} {all rest:List Oper} {o:Oper} {df:List ADef} {pan:Option (AV×Bool)} {h h' h2:Heap} {L L':List (Nat×AV)} {v:AV} {d:Nat}
variable {ms:List Nat} {N m:Nat} {mr:List Nat} {n:Nat} {acc:List EJ} {sl:List Tmp} {hl:List (List Tmp)} {Lq:List (Nat×AV)}
structure PJ (Lq:List (Nat×AV)) (T:Tabs) (cx:Cx) (df:List ADef) (pan:Option (AV×Bool)) (Q:Res→Prop) (all:List Oper) (ms:List Nat) (N:Nat) (rest:List Oper) (mr:List Nat) (hl:List (List Tmp)) (i:Nat) (L:List (Nat×AV)) (h:Heap) (acc:List EJ):Prop where
 out:∀ tm xs,Sees tm L→Ents acc xs→hl=hidsAux all ms rest mr i→∃ v hF es,(∃ n0,∀ n,n0≤n→goD T (ev T n) cx.nt all ms N rest mr i tm h=.pan v hF es)∧okD T (xs.reverse++es) 0=true∧∀ tm',Sees tm' Lq→Q (.pan v ⟨tm',df,pan,hF⟩)
theorem jg_drawn_pan {r q:Nat} {ops:Array Oper} (hk:h.ok) (hq:ops.toList.length=q) (hm:masks ops.toList=ms) (hh:hidsAux ops.toList ms ops.toList ms 0=hl) (he:edgesAll ops.toList 0=true)
  (g:PJ (hide L (dstsOf ops.toList)) T cx df pan Q ops.toList ms h.next ops.toList ms hl 0 L (Heap.mk h.t (h.next+q)) []):GJ T cx (.code (.region r ops true)::k) L df pan h Q:=by
 subst hq hm
 refine ⟨fun tm hs=>⟨?_⟩⟩
 obtain ⟨v,hF,es,⟨n0,h0⟩,ok,c⟩:=g.out tm [] hs .nil hh.symm
 refine ⟨.pan v ⟨unsetAll tm (dstsOf ops.toList),df,pan,hF⟩,.of_step ⟨n0,fun n hn=>?_⟩,?_⟩
 ·have ok':okD T es 0=true:=by simpa using ok
  simp only [step,drawn,he,allNone_of hk,Bool.and_self,h0 n hn,ok']
 ·show after T cx k Q _
  rw [after_pan]
  exact c _ (hs.hide _)
theorem pj_val (hw:wantedL all (hide L sl) o=some true) (hd:o.dst=some d) (hn:Nat.blt d cx.nt=true) (hk:quietKd (kindOf T o.op)=true) (ho:opA T (envL (hide L sl)) o h=.val v h')
  (c:PJ Lq T cx df pan Q all ms N rest mr hl (n+1) ((d,v)::L) h (⟨o,m,.read,true,hide L sl,h,v,h⟩::acc)):PJ Lq T cx df pan Q all ms N (o::rest) (m::mr) (sl::hl) n L h acc:=by
 refine ⟨fun tm xs hs ha e=>?_⟩
 obtain ⟨rfl,e2⟩:=hids_cons e
 have hs':Sees (unsetAll tm (slotsOut ((nth (m::mr) 0).getD 0) n all ms 0)) (hide L (slotsOut ((nth (m::mr) 0).getD 0) n all ms 0)):=hs.hide _
 obtain ⟨v2,hF,es,⟨n0,h0⟩,ok,q⟩:=c.out (tm.set d v) _ (hs.set d v) (.cons (e:=⟨o,m,.read,true,hide L (slotsOut ((nth (m::mr) 0).getD 0) n all ms 0),h,v,h⟩) hs' ha) e2
 refine ⟨v2,hF,(⟨o,m,.read,true,hide L (slotsOut ((nth (m::mr) 0).getD 0) n all ms 0),h,v,h⟩:EJ).ent (unsetAll tm (slotsOut ((nth (m::mr) 0).getD 0) n all ms 0))::es,⟨n0,fun j hj=>?_⟩,by simpa using ok,q⟩
 have h1:=h0 j hj
 cases hq:kindOf T o.op<;>rw [hq] at hk<;>first|(cases hk; done)|(simp only [goD,wanted_of hs' hw,hq,op_of hs' ho rfl,hd,if_pos (blt_lt hn)]; simp only [List.drop_succ_cons,List.drop_zero]; rw [h1]; rfl)
theorem pj_thrown {f:FuncId} {args:List AV} {R:AV→Heap→Prop} {l:List (EJ×Heap)} (hT:T.alts=false) (g:Wp T (.call f args h') fun r=>∃ v h2,r=.thrown v h2∧R v h2) (hw:wantedL all (hide L sl) o=some true) (hk:kindOf T o.op=.act) (ho:opA T (envL (hide L sl)) o h=.enter f args h')
  (hall:mr.all (fun m'=>Nat.testBit m' n)=true)
  (c:∀ v h2,R v h2→(∀ tm',Sees tm' Lq→Q (.pan v ⟨tm',df,pan,h2⟩))∧MsJ ms (⟨o,m,.act,true,hide L sl,h,v,h2⟩::acc).reverse 0∧∃ l,todoJ ms (⟨o,m,.act,true,hide L sl,h,v,h2⟩::acc).reverse 0=some l∧AllJ T l):PJ Lq T cx df pan Q all ms N (o::rest) (m::mr) (sl::hl) n L h acc:=by
 refine ⟨fun tm xs hs ha e=>?_⟩
 obtain ⟨rfl,e2⟩:=hids_cons e
 have hs':Sees (unsetAll tm (slotsOut ((nth (m::mr) 0).getD 0) n all ms 0)) (hide L (slotsOut ((nth (m::mr) 0).getD 0) n all ms 0)):=hs.hide _
 obtain ⟨r,⟨N0,hN⟩,hl⟩:=g
 have h1:=ev_leaf hT N0 (.call f args h')
 rw [hN N0 (Nat.le_refl _)] at h1
 have:∃ v h2,r=.thrown v h2∧R v h2:=by cases r<;>first|exact hl|cases h1
 obtain ⟨v,h2,rfl,rr⟩:=this
 obtain ⟨cq,cm,l,ct,ca⟩:=c v h2 rr
 have en:=(Ents.cons (e:=⟨o,m,.act,true,hide L (slotsOut ((nth (m::mr) 0).getD 0) n all ms 0),h,v,h2⟩) hs' ha)
 obtain ⟨l',p1,p2⟩:=todoJ_ok en.rev ct ca
 refine ⟨v,h2,[(⟨o,m,.act,true,hide L (slotsOut ((nth (m::mr) 0).getD 0) n all ms 0),h,v,h2⟩:EJ).ent (unsetAll tm (slotsOut ((nth (m::mr) 0).getD 0) n all ms 0))],⟨N0,fun j hj=>?_⟩,?_,cq⟩
 ·simp only [goD,wanted_of hs' hw,hk,actA,op_of hs' ho rfl,hN j hj,no1]
  simp only [List.drop_succ_cons,List.drop_zero,hall]
  rfl
 ·have:=todo_ok (cm.ok en.rev) p1 p2
  simpa using this
end Ev
end
section
namespace Ev
open Go
variable {α:Type} {enc:α→List AV} {sz:Nat}
theorem over_app {β:Type} (a R v:List β) (k:Nat):over (a++R) (a.length+k) v=a++over R k v:=by
 unfold over
 rw [List.take_append,List.drop_append]
 have e1:a.take (a.length+k)=a:=List.take_of_length_le (by omega)
 have e2:a.drop (a.length+k+v.length)=[]:=List.drop_of_length_le (by omega)
 have e3:a.length+k-a.length=k:=by omega
 have e4:a.length+k+v.length-a.length=k+v.length:=by omega
 rw [e1,e2,e3,e4]
 simp
theorem over_flat (hs:∀ x,(enc x).length=sz) (x:α) (rest:List AV):∀ (l:List α) (i:Nat),i<l.length→over (l.flatMap enc++rest) (i*sz) (enc x)=(l.set i x).flatMap enc++rest
 |[],i,h=>by simp at h
 |a::t,0,h=>by
  unfold over
  simp [hs]
 |a::t,i+1,h=>by
  rw [List.flatMap_cons,List.append_assoc,show (i+1)*sz=(enc a).length+i*sz by rw [hs,Nat.succ_mul]; omega,over_app,over_flat hs x rest t i (by simpa using h)]
  simp
theorem over_len {β:Type} (l v:List β) (k:Nat) (h:k+v.length≤l.length):(over l k v).length=l.length:=by
 unfold over
 simp
 omega
theorem over_own (hs:∀ x,(enc x).length=sz) {l:List α} {all:List AV} {i:Nat} (x:α) (hi:i<l.length) (hc:all.take (l.length*sz)=l.flatMap enc):(over all (0+i*sz) (enc x)).take (l.length*sz)=(l.set i x).flatMap enc:=by
 have e:all=l.flatMap enc++all.drop (l.length*sz):=by rw [← hc]; exact (List.take_append_drop _ _).symm
 rw [e,Nat.zero_add,over_flat hs x _ l i hi,List.take_append]
 have e2:((l.set i x).flatMap enc).length=l.length*sz:=by
  have:∀ (m:List α),(m.flatMap enc).length=m.length*sz:=by
   intro m
   induction m with
   |nil=>simp
   |cons a m ih=>rw [List.flatMap_cons,List.length_append,ih,hs,List.length_cons,Nat.succ_mul]; omega
  rw [this,List.length_set]
 rw [← e2,List.take_of_length_le (Nat.le_refl _),Nat.sub_self]
 simp
theorem row_own (hs:∀ x,(enc x).length=sz) {l:List α} {all:List AV} {i:Nat} {y:α} (hy:l[i]?=some y) (hc:all.take (l.length*sz)=l.flatMap enc):(all.drop (0+i*sz)).take sz=enc y∧(i+1)*sz≤l.length*sz:=by
 have hi:i<l.length:=by
  rcases Nat.lt_or_ge i l.length with h1|h1
  ·exact h1
  ·rw [List.getElem?_eq_none h1] at hy; cases hy
 have b:(i+1)*sz≤l.length*sz:=Nat.mul_le_mul_right sz hi
 refine ⟨?_,b⟩
 have f:=flat_at hs l i y hy
 rw [← hc] at f
 rw [← f,Nat.zero_add,List.drop_take,List.take_take]
 rw [Nat.succ_mul] at b
 congr 1
 omega
end Ev
end
section
namespace Ev
open Go
variable {T:Tabs} {h h':Heap}
inductive OwnS (e:TypeId) (sz:Nat) (S:Nat→Prop) (h:Heap):AV→Nat→List AV→Prop
 |nil:OwnS e sz S h .nilslice 0 []
 |sl {B cap n:Nat} {all cs:List AV} (hb:S B) (hl:B<h.next) (hg:h.get B=some (.cells e all true)) (hn:n≤cap) (ha:all.length=cap*sz) (hc:all.take (n*sz)=cs):OwnS e sz S h (.slice B 0 n cap) n cs
 |os {B cap n:Nat} {all cs:List AV} (hb:S B) (hl:B<h.next) (hg:h.get B=some (.cells e all true)) (hn:n≤cap) (ha:all.length=cap*sz) (hc:all.take (n*sz)=cs):OwnS e sz S h (.oslice B 0 n sz) n cs
theorem OwnS.sl' {e:TypeId} {sz n:Nat} {S:Nat→Prop} {v:AV} {cs:List AV} (w:OwnS e sz S h v n cs):Sl h sz v n cs:=by
 cases w with
 |nil=>exact ⟨rfl,rfl⟩
 |sl hb hl hg hn ha hc=>exact ⟨rfl,hl,e,_,true,hg,by rw [Nat.zero_add,ha]; exact Nat.mul_le_mul_right _ hn,by simpa using hc⟩
 |os hb hl hg hn ha hc=>exact ⟨rfl,rfl,hl,e,_,true,hg,by rw [Nat.zero_add,ha]; exact Nat.mul_le_mul_right _ hn,by simpa using hc⟩
theorem OwnS.length {e:TypeId} {sz n:Nat} {S:Nat→Prop} {v:AV} {cs:List AV} (w:OwnS e sz S h v n cs):cs.length=n*sz:=w.sl'.length
theorem OwnS.keep {e:TypeId} {sz n:Nat} {S:Nat→Prop} {v:AV} {cs:List AV} (w:OwnS e sz S h v n cs) (k:∀ b,S b→b<h.next→h'.get b=h.get b) (hn:h.next≤h'.next):OwnS e sz S h' v n cs:=by
 cases w with
 |nil=>exact .nil
 |sl hb hl hg hn' ha hc=>exact .sl hb (Nat.lt_of_lt_of_le hl hn) ((k _ hb hl).trans hg) hn' ha hc
 |os hb hl hg hn' ha hc=>exact .os hb (Nat.lt_of_lt_of_le hl hn) ((k _ hb hl).trans hg) hn' ha hc
theorem OwnS.mono {e:TypeId} {sz n:Nat} {S S':Nat→Prop} {v:AV} {cs:List AV} (w:OwnS e sz S h v n cs) (k:∀ b,S b→b<h.next→S' b):OwnS e sz S' h v n cs:=by
 cases w with
 |nil=>exact .nil
 |sl hb hl hg hn' ha hc=>exact .sl (k _ hb hl) hl hg hn' ha hc
 |os hb hl hg hn' ha hc=>exact .os (k _ hb hl) hl hg hn' ha hc
theorem Own.to_s {e:TypeId} {sz lo n:Nat} {v:AV} {cs:List AV} (w:Own e sz lo h v n cs):OwnS e sz (lo ≤ ·) h v n cs:=by
 cases w with
 |nil=>exact .nil
 |sl hb hl hg hn ha hc=>exact .sl hb hl hg hn ha hc
 |os hb hl hg hc hn=>exact .os hb hl hg (Nat.le_refl _) hc (List.take_of_length_le (by omega))
structure Touch (S:Nat→Prop) (h h':Heap):Prop where
 nx:h.next≤h'.next
 old:∀ c,c<h.next→¬ S c→h'.get c=h.get c
 ok:h.ok→h'.ok
theorem Touch.refl (S:Nat→Prop) (h:Heap):Touch S h h:=⟨Nat.le_refl _,fun _ _ _=>rfl,id⟩
theorem Touch.trans {S:Nat→Prop} {a b c:Heap} (x:Touch S a b) (y:Touch S b c):Touch S a c:=⟨Nat.le_trans x.nx y.nx,fun n hn hs=>(y.old n (Nat.lt_of_lt_of_le hn x.nx) hs).trans (x.old n hn hs),fun k=>y.ok (x.ok k)⟩
theorem Touch.set {S:Nat→Prop} {h:Heap} {b:Nat} (o:AObj) (hb:S b) (hl:b<h.next):Touch S h (h.set b o):=⟨Nat.le_refl _,fun c hc hs=>Heap.gn _ _ _ _ (fun e=>hs (e ▸ hb)),fun k=>ok_st k _ _ hl⟩
theorem Touch.al {S:Nat→Prop} {h:Heap} (o:AObj):Touch S h (h.alloc o):=⟨Nat.le_succ _,fun c hc hs=>Heap.ga _ _ _ (by omega),fun k=>ok_al k _⟩
theorem append_s {st elem:TypeId} {rest:List TypeId} {sz n m:Nat} {S:Nat→Prop} {ei:TypeInfo} {u w:AV} {cs new:List AV} (hu:T.und st=some (.slice elem)) (hsz:T.size elem=some sz) (hti:T.ti elem=some ei) (hz:zeroOk T elem sz=true) (hs0:0<sz)
  (own:OwnS elem sz S h u n cs) (hcount:countA T rest w=some m) (hnew:newA T elem sz m h rest w=some new) (hlen:new.length=m*sz) (hone:new.all AV.one=true) (hr:roomA (n+m) ei.bytes=true) :
  ∃ v' h',appendA T [u,w] (st::rest) h=.val v' h'∧OwnS elem sz (fun b=>S b∨h.next≤b) h' v' (n+m) (cs++new)∧Touch S h h':=by
 have hf:firstA sz n h u=some cs:=own.sl'.first
 have hl:lenS u=some n:=own.sl'.len
 have hcl:=own.length
 have hb1:Nat.beq new.length (m*sz)=true:=by rw [hlen]; simp
 have hb2:Nat.beq cs.length (n*sz)=true:=by rw [hcl]; simp
 have fresh:∀ hh:Heap,hh.next=h.next→OwnS elem sz (fun b=>S b∨h.next≤b) (hh.alloc (.cells elem (cs++new) true)) (.oslice h.next 0 (n+m) sz) (n+m) (cs++new):=fun hh e =>
  .os (.inr (Nat.le_refl _)) (by show h.next<hh.next+1; omega) (by rw [← e]; exact get_new _ _) (Nat.le_refl _) (by simp [hcl,hlen,Nat.add_mul]) (List.take_of_length_le (by simp [hcl,hlen,Nat.add_mul]))
 cases own with
 |nil =>
  by_cases h0:m=0
  ·subst h0
   have:new=[]:=by simpa using hlen
   subst this
   exact ⟨.nilslice,h,by unfold appendA; simp only [hu,hsz,hl,hcount,hti,hnew,hf]; simp [hr,hz],.nil,.refl _ _⟩
  ·refine ⟨.oslice h.next 0 m sz,h.alloc (.cells elem ([]++new) true),?_,?_,.al _⟩
   ·unfold appendA; simp only [hu,hsz,hl,hcount,hti,hnew,hf]; simp only [Nat.zero_add] at hr ⊢; simp [hr,hz,hlen,h0]
   ·simpa using fresh h rfl
 |@sl B cap n all cs hb hlt hg hn ha hc =>
  by_cases hin:n+m≤cap
  ·have hfit:n*sz+new.length≤all.length:=by rw [hlen,ha,← Nat.add_mul]; exact Nat.mul_le_mul_right _ hin
   have hw:writeCells h B (0+n*sz) new=some (h.set B (.cells elem (over all (n*sz) new) true)):=by
    simp only [writeCells,hg,Nat.zero_add]
    rw [if_pos ⟨hfit,hone⟩]
   refine ⟨.slice B 0 (n+m) cap,h.set B (.cells elem (over all (n*sz) new) true),?_,?_,.set _ hb hlt⟩
   ·unfold appendA; simp only [hu,hsz,hl,hcount,hti,hnew,hf]; simp [hr,hz,hb1,hb2,hin]; simp only [Nat.zero_add] at hw; rw [hw]
   ·refine .sl (.inl hb) (by simpa using hlt) (Heap.gs _ _ _) hin (by rw [over_length _ _ _ hfit,ha]) ?_
    have:=over_take all new (n*sz) hfit
    rw [hlen,← Nat.add_mul] at this
    rw [this,hc]
  ·refine ⟨.oslice h.next 0 (n+m) sz,h.alloc (.cells elem (cs++new) true),?_,?_,.al _⟩
   ·unfold appendA; simp only [hu,hsz,hl,hcount,hti,hnew,hf]; simp [hr,hz,hb1,hb2,hin]
   ·exact fresh h rfl
 |@os B cap n all cs hb hlt hg hn ha hc =>
  have hs:¬ (sz≠sz∨sz=0∨elem≠elem∨new.all AV.one=false):=by
   rintro (e|e|e|e)
   ·exact e rfl
   ·omega
   ·exact e rfl
   ·rw [hone] at e; cases e
  by_cases hin:0+(n+m)*sz≤all.length
  ·have hfit:n*sz+new.length≤all.length:=by rw [hlen,← Nat.add_mul]; omega
   have hw:writeCells h B (0+n*sz) new=some (h.set B (.cells elem (over all (n*sz) new) true)):=by
    simp only [writeCells,hg,Nat.zero_add]
    rw [if_pos ⟨hfit,hone⟩]
   refine ⟨.oslice B 0 (n+m) sz,h.set B (.cells elem (over all (n*sz) new) true),?_,?_,.set _ hb hlt⟩
   ·unfold appendA; simp only [hu,hsz,hl,hcount,hti,hnew,hf]; simp only [Nat.zero_add] at hr hw hin hb1 hb2 ⊢; simp [hr,hz,hb1,hb2,hg,hs,hin,hw,hone]; omega
   ·refine .os (.inl hb) (by simpa using hlt) (Heap.gs _ _ _) (by rw [Nat.zero_add,ha] at hin; exact Nat.le_of_mul_le_mul_right hin hs0) (by rw [over_length _ _ _ hfit,ha]) ?_
    have:=over_take all new (n*sz) hfit
    rw [hlen,← Nat.add_mul] at this
    rw [this,hc]
  ·have hin':¬ ((n+m)*sz≤all.length):=by rw [Nat.zero_add] at hin; exact hin
   refine ⟨.oslice h.next 0 (n+m) sz,(h.set B .dead).alloc (.cells elem (cs++new) true),?_,?_,(Touch.set _ hb hlt).trans (.al _)⟩
   ·unfold appendA; simp only [hu,hsz,hl,hcount,hti,hnew,hf]; simp only [Nat.zero_add] at hr hb1 hb2 ⊢; simp [hr,hz,hb1,hb2,hg,hone,hin']; omega
   ·exact fresh (h.set B .dead) rfl
variable {α:Type} {enc:α→List AV} {sz:Nat}
def OwnLS (enc:α→List AV) (e:TypeId) (sz:Nat) (S:Nat→Prop) (h:Heap) (v:AV) (l:List α):Prop:=OwnS e sz S h v l.length (l.flatMap enc)
theorem OwnLS.ls {e:TypeId} {S:Nat→Prop} {v:AV} {l:List α} (w:OwnLS enc e sz S h v l):Ls enc sz h v l:=w.sl'
theorem OwnLS.nil {e:TypeId} {S:Nat→Prop}:OwnLS enc e sz S h .nilslice []:=OwnS.nil
theorem app_row_s {st elem:TypeId} {rest:List TypeId} {c:Nat} {S:Nat→Prop} {ei:TypeInfo} {u:AV} {l:List α} {x:α} {rw:Bool} (own:OwnLS enc elem sz S h u l) (hc:h.get c=some (.cells elem (enc x) rw)) (hcl:c<h.next) (hr:l.length≤1000000)
  (hs:(enc x).length=sz) (hone:(enc x).all AV.one=true)
  (hu:T.und st=some (.slice elem)) (hsz:T.size elem=some sz) (hti:T.ti elem=some ei) (hb:ei.bytes≤10000) (hz:zeroOk T elem sz=true) (hs0:0<sz) (hm:isMake T rest=some false) :
  ∃ v' h',appendA T [u,.slice c 0 1 1] (st::rest) h=.val v' h'∧OwnLS enc elem sz (fun b=>S b∨h.next≤b) h' v' (l++[x])∧Touch S h h':=by
 have bw:Sl h sz (.slice c 0 1 1) 1 (enc x):=⟨rfl,hcl,elem,enc x,rw,hc,by omega,by simp [← hs]⟩
 obtain ⟨v',h',e1,e2,e3⟩:=append_s hu hsz hti hz hs0 own (count_sl hm bw) (new_sl hm bw) (by simp [hs]) hone (by
  unfold roomA
  refine Nat.ble_eq.mpr (Nat.le_trans (Nat.mul_le_mul (show 4*(l.length+1)+1000≤4001004 by omega) (show ei.bytes+1≤10001 by omega)) (by decide)))
 exact ⟨v',h',e1,by unfold OwnLS; simpa using e2,e3⟩
theorem app_rows_s {st elem:TypeId} {rest:List TypeId} {S:Nat→Prop} {ei:TypeInfo} {u w:AV} {l r:List α} (own:OwnLS enc elem sz S h u l) (bw:Ls enc sz h w r) (hr:l.length+r.length≤1000000)
  (hone:∀ x,(enc x).all AV.one=true)
  (hu:T.und st=some (.slice elem)) (hsz:T.size elem=some sz) (hti:T.ti elem=some ei) (hb:ei.bytes≤10000) (hz:zeroOk T elem sz=true) (hs0:0<sz) (hm:isMake T rest=some false) :
  ∃ v' h',appendA T [u,w] (st::rest) h=.val v' h'∧OwnLS enc elem sz (fun b=>S b∨h.next≤b) h' v' (l++r)∧Touch S h h':=by
 obtain ⟨v',h',e1,e2,e3⟩:=append_s hu hsz hti hz hs0 own (count_sl hm bw) (new_sl hm bw) (Sl.length bw) (by
  clear bw hr
  induction r with
  |nil=>rfl
  |cons a r ih=>rw [List.flatMap_cons,List.all_append,hone,ih]; rfl) (by
  unfold roomA
  refine Nat.ble_eq.mpr (Nat.le_trans (Nat.mul_le_mul (show 4*(l.length+r.length)+1000≤4001000 by omega) (show ei.bytes+1≤10001 by omega)) (by decide)))
 exact ⟨v',h',e1,by unfold OwnLS; simpa using e2,e3⟩
end Ev
end
section
namespace Ev
open Go
variable {T:Tabs} {h h':Heap} {cx:Cx} {k:List K} {Q:Res→Prop} {all rest:List Oper} {df:List ADef} {pan:Option (AV×Bool)} {L:List (Nat×AV)} {tm:Tr AV} {o:Oper} {d:Nat}
def RGives (T:Tabs) (l:Nat) (fn:FuncId) (tm0:Tr AV) (nt:Nat) (as bd:Code) (h:Heap) (P:AV→Heap→Prop):Prop:=Wp T (.round l fn tm0 nt as bd h) fun r=>∃ v h',r=.ret v h'∧P v h'
theorem ops_round {l:Nat} {fn:FuncId} {tm0:Tr AV} {nt:Nat} {as bd:Code} {P:AV→Heap→Prop} (hs:Sees tm L) (hg:wantedL all L o=some true) (hd:o.dst=some d) (ho:opA T (envL L) o h=.round l fn tm0 nt as bd h') (hn:Nat.blt d cx.nt=true)
  (hc:RGives T l fn tm0 nt as bd h' P) (c:∀ v h2,P v h2→∀ tm',Sees tm' ((d,v)::L)→Ops T cx all rest k ⟨tm',df,pan,h2⟩ Q):Ops T cx all (o::rest) k ⟨tm,df,pan,h⟩ Q:=by
 refine Wp.bind (t':=.round l fn tm0 nt as bd h') (fun rec r=>match r with
   |.ret v h''=>(match putA cx { tm:=tm,df:=df,pan:=pan,h:=h'' } o.dst v with
      |some s'=>rec (.ops cx all rest s')
      | none => .no "put" [])
   |.thrown v h''=>.pan v { tm:=tm,df:=df,pan:=pan,h:=h'' }
   |r=>no1 fn r) (fun rec=>?_) (Wp.mono hc ?_)
 ·simp only [step,wanted_of hs hg,op_of hs ho rfl]
  cases rec (.round l fn tm0 nt as bd h')<;>rfl
 ·rintro _ ⟨v,h2,rfl,p⟩
  obtain ⟨r,⟨N,hr⟩,q⟩:=c v h2 p (tm.set d v) (hs.set d v)
  refine ⟨r,⟨N,fun n hn'=>?_⟩,q⟩
  simp only [putA,hd,if_pos (blt_lt hn)]
  exact hr n hn'
theorem jo_round {l:Nat} {fn:FuncId} {tm0:Tr AV} {nt:Nat} {as bd:Code} {P:AV→Heap→Prop} (hc:RGives T l fn tm0 nt as bd h' P) (hg:wantedL all L o=some true) (hd:o.dst=some d) (hn:Nat.blt d cx.nt=true) (ho:opA T (envL L) o h=.round l fn tm0 nt as bd h')
  (c:∀ v h2,P v h2→OJ T cx all rest k ((d,v)::L) df pan h2 Q):OJ T cx all (o::rest) k L df pan h Q:=⟨fun tm hs=>⟨ops_round hs hg hd ho hn hc fun v h2 p tm' s'=>((c v h2 p).out tm' s').out⟩⟩
def roundB (T:Tabs) (l:Nat) (fn:FuncId) (r:Res):Res:=match r with
 |.fin e s'=>(match s'.df,s'.h.get l with
  |[],some (.loop _ _ fn'' tm'' nt'' ps'' as'' bd'' d')=>(match e with
   |.normal=>.ret (.bool true) (s'.h.set l (.loop .ready none fn'' tm'' nt'' ps'' as'' bd'' d'))
   |e=>.ret (.bool false) (s'.h.set l (.loop .done (some (goCode e)) fn'' tm'' nt'' ps'' as'' bd'' d')))
  | _, _ => .no "round: defers" [])
 |.pan v s'=>(match s'.df,T.fn fn with
  |[],some _=>.thrown v s'.h
  | _, _ => .no "round: defers" [])
 |r=>r
def roundA (T:Tabs) (l:Nat) (fn:FuncId) (nt:Nat) (bd:Code) (rec:Task→Res) (r:Res):Res:=match r with
 |.fin .normal s=>(match s.h.get l with
  |some (.loop .ready pend fn' tm' nt' ps as' bd' d)=>bindR (rec (.code { fn:=fn,nt:=nt,round:=some l } bd { s with h:=s.h.set l (.loop .busy pend fn' tm' nt' ps as' bd' d) })) (roundB T l fn)
  | _ => .no "round: not ready" [])
 | .fin _ _ => .no "round: jump in assign" []
 |.pan v s=>(match s.df,T.fn fn with
  |[],some _=>.thrown v s.h
  | _, _ => .no "round: defers" [])
 |r=>r
theorem round_of {l:Nat} {fn:FuncId} {tm0:Tr AV} {nt:Nat} {as bd:Code} {P:AV→Heap→Prop} {L:List (Nat×AV)} (hs:Sees tm0 L)
  (g:GJ T { fn:=fn,nt:=nt,round:=some l } [.code as] L [] none h fun r=>∃ tm1 h1 L1 pend fn' tm' nt' ps as' bd' dd,r=.fin .normal ⟨tm1,[],none,h1⟩∧Sees tm1 L1∧h1.get l=some (.loop .ready pend fn' tm' nt' ps as' bd' dd) ∧
   GJ T { fn:=fn,nt:=nt,round:=some l } [.code bd] L1 [] none (h1.set l (.loop .busy pend fn' tm' nt' ps as' bd' dd)) fun r=>∃ tm2 h2 st2 pend2 fn2 tm3 nt2 ps2 as2 bd2 d2,r=.fin .normal ⟨tm2,[],none,h2⟩∧h2.get l=some (.loop st2 pend2 fn2 tm3 nt2 ps2 as2 bd2 d2)∧P (.bool true) (h2.set l (.loop .ready none fn2 tm3 nt2 ps2 as2 bd2 d2))):RGives T l fn tm0 nt as bd h P:=by
 refine Wp.bind (t':=.code { fn:=fn,nt:=nt,round:=some l } as { tm:=tm0,df:=[],pan:=none,h:=h }) (roundA T l fn nt bd) (fun rec=>?_) (Wp.mono (g.out tm0 hs).out ?_)
 ·show bindR _ _=bindR _ _
  congr 1
 ·rintro _ ⟨tm1,h1,L1,pend,fn',tm',nt',ps,as',bd',dd,rfl,s1,hl,g2⟩
  have w2:Wp T (.code { fn:=fn,nt:=nt,round:=some l } bd { tm:=tm1,df:=[],pan:=none,h:=h1.set l (.loop .busy pend fn' tm' nt' ps as' bd' dd) }) _:=(g2.out tm1 s1).out
  obtain ⟨r,⟨N,hr⟩,kk⟩:=Wp.mono (Q':=fun r=>∃ r',(∃ N,∀ n,N≤n→(fun (_:Nat)=>roundB T l fn) n r=r')∧Leaves (fun r=>∃ v h',r=.ret v h'∧P v h') r') w2 (by
   rintro _ ⟨tm2,h2,st2,pend2,fn2,tm3,nt2,ps2,as2,bd2,d2,rfl,hl2,p⟩
   exact ⟨.ret (.bool true) (h2.set l (.loop .ready none fn2 tm3 nt2 ps2 as2 bd2 d2)),⟨0,fun _ _=>by simp only [roundB,hl2]⟩,⟨_,_,rfl,p⟩⟩)
  obtain ⟨r',⟨N',hr'⟩,q⟩:=bind_leaves (fun _=>roundB T l fn) r kk
  refine ⟨r',⟨N+N',fun n hn=>?_⟩,q⟩
  simp only [roundA,hl]
  rw [hr n (by omega)]
  exact hr' n (by omega)
theorem go_range {fo:Operand} {params:Array Nat} {as bd:Code} {g:FuncId} {first cap:List AV} {F:Func} {c:Code} {P:Heap→Prop} (hr:cx.round=none) (hf:env tm fo=some (.func (.func g) first cap)) (hF:T.fn g=some F) (hb:F.body=some c)
  (hc:Gives T g (first++[.func (.yield (h.next+1)) [] []]++cap) ((h.alloc (.dfr (some []))).alloc (.loop .ready none cx.fn tm cx.nt params.toList as bd h.next)) fun _ h4=>P h4)
  (q:∀ h4,P h4→∃ st fn' tm' nt' ps as' bd' d,h4.get (h.next+1)=some (.loop st none fn' tm' nt' ps as' bd' d)∧st≠.busy∧Goes T cx k ⟨tm,.collected h.next::df,pan,h4.set (h.next+1) (.loop .exhausted none fn' tm' nt' ps as' bd' d)⟩ Q) :
  Goes T cx (.code (.rangeFunc fo params as bd)::k) ⟨tm,df,pan,h⟩ Q:=by
 refine Wp.bind (t':=.call g (first++[.func (.yield (h.next+1)) [] []]++cap) ((h.alloc (.dfr (some []))).alloc (.loop .ready none cx.fn tm cx.nt params.toList as bd h.next))) (fun rec r=>match r with
     |.ret _ h4=>match h4.get (h.next+1) with
      |some (.loop st pend fn' tm' nt' ps as bd d)=>match st with
       | .busy => .no "rangeFunc: busy" []
       |_ =>
        let s5:St:=⟨tm,.collected h.next::df,pan,h4.set (h.next+1) (.loop .exhausted pend fn' tm' nt' ps as bd d)⟩
        match pend with
        |none=>.fin .normal s5
        |some c=>rec (.code cx c s5)
      | _ => .no "rangeFunc: no loop" []
     |.thrown v h4=>.pan v ⟨tm,.collected h.next::df,pan,h4⟩
     |r=>r) (fun rec=>?_) (Wp.mono hc ?_)
 ·simp only [step,hf,startLoop,hr,invokeA,hF,hb]
  rfl
 ·rintro _ ⟨v,h4,rfl,p⟩
  obtain ⟨st,fn',tm',nt',ps,as',bd',d,hg,hst,w⟩:=q h4 p
  refine ⟨.fin .normal ⟨tm,.collected h.next::df,pan,h4.set (h.next+1) (.loop .exhausted none fn' tm' nt' ps as' bd' d)⟩,⟨0,fun _ _=>?_⟩,w⟩
  simp only [hg]
theorem leave_collected {f:FuncId} {ds:List ADef} {b:Nat} (hg:h.get b=some (.dfr (some []))) (w:Wp T (.leave f tm ds pan (h.set b (.dfr none))) Q):Wp T (.leave f tm (.collected b::ds) pan h) Q :=
 Wp.like (fun rec=>by simp [step,hg]) w
end Ev
end
section
namespace Ev
open Go
variable {T:Tabs} {h h':Heap} {cx:Cx} {k:List K} {Q:Res→Prop} {all rest:List Oper} {df:List ADef} {pan:Option (AV×Bool)} {L:List (Nat×AV)} {tm:Tr AV} {o:Oper} {d:Nat}
theorem jg_range {fo:Operand} {params:Array Nat} {as bd:Code} {g:FuncId} {first cap:List AV} {F:Func} {c:Code} {P:Heap→Prop} (hr:cx.round=none) (hf:envL L fo=some (.func (.func g) first cap)) (hF:T.fn g=some F) (hb:F.body=some c)
  (hc:∀ tm,Sees tm L→Gives T g (first++[.func (.yield (h.next+1)) [] []]++cap) ((h.alloc (.dfr (some []))).alloc (.loop .ready none cx.fn tm cx.nt params.toList as bd h.next)) fun _ h4=>P h4)
  (q:∀ h4,P h4→∃ st fn' tm' nt' ps as' bd' d,h4.get (h.next+1)=some (.loop st none fn' tm' nt' ps as' bd' d)∧st≠.busy∧GJ T cx k L (.collected h.next::df) pan (h4.set (h.next+1) (.loop .exhausted none fn' tm' nt' ps as' bd' d)) Q) :
  GJ T cx (.code (.rangeFunc fo params as bd)::k) L df pan h Q :=
 ⟨fun tm hs=>⟨go_range hr ((hs.env hf)) hF hb (hc tm hs) fun h4 p=>by
  obtain ⟨st,fn',tm',nt',ps,as',bd',d,e1,e2,e3⟩:=q h4 p
  exact ⟨st,fn',tm',nt',ps,as',bd',d,e1,e2,(e3.out tm hs).out⟩⟩⟩
theorem k_yield {ρ:Operand→Option AV} {f:Operand} {args:Array Operand} {ats:Array TypeId} {l:Nat} {as:List AV} {r:OR} (e:invokeA T (.yield l) [] as h=r) (ho:o.op=.call { callee:=.value f,args:=args,argTypes:=ats }) (hf:ρ f=some (.func (.yield l) [] [])) (ha:argMap ρ args.toList=some as):opA T ρ o h=r:=by
 cases o; cases ho
 simp only [opA,resolveA,hf,ha,List.nil_append]
 exact e
theorem oj_cut2 {ι:Type} {a b:K} {k2:List K} (Lf:ι→List (Nat×AV)) (I:ι→Heap→Prop) (now:∀ k',(∀ x {L' h'},Sub (Lf x) L'→I x h'→GJ T cx k' L' df pan h' Q)→OJ T cx all rest (a::b::k') L df pan h Q) (rst:∀ x h,I x h→GJ T cx k2 (Lf x) df pan h Q):OJ T cx all rest (a::b::k2) L df pan h Q:=now k2 fun x _ h' hs hi=>(rst x h' hi).sub hs
theorem oj_cut1 {ι:Type} {a:K} {k2:List K} (Lf:ι→List (Nat×AV)) (I:ι→Heap→Prop) (now:∀ k',(∀ x {L' h'},Sub (Lf x) L'→I x h'→GJ T cx k' L' df pan h' Q)→OJ T cx all rest (a::k') L df pan h Q) (rst:∀ x h,I x h→GJ T cx k2 (Lf x) df pan h Q):OJ T cx all rest (a::k2) L df pan h Q:=now k2 fun x _ h' hs hi=>(rst x h' hi).sub hs
theorem oj_cut0 {ι:Type} {k2:List K} (Lf:ι→List (Nat×AV)) (I:ι→Heap→Prop) (now:∀ k',(∀ x {L' h'},Sub (Lf x) L'→I x h'→GJ T cx k' L' df pan h' Q)→OJ T cx all rest k' L df pan h Q) (rst:∀ x h,I x h→GJ T cx k2 (Lf x) df pan h Q):OJ T cx all rest k2 L df pan h Q:=now k2 fun x _ h' hs hi=>(rst x h' hi).sub hs
theorem gj_cut1 {ι:Type} {a:K} {k2:List K} (Lf:ι→List (Nat×AV)) (I:ι→Heap→Prop) (now:∀ k',(∀ x {L' h'},Sub (Lf x) L'→I x h'→GJ T cx k' L' df pan h' Q)→GJ T cx (a::k') L df pan h Q) (rst:∀ x h,I x h→GJ T cx k2 (Lf x) df pan h Q):GJ T cx (a::k2) L df pan h Q:=now k2 fun x _ h' hs hi=>(rst x h' hi).sub hs
theorem gj_cut2 {ι:Type} {a b:K} {k2:List K} (Lf:ι→List (Nat×AV)) (I:ι→Heap→Prop) (now:∀ k',(∀ x {L' h'},Sub (Lf x) L'→I x h'→GJ T cx k' L' df pan h' Q)→GJ T cx (a::b::k') L df pan h Q) (rst:∀ x h,I x h→GJ T cx k2 (Lf x) df pan h Q):GJ T cx (a::b::k2) L df pan h Q:=now k2 fun x _ h' hs hi=>(rst x h' hi).sub hs
theorem OwnS.front {e:TypeId} {sz n k:Nat} {S:Nat→Prop} {v:AV} {cs:List AV} {kd:IntKind} (w:OwnS e sz S h v n cs) (hk:k≤n) (hs:0<sz):∃ v',sliceS sz h v none (some (.int kd (k:Nat))) none=some v'∧OwnS e sz S h v' k (cs.take (k*sz)):=by
 cases w with
 |nil =>
  obtain rfl:k=0:=by omega
  exact ⟨.nilslice,rfl,by simpa using OwnS.nil⟩
 |@sl B cap n all cs hb hl hg hn ha hc =>
  have hk':(k:Int)≤(cap:Int):=by omega
  refine ⟨.slice B 0 k cap,?_,.sl hb hl hg (by omega) ha ?_⟩
  ·simp [sliceS,boundsA,mxA,hiA,loA,boundA,hk']
  ·rw [← hc,List.take_take,Nat.min_eq_left (Nat.mul_le_mul_right _ hk)]
 |@os B cap n all cs hb hl hg hn ha hc =>
  have hkn:(all.length-0) / sz=cap:=by rw [Nat.sub_zero,ha]; exact Nat.mul_div_cancel _ hs
  have hk':(k:Int)≤(cap:Int):=by omega
  refine ⟨.oslice B 0 k sz,?_,.os hb hl hg (by omega) ha ?_⟩
  ·simp only [sliceS,hg,hkn,boundsA,mxA,hiA,loA,boundA,ne_eq,not_true_eq_false,if_false]
   rw [if_pos ⟨by omega,hk'⟩]
   simp
  ·rw [← hc,List.take_take,Nat.min_eq_left (Nat.mul_le_mul_right _ hk)]
end Ev
end
section
namespace Ev
open Go
variable {α:Type}
structure Yld (T:Tabs) (l:Nat) (enc:α→List AV) (I:(Nat→Prop)→List α→Heap→Prop):Prop where
 call:∀ (S:Nat→Prop) (acc:List α) (s:α) (h:Heap),acc.length≤500000→I S acc h→∃ fn tm nt asg bd,invokeA T (.yield l) [] [.agg (enc s)] h=.round l fn tm nt asg bd h∧RGives T l fn tm nt asg bd h (fun v h'=>v=.bool true∧Touch S h h'∧∃ S':Nat→Prop,(∀ c,S' c→S c∨h.next≤c)∧I S' (acc++[s]) h')
 low:∀ (S:Nat→Prop) (acc:List α) (h:Heap),I S acc h→∀ c,S c→c<h.next
 stable:∀ (S:Nat→Prop) (acc:List α) (h h':Heap),I S acc h→h.next≤h'.next→(∀ c,S c→c<h.next→h'.get c=h.get c)→(h.ok→h'.ok)→I S acc h'
structure SeqI (enc:α→List AV) (st e:TypeId) (sz box l d:Nat) (O:AObj) (S:Nat→Prop) (acc:List α) (h:Heap):Prop where
 low:∀ c,S c→c<h.next
 sb:S box
 sl:S l
 sd:S d
 n1:box≠l
 n2:l≠d
 n3:box≠d
 gl:h.get l=some O
 gd:h.get d=some (.dfr (some []))
 own:∃ u,h.get box=some (.cells st [u] true)∧OwnLS enc e sz (fun c=>S c∧c≠box∧c≠l∧c≠d) h u acc
theorem SeqI.stable {enc:α→List AV} {st e:TypeId} {sz box l d:Nat} {O:AObj} {S:Nat→Prop} {acc:List α} {h h':Heap} (i:SeqI enc st e sz box l d O S acc h) (hn:h.next≤h'.next) (k:∀ c,S c→c<h.next→h'.get c=h.get c):SeqI enc st e sz box l d O S acc h':=by
 obtain ⟨u,g,o⟩:=i.own
 exact ⟨fun c q=>Nat.lt_of_lt_of_le (i.low c q) hn,i.sb,i.sl,i.sd,i.n1,i.n2,i.n3,(k _ i.sl (i.low _ i.sl)).trans i.gl,(k _ i.sd (i.low _ i.sd)).trans i.gd,u,(k _ i.sb (i.low _ i.sb)).trans g,o.keep (fun c q hc=>k c q.1 hc) hn⟩
theorem seq_yld {T:Tabs} {enc:α→List AV} {st e:TypeId} {sz box l d:Nat} {fn:FuncId} {tm:Tr AV} {nt p dd:Nat} {as bd:Code} (hp:Nat.blt p nt=true)
  (rnd:∀ (S:Nat→Prop) (acc:List α) (s:α) (h:Heap),acc.length≤500000→SeqI enc st e sz box l d (.loop .ready none fn tm nt [p] as bd dd) S acc h→RGives T l fn (tm.set p (.agg (enc s))) nt as bd h (fun v h'=>v=.bool true∧Touch S h h'∧∃ S':Nat→Prop,(∀ c,S' c→S c∨h.next≤c)∧SeqI enc st e sz box l d (.loop .ready none fn tm nt [p] as bd dd) S' (acc++[s]) h')) :
  Yld T l enc (SeqI enc st e sz box l d (.loop .ready none fn tm nt [p] as bd dd)) where
 call:=fun S acc s h hl i=>⟨fn,_,nt,as,bd,by simp only [invokeA,i.gl]; simp [hp,setParams],rnd S acc s h hl i⟩
 low:=fun S acc h i=>i.low
 stable:=fun S acc h h' i hn k _=>i.stable hn k
theorem OwnS.one {e:TypeId} {sz n:Nat} {S:Nat→Prop} {h:Heap} {v:AV} {cs:List AV} (w:OwnS e sz S h v n cs):v.cells=[v]∧v.one=true:=by
 cases w<;>exact ⟨rfl,rfl⟩
theorem seq_end {T:Tabs} {enc:α→List AV} {st e:TypeId} {sz box l d:Nat} {fn:FuncId} {tm:Tr AV} {nt dd:Nat} {ps:List Tmp} {as bd:Code} {S:Nat→Prop} {acc:List α} {h:Heap} {rest:List TypeId} {ei:TypeInfo} (s:α) (X1 X2:AObj) (i:SeqI enc st e sz box l d (.loop .ready none fn tm nt ps as bd dd) S acc h) {u:AV} (gb:h.get box=some (.cells st [u] true)) (ow:OwnLS enc e sz (fun c=>S c∧c≠box∧c≠l∧c≠d) h u acc) (hr:acc.length≤1000000)
  (hs:(enc s).length=sz) (hone:(enc s).all AV.one=true)
  (hu:T.und st=some (.slice e)) (hsz:T.size e=some sz) (hti:T.ti e=some ei) (hb:ei.bytes≤10000) (hz:zeroOk T e sz=true) (hs0:0<sz) (hm:isMake T rest=some false) :
  ∃ v6 h6,appendA T [u,.slice (h.next+1) 0 1 1] (st::rest) ((((h.alloc X1).set h.next X2).set l (.loop .busy none fn tm nt ps as bd dd)).alloc (.cells e (enc s) true))=.val v6 h6∧(v6.cells=[v6]∧v6.one=true)∧h6.get box=some (.cells st [u] true) ∧
   (h6.set box (.cells st [v6] true)).get l=some (.loop .busy none fn tm nt ps as bd dd)∧Touch S h ((h6.set box (.cells st [v6] true)).set l (.loop .ready none fn tm nt ps as bd dd)) ∧
   ∃ S':Nat→Prop,(∀ c,S' c→S c∨h.next≤c)∧SeqI enc st e sz box l d (.loop .ready none fn tm nt ps as bd dd) S' (acc++[s]) ((h6.set box (.cells st [v6] true)).set l (.loop .ready none fn tm nt ps as bd dd)):=by
 have lb:=i.low _ i.sb
 have ll:=i.low _ i.sl
 have ld:=i.low _ i.sd
 have n1:=i.n1
 have n2:=i.n2
 have n3:=i.n3
 obtain ⟨Y,hY⟩:∃ Y,(((h.alloc X1).set h.next X2).set l (.loop .busy none fn tm nt ps as bd dd)).alloc (.cells e (enc s) true)=Y:=⟨_,rfl⟩
 have yn:Y.next=h.next+2:=by rw [← hY]; rfl
 have yo:∀ c,c<h.next→c≠l→Y.get c=h.get c:=fun c hc hl=>by
  rw [← hY,Heap.ga _ _ _ (by show c≠h.next+1; omega),Heap.gn _ _ _ _ hl,Heap.gn _ _ _ _ (by omega),Heap.ga _ _ _ (by omega)]
 have yl:Y.get l=some (.loop .busy none fn tm nt ps as bd dd):=by
  rw [← hY,Heap.ga _ _ _ (by show l≠h.next+1; omega)]; exact Heap.gs _ _ _
 have yr:Y.get (h.next+1)=some (.cells e (enc s) true):=by rw [← hY]; exact get_new _ _
 have yk:h.ok→Y.ok:=fun k=>by
  rw [← hY]
  exact ok_al (ok_st (ok_st (ok_al k _) _ _ (by show h.next<h.next+1; omega)) _ _ (by show l<h.next+1; omega)) _
 rw [hY]
 have ow2:OwnLS enc e sz (fun c=>(S c∧c≠box∧c≠l∧c≠d)) Y u acc:=ow.keep (fun c q hc=>yo c hc q.2.2.1) (by omega)
 obtain ⟨v6,h6,e1,o1,t1⟩:=app_row_s (rest:=rest) ow2 yr (by omega) hr hs hone hu hsz hti hb hz hs0 hm
 have nx1:=t1.nx
 have keep1:∀ c,c<Y.next→(¬ S c∨c=box∨c=l∨c=d)→h6.get c=Y.get c:=fun c hc hh=>t1.old c hc fun q=>by
  rcases hh with r|r|r|r
  ·exact r q.1
  ·exact q.2.1 r
  ·exact q.2.2.1 r
  ·exact q.2.2.2 r
 have g6b:h6.get box=some (.cells st [u] true):=by rw [keep1 box (by omega) (.inr (.inl rfl)),yo box lb n1]; exact gb
 refine ⟨v6,h6,e1,OwnS.one o1,g6b,?_,⟨by show h.next≤h6.next; omega,fun c hc hh=>?_,fun k=>ok_st (ok_st (t1.ok (yk k)) _ _ (by omega)) _ _ (by show l<h6.next; omega)⟩,fun c=>(S c∨h.next≤c)∧c<h6.next,fun c q=>q.1,?_⟩
 ·rw [Heap.gn _ _ _ _ (fun q=>n1 q.symm),keep1 l (by omega) (.inr (.inr (.inl rfl)))]; exact yl
 ·rw [Heap.gn _ _ _ _ (fun q=>hh (by rw [q]; exact i.sl)),Heap.gn _ _ _ _ (fun q=>hh (by rw [q]; exact i.sb)),keep1 c (by omega) (.inl hh)]
  exact yo c hc (fun q=>hh (by rw [q]; exact i.sl))
 ·refine ⟨fun c q=>q.2,⟨.inl i.sb,by omega⟩,⟨.inl i.sl,by omega⟩,⟨.inl i.sd,by omega⟩,n1,n2,n3,Heap.gs _ _ _,?_,v6,?_,?_⟩
  ·rw [Heap.gn _ _ _ _ (fun q=>n2 q.symm),Heap.gn _ _ _ _ (fun q=>n3 q.symm),keep1 d (by omega) (.inr (.inr (.inr rfl))),yo d ld (fun q=>n2 q.symm)]
   exact i.gd
  ·rw [Heap.gn _ _ _ _ n1]; exact Heap.gs _ _ _
  ·have o2:OwnLS enc e sz (fun c=>(S c∧c≠box∧c≠l∧c≠d)∨Y.next≤c) ((h6.set box (.cells st [v6] true)).set l (.loop .ready none fn tm nt ps as bd dd)) v6 (acc++[s]):=OwnS.keep o1 (fun c q hc=>by
    rw [Heap.gn _ _ _ _ (fun r=>by rcases q with q|q; exact q.2.2.1 r; omega),Heap.gn _ _ _ _ (fun r=>by rcases q with q|q; exact q.2.1 r; omega)]) (Nat.le_refl _)
   exact OwnS.mono o2 fun c q hc=>by
    rcases q with q|q
    ·exact ⟨⟨.inl q.1,hc⟩,q.2⟩
    ·exact ⟨⟨.inr (by omega),hc⟩,by omega,by omega,by omega⟩
def SeqOf {α:Type} (T:Tabs) (g:FuncId) (cap:List AV) (enc:α→List AV) (h0:Heap) (Ψ:List α→Prop):Prop :=
 ∀ (l:Nat) (I:(Nat→Prop)→List α→Heap→Prop) (S0:Nat→Prop) (h:Heap),Yld T l enc I→h.ok→Ext h0 h→I S0 [] h→(∀ c,S0 c→h0.next≤c)→Gives T g ([.func (.yield l) [] []]++cap) h (fun v h'=>v=.tuple []∧∃ S acc,Touch S0 h h'∧h'.ok∧I S acc h'∧(∀ c,S c→S0 c∨h.next≤c)∧acc.length≤300000∧Ψ acc)
end Ev
end
section
namespace Ev
open Go
def encM {κ:Type} (ek:κ→AV) (L:List (κ×AV×Nat)):List (AV×AV×Nat):=L.map fun e=>(ek e.1,e.2.1,e.2.2)
variable {κ:Type} [DecidableEq κ] {ek:κ→AV} {T:Tabs} {ρ:Operand→Option AV} {o:Oper} {h h':Heap}
def assoc:List (κ×AV×Nat)→κ→Option AV
 |[],_=>none
 |e::L,k=>if e.1=k then some e.2.1 else assoc L k
def MapR (ek:κ→AV) (h:Heap) (M:Nat) (σ:κ→Option AV) (n:Nat):Prop:=M<h.next∧∃ L clock,h.get M=some (.map (encM ek L) clock)∧(∀ k,assoc L k=σ k)∧L.length=n
theorem MapR.keep {M n:Nat} {σ:κ→Option AV} (m:MapR ek h M σ n) (k:h'.get M=h.get M) (hn:h.next≤h'.next):MapR ek h' M σ n:=by
 obtain ⟨a,L,c,b,d⟩:=m
 exact ⟨by omega,L,c,k.trans b,d⟩
theorem Row.drop {b off m:Nat} {cs:List AV} (r:Row h b off m cs) (i:Nat) (hi:i≤m):Row h b (off+i) (m-i) (cs.drop i):=by
 obtain ⟨r1,e,all,rw,r2,r3,r4⟩:=r
 refine ⟨r1,e,all,rw,r2,by omega,?_⟩
 rw [← r4,List.drop_take,List.drop_drop]
def CapOK:AV→Prop
 |.slice _ _ n c=>n≤c
 |_=>True
theorem Ls.tail {α:Type} {enc:α→List AV} {sz:Nat} {v:AV} {a:α} {l:List α} {kd:IntKind} (hs:∀ x,(enc x).length=sz) (s0:0<sz) (w:Ls enc sz h v (a::l)) (ck:CapOK v):∃ v',sliceS sz h v (some (.int kd 1)) none none=some v'∧Ls enc sz h v' l∧CapOK v':=by
 have hd:((a::l).flatMap enc).drop sz=l.flatMap enc:=by
  rw [List.flatMap_cons,← hs a,List.drop_left]
 have h1:∀ n:Nat,((1:Int)≤((n:Int)+1)):=fun n=>by omega
 unfold Ls Sl at w
 split at w
 ·exact absurd w.1 (by simp)
 ·exact absurd w.1 (by simp)
 ·rename_i b off len cap
  obtain ⟨e,r⟩:=w
  rw [List.length_cons] at e r
  subst e
  have r2:=Row.drop r sz (by rw [Nat.add_mul,Nat.one_mul]; omega)
  have e3:(l.length+1)*sz-sz=l.length*sz:=by rw [Nat.add_mul,Nat.one_mul]; omega
  rw [hd,e3] at r2
  have ck:l.length+1≤cap:=ck
  refine ⟨.slice b (if cap=1 then off else off+1*sz) l.length (cap-1),?_,?_,by show l.length≤cap-1; omega⟩
  ·simp [sliceS,boundsA,mxA,hiA,loA,boundA,h1]
  ·by_cases c:cap=1
   ·have l0:l=[]:=List.length_eq_zero_iff.1 (by omega)
    subst l0
    rw [if_pos c]
    obtain ⟨q1,e,all,rw,q2,q3,q4⟩:=r2
    exact ⟨rfl,q1,e,all,rw,q2,by simp at q3 ⊢; omega,by simp⟩
   ·rw [if_neg c]
    refine ⟨rfl,?_⟩
    rw [Nat.one_mul]
    exact r2
 ·rename_i b off len sz'
  obtain ⟨e,rfl,r⟩:=w
  rw [List.length_cons] at e r
  subst e
  have r2:=Row.drop r sz' (by rw [Nat.add_mul,Nat.one_mul]; omega)
  rw [hd] at r2
  have e3:(l.length+1)*sz'-sz'=l.length*sz':=by rw [Nat.add_mul,Nat.one_mul]; omega
  rw [e3] at r2
  obtain ⟨q1,e,all,rw,q2,q3,q4⟩:=r
  have kn:l.length+1≤(all.length-off) / sz':=by
   rw [Nat.le_div_iff_mul_le s0]; omega
  by_cases c:1<(all.length-off) / sz'
  ·refine ⟨.oslice b (off+1*sz') l.length sz',?_,⟨rfl,rfl,by rw [Nat.one_mul]; exact r2⟩,trivial⟩
   simp [sliceS,boundsA,mxA,hiA,loA,boundA,h1,q2,c]
  ·have l0:l=[]:=by
    have:l.length=0:=by omega
    exact List.length_eq_zero_iff.1 this
   subst l0
   refine ⟨.eslice,?_,⟨rfl,rfl⟩,trivial⟩
   have k1:(all.length-off) / sz'=1:=by omega
   simp [sliceS,boundsA,mxA,hiA,loA,boundA,q2,k1]
 ·exact w.elim
end Ev
end
