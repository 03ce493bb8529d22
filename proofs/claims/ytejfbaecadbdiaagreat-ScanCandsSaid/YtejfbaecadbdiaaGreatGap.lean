/- A part of an evaluator of the program's form in Lean, of the proof that what it says of a call is what the machine does, and of the rules by which proofs walk over it. Conditions: those that each theorem states. -/
import Derived.Test.YtejfbaecadbdiaaGreatGao
set_option linter.unusedVariables false
set_option linter.unusedSimpArgs false
section
namespace Ev
open Go
variable {T:a0k}{ρ:Operand→Option AV}{h h':a0a}{t:TypeId}{x y ix a:Operand}{o:Oper}
theorem Sl.shape {sz n:Nat}{v:AV}{cs:List AV}(s:Sl h sz v n cs):(v=.nilslice∧n=0∧cs=[])∨(v=.eslice∧n=0∧cs=[])∨(∃ b p c,v=.slice b p n c)∨∃ b p,v=.oslice b p n sz:=by
 cases v<;>first|exact s.elim|exact .inl ⟨rfl,s⟩|exact .inr (.inl ⟨rfl,s⟩)|(obtain⟨rfl,_⟩:=s; exact .inr (.inr (.inl ⟨_,_,_,rfl⟩)))|(obtain⟨rfl,rfl,_⟩:=s; exact .inr (.inr (.inr ⟨_,_,rfl⟩)))
theorem Sl.cells {sz n:Nat}{v:AV}{cs:List AV}(s:Sl h sz v n cs):v.cells=[v]:=by
 cases v<;>first|exact s.elim|rfl
theorem Sl.one {sz n:Nat}{v:AV}{cs:List AV}(s:Sl h sz v n cs):v.one=true:=by
 cases v<;>first|exact s.elim|rfl
theorem c8w {st elem:TypeId}{rest:List TypeId}{sz m b:Nat}{ei:TypeInfo}{w:AV}{new:List AV}(hu:T.und st=some (.slice elem)) (hsz:T.size elem=some sz) (hti:T.ti elem=some ei) (hz:a5y T elem sz=true)
  (hb:h.get b=some (.cells elem [] true)) (s:Sl h sz w m new) (hm:a3x T rest=some false) (h0:0<m) (hr:a2u m ei.bytes=true) :
  a1h T [.slice b 0 0 0,w] (st::rest) h=.val (.oslice h.next 0 m sz) (h.alloc (.cells elem new true)):=by
 have hlen:=s.length
 have hf:a3z sz 0 h (.slice b 0 0 0)=some []:=by simp[a3z,a2j,hb,c4b,cut]
 unfold a1h
 have hl:a5a (.slice b 0 0 0)=some 0:=rfl
 simp only[hu,hsz,hl,b0e hm s,hti,b6e hm s,hf]
 simp[hr,hz,hlen]
 omega
theorem d3q {st elem:TypeId}{rest:List TypeId}{sz n m B:Nat}{ei:TypeInfo}{w:AV}{cs new:List AV}(hu:T.und st=some (.slice elem)) (hsz:T.size elem=some sz) (hti:T.ti elem=some ei) (hz:a5y T elem sz=true) (hs0:0<sz)
  (hb:h.get B=some (.cells elem cs true)) (hfit:(n+m)*sz≤cs.length) (hc:b0z T rest w=some m) (hn:c4r T elem sz m h rest w=some new) (hlen:new.length=m*sz) (hone:new.all AV.one=true) (hr:a2u (n+m) ei.bytes=true) :
  a1h T [.oslice B 0 n sz,w] (st::rest) h=.val (.oslice B 0 (n+m) sz) (h.set B (.cells elem (over cs (n*sz) new) true)):=by
 have hfn:n*sz≤cs.length:=Nat.le_trans (Nat.mul_le_mul_right _ (Nat.le_add_right n m)) hfit
 have hf:a3z sz n h (.oslice B 0 n sz)=some (cs.take (n*sz)):=by simp[a3z,a2j,hb,c4b,hfn,cut]
 have hw:a1m h B (n*sz) new=some (h.set B (.cells elem (over cs (n*sz) new) true)):=by
  simp only[a1m,hb]
  rw[if_pos ⟨by rw[hlen,← Nat.add_mul]; exact hfit,hone⟩]
 unfold a1h
 have hl:a5a (.oslice B 0 n sz)=some n:=rfl
 simp only[hu,hsz,hl,hc,hti,hn,hf]
 have e0:¬ sz=0:=by omega
 simp[hr,hz,hlen,hb,hone,hfit,hw,e0,hfn]
theorem d2c {st elem:TypeId}{sz:Nat}{v:AV}{lo hi:Option Operand}{l u:Option AV}{w:AV}(ho:o.op=.slice st x lo hi none) (ht:T.und st=some (.slice elem)) (hsz:T.size elem=some sz) (hx:ρ x=some v) (hl:a5b ρ lo=some l) (hu:a5b ρ hi=some u) (e:a3j sz h v l u none=some w):opA T ρ o h=.val w h:=by
 cases o; cases ho
 have hn:a5b ρ (none:Option Operand)=some none:=rfl
 simp only[opA,hx,hl,hu,hn]
 unfold b4m
 rw[ht]
 cases v<;>simp only[hsz,e,rv]
theorem e6z {B n sz i:Nat}{e:TypeId}{cs:List AV}{k k' k2:IntKind}(hg:h.get B=some (.cells e cs true)) (hc:cs.length=n*sz) (hs:0<sz) (hi:i<n):a3j sz h (.oslice B 0 n sz) (some (.int k (i:Nat))) (some (.int k' ((i:Int)+1))) (some (.int k2 (n:Nat)))=some (.slice B (i*sz) 1 (n-i)):=by
 have hk:(cs.length-0) / sz=n:=by rw[hc,Nat.sub_zero,Nat.mul_div_cancel _ hs]
 have b0:mxA n (some (.int k2 (n:Nat)))=some n:=by simp[mxA,a5q]
 have b1:hiA n n (some (.int k' ((i:Int)+1))) (some (.int k2 (n:Nat)))=some (i+1):=by
  simp only[hiA,a5q]; rw[if_pos ⟨by omega,by omega⟩]; congr 1
 have b2:loA (i+1) (some (.int k (i:Nat)))=some i:=by simp only[loA,a5q]; rw[if_pos ⟨by omega,by omega⟩]; simp
 simp only[a3j,hg,hk,a2y,b0,b1,b2]
 simp[hi]
theorem f3v {st elem:TypeId}{sz:Nat}{v:AV}{lo hi mx:Option Operand}{l u m:Option AV}{w:AV}(ho:o.op=.slice st x lo hi mx) (ht:T.und st=some (.slice elem)) (hsz:T.size elem=some sz) (hx:ρ x=some v) (hl:a5b ρ lo=some l) (hu:a5b ρ hi=some u) (hm:a5b ρ mx=some m) (e:a3j sz h v l u m=some w):opA T ρ o h=.val w h:=by
 cases o; cases ho
 simp only[opA,hx,hl,hu,hm]
 unfold b4m
 rw[ht]
 cases v<;>simp only[hsz,e,rv]
theorem d9w {st elem e:TypeId}{sz B p:Nat}{zv:AV}{cs:List AV}(hu:T.und st=some (.slice elem)) (hsz:T.size elem=some sz) (hz:T.zero elem=some zv) (hz1:zv.cells.length=sz) (hone:zv.cells.all AV.one=true) (hg:h.get B=some (.cells e cs true)) (hfit:p+sz≤cs.length) :
  b4e T st h (.oslice B p 1 sz)=.val (.tuple []) (h.set B (.cells e (over cs p zv.cells) true)):=by
 have hw:a1m h B p (zv.cells++[])=some (h.set B (.cells e (over cs p zv.cells) true)):=by
  rw[List.append_nil]
  simp only[a1m,hg]
  rw[if_pos ⟨by rw[hz1]; exact hfit,hone⟩]
 have hzz:a5w T elem 1=some (zv.cells++[]):=by simp[a5w,hz,times]
 have hb:Nat.beq (zv.cells++[]).length ((0+1)*sz)=true:=by simp[hz1]
 unfold b4e
 simp only[hu]
 unfold b6x
 simp only[hsz,hzz,hb,hw]
theorem e9a {x:Operand}{st:TypeId}{ats:Array TypeId}{rest:List TypeId}{v w:AV}(e:b4e T st h v=.val w h') (ho:o.op=.call { callee:=.builtin .clear,args := #[x],argTypes:=ats }) (hat:ats.toList=st::rest) (hx:ρ x=some v):opA T ρ o h=.val w h':=by
 cases o; cases ho
 simp only[opA,a4d,hx,hat,e]
theorem b9d {α:Type}{enc:α→List AV}{sz:Nat}(hs:∀ x,(enc x).length=sz):∀ (l:List α) (i:Nat),(l.flatMap enc).take (i*sz)=(l.take i).flatMap enc
 |[],i=>by simp
 |a::l,0=>by simp
 |a::l,i+1=>by
  simp only[List.flatMap_cons,List.take_succ_cons]
  have:(i+1)*sz=(enc a).length+i*sz:=by rw[hs,Nat.add_mul]; omega
  rw[this,List.take_length_add_append,b9d hs l i]
theorem b8q {α:Type}{enc:α→List AV}{sz:Nat}(hs:∀ x,(enc x).length=sz):∀ (l:List α) (i:Nat),(l.flatMap enc).drop (i*sz)=(l.drop i).flatMap enc
 |[],i=>by simp
 |a::l,0=>by simp
 |a::l,i+1=>by
  simp only[List.flatMap_cons,List.drop_succ_cons]
  have:(i+1)*sz=(enc a).length+i*sz:=by rw[hs,Nat.add_mul]; omega
  rw[this,List.drop_length_add_append,b8q hs l i]
theorem a7l {α:Type}{enc:α→List AV}{sz:Nat}(hs:∀ x,(enc x).length=sz) (l:List α):(l.flatMap enc).length=l.length*sz:=by
 induction l with
 |nil=>simp
 |cons a l ih=>simp[hs,ih,Nat.add_mul]; omega
theorem d4e {α:Type}(cs z:List α) (k:Nat) (hk:k≤cs.length):(over cs k z).take k=cs.take k:=by
 unfold over
 rw[List.append_assoc,List.take_append_of_le_length (by simp; omega),List.take_take,Nat.min_self]
theorem e1e {α:Type}{enc:α→List AV}{sz:Nat}(hs:∀ x,(enc x).length=sz) (l:List α) (i:Nat) (hi:i<l.length) (z:List AV) :
  (over (over (l.flatMap enc) (i*sz) ((l.drop (i+1)).flatMap enc)) ((l.length-1)*sz) z).take ((l.length-1)*sz)=(l.eraseIdx i).flatMap enc:=by
 have e1:((l.drop (i+1)).flatMap enc).length=(l.length-(i+1))*sz:=by rw[a7l hs]; simp
 have e2:i*sz+(l.length-(i+1))*sz=(l.length-1)*sz:=by rw[← Nat.add_mul]; congr 1; omega
 have e3:(l.length-1)*sz≤(l.flatMap enc).length:=by rw[a7l hs]; exact Nat.mul_le_mul_right _ (by omega)
 have hfit:i*sz+((l.drop (i+1)).flatMap enc).length≤(l.flatMap enc).length:=by rw[e1,e2]; exact e3
 rw[d4e _ _ _ (by rw[a3v _ _ _ hfit]; exact e3)]
 have:=b5d (l.flatMap enc) ((l.drop (i+1)).flatMap enc) (i*sz) hfit
 rw[e1,e2] at this
 rw[this,b9d hs,List.eraseIdx_eq_take_drop_succ,List.flatMap_append]
theorem a2t.lo {e:TypeId}{lo lo':Nat}{v:AV}{s:List UInt8}(w:a2t e lo h v s) (hl:lo'≤lo):a2t e lo' h v s:=Own.lo w hl
theorem b2x {t:TypeId}{k k':IntKind}{x y:Int}{d:Nat}(hu:T.und t=some (.int k')):eqv T (d+1) t (.int k x) (.int k y)=some (decide (x=y)):=by
 unfold eqv
 rw[hu]
 simp
 rfl
theorem e6p {t:TypeId}{x y:List UInt8}{d:Nat}(hu:T.und t=some .string):eqv T (d+1) t (.str x) (.str y)=some (decide (x=y)):=by
 unfold eqv
 rw[hu]
 show some (a1w x y)=_
 rw[a6b]
 by_cases e:x=y<;>simp[e]
theorem e1f {t:TypeId}{x y:Bool}{d:Nat}(hu:T.und t=some .bool):eqv T (d+1) t (.bool x) (.bool y)=some (decide (x=y)):=by
 unfold eqv
 rw[hu]
 cases x<;>cases y<;>rfl
theorem d5t {t:TypeId}{xs ys:List AV}{fs:Array Field}{d:Nat}{r:Option Bool}(hu:T.und t=some (.struct fs)) (hs:T.stood t=false) (e:eqFields T (eqv T d) fs.toList xs ys=r):eqv T (d+1) t (.agg xs) (.agg ys)=r:=by
 rw[← e]
 conv=>lhs; unfold eqv
 rw[hu]
 simp[hs]
theorem a7g {e : TypeId → AV → AV → Option Bool} {f : Field} {fs : List Field} {xs ys : List AV} {a b : AV} {p q : Prop} [Decidable p] [Decidable q] (hn : (f.name == "_") = false) (ha : part T f.type xs f.offset = some a) (hb : part T f.type ys f.offset = some b) (he : e f.type a b = some (decide p)) (r : eqFields T e fs xs ys = some (decide q)) : eqFields T e (f :: fs) xs ys = some (decide (p ∧ q)) := by
 have hn' : ¬ f.name = "_" := by simpa using hn
 unfold eqFields
 rw[if_neg hn']
 simp only[ha,hb,he]
 by_cases hp:p
 ·simp only[decide_eq_true hp]
  rw[r]
  simp[hp]
 ·simp[hp]
theorem d5p {e:TypeId→AV→AV→Option Bool}{xs ys:List AV}:eqFields T e [] xs ys=some (decide True):=rfl
theorem f1b {op:BinOp}{t:TypeId}{xs ys:List AV}{p:Prop} [Decidable p] (e:eqv T 100 t (.agg xs) (.agg ys)=some (decide p)) (ho:op=.eql):a1i T op t (.agg xs) (.agg ys)=some (.bool (decide p)):=by
 subst ho
 show(match eqv T 100 t (.agg xs) (.agg ys) with|some r=>some (AV.bool r)|none=>none)=_
 rw[e]
theorem a8s {op:BinOp}{t:TypeId}{xs ys:List AV}{p:Prop} [Decidable p] (e:eqv T 100 t (.agg xs) (.agg ys)=some (decide p)) (ho:op=.neq):a1i T op t (.agg xs) (.agg ys)=some (.bool (decide (¬ p))):=by
 subst ho
 show(match eqv T 100 t (.agg xs) (.agg ys) with|some r=>some (AV.bool (!r))|none=>none)=_
 rw[e]
 simp
theorem c1a {src e:TypeId}{s:List UInt8}{x:Operand}{d:TypeDesc}(hr:s.length≤10000000) (ho:o.op=.convert src t x) (hs:T.und src=some .string) (hd:T.und t=some (.slice e)) (he:T.und e=some (.int .u8)) (hx:ρ x=some (.str s)):opA T ρ o h=.val (.oslice h.next 0 s.length 1) (h.alloc (.cells e (u8s s) true)):=by
 cases o; cases ho
 have hr':a2u s.length 1=true:=by unfold a2u; exact Nat.ble_eq.mpr (by omega)
 simp only[opA,hx]
 unfold b4q
 simp only[hs,hd,he,hr']
 simp
theorem b8h (h:a0a) (e:TypeId) (s:List UInt8):By (h.alloc (.cells e (u8s s) true)) (.oslice h.next 0 s.length 1) s :=
 ⟨rfl,rfl,by show h.next<h.next+1; omega,e,_,true,a0t _ _,by simp[u8s],by simp[u8s,← List.map_take]⟩
end Ev
end
section
namespace Ev
open Go
variable {T:a0k}{cx:Cx}{k:List K}{Q:Res→Prop}{all rest:List Oper}{o:Oper}{df:List ADef}{pan:Option (AV×Bool)}{h h' h2:a0a}{L L':List (Nat×AV)}{v:AV}{d:Nat}
variable {ms:List Nat}{N m:Nat}{mr:List Nat}{n:Nat}{acc:List EJ}{sl:List Tmp}{hl:List (List Tmp)}{Lq:List (Nat×AV)}
structure PJ (Lq:List (Nat×AV)) (T:a0k) (cx:Cx) (df:List ADef) (pan:Option (AV×Bool)) (Q:Res→Prop) (all:List Oper) (ms:List Nat) (N:Nat) (rest:List Oper) (mr:List Nat) (hl:List (List Tmp)) (i:Nat) (L:List (Nat×AV)) (h:a0a) (acc:List EJ):Prop where
 out:∀ tm xs,a0m tm L→b6m acc xs→hl=a8d all ms rest mr i→∃ v hF es,(∃ n0,∀ n,n0≤n→goD T (ev T n) cx.nt all ms N rest mr i tm h=.pan v hF es)∧okD T (xs.reverse++es) 0=true∧∀ tm',a0m tm' Lq→Q (.pan v ⟨tm',df,pan,hF⟩)
theorem c8g {r q:Nat}{ops:Array Oper}(hk:h.ok) (hq:ops.toList.length=q) (hm:masks ops.toList=ms) (hh:a8d ops.toList ms ops.toList ms 0=hl) (he:a3q ops.toList 0=true)
  (g:PJ (a1n L (dstsOf ops.toList)) T cx df pan Q ops.toList ms h.next ops.toList ms hl 0 L (a0a.mk h.t (h.next+q)) []):GJ T cx (.code (.region r ops true)::k) L df pan h Q:=by
 subst hq hm
 refine⟨fun tm hs=>⟨?_⟩⟩
 obtain⟨v,hF,es,⟨n0,h0⟩,ok,c⟩:=g.out tm [] hs .nil hh.symm
 refine⟨.pan v ⟨a1e tm (dstsOf ops.toList),df,pan,hF⟩,.b0n ⟨n0,fun n hn=>?_⟩,?_⟩
 ·have ok':okD T es 0=true:=by simpa using ok
  simp only[step,drawn,he,b6f hk,Bool.and_self,h0 n hn,ok']
 ·show after T cx k Q _
  rw[a9l]
  exact c _ (hs.a1n _)
theorem e2z (hw:a0p all (a1n L sl) o=some true) (hd:o.dst=some d) (hn:Nat.blt d cx.nt=true) (hk:b8n (a1l T o.op)=true) (ho:opA T (a1y (a1n L sl)) o h=.val v h')
  (c:PJ Lq T cx df pan Q all ms N rest mr hl (n+1) ((d,v)::L) h (⟨o,m,.read,true,a1n L sl,h,v,h⟩::acc)):PJ Lq T cx df pan Q all ms N (o::rest) (m::mr) (sl::hl) n L h acc:=by
 refine⟨fun tm xs hs ha e=>?_⟩
 obtain⟨rfl,e2⟩:=a6t e
 have hs':a0m (a1e tm (a0y ((nth (m::mr) 0).getD 0) n all ms 0)) (a1n L (a0y ((nth (m::mr) 0).getD 0) n all ms 0)):=hs.a1n _
 obtain⟨v2,hF,es,⟨n0,h0⟩,ok,q⟩:=c.out (tm.set d v) _ (hs.set d v) (.cons (e:=⟨o,m,.read,true,a1n L (a0y ((nth (m::mr) 0).getD 0) n all ms 0),h,v,h⟩) hs' ha) e2
 refine⟨v2,hF,(⟨o,m,.read,true,a1n L (a0y ((nth (m::mr) 0).getD 0) n all ms 0),h,v,h⟩:EJ).ent (a1e tm (a0y ((nth (m::mr) 0).getD 0) n all ms 0))::es,⟨n0,fun j hj=>?_⟩,by simpa using ok,q⟩
 have h1:=h0 j hj
 cases hq:a1l T o.op<;>rw[hq] at hk<;>first|(cases hk; done)|(simp only[goD,a2a hs' hw,hq,a7r hs' ho rfl,hd,if_pos (a6h hn)]; simp only[List.drop_succ_cons,List.drop_zero]; rw[h1]; rfl)
theorem d7e {f:FuncId}{args:List AV}{R:AV→a0a→Prop}{l:List (EJ×a0a)}(hT:T.alts=false) (g:Wp T (.call f args h') fun r=>∃ v h2,r=.thrown v h2∧R v h2) (hw:a0p all (a1n L sl) o=some true) (hk:a1l T o.op=.act) (ho:opA T (a1y (a1n L sl)) o h=.enter f args h')
  (hall:mr.all (fun m'=>Nat.testBit m' n)=true)
  (c:∀ v h2,R v h2→(∀ tm',a0m tm' Lq→Q (.pan v ⟨tm',df,pan,h2⟩))∧MsJ ms (⟨o,m,.act,true,a1n L sl,h,v,h2⟩::acc).reverse 0∧∃ l,d1g ms (⟨o,m,.act,true,a1n L sl,h,v,h2⟩::acc).reverse 0=some l∧c0u T l):PJ Lq T cx df pan Q all ms N (o::rest) (m::mr) (sl::hl) n L h acc:=by
 refine⟨fun tm xs hs ha e=>?_⟩
 obtain⟨rfl,e2⟩:=a6t e
 have hs':a0m (a1e tm (a0y ((nth (m::mr) 0).getD 0) n all ms 0)) (a1n L (a0y ((nth (m::mr) 0).getD 0) n all ms 0)):=hs.a1n _
 obtain⟨r,⟨N0,hN⟩,hl⟩:=g
 have h1:=c0x hT N0 (.call f args h')
 rw[hN N0 (Nat.le_refl _)] at h1
 have:∃ v h2,r=.thrown v h2∧R v h2:=by cases r<;>first|exact hl|cases h1
 obtain⟨v,h2,rfl,rr⟩:=this
 obtain⟨cq,cm,l,ct,ca⟩:=c v h2 rr
 have en:=(b6m.cons (e:=⟨o,m,.act,true,a1n L (a0y ((nth (m::mr) 0).getD 0) n all ms 0),h,v,h2⟩) hs' ha)
 obtain⟨l',p1,p2⟩:=c1k en.rev ct ca
 refine⟨v,h2,[(⟨o,m,.act,true,a1n L (a0y ((nth (m::mr) 0).getD 0) n all ms 0),h,v,h2⟩:EJ).ent (a1e tm (a0y ((nth (m::mr) 0).getD 0) n all ms 0))],⟨N0,fun j hj=>?_⟩,?_,cq⟩
 ·simp only[goD,a2a hs' hw,hk,c1p,a7r hs' ho rfl,hN j hj,no1]
  simp only[List.drop_succ_cons,List.drop_zero,hall]
  rfl
 ·have:=c7f (cm.ok en.rev) p1 p2
  simpa using this
end Ev
end
section
namespace Ev
open Go
variable {α:Type}{enc:α→List AV}{sz:Nat}
end Ev
end
section
namespace Ev
open Go
variable {T:a0k}{h h':a0a}
inductive a1u (e:TypeId) (sz:Nat) (S:Nat→Prop) (h:a0a):AV→Nat→List AV→Prop
 |nil:a1u e sz S h .nilslice 0 []
 |sl {B cap n:Nat} {all cs:List AV} (hb:S B) (hl:B<h.next) (hg:h.get B=some (.cells e all true)) (hn:n≤cap) (ha:all.length=cap*sz) (hc:all.take (n*sz)=cs):a1u e sz S h (.slice B 0 n cap) n cs
 |os {B cap n:Nat} {all cs:List AV} (hb:S B) (hl:B<h.next) (hg:h.get B=some (.cells e all true)) (hn:n≤cap) (ha:all.length=cap*sz) (hc:all.take (n*sz)=cs):a1u e sz S h (.oslice B 0 n sz) n cs
theorem a1u.sl' {e:TypeId}{sz n:Nat}{S:Nat→Prop}{v:AV}{cs:List AV}(w:a1u e sz S h v n cs):Sl h sz v n cs:=by
 cases w with
 |nil=>exact⟨rfl,rfl⟩
 |sl hb hl hg hn ha hc=>exact⟨rfl,hl,e,_,true,hg,by rw[Nat.zero_add,ha]; exact Nat.mul_le_mul_right _ hn,by simpa using hc⟩
 |os hb hl hg hn ha hc=>exact⟨rfl,rfl,hl,e,_,true,hg,by rw[Nat.zero_add,ha]; exact Nat.mul_le_mul_right _ hn,by simpa using hc⟩
theorem a1u.length {e:TypeId}{sz n:Nat}{S:Nat→Prop}{v:AV}{cs:List AV}(w:a1u e sz S h v n cs):cs.length=n*sz:=w.sl'.length
theorem a1u.keep {e:TypeId}{sz n:Nat}{S:Nat→Prop}{v:AV}{cs:List AV}(w:a1u e sz S h v n cs) (k:∀ b,S b→b<h.next→h'.get b=h.get b) (hn:h.next≤h'.next):a1u e sz S h' v n cs:=by
 cases w with
 |nil=>exact .nil
 |sl hb hl hg hn' ha hc=>exact .sl hb (Nat.lt_of_lt_of_le hl hn) ((k _ hb hl).trans hg) hn' ha hc
 |os hb hl hg hn' ha hc=>exact .os hb (Nat.lt_of_lt_of_le hl hn) ((k _ hb hl).trans hg) hn' ha hc
theorem a1u.mono {e:TypeId}{sz n:Nat}{S S':Nat→Prop}{v:AV}{cs:List AV}(w:a1u e sz S h v n cs) (k:∀ b,S b→b<h.next→S' b):a1u e sz S' h v n cs:=by
 cases w with
 |nil=>exact .nil
 |sl hb hl hg hn' ha hc=>exact .sl (k _ hb hl) hl hg hn' ha hc
 |os hb hl hg hn' ha hc=>exact .os (k _ hb hl) hl hg hn' ha hc
theorem Own.d2d {e:TypeId}{sz lo n:Nat}{v:AV}{cs:List AV}(w:Own e sz lo h v n cs):a1u e sz (lo ≤ ·) h v n cs:=by
 cases w with
 |nil=>exact .nil
 |sl hb hl hg hn ha hc=>exact .sl hb hl hg hn ha hc
 |os hb hl hg hc hn=>exact .os hb hl hg (Nat.le_refl _) hc (List.take_of_length_le (by omega))
structure Touch (S:Nat→Prop) (h h':a0a):Prop where
 nx:h.next≤h'.next
 old:∀ c,c<h.next→¬ S c→h'.get c=h.get c
 ok:h.ok→h'.ok
theorem Touch.refl (S:Nat→Prop) (h:a0a):Touch S h h:=⟨Nat.le_refl _,fun _ _ _=>rfl,id⟩
theorem Touch.trans {S:Nat→Prop}{a b c:a0a}(x:Touch S a b) (y:Touch S b c):Touch S a c:=⟨Nat.le_trans x.nx y.nx,fun n hn hs=>(y.old n (Nat.lt_of_lt_of_le hn x.nx) hs).trans (x.old n hn hs),fun k=>y.ok (x.ok k)⟩
theorem Touch.set {S:Nat→Prop}{h:a0a}{b:Nat}(o:a1t) (hb:S b) (hl:b<h.next):Touch S h (h.set b o):=⟨Nat.le_refl _,fun c hc hs=>a0a.gn _ _ _ _ (fun e=>hs (e ▸ hb)),fun k=>a0w k _ _ hl⟩
theorem Touch.al {S:Nat→Prop}{h:a0a}(o:a1t):Touch S h (h.alloc o):=⟨Nat.le_succ _,fun c hc hs=>a0a.ga _ _ _ (by omega),fun k=>a4n k _⟩
theorem c9i {st elem:TypeId}{rest:List TypeId}{sz n m:Nat}{S:Nat→Prop}{ei:TypeInfo}{u w:AV}{cs new:List AV}(hu:T.und st=some (.slice elem)) (hsz:T.size elem=some sz) (hti:T.ti elem=some ei) (hz:a5y T elem sz=true) (hs0:0<sz)
  (own:a1u elem sz S h u n cs) (hcount:b0z T rest w=some m) (hnew:c4r T elem sz m h rest w=some new) (hlen:new.length=m*sz) (hone:new.all AV.one=true) (hr:a2u (n+m) ei.bytes=true) :
  ∃ v' h',a1h T [u,w] (st::rest) h=.val v' h'∧a1u elem sz (fun b=>S b∨h.next≤b) h' v' (n+m) (cs++new)∧Touch S h h':=by
 have hf:a3z sz n h u=some cs:=own.sl'.first
 have hl:a5a u=some n:=own.sl'.len
 have hcl:=own.length
 have hb1:Nat.beq new.length (m*sz)=true:=by rw[hlen]; simp
 have hb2:Nat.beq cs.length (n*sz)=true:=by rw[hcl]; simp
 have fresh:∀ hh:a0a,hh.next=h.next→a1u elem sz (fun b=>S b∨h.next≤b) (hh.alloc (.cells elem (cs++new) true)) (.oslice h.next 0 (n+m) sz) (n+m) (cs++new):=fun hh e =>
  .os (.inr (Nat.le_refl _)) (by show h.next<hh.next+1; omega) (by rw[← e]; exact a0t _ _) (Nat.le_refl _) (by simp[hcl,hlen,Nat.add_mul]) (List.take_of_length_le (by simp[hcl,hlen,Nat.add_mul]))
 cases own with
 |nil =>
  by_cases h0:m=0
  ·subst h0
   have:new=[]:=by simpa using hlen
   subst this
   exact⟨.nilslice,h,by unfold a1h; simp only[hu,hsz,hl,hcount,hti,hnew,hf]; simp[hr,hz],.nil,.refl _ _⟩
  ·refine⟨.oslice h.next 0 m sz,h.alloc (.cells elem ([]++new) true),?_,?_,.al _⟩
   ·unfold a1h; simp only[hu,hsz,hl,hcount,hti,hnew,hf]; simp only[Nat.zero_add] at hr ⊢; simp[hr,hz,hlen,h0]
   ·simpa using fresh h rfl
 |@sl B cap n all cs hb hlt hg hn ha hc =>
  by_cases hin:n+m≤cap
  ·have hfit:n*sz+new.length≤all.length:=by rw[hlen,ha,← Nat.add_mul]; exact Nat.mul_le_mul_right _ hin
   have hw:a1m h B (0+n*sz) new=some (h.set B (.cells elem (over all (n*sz) new) true)):=by
    simp only[a1m,hg,Nat.zero_add]
    rw[if_pos ⟨hfit,hone⟩]
   refine⟨.slice B 0 (n+m) cap,h.set B (.cells elem (over all (n*sz) new) true),?_,?_,.set _ hb hlt⟩
   ·unfold a1h; simp only[hu,hsz,hl,hcount,hti,hnew,hf]; simp[hr,hz,hb1,hb2,hin]; simp only[Nat.zero_add] at hw; rw[hw]
   ·refine .sl (.inl hb) (by simpa using hlt) (a0a.gs _ _ _) hin (by rw[a3v _ _ _ hfit,ha]) ?_
    have:=b5d all new (n*sz) hfit
    rw[hlen,← Nat.add_mul] at this
    rw[this,hc]
  ·refine⟨.oslice h.next 0 (n+m) sz,h.alloc (.cells elem (cs++new) true),?_,?_,.al _⟩
   ·unfold a1h; simp only[hu,hsz,hl,hcount,hti,hnew,hf]; simp[hr,hz,hb1,hb2,hin]
   ·exact fresh h rfl
 |@os B cap n all cs hb hlt hg hn ha hc =>
  have hs:¬ (sz≠sz∨sz=0∨elem≠elem∨new.all AV.one=false):=by
   rintro(e|e|e|e)
   ·exact e rfl
   ·omega
   ·exact e rfl
   ·rw[hone] at e; cases e
  by_cases hin:0+(n+m)*sz≤all.length
  ·have hfit:n*sz+new.length≤all.length:=by rw[hlen,← Nat.add_mul]; omega
   have hw:a1m h B (0+n*sz) new=some (h.set B (.cells elem (over all (n*sz) new) true)):=by
    simp only[a1m,hg,Nat.zero_add]
    rw[if_pos ⟨hfit,hone⟩]
   refine⟨.oslice B 0 (n+m) sz,h.set B (.cells elem (over all (n*sz) new) true),?_,?_,.set _ hb hlt⟩
   ·unfold a1h; simp only[hu,hsz,hl,hcount,hti,hnew,hf]; simp only[Nat.zero_add] at hr hw hin hb1 hb2 ⊢; simp[hr,hz,hb1,hb2,hg,hs,hin,hw,hone]; omega
   ·refine .os (.inl hb) (by simpa using hlt) (a0a.gs _ _ _) (by rw[Nat.zero_add,ha] at hin; exact Nat.le_of_mul_le_mul_right hin hs0) (by rw[a3v _ _ _ hfit,ha]) ?_
    have:=b5d all new (n*sz) hfit
    rw[hlen,← Nat.add_mul] at this
    rw[this,hc]
  ·have hin':¬ ((n+m)*sz≤all.length):=by rw[Nat.zero_add] at hin; exact hin
   refine⟨.oslice h.next 0 (n+m) sz,(h.set B .dead).alloc (.cells elem (cs++new) true),?_,?_,(Touch.set _ hb hlt).trans (.al _)⟩
   ·unfold a1h; simp only[hu,hsz,hl,hcount,hti,hnew,hf]; simp only[Nat.zero_add] at hr hb1 hb2 ⊢; simp[hr,hz,hb1,hb2,hg,hone,hin']; omega
   ·exact fresh (h.set B .dead) rfl
variable {α:Type}{enc:α→List AV}{sz:Nat}
def a1a (enc:α→List AV) (e:TypeId) (sz:Nat) (S:Nat→Prop) (h:a0a) (v:AV) (l:List α):Prop:=a1u e sz S h v l.length (l.flatMap enc)
theorem a1a.ls {e:TypeId}{S:Nat→Prop}{v:AV}{l:List α}(w:a1a enc e sz S h v l):Ls enc sz h v l:=w.sl'
theorem a1a.nil {e:TypeId}{S:Nat→Prop}:a1a enc e sz S h .nilslice []:=a1u.nil
theorem a4e {st elem:TypeId}{rest:List TypeId}{c:Nat}{S:Nat→Prop}{ei:TypeInfo}{u:AV}{l:List α}{x:α}{rw:Bool}(own:a1a enc elem sz S h u l) (hc:h.get c=some (.cells elem (enc x) rw)) (hcl:c<h.next) (hr:l.length≤1000000)
  (hs:(enc x).length=sz) (hone:(enc x).all AV.one=true)
  (hu:T.und st=some (.slice elem)) (hsz:T.size elem=some sz) (hti:T.ti elem=some ei) (hb:ei.bytes≤10000) (hz:a5y T elem sz=true) (hs0:0<sz) (hm:a3x T rest=some false) :
  ∃ v' h',a1h T [u,.slice c 0 1 1] (st::rest) h=.val v' h'∧a1a enc elem sz (fun b=>S b∨h.next≤b) h' v' (l++[x])∧Touch S h h':=by
 have bw:Sl h sz (.slice c 0 1 1) 1 (enc x):=⟨rfl,hcl,elem,enc x,rw,hc,by omega,by simp[← hs]⟩
 obtain⟨v',h',e1,e2,e3⟩:=c9i hu hsz hti hz hs0 own (b0e hm bw) (b6e hm bw) (by simp[hs]) hone (by
  unfold a2u
  refine Nat.ble_eq.mpr (Nat.le_trans (Nat.mul_le_mul (show 4*(l.length+1)+1000≤4001004 by omega) (show ei.bytes+1≤10001 by omega)) (by decide)))
 exact⟨v',h',e1,by unfold a1a; simpa using e2,e3⟩
theorem c3m {st elem:TypeId}{rest:List TypeId}{S:Nat→Prop}{ei:TypeInfo}{u w:AV}{l r:List α}(own:a1a enc elem sz S h u l) (bw:Ls enc sz h w r) (hr:l.length+r.length≤1000000)
  (hone:∀ x,(enc x).all AV.one=true)
  (hu:T.und st=some (.slice elem)) (hsz:T.size elem=some sz) (hti:T.ti elem=some ei) (hb:ei.bytes≤10000) (hz:a5y T elem sz=true) (hs0:0<sz) (hm:a3x T rest=some false) :
  ∃ v' h',a1h T [u,w] (st::rest) h=.val v' h'∧a1a enc elem sz (fun b=>S b∨h.next≤b) h' v' (l++r)∧Touch S h h':=by
 obtain⟨v',h',e1,e2,e3⟩:=c9i hu hsz hti hz hs0 own (b0e hm bw) (b6e hm bw) (Sl.length bw) (by
  clear bw hr
  induction r with
  |nil=>rfl
  |cons a r ih=>rw[List.flatMap_cons,List.all_append,hone,ih]; rfl) (by
  unfold a2u
  refine Nat.ble_eq.mpr (Nat.le_trans (Nat.mul_le_mul (show 4*(l.length+r.length)+1000≤4001000 by omega) (show ei.bytes+1≤10001 by omega)) (by decide)))
 exact⟨v',h',e1,by unfold a1a; simpa using e2,e3⟩
end Ev
end
section
namespace Ev
open Go
variable {T:a0k}{h h':a0a}{cx:Cx}{k:List K}{Q:Res→Prop}{all rest:List Oper}{df:List ADef}{pan:Option (AV×Bool)}{L:List (Nat×AV)}{tm:Tr AV}{o:Oper}{d:Nat}
def a7w (T:a0k) (l:Nat) (fn:FuncId) (tm0:Tr AV) (nt:Nat) (as bd:Code) (h:a0a) (P:AV→a0a→Prop):Prop:=Wp T (.round l fn tm0 nt as bd h) fun r=>∃ v h',r=.ret v h'∧P v h'
theorem d8h {l:Nat}{fn:FuncId}{tm0:Tr AV}{nt:Nat}{as bd:Code}{P:AV→a0a→Prop}(hs:a0m tm L) (hg:a0p all L o=some true) (hd:o.dst=some d) (ho:opA T (a1y L) o h=.round l fn tm0 nt as bd h') (hn:Nat.blt d cx.nt=true)
  (hc:a7w T l fn tm0 nt as bd h' P) (c:∀ v h2,P v h2→∀ tm',a0m tm' ((d,v)::L)→Ops T cx all rest k ⟨tm',df,pan,h2⟩ Q):Ops T cx all (o::rest) k ⟨tm,df,pan,h⟩ Q:=by
 refine Wp.bind (t':=.round l fn tm0 nt as bd h') (fun rec r=>match r with
   |.ret v h''=>(match a7q cx { tm:=tm,df:=df,pan:=pan,h:=h'' } o.dst v with
      |some s'=>rec (.ops cx all rest s')
      | none => .no "put" [])
   |.thrown v h''=>.pan v { tm:=tm,df:=df,pan:=pan,h:=h'' }
   |r=>no1 fn r) (fun rec=>?_) (Wp.mono hc ?_)
 ·simp only[step,a2a hs hg,a7r hs ho rfl]
  cases rec (.round l fn tm0 nt as bd h')<;>rfl
 ·rintro _ ⟨v,h2,rfl,p⟩
  obtain⟨r,⟨N,hr⟩,q⟩:=c v h2 p (tm.set d v) (hs.set d v)
  refine⟨r,⟨N,fun n hn'=>?_⟩,q⟩
  simp only[a7q,hd,if_pos (a6h hn)]
  exact hr n hn'
theorem b4l {l:Nat}{fn:FuncId}{tm0:Tr AV}{nt:Nat}{as bd:Code}{P:AV→a0a→Prop}(hc:a7w T l fn tm0 nt as bd h' P) (hg:a0p all L o=some true) (hd:o.dst=some d) (hn:Nat.blt d cx.nt=true) (ho:opA T (a1y L) o h=.round l fn tm0 nt as bd h')
  (c:∀ v h2,P v h2→OJ T cx all rest k ((d,v)::L) df pan h2 Q):OJ T cx all (o::rest) k L df pan h Q:=⟨fun tm hs=>⟨d8h hs hg hd ho hn hc fun v h2 p tm' s'=>((c v h2 p).out tm' s').out⟩⟩
def b3t (T:a0k) (l:Nat) (fn:FuncId) (r:Res):Res:=match r with
 |.fin e s'=>(match s'.df,s'.h.get l with
  |[],some (.loop _ _ fn'' tm'' nt'' ps'' as'' bd'' d')=>(match e with
   |.normal=>.ret (.bool true) (s'.h.set l (.loop .ready none fn'' tm'' nt'' ps'' as'' bd'' d'))
   |e=>.ret (.bool false) (s'.h.set l (.loop .done (some (goCode e)) fn'' tm'' nt'' ps'' as'' bd'' d')))
  | _, _ => .no "round: defers" [])
 |.pan v s'=>(match s'.df,T.fn fn with
  |[],some _=>.thrown v s'.h
  | _, _ => .no "round: defers" [])
 |r=>r
def c7a (T:a0k) (l:Nat) (fn:FuncId) (nt:Nat) (bd:Code) (rec:Task→Res) (r:Res):Res:=match r with
 |.fin .normal s=>(match s.h.get l with
  |some (.loop .ready pend fn' tm' nt' ps as' bd' d)=>a5c (rec (.code { fn:=fn,nt:=nt,round:=some l } bd { s with h:=s.h.set l (.loop .busy pend fn' tm' nt' ps as' bd' d) })) (b3t T l fn)
  | _ => .no "round: not ready" [])
 | .fin _ _ => .no "round: jump in assign" []
 |.pan v s=>(match s.df,T.fn fn with
  |[],some _=>.thrown v s.h
  | _, _ => .no "round: defers" [])
 |r=>r
theorem b7o {l:Nat}{fn:FuncId}{tm0:Tr AV}{nt:Nat}{as bd:Code}{P:AV→a0a→Prop}{L:List (Nat×AV)}(hs:a0m tm0 L)
  (g:GJ T { fn:=fn,nt:=nt,round:=some l } [.code as] L [] none h fun r=>∃ tm1 h1 L1 pend fn' tm' nt' ps as' bd' dd,r=.fin .normal ⟨tm1,[],none,h1⟩∧a0m tm1 L1∧h1.get l=some (.loop .ready pend fn' tm' nt' ps as' bd' dd) ∧
   GJ T { fn:=fn,nt:=nt,round:=some l } [.code bd] L1 [] none (h1.set l (.loop .busy pend fn' tm' nt' ps as' bd' dd)) fun r=>∃ tm2 h2 st2 pend2 fn2 tm3 nt2 ps2 as2 bd2 d2,r=.fin .normal ⟨tm2,[],none,h2⟩∧h2.get l=some (.loop st2 pend2 fn2 tm3 nt2 ps2 as2 bd2 d2)∧P (.bool true) (h2.set l (.loop .ready none fn2 tm3 nt2 ps2 as2 bd2 d2))):a7w T l fn tm0 nt as bd h P:=by
 refine Wp.bind (t':=.code { fn:=fn,nt:=nt,round:=some l } as { tm:=tm0,df:=[],pan:=none,h:=h }) (c7a T l fn nt bd) (fun rec=>?_) (Wp.mono (g.out tm0 hs).out ?_)
 ·show a5c _ _=a5c _ _
  congr 1
 ·rintro _ ⟨tm1,h1,L1,pend,fn',tm',nt',ps,as',bd',dd,rfl,s1,hl,g2⟩
  have w2:Wp T (.code { fn:=fn,nt:=nt,round:=some l } bd { tm:=tm1,df:=[],pan:=none,h:=h1.set l (.loop .busy pend fn' tm' nt' ps as' bd' dd) }) _:=(g2.out tm1 s1).out
  obtain⟨r,⟨N,hr⟩,kk⟩:=Wp.mono (Q':=fun r=>∃ r',(∃ N,∀ n,N≤n→(fun(_:Nat)=>b3t T l fn) n r=r')∧Leaves (fun r=>∃ v h',r=.ret v h'∧P v h') r') w2 (by
   rintro _ ⟨tm2,h2,st2,pend2,fn2,tm3,nt2,ps2,as2,bd2,d2,rfl,hl2,p⟩
   exact⟨.ret (.bool true) (h2.set l (.loop .ready none fn2 tm3 nt2 ps2 as2 bd2 d2)),⟨0,fun _ _=>by simp only[b3t,hl2]⟩,⟨_,_,rfl,p⟩⟩)
  obtain⟨r',⟨N',hr'⟩,q⟩:=a6v (fun _=>b3t T l fn) r kk
  refine⟨r',⟨N+N',fun n hn=>?_⟩,q⟩
  simp only[c7a,hl]
  rw[hr n (by omega)]
  exact hr' n (by omega)
theorem e1q {fo:Operand}{params:Array Nat}{as bd:Code}{g:FuncId}{first cap:List AV}{F:Func}{c:Code}{P:a0a→Prop}(hr:cx.round=none) (hf:env tm fo=some (.func (.func g) first cap)) (hF:T.fn g=some F) (hb:F.body=some c)
  (hc:a0l T g (first++[.func (.yield (h.next+1)) [] []]++cap) ((h.alloc (.dfr (some []))).alloc (.loop .ready none cx.fn tm cx.nt params.toList as bd h.next)) fun _ h4=>P h4)
  (q:∀ h4,P h4→∃ st fn' tm' nt' ps as' bd' d,h4.get (h.next+1)=some (.loop st none fn' tm' nt' ps as' bd' d)∧st≠.busy∧a3r T cx k ⟨tm,.collected h.next::df,pan,h4.set (h.next+1) (.loop .exhausted none fn' tm' nt' ps as' bd' d)⟩ Q) :
  a3r T cx (.code (.rangeFunc fo params as bd)::k) ⟨tm,df,pan,h⟩ Q:=by
 refine Wp.bind (t':=.call g (first++[.func (.yield (h.next+1)) [] []]++cap) ((h.alloc (.dfr (some []))).alloc (.loop .ready none cx.fn tm cx.nt params.toList as bd h.next))) (fun rec r=>match r with
     |.ret _ h4=>match h4.get (h.next+1) with
      |some (.loop st pend fn' tm' nt' ps as bd d)=>match st with
       | .busy => .no "rangeFunc: busy" []
       |_ =>
        let s5:St:=⟨tm,.collected h.next::df,pan,h4.set (h.next+1) (.loop .exhausted pend fn' tm' nt' ps as bd d)⟩
        match pend with
        |none=>.fin .normal s5
        |some c=>rec (.code cx c s5)
      | _ => .no "rangeFunc: no loop" []
     |.thrown v h4=>.pan v ⟨tm,.collected h.next::df,pan,h4⟩
     |r=>r) (fun rec=>?_) (Wp.mono hc ?_)
 ·simp only[step,hf,b1l,hr,a3d,hF,hb]
  rfl
 ·rintro _ ⟨v,h4,rfl,p⟩
  obtain⟨st,fn',tm',nt',ps,as',bd',d,hg,hst,w⟩:=q h4 p
  refine⟨.fin .normal ⟨tm,.collected h.next::df,pan,h4.set (h.next+1) (.loop .exhausted none fn' tm' nt' ps as' bd' d)⟩,⟨0,fun _ _=>?_⟩,w⟩
  simp only[hg]
theorem a3k {f:FuncId}{ds:List ADef}{b:Nat}(hg:h.get b=some (.dfr (some []))) (w:Wp T (.leave f tm ds pan (h.set b (.dfr none))) Q):Wp T (.leave f tm (.collected b::ds) pan h) Q :=
 Wp.like (fun rec=>by simp[step,hg]) w
end Ev
end
section
namespace Ev
open Go
variable {T:a0k}{h h':a0a}{cx:Cx}{k:List K}{Q:Res→Prop}{all rest:List Oper}{df:List ADef}{pan:Option (AV×Bool)}{L:List (Nat×AV)}{tm:Tr AV}{o:Oper}{d:Nat}
theorem b7v {fo:Operand}{params:Array Nat}{as bd:Code}{g:FuncId}{first cap:List AV}{F:Func}{c:Code}{P:a0a→Prop}(hr:cx.round=none) (hf:a1y L fo=some (.func (.func g) first cap)) (hF:T.fn g=some F) (hb:F.body=some c)
  (hc:∀ tm,a0m tm L→a0l T g (first++[.func (.yield (h.next+1)) [] []]++cap) ((h.alloc (.dfr (some []))).alloc (.loop .ready none cx.fn tm cx.nt params.toList as bd h.next)) fun _ h4=>P h4)
  (q:∀ h4,P h4→∃ st fn' tm' nt' ps as' bd' d,h4.get (h.next+1)=some (.loop st none fn' tm' nt' ps as' bd' d)∧st≠.busy∧GJ T cx k L (.collected h.next::df) pan (h4.set (h.next+1) (.loop .exhausted none fn' tm' nt' ps as' bd' d)) Q) :
  GJ T cx (.code (.rangeFunc fo params as bd)::k) L df pan h Q :=
 ⟨fun tm hs=>⟨e1q hr ((hs.env hf)) hF hb (hc tm hs) fun h4 p=>by
  obtain⟨st,fn',tm',nt',ps,as',bd',d,e1,e2,e3⟩:=q h4 p
  exact⟨st,fn',tm',nt',ps,as',bd',d,e1,e2,(e3.out tm hs).out⟩⟩⟩
theorem b7l {ρ:Operand→Option AV}{f:Operand}{args:Array Operand}{ats:Array TypeId}{l:Nat}{as:List AV}{r:OR}(e:a3d T (.yield l) [] as h=r) (ho:o.op=.call { callee:=.value f,args:=args,argTypes:=ats }) (hf:ρ f=some (.func (.yield l) [] [])) (ha:a4d ρ args.toList=some as):opA T ρ o h=r:=by
 cases o; cases ho
 simp only[opA,a3m,hf,ha,List.nil_append]
 exact e
theorem d6h {ι:Type}{a:K}{k2:List K}(Lf:ι→List (Nat×AV)) (I:ι→a0a→Prop) (now:∀ k',(∀ x {L' h'},Sub (Lf x) L'→I x h'→GJ T cx k' L' df pan h' Q)→OJ T cx all rest (a::k') L df pan h Q) (rst:∀ x h,I x h→GJ T cx k2 (Lf x) df pan h Q):OJ T cx all rest (a::k2) L df pan h Q:=now k2 fun x _ h' hs hi=>(rst x h' hi).sub hs
theorem b5b {ι:Type}{k2:List K}(Lf:ι→List (Nat×AV)) (I:ι→a0a→Prop) (now:∀ k',(∀ x {L' h'},Sub (Lf x) L'→I x h'→GJ T cx k' L' df pan h' Q)→OJ T cx all rest k' L df pan h Q) (rst:∀ x h,I x h→GJ T cx k2 (Lf x) df pan h Q):OJ T cx all rest k2 L df pan h Q:=now k2 fun x _ h' hs hi=>(rst x h' hi).sub hs
theorem a5f {ι:Type}{a:K}{k2:List K}(Lf:ι→List (Nat×AV)) (I:ι→a0a→Prop) (now:∀ k',(∀ x {L' h'},Sub (Lf x) L'→I x h'→GJ T cx k' L' df pan h' Q)→GJ T cx (a::k') L df pan h Q) (rst:∀ x h,I x h→GJ T cx k2 (Lf x) df pan h Q):GJ T cx (a::k2) L df pan h Q:=now k2 fun x _ h' hs hi=>(rst x h' hi).sub hs
theorem a8h {ι:Type}{a b:K}{k2:List K}(Lf:ι→List (Nat×AV)) (I:ι→a0a→Prop) (now:∀ k',(∀ x {L' h'},Sub (Lf x) L'→I x h'→GJ T cx k' L' df pan h' Q)→GJ T cx (a::b::k') L df pan h Q) (rst:∀ x h,I x h→GJ T cx k2 (Lf x) df pan h Q):GJ T cx (a::b::k2) L df pan h Q:=now k2 fun x _ h' hs hi=>(rst x h' hi).sub hs
theorem a1u.front {e:TypeId}{sz n k:Nat}{S:Nat→Prop}{v:AV}{cs:List AV}{kd:IntKind}(w:a1u e sz S h v n cs) (hk:k≤n) (hs:0<sz):∃ v',a3j sz h v none (some (.int kd (k:Nat))) none=some v'∧a1u e sz S h v' k (cs.take (k*sz)):=by
 cases w with
 |nil =>
  obtain rfl:k=0:=by omega
  exact⟨.nilslice,rfl,by simpa using a1u.nil⟩
 |@sl B cap n all cs hb hl hg hn ha hc =>
  have hk':(k:Int)≤(cap:Int):=by omega
  refine⟨.slice B 0 k cap,?_,.sl hb hl hg (by omega) ha ?_⟩
  ·simp[a3j,a2y,mxA,hiA,loA,a5q,hk']
  ·rw[← hc,List.take_take,Nat.min_eq_left (Nat.mul_le_mul_right _ hk)]
 |@os B cap n all cs hb hl hg hn ha hc =>
  have hkn:(all.length-0) / sz=cap:=by rw[Nat.sub_zero,ha]; exact Nat.mul_div_cancel _ hs
  have hk':(k:Int)≤(cap:Int):=by omega
  refine⟨.oslice B 0 k sz,?_,.os hb hl hg (by omega) ha ?_⟩
  ·simp only[a3j,hg,hkn,a2y,mxA,hiA,loA,a5q,ne_eq,not_true_eq_false,if_false]
   rw[if_pos ⟨by omega,hk'⟩]
   simp
  ·rw[← hc,List.take_take,Nat.min_eq_left (Nat.mul_le_mul_right _ hk)]
end Ev
end
section
namespace Ev
open Go
variable {α:Type}
structure Yld (T:a0k) (l:Nat) (enc:α→List AV) (I:(Nat→Prop)→List α→a0a→Prop):Prop where
 call:∀ (S:Nat→Prop) (acc:List α) (s:α) (h:a0a),acc.length≤500000→I S acc h→∃ fn tm nt asg bd,a3d T (.yield l) [] [.agg (enc s)] h=.round l fn tm nt asg bd h∧a7w T l fn tm nt asg bd h (fun v h'=>v=.bool true∧Touch S h h'∧∃ S':Nat→Prop,(∀ c,S' c→S c∨h.next≤c)∧I S' (acc++[s]) h')
 low:∀ (S:Nat→Prop) (acc:List α) (h:a0a),I S acc h→∀ c,S c→c<h.next
 a2l:∀ (S:Nat→Prop) (acc:List α) (h h':a0a),I S acc h→h.next≤h'.next→(∀ c,S c→c<h.next→h'.get c=h.get c)→(h.ok→h'.ok)→I S acc h'
structure c4q (enc:α→List AV) (st e:TypeId) (sz box l d:Nat) (O:a1t) (S:Nat→Prop) (acc:List α) (h:a0a):Prop where
 low:∀ c,S c→c<h.next
 sb:S box
 sl:S l
 sd:S d
 n1:box≠l
 n2:l≠d
 n3:box≠d
 gl:h.get l=some O
 gd:h.get d=some (.dfr (some []))
 own:∃ u,h.get box=some (.cells st [u] true)∧a1a enc e sz (fun c=>S c∧c≠box∧c≠l∧c≠d) h u acc
theorem c4q.a2l {enc:α→List AV}{st e:TypeId}{sz box l d:Nat}{O:a1t}{S:Nat→Prop}{acc:List α}{h h':a0a}(i:c4q enc st e sz box l d O S acc h) (hn:h.next≤h'.next) (k:∀ c,S c→c<h.next→h'.get c=h.get c):c4q enc st e sz box l d O S acc h':=by
 obtain⟨u,g,o⟩:=i.own
 exact⟨fun c q=>Nat.lt_of_lt_of_le (i.low c q) hn,i.sb,i.sl,i.sd,i.n1,i.n2,i.n3,(k _ i.sl (i.low _ i.sl)).trans i.gl,(k _ i.sd (i.low _ i.sd)).trans i.gd,u,(k _ i.sb (i.low _ i.sb)).trans g,o.keep (fun c q hc=>k c q.1 hc) hn⟩
theorem d6x {T:a0k}{enc:α→List AV}{st e:TypeId}{sz box l d:Nat}{fn:FuncId}{tm:Tr AV}{nt p dd:Nat}{as bd:Code}(hp:Nat.blt p nt=true)
  (rnd:∀ (S:Nat→Prop) (acc:List α) (s:α) (h:a0a),acc.length≤500000→c4q enc st e sz box l d (.loop .ready none fn tm nt [p] as bd dd) S acc h→a7w T l fn (tm.set p (.agg (enc s))) nt as bd h (fun v h'=>v=.bool true∧Touch S h h'∧∃ S':Nat→Prop,(∀ c,S' c→S c∨h.next≤c)∧c4q enc st e sz box l d (.loop .ready none fn tm nt [p] as bd dd) S' (acc++[s]) h')) :
  Yld T l enc (c4q enc st e sz box l d (.loop .ready none fn tm nt [p] as bd dd)) where
 call:=fun S acc s h hl i=>⟨fn,_,nt,as,bd,by simp only[a3d,i.gl]; simp[hp,a5m],rnd S acc s h hl i⟩
 low:=fun S acc h i=>i.low
 a2l:=fun S acc h h' i hn k _=>i.a2l hn k
theorem a1u.one {e:TypeId}{sz n:Nat}{S:Nat→Prop}{h:a0a}{v:AV}{cs:List AV}(w:a1u e sz S h v n cs):v.cells=[v]∧v.one=true:=by
 cases w<;>exact⟨rfl,rfl⟩
theorem d5i {T:a0k}{enc:α→List AV}{st e:TypeId}{sz box l d:Nat}{fn:FuncId}{tm:Tr AV}{nt dd:Nat}{ps:List Tmp}{as bd:Code}{S:Nat→Prop}{acc:List α}{h:a0a}{rest:List TypeId}{ei:TypeInfo}(s:α) (X1 X2:a1t) (i:c4q enc st e sz box l d (.loop .ready none fn tm nt ps as bd dd) S acc h){u:AV}(gb:h.get box=some (.cells st [u] true)) (ow:a1a enc e sz (fun c=>S c∧c≠box∧c≠l∧c≠d) h u acc) (hr:acc.length≤1000000)
  (hs:(enc s).length=sz) (hone:(enc s).all AV.one=true)
  (hu:T.und st=some (.slice e)) (hsz:T.size e=some sz) (hti:T.ti e=some ei) (hb:ei.bytes≤10000) (hz:a5y T e sz=true) (hs0:0<sz) (hm:a3x T rest=some false) :
  ∃ v6 h6,a1h T [u,.slice (h.next+1) 0 1 1] (st::rest) ((((h.alloc X1).set h.next X2).set l (.loop .busy none fn tm nt ps as bd dd)).alloc (.cells e (enc s) true))=.val v6 h6∧(v6.cells=[v6]∧v6.one=true)∧h6.get box=some (.cells st [u] true) ∧
   (h6.set box (.cells st [v6] true)).get l=some (.loop .busy none fn tm nt ps as bd dd)∧Touch S h ((h6.set box (.cells st [v6] true)).set l (.loop .ready none fn tm nt ps as bd dd)) ∧
   ∃ S':Nat→Prop,(∀ c,S' c→S c∨h.next≤c)∧c4q enc st e sz box l d (.loop .ready none fn tm nt ps as bd dd) S' (acc++[s]) ((h6.set box (.cells st [v6] true)).set l (.loop .ready none fn tm nt ps as bd dd)):=by
 have lb:=i.low _ i.sb
 have ll:=i.low _ i.sl
 have ld:=i.low _ i.sd
 have n1:=i.n1
 have n2:=i.n2
 have n3:=i.n3
 obtain⟨Y,hY⟩:∃ Y,(((h.alloc X1).set h.next X2).set l (.loop .busy none fn tm nt ps as bd dd)).alloc (.cells e (enc s) true)=Y:=⟨_,rfl⟩
 have yn:Y.next=h.next+2:=by rw[← hY]; rfl
 have yo:∀ c,c<h.next→c≠l→Y.get c=h.get c:=fun c hc hl=>by
  rw[← hY,a0a.ga _ _ _ (by show c≠h.next+1; omega),a0a.gn _ _ _ _ hl,a0a.gn _ _ _ _ (by omega),a0a.ga _ _ _ (by omega)]
 have yl:Y.get l=some (.loop .busy none fn tm nt ps as bd dd):=by
  rw[← hY,a0a.ga _ _ _ (by show l≠h.next+1; omega)]; exact a0a.gs _ _ _
 have yr:Y.get (h.next+1)=some (.cells e (enc s) true):=by rw[← hY]; exact a0t _ _
 have yk:h.ok→Y.ok:=fun k=>by
  rw[← hY]
  exact a4n (a0w (a0w (a4n k _) _ _ (by show h.next<h.next+1; omega)) _ _ (by show l<h.next+1; omega)) _
 rw[hY]
 have ow2:a1a enc e sz (fun c=>(S c∧c≠box∧c≠l∧c≠d)) Y u acc:=ow.keep (fun c q hc=>yo c hc q.2.2.1) (by omega)
 obtain⟨v6,h6,e1,o1,t1⟩:=a4e (rest:=rest) ow2 yr (by omega) hr hs hone hu hsz hti hb hz hs0 hm
 have nx1:=t1.nx
 have keep1:∀ c,c<Y.next→(¬ S c∨c=box∨c=l∨c=d)→h6.get c=Y.get c:=fun c hc hh=>t1.old c hc fun q=>by
  rcases hh with r|r|r|r
  ·exact r q.1
  ·exact q.2.1 r
  ·exact q.2.2.1 r
  ·exact q.2.2.2 r
 have g6b:h6.get box=some (.cells st [u] true):=by rw[keep1 box (by omega) (.inr (.inl rfl)),yo box lb n1]; exact gb
 refine⟨v6,h6,e1,a1u.one o1,g6b,?_,⟨by show h.next≤h6.next; omega,fun c hc hh=>?_,fun k=>a0w (a0w (t1.ok (yk k)) _ _ (by omega)) _ _ (by show l<h6.next; omega)⟩,fun c=>(S c∨h.next≤c)∧c<h6.next,fun c q=>q.1,?_⟩
 ·rw[a0a.gn _ _ _ _ (fun q=>n1 q.symm),keep1 l (by omega) (.inr (.inr (.inl rfl)))]; exact yl
 ·rw[a0a.gn _ _ _ _ (fun q=>hh (by rw[q]; exact i.sl)),a0a.gn _ _ _ _ (fun q=>hh (by rw[q]; exact i.sb)),keep1 c (by omega) (.inl hh)]
  exact yo c hc (fun q=>hh (by rw[q]; exact i.sl))
 ·refine⟨fun c q=>q.2,⟨.inl i.sb,by omega⟩,⟨.inl i.sl,by omega⟩,⟨.inl i.sd,by omega⟩,n1,n2,n3,a0a.gs _ _ _,?_,v6,?_,?_⟩
  ·rw[a0a.gn _ _ _ _ (fun q=>n2 q.symm),a0a.gn _ _ _ _ (fun q=>n3 q.symm),keep1 d (by omega) (.inr (.inr (.inr rfl))),yo d ld (fun q=>n2 q.symm)]
   exact i.gd
  ·rw[a0a.gn _ _ _ _ n1]; exact a0a.gs _ _ _
  ·have o2:a1a enc e sz (fun c=>(S c∧c≠box∧c≠l∧c≠d)∨Y.next≤c) ((h6.set box (.cells st [v6] true)).set l (.loop .ready none fn tm nt ps as bd dd)) v6 (acc++[s]):=a1u.keep o1 (fun c q hc=>by
    rw[a0a.gn _ _ _ _ (fun r=>by rcases q with q|q; exact q.2.2.1 r; omega),a0a.gn _ _ _ _ (fun r=>by rcases q with q|q; exact q.2.1 r; omega)]) (Nat.le_refl _)
   exact a1u.mono o2 fun c q hc=>by
    rcases q with q|q
    ·exact⟨⟨.inl q.1,hc⟩,q.2⟩
    ·exact⟨⟨.inr (by omega),hc⟩,by omega,by omega,by omega⟩
def c5o {α:Type}(T:a0k) (g:FuncId) (cap:List AV) (enc:α→List AV) (h0:a0a) (Ψ:List α→Prop):Prop :=
 ∀ (l:Nat) (I:(Nat→Prop)→List α→a0a→Prop) (S0:Nat→Prop) (h:a0a),Yld T l enc I→h.ok→Ext h0 h→I S0 [] h→(∀ c,S0 c→h0.next≤c)→a0l T g ([.func (.yield l) [] []]++cap) h (fun v h'=>v=.tuple []∧∃ S acc,Touch S0 h h'∧h'.ok∧I S acc h'∧(∀ c,S c→S0 c∨h.next≤c)∧acc.length≤300000∧Ψ acc)
end Ev
end
section
namespace Ev
open Go
def a4h {κ:Type}(ek:κ→AV) (L:List (κ×AV×Nat)):List (AV×AV×Nat):=L.map fun e=>(ek e.1,e.2.1,e.2.2)
theorem c4h {κ:Type}{ek:κ→AV}:∀ {L:List (κ×AV×Nat)}(j:Nat) (e:κ×AV×Nat),a8v (a4h ek L) j (ek e.1,e.2.1,e.2.2)=a4h ek (L.set j e)
 |[],j,e=>by simp[a4h,a8v]
 |x::L,0,e=>rfl
 |x::L,j+1,e=>by
  show _::a8v (a4h ek L) j _=_
  rw[c4h j e]; rfl
variable {κ:Type} [DecidableEq κ] {ek:κ→AV}{T:a0k}{ρ:Operand→Option AV}{o:Oper}{h h':a0a}
def c5c (ek:κ→AV):Prop:=∀ a b,sameKey (ek a) (ek b)=some (decide (a=b))
def k32 (n:Nat):AV:=.int .u32 n
theorem c7z:c5c k32:=fun a b=>by
 show(if IntKind.u32=IntKind.u32 then some ((a:Int)==(b:Int)) else none)=_
 rw[if_pos rfl]
 congr 1
 rw[Bool.eq_iff_iff]
 simp
 omega
def assoc:List (κ×AV×Nat)→κ→Option AV
 |[],_=>none
 |e::L,k=>if e.1=k then some e.2.1 else assoc L k
theorem b7z (ok:c5c ek) (k:κ):∀ (L:List (κ×AV×Nat)) (i:Nat),∃ r,b1p (ek k) (a4h ek L) i=some r∧(r=none∧assoc L k=none∨∃ j e,r=some (i+j,e.2.1)∧L[j]?=some e∧e.1=k∧assoc L k=some e.2.1)
 |[],i=>⟨none,rfl,.inl ⟨rfl,rfl⟩⟩
 |e::L,i=>by
  have h1:b1p (ek k) (a4h ek (e::L)) i=match sameKey (ek k) (ek e.1) with
   |some true=>some (some (i,e.2.1))
   |some false=>b1p (ek k) (a4h ek L) (i+1)
   |none=>none:=rfl
  rw[h1,ok k e.1]
  by_cases c:k=e.1
  ·subst c
   exact⟨some (i,e.2.1),by simp,.inr ⟨0,e,rfl,rfl,rfl,by simp[assoc]⟩⟩
  ·obtain⟨r,hr,p⟩:=b7z ok k L (i+1)
   have c':¬ e.1=k:=fun q=>c q.symm
   refine⟨r,by simp[c,hr],?_⟩
   rcases p with ⟨p1,p2⟩|⟨j,e',p1,p2,p3,p4⟩
   ·exact .inl ⟨p1,by simp[assoc,c',p2]⟩
   ·exact .inr ⟨j+1,e',by rw[p1]; congr 2; omega,by simpa using p2,p3,by simp[assoc,c',p4]⟩
theorem d0l {α:Type}:∀ (l:List α) (i:Nat),nth l i=l[i]?
 |[],i=>by simp[nth]
 |x::l,0=>rfl
 |x::l,i+1=>by
  show nth l i=_
  rw[d0l l i]; simp
theorem c4v (k:κ) (v:AV) (b:Nat):∀ {L:List (κ×AV×Nat)}{j:Nat}{e:κ×AV×Nat},L[j]?=some e→e.1=k→assoc L k=some e.2.1→(∀ i e',i<j→L[i]?=some e'→e'.1≠k)→∀ q,assoc (L.set j (k,v,b)) q=if q=k then some v else assoc L q
 |[],j,e,h,_,_,_,q=>by simp at h
 |x::L,0,e,h,hk,_,_,q=>by
  simp at h
  subst h
  show(if k=q then some v else assoc L q)=_
  by_cases c:q=k
  ·rw[if_pos c.symm,if_pos c]
  ·rw[if_neg (fun r=>c r.symm),if_neg c]
   show _=if x.1=q then _ else _
   rw[if_neg (fun r=>c (r.symm.trans hk))]
 |x::L,j+1,e,h,hk,ha,hl,q=>by
  have hx:x.1≠k:=hl 0 x (by omega) rfl
  have ha':assoc L k=some e.2.1:=by simpa [assoc,hx] using ha
  have ih:=c4v k v b (L:=L) (j:=j) (e:=e) (by simpa using h) hk ha' (fun i e' hi he=>hl (i+1) e' (by omega) (by simpa using he)) q
  show(if x.1=q then some x.2.1 else assoc (L.set j (k,v,b)) q)=_
  by_cases c:x.1=q
  ·rw[if_pos c,if_neg (fun r=>hx (c.trans r))]
   show _=if x.1=q then _ else _
   rw[if_pos c]
  ·rw[if_neg c,ih]
   by_cases d:q=k
   ·rw[if_pos d,if_pos d]
   ·rw[if_neg d,if_neg d]
    show _=if x.1=q then _ else _
    rw[if_neg c]
theorem c3c (ok:c5c ek) (k:κ):∀ (L:List (κ×AV×Nat)) (i j:Nat) (v:AV),b1p (ek k) (a4h ek L) i=some (some (i+j,v))→∀ m e,m<j→L[m]?=some e→e.1≠k
 |[],i,j,v,h,m,e,hm,he=>by simp at he
 |x::L,i,j,v,h,m,e,hm,he=>by
  have h1:b1p (ek k) (a4h ek (x::L)) i=match sameKey (ek k) (ek x.1) with
   |some true=>some (some (i,x.2.1))
   |some false=>b1p (ek k) (a4h ek L) (i+1)
   |none=>none:=rfl
  rw[h1,ok k x.1] at h
  by_cases c:k=x.1
  ·rw[decide_eq_true c] at h
   simp only[Option.some.injEq,Prod.mk.injEq] at h
   omega
  ·rw[decide_eq_false c] at h
   simp only at h
   cases m with
   |zero=>simp at he; subst he; exact fun r=>c r.symm
   |succ m =>
    obtain⟨j',rfl⟩:∃ j',j=j'+1:=⟨j-1,by omega⟩
    exact c3c ok k L (i+1) j' v (by rw[h]; congr 3; omega) m e (by omega) (by simpa using he)
theorem c6j (k:κ) (v:AV) (b:Nat):∀ {L:List (κ×AV×Nat)},assoc L k=none→∀ q,assoc (L++[(k,v,b)]) q=if q=k then some v else assoc L q
 |[],_,q=>by
  show(if k=q then some v else none)=_
  by_cases c:q=k
  ·rw[if_pos c.symm,if_pos c]
  ·rw[if_neg (fun r=>c r.symm),if_neg c]; rfl
 |x::L,ha,q=>by
  have hx:x.1≠k:=fun r=>by simp[assoc,r] at ha
  have ha':assoc L k=none:=by simpa [assoc,hx] using ha
  have ih:=c6j k v b ha' q
  show(if x.1=q then some x.2.1 else assoc (L++[(k,v,b)]) q)=_
  by_cases c:x.1=q
  ·rw[if_pos c,if_neg (fun r=>hx (c.trans r))]
   show _=if x.1=q then _ else _
   rw[if_pos c]
  ·rw[if_neg c,ih]
   by_cases d:q=k
   ·rw[if_pos d,if_pos d]
   ·rw[if_neg d,if_neg d]
    show _=if x.1=q then _ else _
    rw[if_neg c]
def b9a (ek:κ→AV) (h:a0a) (M:Nat) (σ:κ→Option AV) (n:Nat):Prop:=M<h.next∧∃ L clock,h.get M=some (.map (a4h ek L) clock)∧(∀ k,assoc L k=σ k)∧L.length=n
theorem b9a.new (h:a0a):b9a ek (h.alloc (.map [] 0)) h.next (fun _=>none) 0:=⟨Nat.lt_succ_self _,[],0,a0t _ _,fun _=>rfl,rfl⟩
theorem b9a.keep {M n:Nat}{σ:κ→Option AV}(m:b9a ek h M σ n) (k:h'.get M=h.get M) (hn:h.next≤h'.next):b9a ek h' M σ n:=by
 obtain⟨a,L,c,b,d⟩:=m
 exact⟨by omega,L,c,k.trans b,d⟩
theorem d9n {t kt et:TypeId}{x ix:Operand}{M n:Nat}{σ:κ→Option AV}{k:κ}{z:AV}(ok:c5c ek) (m:b9a ek h M σ n) (ho:o.op=.lookup t x ix true) (ht:T.und t=some (.map kt et)) (hk:b5x T kt (ek k)=true) (hx:ρ x=some (.map M)) (hi:ρ ix=some (ek k)) (hz:T.zero et=some z):opA T ρ o h=.val (.tuple [(σ k).getD z,.bool (σ k).isSome]) h:=by
 obtain⟨_,L,c,b,d,_⟩:=m
 cases o; cases ho
 obtain⟨r,hr,p⟩:=b7z ok k L 0
 simp only[opA,hx,hi,c0z,ht,hk,b,hr]
 rcases p with ⟨rfl,p⟩|⟨j,e,rfl,_,_,p⟩
 ·rw[d] at p; simp[p,hz,rv]
 ·rw[d] at p; simp[p,rv]
theorem d5a {t kt et:TypeId}{M n:Nat}{σ:κ→Option AV}{k:κ}{v:AV}(ok:c5c ek) (m:b9a ek h M σ n) (ht:T.und t=some (.map kt et)) (hk:b5x T kt (ek k)=true) :
  ∃ ob,a8f T t h (.map M) (ek k) v=some (h.set M ob)∧b9a ek (h.set M ob) M (fun q=>if q=k then some v else σ q) (if(σ k).isSome then n else n+1):=by
 obtain⟨a,L,c,b,d,ln⟩:=m
 obtain⟨r,hr,p⟩:=b7z ok k L 0
 rcases p with ⟨rfl,p⟩|⟨j,e,rfl,p1,p2,p⟩
 ·refine⟨.map (a4h ek (L++[(k,v,c)])) (c+1),?_,a,L++[(k,v,c)],c+1,a0a.gs _ _ _,fun q=>?_,?_⟩
  ·simp only[a8f,ht,hk,b,hr]
   simp[a4h]
  ·rw[c6j k v c p,d]
  ·rw[d] at p; simp[p,ln]
 ·have ff:=c3c ok k L 0 j _ hr
  refine⟨.map (a4h ek (L.set j (k,v,e.2.2))) c,?_,a,L.set j (k,v,e.2.2),c,a0a.gs _ _ _,fun q=>?_,?_⟩
  ·have e1:nth (a4h ek L) (0+j)=some (ek e.1,e.2.1,e.2.2):=by rw[d0l,Nat.zero_add]; simp[a4h,p1]
   simp only[a8f,ht,hk,b,hr,e1]
   have e2:=c4h (ek:=ek) (L:=L) j (k,v,e.2.2)
   simp only at e2
   rw[Nat.zero_add,p2,e2]
   simp
  ·rw[c4v k v e.2.2 p1 p2 p ff,d]
  ·rw[d] at p; simp[p,ln]
theorem d0s {t:TypeId}{x y z:Operand}{m k v:AV}(e:a8f T t h m k v=some h') (ho:o.op=.mapUpdate t x y z) (hx:ρ x=some m) (hy:ρ y=some k) (hz:ρ z=some v):opA T ρ o h=.skip h':=by
 cases o; cases ho
 simp only[opA,hx,hy,hz,e]
theorem Row.drop {b off m:Nat}{cs:List AV}(r:Row h b off m cs) (i:Nat) (hi:i≤m):Row h b (off+i) (m-i) (cs.drop i):=by
 obtain⟨r1,e,all,rw,r2,r3,r4⟩:=r
 refine⟨r1,e,all,rw,r2,by omega,?_⟩
 rw[← r4,List.drop_take,List.drop_drop]
end Ev
end
