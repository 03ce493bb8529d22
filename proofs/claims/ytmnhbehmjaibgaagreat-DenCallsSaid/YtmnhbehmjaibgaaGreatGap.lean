/- A part of an evaluator of the program's form in Lean, of the proof that what it says of a call is what the machine does, and of the rules by which proofs walk over it. Conditions: those that each theorem states. -/
import Derived.Test.YtmnhbehmjaibgaaGreatGao
set_option linter.unusedVariables false
set_option linter.unusedSimpArgs false
section
namespace Ev
open Go
variable {T:a0n}{ρ:Operand→Option AV}{h h':a0a}{t:TypeId}{x y ix a:Operand}{o:Oper}
theorem Sl.shape {sz n:Nat}{v:AV}{cs:List AV}(s:Sl h sz v n cs):(v=.nilslice∧n=0∧cs=[])∨(v=.eslice∧n=0∧cs=[])∨(∃ b p c,v=.slice b p n c)∨∃ b p,v=.oslice b p n sz:=by
 cases v<;>first|exact s.elim|exact .inl ⟨rfl,s⟩|exact .inr (.inl ⟨rfl,s⟩)|(obtain⟨rfl,_⟩:=s; exact .inr (.inr (.inl ⟨_,_,_,rfl⟩)))|(obtain⟨rfl,rfl,_⟩:=s; exact .inr (.inr (.inr ⟨_,_,rfl⟩)))
theorem Sl.cells {sz n:Nat}{v:AV}{cs:List AV}(s:Sl h sz v n cs):v.cells=[v]:=by
 cases v<;>first|exact s.elim|rfl
theorem Sl.one {sz n:Nat}{v:AV}{cs:List AV}(s:Sl h sz v n cs):v.one=true:=by
 cases v<;>first|exact s.elim|rfl
theorem d0o {st elem:TypeId}{rest:List TypeId}{sz m b:Nat}{ei:TypeInfo}{w:AV}{new:List AV}(hu:T.und st=some (.slice elem)) (hsz:T.size elem=some sz) (hti:T.ti elem=some ei) (hz:a6i T elem sz=true)
  (hb:h.get b=some (.cells elem [] true)) (s:Sl h sz w m new) (hm:a3x T rest=some false) (h0:0<m) (hr:a2s m ei.bytes=true) :
  a1b T [.slice b 0 0 0,w] (st::rest) h=.val (.oslice h.next 0 m sz) (h.alloc (.cells elem new true)):=by
 have hlen:=s.length
 have hf:a3u sz 0 h (.slice b 0 0 0)=some []:=by simp[a3u,a2j,hb,c1m,cut]
 unfold a1b
 have hl:a4s (.slice b 0 0 0)=some 0:=rfl
 simp only[hu,hsz,hl,a9x hm s,hti,b6c hm s,hf]
 simp[hr,hz,hlen]
 omega
theorem d2g {st elem:TypeId}{rest:List TypeId}{sz n m B:Nat}{ei:TypeInfo}{w:AV}{cs new:List AV}(hu:T.und st=some (.slice elem)) (hsz:T.size elem=some sz) (hti:T.ti elem=some ei) (hz:a6i T elem sz=true) (hs0:0<sz)
  (hb:h.get B=some (.cells elem cs true)) (hfit:(n+m)*sz≤cs.length) (hc:b0w T rest w=some m) (hn:c4u T elem sz m h rest w=some new) (hlen:new.length=m*sz) (hone:new.all AV.one=true) (hr:a2s (n+m) ei.bytes=true) :
  a1b T [.oslice B 0 n sz,w] (st::rest) h=.val (.oslice B 0 (n+m) sz) (h.set B (.cells elem (over cs (n*sz) new) true)):=by
 have hfn:n*sz≤cs.length:=Nat.le_trans (Nat.mul_le_mul_right _ (Nat.le_add_right n m)) hfit
 have hf:a3u sz n h (.oslice B 0 n sz)=some (cs.take (n*sz)):=by simp[a3u,a2j,hb,c1m,hfn,cut]
 have hw:a1k h B (n*sz) new=some (h.set B (.cells elem (over cs (n*sz) new) true)):=by
  simp only[a1k,hb]
  rw[if_pos ⟨by rw[hlen,← Nat.add_mul]; exact hfit,hone⟩]
 unfold a1b
 have hl:a4s (.oslice B 0 n sz)=some n:=rfl
 simp only[hu,hsz,hl,hc,hti,hn,hf]
 have e0:¬ sz=0:=by omega
 simp[hr,hz,hlen,hb,hone,hfit,hw,e0,hfn]
theorem d2u {st elem:TypeId}{sz:Nat}{v:AV}{lo hi:Option Operand}{l u:Option AV}{w:AV}(ho:o.op=.slice st x lo hi none) (ht:T.und st=some (.slice elem)) (hsz:T.size elem=some sz) (hx:ρ x=some v) (hl:a4u ρ lo=some l) (hu:a4u ρ hi=some u) (e:a3f sz h v l u none=some w):opA T ρ o h=.val w h:=by
 cases o; cases ho
 have hn:a4u ρ (none:Option Operand)=some none:=rfl
 simp only[opA,hx,hl,hu,hn]
 unfold b3r
 rw[ht]
 cases v<;>simp only[hsz,e,rv]
theorem e8s {B n sz i:Nat}{e:TypeId}{cs:List AV}{k k' k2:IntKind}(hg:h.get B=some (.cells e cs true)) (hc:cs.length=n*sz) (hs:0<sz) (hi:i<n):a3f sz h (.oslice B 0 n sz) (some (.int k (i:Nat))) (some (.int k' ((i:Int)+1))) (some (.int k2 (n:Nat)))=some (.slice B (i*sz) 1 (n-i)):=by
 have hk:(cs.length-0) / sz=n:=by rw[hc,Nat.sub_zero,Nat.mul_div_cancel _ hs]
 have b0:mxA n (some (.int k2 (n:Nat)))=some n:=by simp[mxA,a5f]
 have b1:hiA n n (some (.int k' ((i:Int)+1))) (some (.int k2 (n:Nat)))=some (i+1):=by
  simp only[hiA,a5f]; rw[if_pos ⟨by omega,by omega⟩]; congr 1
 have b2:loA (i+1) (some (.int k (i:Nat)))=some i:=by simp only[loA,a5f]; rw[if_pos ⟨by omega,by omega⟩]; simp
 simp only[a3f,hg,hk,a2x,b0,b1,b2]
 simp[hi]
theorem f3m {st elem:TypeId}{sz:Nat}{v:AV}{lo hi mx:Option Operand}{l u m:Option AV}{w:AV}(ho:o.op=.slice st x lo hi mx) (ht:T.und st=some (.slice elem)) (hsz:T.size elem=some sz) (hx:ρ x=some v) (hl:a4u ρ lo=some l) (hu:a4u ρ hi=some u) (hm:a4u ρ mx=some m) (e:a3f sz h v l u m=some w):opA T ρ o h=.val w h:=by
 cases o; cases ho
 simp only[opA,hx,hl,hu,hm]
 unfold b3r
 rw[ht]
 cases v<;>simp only[hsz,e,rv]
theorem d7q {st elem e:TypeId}{sz B p:Nat}{zv:AV}{cs:List AV}(hu:T.und st=some (.slice elem)) (hsz:T.size elem=some sz) (hz:T.zero elem=some zv) (hz1:zv.cells.length=sz) (hone:zv.cells.all AV.one=true) (hg:h.get B=some (.cells e cs true)) (hfit:p+sz≤cs.length) :
  b4l T st h (.oslice B p 1 sz)=.val (.tuple []) (h.set B (.cells e (over cs p zv.cells) true)):=by
 have hw:a1k h B p (zv.cells++[])=some (h.set B (.cells e (over cs p zv.cells) true)):=by
  rw[List.append_nil]
  simp only[a1k,hg]
  rw[if_pos ⟨by rw[hz1]; exact hfit,hone⟩]
 have hzz:a5r T elem 1=some (zv.cells++[]):=by simp[a5r,hz,times]
 have hb:Nat.beq (zv.cells++[]).length ((0+1)*sz)=true:=by simp[hz1]
 unfold b4l
 simp only[hu]
 unfold b6t
 simp only[hsz,hzz,hb,hw]
theorem e6f {x:Operand}{st:TypeId}{ats:Array TypeId}{rest:List TypeId}{v w:AV}(e:b4l T st h v=.val w h') (ho:o.op=.call { callee:=.builtin .clear,args := #[x],argTypes:=ats }) (hat:ats.toList=st::rest) (hx:ρ x=some v):opA T ρ o h=.val w h':=by
 cases o; cases ho
 simp only[opA,a3w,hx,hat,e]
theorem b8r {α:Type}{enc:α→List AV}{sz:Nat}(hs:∀ x,(enc x).length=sz):∀ (l:List α) (i:Nat),(l.flatMap enc).take (i*sz)=(l.take i).flatMap enc
 |[],i=>by simp
 |a::l,0=>by simp
 |a::l,i+1=>by
  simp only[List.flatMap_cons,List.take_succ_cons]
  have:(i+1)*sz=(enc a).length+i*sz:=by rw[hs,Nat.add_mul]; omega
  rw[this,List.take_length_add_append,b8r hs l i]
theorem b8z {α:Type}{enc:α→List AV}{sz:Nat}(hs:∀ x,(enc x).length=sz):∀ (l:List α) (i:Nat),(l.flatMap enc).drop (i*sz)=(l.drop i).flatMap enc
 |[],i=>by simp
 |a::l,0=>by simp
 |a::l,i+1=>by
  simp only[List.flatMap_cons,List.drop_succ_cons]
  have:(i+1)*sz=(enc a).length+i*sz:=by rw[hs,Nat.add_mul]; omega
  rw[this,List.drop_length_add_append,b8z hs l i]
theorem a6o {α:Type}{enc:α→List AV}{sz:Nat}(hs:∀ x,(enc x).length=sz) (l:List α):(l.flatMap enc).length=l.length*sz:=by
 induction l with
 |nil=>simp
 |cons a l ih=>simp[hs,ih,Nat.add_mul]; omega
theorem d3w {α:Type}(cs z:List α) (k:Nat) (hk:k≤cs.length):(over cs k z).take k=cs.take k:=by
 unfold over
 rw[List.append_assoc,List.take_append_of_le_length (by simp; omega),List.take_take,Nat.min_self]
theorem e0z {α:Type}{enc:α→List AV}{sz:Nat}(hs:∀ x,(enc x).length=sz) (l:List α) (i:Nat) (hi:i<l.length) (z:List AV) :
  (over (over (l.flatMap enc) (i*sz) ((l.drop (i+1)).flatMap enc)) ((l.length-1)*sz) z).take ((l.length-1)*sz)=(l.eraseIdx i).flatMap enc:=by
 have e1:((l.drop (i+1)).flatMap enc).length=(l.length-(i+1))*sz:=by rw[a6o hs]; simp
 have e2:i*sz+(l.length-(i+1))*sz=(l.length-1)*sz:=by rw[← Nat.add_mul]; congr 1; omega
 have e3:(l.length-1)*sz≤(l.flatMap enc).length:=by rw[a6o hs]; exact Nat.mul_le_mul_right _ (by omega)
 have hfit:i*sz+((l.drop (i+1)).flatMap enc).length≤(l.flatMap enc).length:=by rw[e1,e2]; exact e3
 rw[d3w _ _ _ (by rw[a3o _ _ _ hfit]; exact e3)]
 have:=b4x (l.flatMap enc) ((l.drop (i+1)).flatMap enc) (i*sz) hfit
 rw[e1,e2] at this
 rw[this,b8r hs,List.eraseIdx_eq_take_drop_succ,List.flatMap_append]
theorem a2q.lo {e:TypeId}{lo lo':Nat}{v:AV}{s:List UInt8}(w:a2q e lo h v s) (hl:lo'≤lo):a2q e lo' h v s:=Own.lo w hl
theorem b8o {t:TypeId}{k k':IntKind}{x y:Int}{d:Nat}(hu:T.und t=some (.int k')):eqv T (d+1) t (.int k x) (.int k y)=some (decide (x=y)):=by
 unfold eqv
 rw[hu]
 simp
 rfl
theorem c7t {t:TypeId}{x y:List UInt8}{d:Nat}(hu:T.und t=some .string):eqv T (d+1) t (.str x) (.str y)=some (decide (x=y)):=by
 unfold eqv
 rw[hu]
 show some (a1s x y)=_
 rw[a5t]
 by_cases e:x=y<;>simp[e]
theorem d5s {t:TypeId}{xs ys:List AV}{fs:Array Field}{d:Nat}{r:Option Bool}(hu:T.und t=some (.struct fs)) (hs:T.stood t=false) (e:eqFields T (eqv T d) fs.toList xs ys=r):eqv T (d+1) t (.agg xs) (.agg ys)=r:=by
 rw[← e]
 conv=>lhs; unfold eqv
 rw[hu]
 simp[hs]
theorem a8p {e : TypeId → AV → AV → Option Bool} {f : Field} {fs : List Field} {xs ys : List AV} {a b : AV} {p q : Prop} [Decidable p] [Decidable q] (hn : (f.name == "_") = false) (ha : part T f.type xs f.offset = some a) (hb : part T f.type ys f.offset = some b) (he : e f.type a b = some (decide p)) (r : eqFields T e fs xs ys = some (decide q)) : eqFields T e (f :: fs) xs ys = some (decide (p ∧ q)) := by
 have hn' : ¬ f.name = "_" := by simpa using hn
 unfold eqFields
 rw[if_neg hn']
 simp only[ha,hb,he]
 by_cases hp:p
 ·simp only[decide_eq_true hp]
  rw[r]
  simp[hp]
 ·simp[hp]
theorem d6j {e:TypeId→AV→AV→Option Bool}{xs ys:List AV}:eqFields T e [] xs ys=some (decide True):=rfl
theorem e4a {op:BinOp}{t:TypeId}{xs ys:List AV}{p:Prop} [Decidable p] (e:eqv T 100 t (.agg xs) (.agg ys)=some (decide p)) (ho:op=.eql):a1h T op t (.agg xs) (.agg ys)=some (.bool (decide p)):=by
 subst ho
 show(match eqv T 100 t (.agg xs) (.agg ys) with|some r=>some (AV.bool r)|none=>none)=_
 rw[e]
theorem a8u {op:BinOp}{t:TypeId}{xs ys:List AV}{p:Prop} [Decidable p] (e:eqv T 100 t (.agg xs) (.agg ys)=some (decide p)) (ho:op=.neq):a1h T op t (.agg xs) (.agg ys)=some (.bool (decide (¬ p))):=by
 subst ho
 show(match eqv T 100 t (.agg xs) (.agg ys) with|some r=>some (AV.bool (!r))|none=>none)=_
 rw[e]
 simp
theorem c1g {src e:TypeId}{s:List UInt8}{x:Operand}{d:TypeDesc}(hr:s.length≤10000000) (ho:o.op=.convert src t x) (hs:T.und src=some .string) (hd:T.und t=some (.slice e)) (he:T.und e=some (.int .u8)) (hx:ρ x=some (.str s)):opA T ρ o h=.val (.oslice h.next 0 s.length 1) (h.alloc (.cells e (u8s s) true)):=by
 cases o; cases ho
 have hr':a2s s.length 1=true:=by unfold a2s; exact Nat.ble_eq.mpr (by omega)
 simp only[opA,hx]
 unfold b5u
 simp only[hs,hd,he,hr']
 simp
theorem b8k (h:a0a) (e:TypeId) (s:List UInt8):By (h.alloc (.cells e (u8s s) true)) (.oslice h.next 0 s.length 1) s :=
 ⟨rfl,rfl,by show h.next<h.next+1; omega,e,_,true,a0s _ _,by simp[u8s],by simp[u8s,← List.map_take]⟩
end Ev
end
section
namespace Ev
open Go
variable {T:a0n}{cx:Cx}{k:List K}{Q:Res→Prop}{all rest:List Oper}{o:Oper}{df:List ADef}{pan:Option (AV×Bool)}{h h' h2:a0a}{L L':List (Nat×AV)}{v:AV}{d:Nat}
variable {ms:List Nat}{N m:Nat}{mr:List Nat}{n:Nat}{acc:List EJ}{sl:List Tmp}{hl:List (List Tmp)}{Lq:List (Nat×AV)}
structure PJ (Lq:List (Nat×AV)) (T:a0n) (cx:Cx) (df:List ADef) (pan:Option (AV×Bool)) (Q:Res→Prop) (all:List Oper) (ms:List Nat) (N:Nat) (rest:List Oper) (mr:List Nat) (hl:List (List Tmp)) (i:Nat) (L:List (Nat×AV)) (h:a0a) (acc:List EJ):Prop where
 out:∀ tm xs,a0m tm L→b6u acc xs→hl=a8f all ms rest mr i→∃ v hF es,(∃ n0,∀ n,n0≤n→goD T (ev T n) cx.nt all ms N rest mr i tm h=.pan v hF es)∧okD T (xs.reverse++es) 0=true∧∀ tm',a0m tm' Lq→Q (.pan v ⟨tm',df,pan,hF⟩)
theorem c6x {r q:Nat}{ops:Array Oper}(hk:h.ok) (hq:ops.toList.length=q) (hm:masks ops.toList=ms) (hh:a8f ops.toList ms ops.toList ms 0=hl) (he:a3h ops.toList 0=true)
  (g:PJ (a1p L (dstsOf ops.toList)) T cx df pan Q ops.toList ms h.next ops.toList ms hl 0 L (a0a.mk h.t (h.next+q)) []):GJ T cx (.code (.region r ops true)::k) L df pan h Q:=by
 subst hq hm
 refine⟨fun tm hs=>⟨?_⟩⟩
 obtain⟨v,hF,es,⟨n0,h0⟩,ok,c⟩:=g.out tm [] hs .nil hh.symm
 refine⟨.pan v ⟨a1d tm (dstsOf ops.toList),df,pan,hF⟩,.b0m ⟨n0,fun n hn=>?_⟩,?_⟩
 ·have ok':okD T es 0=true:=by simpa using ok
  simp only[step,drawn,he,b6b hk,Bool.and_self,h0 n hn,ok']
 ·show after T cx k Q _
  rw[a9l]
  exact c _ (hs.a1p _)
theorem e1f (hw:a0p all (a1p L sl) o=some true) (hd:o.dst=some d) (hn:Nat.blt d cx.nt=true) (hk:b7t (a1j T o.op)=true) (ho:opA T (a1u (a1p L sl)) o h=.val v h')
  (c:PJ Lq T cx df pan Q all ms N rest mr hl (n+1) ((d,v)::L) h (⟨o,m,.read,true,a1p L sl,h,v,h⟩::acc)):PJ Lq T cx df pan Q all ms N (o::rest) (m::mr) (sl::hl) n L h acc:=by
 refine⟨fun tm xs hs ha e=>?_⟩
 obtain⟨rfl,e2⟩:=a6v e
 have hs':a0m (a1d tm (a0x ((nth (m::mr) 0).getD 0) n all ms 0)) (a1p L (a0x ((nth (m::mr) 0).getD 0) n all ms 0)):=hs.a1p _
 obtain⟨v2,hF,es,⟨n0,h0⟩,ok,q⟩:=c.out (tm.set d v) _ (hs.set d v) (.cons (e:=⟨o,m,.read,true,a1p L (a0x ((nth (m::mr) 0).getD 0) n all ms 0),h,v,h⟩) hs' ha) e2
 refine⟨v2,hF,(⟨o,m,.read,true,a1p L (a0x ((nth (m::mr) 0).getD 0) n all ms 0),h,v,h⟩:EJ).ent (a1d tm (a0x ((nth (m::mr) 0).getD 0) n all ms 0))::es,⟨n0,fun j hj=>?_⟩,by simpa using ok,q⟩
 have h1:=h0 j hj
 cases hq:a1j T o.op<;>rw[hq] at hk<;>first|(cases hk; done)|(simp only[goD,a1w hs' hw,hq,a7q hs' ho rfl,hd,if_pos (a6h hn)]; simp only[List.drop_succ_cons,List.drop_zero]; rw[h1]; rfl)
theorem d7r {f:FuncId}{args:List AV}{R:AV→a0a→Prop}{l:List (EJ×a0a)}(hT:T.alts=false) (g:Wp T (.call f args h') fun r=>∃ v h2,r=.thrown v h2∧R v h2) (hw:a0p all (a1p L sl) o=some true) (hk:a1j T o.op=.act) (ho:opA T (a1u (a1p L sl)) o h=.enter f args h')
  (hall:mr.all (fun m'=>Nat.testBit m' n)=true)
  (c:∀ v h2,R v h2→(∀ tm',a0m tm' Lq→Q (.pan v ⟨tm',df,pan,h2⟩))∧MsJ ms (⟨o,m,.act,true,a1p L sl,h,v,h2⟩::acc).reverse 0∧∃ l,d0z ms (⟨o,m,.act,true,a1p L sl,h,v,h2⟩::acc).reverse 0=some l∧c0w T l):PJ Lq T cx df pan Q all ms N (o::rest) (m::mr) (sl::hl) n L h acc:=by
 refine⟨fun tm xs hs ha e=>?_⟩
 obtain⟨rfl,e2⟩:=a6v e
 have hs':a0m (a1d tm (a0x ((nth (m::mr) 0).getD 0) n all ms 0)) (a1p L (a0x ((nth (m::mr) 0).getD 0) n all ms 0)):=hs.a1p _
 obtain⟨r,⟨N0,hN⟩,hl⟩:=g
 have h1:=c1c hT N0 (.call f args h')
 rw[hN N0 (Nat.le_refl _)] at h1
 have:∃ v h2,r=.thrown v h2∧R v h2:=by cases r<;>first|exact hl|cases h1
 obtain⟨v,h2,rfl,rr⟩:=this
 obtain⟨cq,cm,l,ct,ca⟩:=c v h2 rr
 have en:=(b6u.cons (e:=⟨o,m,.act,true,a1p L (a0x ((nth (m::mr) 0).getD 0) n all ms 0),h,v,h2⟩) hs' ha)
 obtain⟨l',p1,p2⟩:=c4c en.rev ct ca
 refine⟨v,h2,[(⟨o,m,.act,true,a1p L (a0x ((nth (m::mr) 0).getD 0) n all ms 0),h,v,h2⟩:EJ).ent (a1d tm (a0x ((nth (m::mr) 0).getD 0) n all ms 0))],⟨N0,fun j hj=>?_⟩,?_,cq⟩
 ·simp only[goD,a1w hs' hw,hk,c1w,a7q hs' ho rfl,hN j hj,no1]
  simp only[List.drop_succ_cons,List.drop_zero,hall]
  rfl
 ·have:=c7k (cm.ok en.rev) p1 p2
  simpa using this
end Ev
end
section
namespace Ev
open Go
variable {α:Type}{enc:α→List AV}{sz:Nat}
end Ev
end
section
namespace Ev
open Go
variable {T:a0n}{h h':a0a}
inductive a1l (e:TypeId) (sz:Nat) (S:Nat→Prop) (h:a0a):AV→Nat→List AV→Prop
 |nil:a1l e sz S h .nilslice 0 []
 |sl {B cap n:Nat} {all cs:List AV} (hb:S B) (hl:B<h.next) (hg:h.get B=some (.cells e all true)) (hn:n≤cap) (ha:all.length=cap*sz) (hc:all.take (n*sz)=cs):a1l e sz S h (.slice B 0 n cap) n cs
 |os {B cap n:Nat} {all cs:List AV} (hb:S B) (hl:B<h.next) (hg:h.get B=some (.cells e all true)) (hn:n≤cap) (ha:all.length=cap*sz) (hc:all.take (n*sz)=cs):a1l e sz S h (.oslice B 0 n sz) n cs
theorem a1l.sl' {e:TypeId}{sz n:Nat}{S:Nat→Prop}{v:AV}{cs:List AV}(w:a1l e sz S h v n cs):Sl h sz v n cs:=by
 cases w with
 |nil=>exact⟨rfl,rfl⟩
 |sl hb hl hg hn ha hc=>exact⟨rfl,hl,e,_,true,hg,by rw[Nat.zero_add,ha]; exact Nat.mul_le_mul_right _ hn,by simpa using hc⟩
 |os hb hl hg hn ha hc=>exact⟨rfl,rfl,hl,e,_,true,hg,by rw[Nat.zero_add,ha]; exact Nat.mul_le_mul_right _ hn,by simpa using hc⟩
theorem a1l.length {e:TypeId}{sz n:Nat}{S:Nat→Prop}{v:AV}{cs:List AV}(w:a1l e sz S h v n cs):cs.length=n*sz:=w.sl'.length
theorem a1l.keep {e:TypeId}{sz n:Nat}{S:Nat→Prop}{v:AV}{cs:List AV}(w:a1l e sz S h v n cs) (k:∀ b,S b→b<h.next→h'.get b=h.get b) (hn:h.next≤h'.next):a1l e sz S h' v n cs:=by
 cases w with
 |nil=>exact .nil
 |sl hb hl hg hn' ha hc=>exact .sl hb (Nat.lt_of_lt_of_le hl hn) ((k _ hb hl).trans hg) hn' ha hc
 |os hb hl hg hn' ha hc=>exact .os hb (Nat.lt_of_lt_of_le hl hn) ((k _ hb hl).trans hg) hn' ha hc
theorem a1l.mono {e:TypeId}{sz n:Nat}{S S':Nat→Prop}{v:AV}{cs:List AV}(w:a1l e sz S h v n cs) (k:∀ b,S b→b<h.next→S' b):a1l e sz S' h v n cs:=by
 cases w with
 |nil=>exact .nil
 |sl hb hl hg hn' ha hc=>exact .sl (k _ hb hl) hl hg hn' ha hc
 |os hb hl hg hn' ha hc=>exact .os (k _ hb hl) hl hg hn' ha hc
theorem Own.d5k {e:TypeId}{sz lo n:Nat}{v:AV}{cs:List AV}(w:Own e sz lo h v n cs):a1l e sz (lo ≤ ·) h v n cs:=by
 cases w with
 |nil=>exact .nil
 |sl hb hl hg hn ha hc=>exact .sl hb hl hg hn ha hc
 |os hb hl hg hc hn=>exact .os hb hl hg (Nat.le_refl _) hc (List.take_of_length_le (by omega))
structure Touch (S:Nat→Prop) (h h':a0a):Prop where
 nx:h.next≤h'.next
 old:∀ c,c<h.next→¬ S c→h'.get c=h.get c
 ok:h.ok→h'.ok
theorem Touch.refl (S:Nat→Prop) (h:a0a):Touch S h h:=⟨Nat.le_refl _,fun _ _ _=>rfl,id⟩
theorem Touch.trans {S:Nat→Prop}{a b c:a0a}(x:Touch S a b) (y:Touch S b c):Touch S a c:=⟨Nat.le_trans x.nx y.nx,fun n hn hs=>(y.old n (Nat.lt_of_lt_of_le hn x.nx) hs).trans (x.old n hn hs),fun k=>y.ok (x.ok k)⟩
theorem Touch.set {S:Nat→Prop}{h:a0a}{b:Nat}(o:a1t) (hb:S b) (hl:b<h.next):Touch S h (h.set b o):=⟨Nat.le_refl _,fun c hc hs=>a0a.gn _ _ _ _ (fun e=>hs (e ▸ hb)),fun k=>a0w k _ _ hl⟩
theorem Touch.al {S:Nat→Prop}{h:a0a}(o:a1t):Touch S h (h.alloc o):=⟨Nat.le_succ _,fun c hc hs=>a0a.ga _ _ _ (by omega),fun k=>a4l k _⟩
theorem c9c {st elem:TypeId}{rest:List TypeId}{sz n m:Nat}{S:Nat→Prop}{ei:TypeInfo}{u w:AV}{cs new:List AV}(hu:T.und st=some (.slice elem)) (hsz:T.size elem=some sz) (hti:T.ti elem=some ei) (hz:a6i T elem sz=true) (hs0:0<sz)
  (own:a1l elem sz S h u n cs) (hcount:b0w T rest w=some m) (hnew:c4u T elem sz m h rest w=some new) (hlen:new.length=m*sz) (hone:new.all AV.one=true) (hr:a2s (n+m) ei.bytes=true) :
  ∃ v' h',a1b T [u,w] (st::rest) h=.val v' h'∧a1l elem sz (fun b=>S b∨h.next≤b) h' v' (n+m) (cs++new)∧Touch S h h':=by
 have hf:a3u sz n h u=some cs:=own.sl'.first
 have hl:a4s u=some n:=own.sl'.len
 have hcl:=own.length
 have hb1:Nat.beq new.length (m*sz)=true:=by rw[hlen]; simp
 have hb2:Nat.beq cs.length (n*sz)=true:=by rw[hcl]; simp
 have fresh:∀ hh:a0a,hh.next=h.next→a1l elem sz (fun b=>S b∨h.next≤b) (hh.alloc (.cells elem (cs++new) true)) (.oslice h.next 0 (n+m) sz) (n+m) (cs++new):=fun hh e =>
  .os (.inr (Nat.le_refl _)) (by show h.next<hh.next+1; omega) (by rw[← e]; exact a0s _ _) (Nat.le_refl _) (by simp[hcl,hlen,Nat.add_mul]) (List.take_of_length_le (by simp[hcl,hlen,Nat.add_mul]))
 cases own with
 |nil =>
  by_cases h0:m=0
  ·subst h0
   have:new=[]:=by simpa using hlen
   subst this
   exact⟨.nilslice,h,by unfold a1b; simp only[hu,hsz,hl,hcount,hti,hnew,hf]; simp[hr,hz],.nil,.refl _ _⟩
  ·refine⟨.oslice h.next 0 m sz,h.alloc (.cells elem ([]++new) true),?_,?_,.al _⟩
   ·unfold a1b; simp only[hu,hsz,hl,hcount,hti,hnew,hf]; simp only[Nat.zero_add] at hr ⊢; simp[hr,hz,hlen,h0]
   ·simpa using fresh h rfl
 |@sl B cap n all cs hb hlt hg hn ha hc =>
  by_cases hin:n+m≤cap
  ·have hfit:n*sz+new.length≤all.length:=by rw[hlen,ha,← Nat.add_mul]; exact Nat.mul_le_mul_right _ hin
   have hw:a1k h B (0+n*sz) new=some (h.set B (.cells elem (over all (n*sz) new) true)):=by
    simp only[a1k,hg,Nat.zero_add]
    rw[if_pos ⟨hfit,hone⟩]
   refine⟨.slice B 0 (n+m) cap,h.set B (.cells elem (over all (n*sz) new) true),?_,?_,.set _ hb hlt⟩
   ·unfold a1b; simp only[hu,hsz,hl,hcount,hti,hnew,hf]; simp[hr,hz,hb1,hb2,hin]; simp only[Nat.zero_add] at hw; rw[hw]
   ·refine .sl (.inl hb) (by simpa using hlt) (a0a.gs _ _ _) hin (by rw[a3o _ _ _ hfit,ha]) ?_
    have:=b4x all new (n*sz) hfit
    rw[hlen,← Nat.add_mul] at this
    rw[this,hc]
  ·refine⟨.oslice h.next 0 (n+m) sz,h.alloc (.cells elem (cs++new) true),?_,?_,.al _⟩
   ·unfold a1b; simp only[hu,hsz,hl,hcount,hti,hnew,hf]; simp[hr,hz,hb1,hb2,hin]
   ·exact fresh h rfl
 |@os B cap n all cs hb hlt hg hn ha hc =>
  have hs:¬ (sz≠sz∨sz=0∨elem≠elem∨new.all AV.one=false):=by
   rintro(e|e|e|e)
   ·exact e rfl
   ·omega
   ·exact e rfl
   ·rw[hone] at e; cases e
  by_cases hin:0+(n+m)*sz≤all.length
  ·have hfit:n*sz+new.length≤all.length:=by rw[hlen,← Nat.add_mul]; omega
   have hw:a1k h B (0+n*sz) new=some (h.set B (.cells elem (over all (n*sz) new) true)):=by
    simp only[a1k,hg,Nat.zero_add]
    rw[if_pos ⟨hfit,hone⟩]
   refine⟨.oslice B 0 (n+m) sz,h.set B (.cells elem (over all (n*sz) new) true),?_,?_,.set _ hb hlt⟩
   ·unfold a1b; simp only[hu,hsz,hl,hcount,hti,hnew,hf]; simp only[Nat.zero_add] at hr hw hin hb1 hb2 ⊢; simp[hr,hz,hb1,hb2,hg,hs,hin,hw,hone]; omega
   ·refine .os (.inl hb) (by simpa using hlt) (a0a.gs _ _ _) (by rw[Nat.zero_add,ha] at hin; exact Nat.le_of_mul_le_mul_right hin hs0) (by rw[a3o _ _ _ hfit,ha]) ?_
    have:=b4x all new (n*sz) hfit
    rw[hlen,← Nat.add_mul] at this
    rw[this,hc]
  ·have hin':¬ ((n+m)*sz≤all.length):=by rw[Nat.zero_add] at hin; exact hin
   refine⟨.oslice h.next 0 (n+m) sz,(h.set B .dead).alloc (.cells elem (cs++new) true),?_,?_,(Touch.set _ hb hlt).trans (.al _)⟩
   ·unfold a1b; simp only[hu,hsz,hl,hcount,hti,hnew,hf]; simp only[Nat.zero_add] at hr hb1 hb2 ⊢; simp[hr,hz,hb1,hb2,hg,hone,hin']; omega
   ·exact fresh (h.set B .dead) rfl
variable {α:Type}{enc:α→List AV}{sz:Nat}
def a1f (enc:α→List AV) (e:TypeId) (sz:Nat) (S:Nat→Prop) (h:a0a) (v:AV) (l:List α):Prop:=a1l e sz S h v l.length (l.flatMap enc)
theorem a1f.ls {e:TypeId}{S:Nat→Prop}{v:AV}{l:List α}(w:a1f enc e sz S h v l):Ls enc sz h v l:=w.sl'
theorem a1f.nil {e:TypeId}{S:Nat→Prop}:a1f enc e sz S h .nilslice []:=a1l.nil
theorem a4r {st elem:TypeId}{rest:List TypeId}{c:Nat}{S:Nat→Prop}{ei:TypeInfo}{u:AV}{l:List α}{x:α}{rw:Bool}(own:a1f enc elem sz S h u l) (hc:h.get c=some (.cells elem (enc x) rw)) (hcl:c<h.next) (hr:l.length≤1000000)
  (hs:(enc x).length=sz) (hone:(enc x).all AV.one=true)
  (hu:T.und st=some (.slice elem)) (hsz:T.size elem=some sz) (hti:T.ti elem=some ei) (hb:ei.bytes≤10000) (hz:a6i T elem sz=true) (hs0:0<sz) (hm:a3x T rest=some false) :
  ∃ v' h',a1b T [u,.slice c 0 1 1] (st::rest) h=.val v' h'∧a1f enc elem sz (fun b=>S b∨h.next≤b) h' v' (l++[x])∧Touch S h h':=by
 have bw:Sl h sz (.slice c 0 1 1) 1 (enc x):=⟨rfl,hcl,elem,enc x,rw,hc,by omega,by simp[← hs]⟩
 obtain⟨v',h',e1,e2,e3⟩:=c9c hu hsz hti hz hs0 own (a9x hm bw) (b6c hm bw) (by simp[hs]) hone (by
  unfold a2s
  refine Nat.ble_eq.mpr (Nat.le_trans (Nat.mul_le_mul (show 4*(l.length+1)+1000≤4001004 by omega) (show ei.bytes+1≤10001 by omega)) (by decide)))
 exact⟨v',h',e1,by unfold a1f; simpa using e2,e3⟩
theorem b2g {st elem:TypeId}{rest:List TypeId}{S:Nat→Prop}{ei:TypeInfo}{u w:AV}{l r:List α}(own:a1f enc elem sz S h u l) (bw:Ls enc sz h w r) (hr:l.length+r.length≤1000000)
  (hone:∀ x,(enc x).all AV.one=true)
  (hu:T.und st=some (.slice elem)) (hsz:T.size elem=some sz) (hti:T.ti elem=some ei) (hb:ei.bytes≤10000) (hz:a6i T elem sz=true) (hs0:0<sz) (hm:a3x T rest=some false) :
  ∃ v' h',a1b T [u,w] (st::rest) h=.val v' h'∧a1f enc elem sz (fun b=>S b∨h.next≤b) h' v' (l++r)∧Touch S h h':=by
 obtain⟨v',h',e1,e2,e3⟩:=c9c hu hsz hti hz hs0 own (a9x hm bw) (b6c hm bw) (Sl.length bw) (by
  clear bw hr
  induction r with
  |nil=>rfl
  |cons a r ih=>rw[List.flatMap_cons,List.all_append,hone,ih]; rfl) (by
  unfold a2s
  refine Nat.ble_eq.mpr (Nat.le_trans (Nat.mul_le_mul (show 4*(l.length+r.length)+1000≤4001000 by omega) (show ei.bytes+1≤10001 by omega)) (by decide)))
 exact⟨v',h',e1,by unfold a1f; simpa using e2,e3⟩
end Ev
end
section
namespace Ev
open Go
variable {T:a0n}{h h':a0a}{cx:Cx}{k:List K}{Q:Res→Prop}{all rest:List Oper}{df:List ADef}{pan:Option (AV×Bool)}{L:List (Nat×AV)}{tm:Tr AV}{o:Oper}{d:Nat}
def b3t (T:a0n) (l:Nat) (fn:FuncId) (tm0:Tr AV) (nt:Nat) (as bd:Code) (h:a0a) (P:AV→a0a→Prop):Prop:=Wp T (.round l fn tm0 nt as bd h) fun r=>∃ v h',r=.ret v h'∧P v h'
theorem d7k {l:Nat}{fn:FuncId}{tm0:Tr AV}{nt:Nat}{as bd:Code}{P:AV→a0a→Prop}(hs:a0m tm L) (hg:a0p all L o=some true) (hd:o.dst=some d) (ho:opA T (a1u L) o h=.round l fn tm0 nt as bd h') (hn:Nat.blt d cx.nt=true)
  (hc:b3t T l fn tm0 nt as bd h' P) (c:∀ v h2,P v h2→∀ tm',a0m tm' ((d,v)::L)→Ops T cx all rest k ⟨tm',df,pan,h2⟩ Q):Ops T cx all (o::rest) k ⟨tm,df,pan,h⟩ Q:=by
 refine Wp.bind (t':=.round l fn tm0 nt as bd h') (fun rec r=>match r with
   |.ret v h''=>(match a7p cx { tm:=tm,df:=df,pan:=pan,h:=h'' } o.dst v with
      |some s'=>rec (.ops cx all rest s')
      | none => .no "put" [])
   |.thrown v h''=>.pan v { tm:=tm,df:=df,pan:=pan,h:=h'' }
   |r=>no1 fn r) (fun rec=>?_) (Wp.mono hc ?_)
 ·simp only[step,a1w hs hg,a7q hs ho rfl]
  cases rec (.round l fn tm0 nt as bd h')<;>rfl
 ·rintro _ ⟨v,h2,rfl,p⟩
  obtain⟨r,⟨N,hr⟩,q⟩:=c v h2 p (tm.set d v) (hs.set d v)
  refine⟨r,⟨N,fun n hn'=>?_⟩,q⟩
  simp only[a7p,hd,if_pos (a6h hn)]
  exact hr n hn'
theorem b7v {l:Nat}{fn:FuncId}{tm0:Tr AV}{nt:Nat}{as bd:Code}{P:AV→a0a→Prop}(hc:b3t T l fn tm0 nt as bd h' P) (hg:a0p all L o=some true) (hd:o.dst=some d) (hn:Nat.blt d cx.nt=true) (ho:opA T (a1u L) o h=.round l fn tm0 nt as bd h')
  (c:∀ v h2,P v h2→OJ T cx all rest k ((d,v)::L) df pan h2 Q):OJ T cx all (o::rest) k L df pan h Q:=⟨fun tm hs=>⟨d7k hs hg hd ho hn hc fun v h2 p tm' s'=>((c v h2 p).out tm' s').out⟩⟩
def c4j (T:a0n) (l:Nat) (fn:FuncId) (r:Res):Res:=match r with
 |.fin e s'=>(match s'.df,s'.h.get l with
  |[],some (.loop _ _ fn'' tm'' nt'' ps'' as'' bd'' d')=>(match e with
   |.normal=>.ret (.bool true) (s'.h.set l (.loop .ready none fn'' tm'' nt'' ps'' as'' bd'' d'))
   |e=>.ret (.bool false) (s'.h.set l (.loop .done (some (goCode e)) fn'' tm'' nt'' ps'' as'' bd'' d')))
  | _, _ => .no "round: defers" [])
 |.pan v s'=>(match s'.df,T.fn fn with
  |[],some _=>.thrown v s'.h
  | _, _ => .no "round: defers" [])
 |r=>r
def e2j (T:a0n) (l:Nat) (fn:FuncId) (nt:Nat) (bd:Code) (rec:Task→Res) (r:Res):Res:=match r with
 |.fin .normal s=>(match s.h.get l with
  |some (.loop .ready pend fn' tm' nt' ps as' bd' d)=>a5i (rec (.code { fn:=fn,nt:=nt,round:=some l } bd { s with h:=s.h.set l (.loop .busy pend fn' tm' nt' ps as' bd' d) })) (c4j T l fn)
  | _ => .no "round: not ready" [])
 | .fin _ _ => .no "round: jump in assign" []
 |.pan v s=>(match s.df,T.fn fn with
  |[],some _=>.thrown v s.h
  | _, _ => .no "round: defers" [])
 |r=>r
theorem a5a {f:FuncId}{ds:List ADef}{b:Nat}(hg:h.get b=some (.dfr (some []))) (w:Wp T (.leave f tm ds pan (h.set b (.dfr none))) Q):Wp T (.leave f tm (.collected b::ds) pan h) Q :=
 Wp.like (fun rec=>by simp[step,hg]) w
end Ev
end
section
namespace Ev
open Go
variable {T:a0n}{h h':a0a}{cx:Cx}{k:List K}{Q:Res→Prop}{all rest:List Oper}{df:List ADef}{pan:Option (AV×Bool)}{L:List (Nat×AV)}{tm:Tr AV}{o:Oper}{d:Nat}
theorem c1j {ρ:Operand→Option AV}{f:Operand}{args:Array Operand}{ats:Array TypeId}{l:Nat}{as:List AV}{r:OR}(e:a4y T (.yield l) [] as h=r) (ho:o.op=.call { callee:=.value f,args:=args,argTypes:=ats }) (hf:ρ f=some (.func (.yield l) [] [])) (ha:a3w ρ args.toList=some as):opA T ρ o h=r:=by
 cases o; cases ho
 simp only[opA,a3i,hf,ha,List.nil_append]
 exact e
theorem d6b {ι:Type}{a:K}{k2:List K}(Lf:ι→List (Nat×AV)) (I:ι→a0a→Prop) (now:∀ k',(∀ x {L' h'},Sub (Lf x) L'→I x h'→GJ T cx k' L' df pan h' Q)→OJ T cx all rest (a::k') L df pan h Q) (rst:∀ x h,I x h→GJ T cx k2 (Lf x) df pan h Q):OJ T cx all rest (a::k2) L df pan h Q:=now k2 fun x _ h' hs hi=>(rst x h' hi).sub hs
theorem b4u {ι:Type}{k2:List K}(Lf:ι→List (Nat×AV)) (I:ι→a0a→Prop) (now:∀ k',(∀ x {L' h'},Sub (Lf x) L'→I x h'→GJ T cx k' L' df pan h' Q)→OJ T cx all rest k' L df pan h Q) (rst:∀ x h,I x h→GJ T cx k2 (Lf x) df pan h Q):OJ T cx all rest k2 L df pan h Q:=now k2 fun x _ h' hs hi=>(rst x h' hi).sub hs
theorem a5j {ι:Type}{a:K}{k2:List K}(Lf:ι→List (Nat×AV)) (I:ι→a0a→Prop) (now:∀ k',(∀ x {L' h'},Sub (Lf x) L'→I x h'→GJ T cx k' L' df pan h' Q)→GJ T cx (a::k') L df pan h Q) (rst:∀ x h,I x h→GJ T cx k2 (Lf x) df pan h Q):GJ T cx (a::k2) L df pan h Q:=now k2 fun x _ h' hs hi=>(rst x h' hi).sub hs
theorem a8d {ι:Type}{a b:K}{k2:List K}(Lf:ι→List (Nat×AV)) (I:ι→a0a→Prop) (now:∀ k',(∀ x {L' h'},Sub (Lf x) L'→I x h'→GJ T cx k' L' df pan h' Q)→GJ T cx (a::b::k') L df pan h Q) (rst:∀ x h,I x h→GJ T cx k2 (Lf x) df pan h Q):GJ T cx (a::b::k2) L df pan h Q:=now k2 fun x _ h' hs hi=>(rst x h' hi).sub hs
theorem a1l.front {e:TypeId}{sz n k:Nat}{S:Nat→Prop}{v:AV}{cs:List AV}{kd:IntKind}(w:a1l e sz S h v n cs) (hk:k≤n) (hs:0<sz):∃ v',a3f sz h v none (some (.int kd (k:Nat))) none=some v'∧a1l e sz S h v' k (cs.take (k*sz)):=by
 cases w with
 |nil =>
  obtain rfl:k=0:=by omega
  exact⟨.nilslice,rfl,by simpa using a1l.nil⟩
 |@sl B cap n all cs hb hl hg hn ha hc =>
  have hk':(k:Int)≤(cap:Int):=by omega
  refine⟨.slice B 0 k cap,?_,.sl hb hl hg (by omega) ha ?_⟩
  ·simp[a3f,a2x,mxA,hiA,loA,a5f,hk']
  ·rw[← hc,List.take_take,Nat.min_eq_left (Nat.mul_le_mul_right _ hk)]
 |@os B cap n all cs hb hl hg hn ha hc =>
  have hkn:(all.length-0) / sz=cap:=by rw[Nat.sub_zero,ha]; exact Nat.mul_div_cancel _ hs
  have hk':(k:Int)≤(cap:Int):=by omega
  refine⟨.oslice B 0 k sz,?_,.os hb hl hg (by omega) ha ?_⟩
  ·simp only[a3f,hg,hkn,a2x,mxA,hiA,loA,a5f,ne_eq,not_true_eq_false,if_false]
   rw[if_pos ⟨by omega,hk'⟩]
   simp
  ·rw[← hc,List.take_take,Nat.min_eq_left (Nat.mul_le_mul_right _ hk)]
end Ev
end
section
namespace Ev
open Go
variable {α:Type}
structure f2m (enc:α→List AV) (st e:TypeId) (sz box l d:Nat) (O:a1t) (S:Nat→Prop) (acc:List α) (h:a0a):Prop where
 low:∀ c,S c→c<h.next
 sb:S box
 sl:S l
 sd:S d
 n1:box≠l
 n2:l≠d
 n3:box≠d
 gl:h.get l=some O
 gd:h.get d=some (.dfr (some []))
 own:∃ u,h.get box=some (.cells st [u] true)∧a1f enc e sz (fun c=>S c∧c≠box∧c≠l∧c≠d) h u acc
theorem f2m.a5v {enc:α→List AV}{st e:TypeId}{sz box l d:Nat}{O:a1t}{S:Nat→Prop}{acc:List α}{h h':a0a}(i:f2m enc st e sz box l d O S acc h) (hn:h.next≤h'.next) (k:∀ c,S c→c<h.next→h'.get c=h.get c):f2m enc st e sz box l d O S acc h':=by
 obtain⟨u,g,o⟩:=i.own
 exact⟨fun c q=>Nat.lt_of_lt_of_le (i.low c q) hn,i.sb,i.sl,i.sd,i.n1,i.n2,i.n3,(k _ i.sl (i.low _ i.sl)).trans i.gl,(k _ i.sd (i.low _ i.sd)).trans i.gd,u,(k _ i.sb (i.low _ i.sb)).trans g,o.keep (fun c q hc=>k c q.1 hc) hn⟩
theorem a1l.one {e:TypeId}{sz n:Nat}{S:Nat→Prop}{h:a0a}{v:AV}{cs:List AV}(w:a1l e sz S h v n cs):v.cells=[v]∧v.one=true:=by
 cases w<;>exact⟨rfl,rfl⟩
end Ev
end
section
namespace Ev
open Go
def a6f {κ:Type}(ek:κ→AV) (L:List (κ×AV×Nat)):List (AV×AV×Nat):=L.map fun e=>(ek e.1,e.2.1,e.2.2)
theorem c2t {κ:Type}{ek:κ→AV}:∀ {L:List (κ×AV×Nat)}(j:Nat) (e:κ×AV×Nat),a8v (a6f ek L) j (ek e.1,e.2.1,e.2.2)=a6f ek (L.set j e)
 |[],j,e=>by simp[a6f,a8v]
 |x::L,0,e=>rfl
 |x::L,j+1,e=>by
  show _::a8v (a6f ek L) j _=_
  rw[c2t j e]; rfl
variable {κ:Type} [DecidableEq κ] {ek:κ→AV}{T:a0n}{ρ:Operand→Option AV}{o:Oper}{h h':a0a}
def c6g (ek:κ→AV):Prop:=∀ a b,sameKey (ek a) (ek b)=some (decide (a=b))
def k32 (n:Nat):AV:=.int .u32 n
theorem c7g:c6g k32:=fun a b=>by
 show(if IntKind.u32=IntKind.u32 then some ((a:Int)==(b:Int)) else none)=_
 rw[if_pos rfl]
 congr 1
 rw[Bool.eq_iff_iff]
 simp
 omega
def assoc:List (κ×AV×Nat)→κ→Option AV
 |[],_=>none
 |e::L,k=>if e.1=k then some e.2.1 else assoc L k
theorem b7w (ok:c6g ek) (k:κ):∀ (L:List (κ×AV×Nat)) (i:Nat),∃ r,b1c (ek k) (a6f ek L) i=some r∧(r=none∧assoc L k=none∨∃ j e,r=some (i+j,e.2.1)∧L[j]?=some e∧e.1=k∧assoc L k=some e.2.1)
 |[],i=>⟨none,rfl,.inl ⟨rfl,rfl⟩⟩
 |e::L,i=>by
  have h1:b1c (ek k) (a6f ek (e::L)) i=match sameKey (ek k) (ek e.1) with
   |some true=>some (some (i,e.2.1))
   |some false=>b1c (ek k) (a6f ek L) (i+1)
   |none=>none:=rfl
  rw[h1,ok k e.1]
  by_cases c:k=e.1
  ·subst c
   exact⟨some (i,e.2.1),by simp,.inr ⟨0,e,rfl,rfl,rfl,by simp[assoc]⟩⟩
  ·obtain⟨r,hr,p⟩:=b7w ok k L (i+1)
   have c':¬ e.1=k:=fun q=>c q.symm
   refine⟨r,by simp[c,hr],?_⟩
   rcases p with ⟨p1,p2⟩|⟨j,e',p1,p2,p3,p4⟩
   ·exact .inl ⟨p1,by simp[assoc,c',p2]⟩
   ·exact .inr ⟨j+1,e',by rw[p1]; congr 2; omega,by simpa using p2,p3,by simp[assoc,c',p4]⟩
theorem c9o {α:Type}:∀ (l:List α) (i:Nat),nth l i=l[i]?
 |[],i=>by simp[nth]
 |x::l,0=>rfl
 |x::l,i+1=>by
  show nth l i=_
  rw[c9o l i]; simp
theorem c5m (k:κ) (v:AV) (b:Nat):∀ {L:List (κ×AV×Nat)}{j:Nat}{e:κ×AV×Nat},L[j]?=some e→e.1=k→assoc L k=some e.2.1→(∀ i e',i<j→L[i]?=some e'→e'.1≠k)→∀ q,assoc (L.set j (k,v,b)) q=if q=k then some v else assoc L q
 |[],j,e,h,_,_,_,q=>by simp at h
 |x::L,0,e,h,hk,_,_,q=>by
  simp at h
  subst h
  show(if k=q then some v else assoc L q)=_
  by_cases c:q=k
  ·rw[if_pos c.symm,if_pos c]
  ·rw[if_neg (fun r=>c r.symm),if_neg c]
   show _=if x.1=q then _ else _
   rw[if_neg (fun r=>c (r.symm.trans hk))]
 |x::L,j+1,e,h,hk,ha,hl,q=>by
  have hx:x.1≠k:=hl 0 x (by omega) rfl
  have ha':assoc L k=some e.2.1:=by simpa [assoc,hx] using ha
  have ih:=c5m k v b (L:=L) (j:=j) (e:=e) (by simpa using h) hk ha' (fun i e' hi he=>hl (i+1) e' (by omega) (by simpa using he)) q
  show(if x.1=q then some x.2.1 else assoc (L.set j (k,v,b)) q)=_
  by_cases c:x.1=q
  ·rw[if_pos c,if_neg (fun r=>hx (c.trans r))]
   show _=if x.1=q then _ else _
   rw[if_pos c]
  ·rw[if_neg c,ih]
   by_cases d:q=k
   ·rw[if_pos d,if_pos d]
   ·rw[if_neg d,if_neg d]
    show _=if x.1=q then _ else _
    rw[if_neg c]
theorem c2f (ok:c6g ek) (k:κ):∀ (L:List (κ×AV×Nat)) (i j:Nat) (v:AV),b1c (ek k) (a6f ek L) i=some (some (i+j,v))→∀ m e,m<j→L[m]?=some e→e.1≠k
 |[],i,j,v,h,m,e,hm,he=>by simp at he
 |x::L,i,j,v,h,m,e,hm,he=>by
  have h1:b1c (ek k) (a6f ek (x::L)) i=match sameKey (ek k) (ek x.1) with
   |some true=>some (some (i,x.2.1))
   |some false=>b1c (ek k) (a6f ek L) (i+1)
   |none=>none:=rfl
  rw[h1,ok k x.1] at h
  by_cases c:k=x.1
  ·rw[decide_eq_true c] at h
   simp only[Option.some.injEq,Prod.mk.injEq] at h
   omega
  ·rw[decide_eq_false c] at h
   simp only at h
   cases m with
   |zero=>simp at he; subst he; exact fun r=>c r.symm
   |succ m =>
    obtain⟨j',rfl⟩:∃ j',j=j'+1:=⟨j-1,by omega⟩
    exact c2f ok k L (i+1) j' v (by rw[h]; congr 3; omega) m e (by omega) (by simpa using he)
theorem c4w (k:κ) (v:AV) (b:Nat):∀ {L:List (κ×AV×Nat)},assoc L k=none→∀ q,assoc (L++[(k,v,b)]) q=if q=k then some v else assoc L q
 |[],_,q=>by
  show(if k=q then some v else none)=_
  by_cases c:q=k
  ·rw[if_pos c.symm,if_pos c]
  ·rw[if_neg (fun r=>c r.symm),if_neg c]; rfl
 |x::L,ha,q=>by
  have hx:x.1≠k:=fun r=>by simp[assoc,r] at ha
  have ha':assoc L k=none:=by simpa [assoc,hx] using ha
  have ih:=c4w k v b ha' q
  show(if x.1=q then some x.2.1 else assoc (L++[(k,v,b)]) q)=_
  by_cases c:x.1=q
  ·rw[if_pos c,if_neg (fun r=>hx (c.trans r))]
   show _=if x.1=q then _ else _
   rw[if_pos c]
  ·rw[if_neg c,ih]
   by_cases d:q=k
   ·rw[if_pos d,if_pos d]
   ·rw[if_neg d,if_neg d]
    show _=if x.1=q then _ else _
    rw[if_neg c]
def b8s (ek:κ→AV) (h:a0a) (M:Nat) (σ:κ→Option AV) (n:Nat):Prop:=M<h.next∧∃ L clock,h.get M=some (.map (a6f ek L) clock)∧(∀ k,assoc L k=σ k)∧L.length=n
theorem b8s.new (h:a0a):b8s ek (h.alloc (.map [] 0)) h.next (fun _=>none) 0:=⟨Nat.lt_succ_self _,[],0,a0s _ _,fun _=>rfl,rfl⟩
theorem b8s.keep {M n:Nat}{σ:κ→Option AV}(m:b8s ek h M σ n) (k:h'.get M=h.get M) (hn:h.next≤h'.next):b8s ek h' M σ n:=by
 obtain⟨a,L,c,b,d⟩:=m
 exact⟨by omega,L,c,k.trans b,d⟩
theorem d8d {t kt et:TypeId}{x ix:Operand}{M n:Nat}{σ:κ→Option AV}{k:κ}{z:AV}(ok:c6g ek) (m:b8s ek h M σ n) (ho:o.op=.lookup t x ix true) (ht:T.und t=some (.map kt et)) (hk:b5k T kt (ek k)=true) (hx:ρ x=some (.map M)) (hi:ρ ix=some (ek k)) (hz:T.zero et=some z):opA T ρ o h=.val (.tuple [(σ k).getD z,.bool (σ k).isSome]) h:=by
 obtain⟨_,L,c,b,d,_⟩:=m
 cases o; cases ho
 obtain⟨r,hr,p⟩:=b7w ok k L 0
 simp only[opA,hx,hi,c1e,ht,hk,b,hr]
 rcases p with ⟨rfl,p⟩|⟨j,e,rfl,_,_,p⟩
 ·rw[d] at p; simp[p,hz,rv]
 ·rw[d] at p; simp[p,rv]
theorem d4r {t kt et:TypeId}{M n:Nat}{σ:κ→Option AV}{k:κ}{v:AV}(ok:c6g ek) (m:b8s ek h M σ n) (ht:T.und t=some (.map kt et)) (hk:b5k T kt (ek k)=true) :
  ∃ ob,a8h T t h (.map M) (ek k) v=some (h.set M ob)∧b8s ek (h.set M ob) M (fun q=>if q=k then some v else σ q) (if(σ k).isSome then n else n+1):=by
 obtain⟨a,L,c,b,d,ln⟩:=m
 obtain⟨r,hr,p⟩:=b7w ok k L 0
 rcases p with ⟨rfl,p⟩|⟨j,e,rfl,p1,p2,p⟩
 ·refine⟨.map (a6f ek (L++[(k,v,c)])) (c+1),?_,a,L++[(k,v,c)],c+1,a0a.gs _ _ _,fun q=>?_,?_⟩
  ·simp only[a8h,ht,hk,b,hr]
   simp[a6f]
  ·rw[c4w k v c p,d]
  ·rw[d] at p; simp[p,ln]
 ·have ff:=c2f ok k L 0 j _ hr
  refine⟨.map (a6f ek (L.set j (k,v,e.2.2))) c,?_,a,L.set j (k,v,e.2.2),c,a0a.gs _ _ _,fun q=>?_,?_⟩
  ·have e1:nth (a6f ek L) (0+j)=some (ek e.1,e.2.1,e.2.2):=by rw[c9o,Nat.zero_add]; simp[a6f,p1]
   simp only[a8h,ht,hk,b,hr,e1]
   have e2:=c2t (ek:=ek) (L:=L) j (k,v,e.2.2)
   simp only at e2
   rw[Nat.zero_add,p2,e2]
   simp
  ·rw[c5m k v e.2.2 p1 p2 p ff,d]
  ·rw[d] at p; simp[p,ln]
theorem c9j {t:TypeId}{x y z:Operand}{m k v:AV}(e:a8h T t h m k v=some h') (ho:o.op=.mapUpdate t x y z) (hx:ρ x=some m) (hy:ρ y=some k) (hz:ρ z=some v):opA T ρ o h=.skip h':=by
 cases o; cases ho
 simp only[opA,hx,hy,hz,e]
theorem Row.drop {b off m:Nat}{cs:List AV}(r:Row h b off m cs) (i:Nat) (hi:i≤m):Row h b (off+i) (m-i) (cs.drop i):=by
 obtain⟨r1,e,all,rw,r2,r3,r4⟩:=r
 refine⟨r1,e,all,rw,r2,by omega,?_⟩
 rw[← r4,List.drop_take,List.drop_drop]
end Ev
end
