/- A part of an evaluator of the program's form in Lean, of the proof that what it says of a call is what the machine does, and of the rules by which proofs walk over it. Conditions: those that each theorem states. -/
import Derived.Test.YtmnhbehmjaibgaaGreatGaj
import Derived.ChangeArms
import Derived.Test.YtmnhbehmjaibgaaGreatGap
set_option linter.unusedVariables false
set_option linter.unusedSimpArgs false
section
namespace Ev
open Go Go.RowKit Go.ChangeShapes Go.WideShapes
section
variable {H:Type}{enc:TypeId×Value→H}{P:Program}{w:World}{base:Nat}{spare:Nat→Bool}{held:Bool}
theorem open_fields {r:Reach}{b0:Nat}{t:TypeId}{fs:Array Field}{v:Value}{d:DataW H}{ps:List MemPlace}(ht:P.underlying t=some (.struct fs)) (hval:Value.okWide P w r b0 t v) (hd:DataW.Trod enc P w base spare held t v d ps) :
  ∃ l:List Value,v=.agg l.toArray∧l.length=P.cellsOf t∧∃ n,∀ (i:Nat) (f:Field),fs[i]?=some f→∃ y,DataW.trod enc P w base spare held n f.type ((l.drop f.offset).take (P.cellsOf f.type))=some y:=by
 obtain⟨cs,rfl,hs⟩:=okWide_struct ht hval
 obtain⟨fuel,hf⟩:=hd
 have e:(Value.agg cs).cells.toList=cs.toList:=rfl
 rw[e] at hf
 obtain⟨xs,n,_,_,hl,hx,hall⟩:=DataW.trod_struct ht hf
 refine⟨cs.toList,by simp,by simpa using hl,n,fun i f hi=>?_⟩
 have lt:=(Array.getElem?_eq_some_iff.1 hi).1
 have:=hall i f hi
 rw[List.getElem?_eq_getElem (by omega)] at this
 exact⟨_,this⟩
theorem fld_str {t:TypeId}{n:Nat}{v:Value}(ht:P.underlying t=some .string) (h:∃ y,DataW.trod enc P w base spare held n t [v]=some y):∃ s:ByteArray,v=.string s∧s.size≤maxLen:=by
 obtain⟨y,h⟩:=h
 obtain⟨s,e,_,hw⟩:=DataW.trod_string ht h
 simp only[List.cons.injEq,and_true] at e
 exact⟨s,e,hw⟩
theorem at_str {fs:Array Field}{l:List Value}{n:Nat}(hf:∀ (i:Nat) (f:Field),fs[i]?=some f→∃ y,DataW.trod enc P w base spare held n f.type ((l.drop f.offset).take (P.cellsOf f.type))=some y) (i:Nat){f:Field}(hi:fs[i]?=some f) (hc:P.cellsOf f.type=1){v:Value}(hd:(l.drop f.offset).take 1=[v]) (ht:P.underlying f.type=some .string):∃ s:ByteArray,v=.string s∧s.size≤maxLen:=by
 have h:=hf i f hi
 rw[hc,hd] at h
 exact fld_str ht h
end
end Ev
end
section
namespace Ev
open Go
theorem OwnS.back {h:Heap}{e:TypeId}{sz n k:Nat}{S:Nat→Prop}{v:AV}{cs:List AV}{kd:IntKind}(w:OwnS e sz S h v n cs) (hk:k≤n) (hs:0<sz):∃ v',sliceS sz h v (some (.int kd (k:Nat))) none none=some v'∧Sl h sz v' (n-k) (cs.drop (k*sz)):=by
 cases w with
 |nil =>
  obtain rfl:k=0:=by omega
  exact⟨.nilslice,rfl,rfl,by simp⟩
 |@sl B cap n all cs hb hl hg hn ha hc =>
  have hk':(k:Int)≤(n:Int):=by omega
  refine⟨.slice B (if cap=k then 0 else 0+k*sz) (n-k) (cap-k),?_,rfl,hl,e,all,true,hg,?_,?_⟩
  ·simp[sliceS,boundsA,mxA,hiA,loA,boundA,hk']
  ·have:=Nat.mul_le_mul_right sz hn
   have h2:=Nat.mul_le_mul_right sz hk
   rw[Nat.sub_mul]
   split<;>omega
  ·by_cases c:cap=k
   ·have:n=k:=by omega
    subst this
    rw[Nat.sub_self,Nat.zero_mul,List.take_zero,List.drop_eq_nil_of_le]
    rw[← hc,List.length_take]; omega
   ·rw[if_neg c,← hc,Nat.zero_add,List.drop_take,Nat.sub_mul]
 |@os B cap n all cs hb hl hg hn ha hc =>
  have hkn:(all.length-0) / sz=cap:=by rw[Nat.sub_zero,ha]; exact Nat.mul_div_cancel _ hs
  have hkn2:all.length / sz=cap:=by rw[ha]; exact Nat.mul_div_cancel _ hs
  have hk':(k:Int)≤(n:Int):=by omega
  have b1:loA n (some (.int kd (k:Nat)))=some k:=by simp only[loA,boundA]; rw[if_pos ⟨by omega,hk'⟩]; simp
  by_cases c:k<cap
  ·refine⟨.oslice B (0+k*sz) (n-k) sz,?_,rfl,rfl,hl,e,all,true,hg,?_,?_⟩
   ·simp only[sliceS,hg,hkn,boundsA,mxA,hiA,b1,ne_eq,not_true_eq_false,if_false,c,if_true]
   ·have:=Nat.mul_le_mul_right sz hn
    have h2:=Nat.mul_le_mul_right sz hk
    rw[Nat.sub_mul]
    omega
   ·rw[← hc,Nat.zero_add,List.drop_take,Nat.sub_mul]
  ·by_cases c0:k=0
   ·subst c0
    refine⟨.oslice B 0 n sz,?_,by simp,rfl,hl,e,all,true,hg,?_,?_⟩
    ·simp only[sliceS,hg,hkn,boundsA,mxA,hiA,b1,ne_eq,not_true_eq_false,if_false,c,if_true,Nat.sub_zero,hkn2]
    ·have:n=0:=by omega
     subst this; simp
    ·have:n=0:=by omega
     subst this; simp[← hc]
   ·refine⟨.eslice,?_,by omega,?_⟩
    ·have:n=k:=by omega
     subst this
     simp only[sliceS,hg,hkn,boundsA,mxA,hiA,b1,ne_eq,not_true_eq_false,if_false,c,c0,if_true,hkn2,Nat.sub_zero,Nat.lt_irrefl]
    ·have:n=k:=by omega
     subst this
     rw[List.drop_eq_nil_of_le]
     rw[← hc,List.length_take]; omega
end Ev
end
section
namespace Ev
open Go
variable {T:Tabs}{h h':Heap}{cx:Cx}{k:List K}{Q:Res→Prop}{all rest:List Oper}{df:List ADef}{pan:Option (AV×Bool)}{L:List (Nat×AV)}{tm:Tr AV}{o:Oper}{d:Nat}
def pendK (pend:Option Code) (k:List K):List K:=match pend with
 |none=>k
 |some c=>.code c::k
theorem go_range2 {fo:Operand}{params:Array Nat}{as bd:Code}{g:FuncId}{first cap:List AV}{F:Func}{c:Code}{P:Heap→Prop}(hr:cx.round=none) (hf:env tm fo=some (.func (.func g) first cap)) (hF:T.fn g=some F) (hb:F.body=some c)
  (hc:Gives T g (first++[.func (.yield (h.next+1)) [] []]++cap) ((h.alloc (.dfr (some []))).alloc (.loop .ready none cx.fn tm cx.nt params.toList as bd h.next)) fun _ h4=>P h4)
  (q:∀ h4,P h4→∃ st pend fn' tm' nt' ps as' bd' d,h4.get (h.next+1)=some (.loop st pend fn' tm' nt' ps as' bd' d)∧st≠.busy∧Goes T cx (pendK pend k) ⟨tm,.collected h.next::df,pan,h4.set (h.next+1) (.loop .exhausted pend fn' tm' nt' ps as' bd' d)⟩ Q) :
  Goes T cx (.code (.rangeFunc fo params as bd)::k) ⟨tm,df,pan,h⟩ Q:=by
 refine Wp.bind (t':=.call g (first++[.func (.yield (h.next+1)) [] []]++cap) ((h.alloc (.dfr (some []))).alloc (.loop .ready none cx.fn tm cx.nt params.toList as bd h.next))) (fun rec r=>match r with
     |.ret _ h4=>match h4.get (h.next+1) with
      |some (.loop st pend fn' tm' nt' ps as bd d)=>match st with
       | .busy => .no "rangeFunc: busy" []
       |_ =>
        let s5:St:=⟨tm,.collected h.next::df,pan,h4.set (h.next+1) (.loop .exhausted pend fn' tm' nt' ps as bd d)⟩
        match pend with
        |none=>.fin .normal s5
        |some c=>rec (.code cx c s5)
      | _ => .no "rangeFunc: no loop" []
     |.thrown v h4=>.pan v ⟨tm,.collected h.next::df,pan,h4⟩
     |r=>r) (fun rec=>?_) (Wp.mono hc ?_)
 ·simp only[step,hf,startLoop,hr,invokeA,hF,hb]
  rfl
 ·rintro _ ⟨v,h4,rfl,p⟩
  obtain⟨st,pend,fn',tm',nt',ps,as',bd',d,hg,hst,w⟩:=q h4 p
  cases pend with
  |none =>
   refine⟨.fin .normal ⟨tm,.collected h.next::df,pan,h4.set (h.next+1) (.loop .exhausted none fn' tm' nt' ps as' bd' d)⟩,⟨0,fun _ _=>?_⟩,w⟩
   simp only[hg]
  |some c =>
   have w:Wp T (.code cx c ⟨tm,.collected h.next::df,pan,h4.set (h.next+1) (.loop .exhausted (some c) fn' tm' nt' ps as' bd' d)⟩) (after T cx k Q):=w
   obtain⟨r,⟨N,hr⟩,w⟩:=w
   refine⟨r,⟨N,fun n hn=>?_⟩,w⟩
   simp only[hg]
   exact hr n hn
theorem jg_range2 {fo:Operand}{params:Array Nat}{as bd:Code}{g:FuncId}{first cap:List AV}{F:Func}{c:Code}{P:Heap→Prop}(hr:cx.round=none) (hf:envL L fo=some (.func (.func g) first cap)) (hF:T.fn g=some F) (hb:F.body=some c)
  (hc:∀ tm,Sees tm L→Gives T g (first++[.func (.yield (h.next+1)) [] []]++cap) ((h.alloc (.dfr (some []))).alloc (.loop .ready none cx.fn tm cx.nt params.toList as bd h.next)) fun _ h4=>P h4)
  (q:∀ h4,P h4→∃ st pend fn' tm' nt' ps as' bd' d,h4.get (h.next+1)=some (.loop st pend fn' tm' nt' ps as' bd' d)∧st≠.busy∧GJ T cx (pendK pend k) L (.collected h.next::df) pan (h4.set (h.next+1) (.loop .exhausted pend fn' tm' nt' ps as' bd' d)) Q) :
  GJ T cx (.code (.rangeFunc fo params as bd)::k) L df pan h Q :=
 ⟨fun tm hs=>⟨go_range2 hr ((hs.env hf)) hF hb (hc tm hs) fun h4 p=>by
  obtain⟨st,pend,fn',tm',nt',ps,as',bd',d,e1,e2,e3⟩:=q h4 p
  exact⟨st,pend,fn',tm',nt',ps,as',bd',d,e1,e2,(e3.out tm hs).out⟩⟩⟩
def exV:Ex→AV
 |.normal=>.bool true
 |_=>.bool false
def exO (e:Ex) (fn:FuncId) (tm:Tr AV) (nt:Nat) (ps:List Tmp) (as bd:Code) (d:Nat):AObj:=match e with
 |.normal=>.loop .ready none fn tm nt ps as bd d
 |e=>.loop .done (some (goCode e)) fn tm nt ps as bd d
theorem roundB_fin {l:Nat}{fn:FuncId}{e:Ex}{tm2:Tr AV}{h2:Heap}{st2:LoopState}{pend2:Option Code}{fn2:FuncId}{tm3:Tr AV}{nt2:Nat}{ps2:List Tmp}{as2 bd2:Code}{d2:Nat}(hl:h2.get l=some (.loop st2 pend2 fn2 tm3 nt2 ps2 as2 bd2 d2)) :
  roundB T l fn (.fin e ⟨tm2,[],none,h2⟩)=.ret (exV e) (h2.set l (exO e fn2 tm3 nt2 ps2 as2 bd2 d2)):=by
 cases e<;>simp only[roundB,hl,exV,exO]
theorem round_of2 {l:Nat}{fn:FuncId}{tm0:Tr AV}{nt:Nat}{as bd:Code}{P:AV→Heap→Prop}{L:List (Nat×AV)}(hs:Sees tm0 L)
  (g:GJ T { fn:=fn,nt:=nt,round:=some l } [.code as] L [] none h fun r=>∃ tm1 h1 L1 pend fn' tm' nt' ps as' bd' dd,r=.fin .normal ⟨tm1,[],none,h1⟩∧Sees tm1 L1∧h1.get l=some (.loop .ready pend fn' tm' nt' ps as' bd' dd) ∧
   GJ T { fn:=fn,nt:=nt,round:=some l } [.code bd] L1 [] none (h1.set l (.loop .busy pend fn' tm' nt' ps as' bd' dd)) fun r=>∃ e tm2 h2 st2 pend2 fn2 tm3 nt2 ps2 as2 bd2 d2,r=.fin e ⟨tm2,[],none,h2⟩∧h2.get l=some (.loop st2 pend2 fn2 tm3 nt2 ps2 as2 bd2 d2)∧P (exV e) (h2.set l (exO e fn2 tm3 nt2 ps2 as2 bd2 d2))):RGives T l fn tm0 nt as bd h P:=by
 refine Wp.bind (t':=.code { fn:=fn,nt:=nt,round:=some l } as { tm:=tm0,df:=[],pan:=none,h:=h }) (roundA T l fn nt bd) (fun rec=>?_) (Wp.mono (g.out tm0 hs).out ?_)
 ·show bindR _ _=bindR _ _
  congr 1
 ·rintro _ ⟨tm1,h1,L1,pend,fn',tm',nt',ps,as',bd',dd,rfl,s1,hl,g2⟩
  have w2:Wp T (.code { fn:=fn,nt:=nt,round:=some l } bd { tm:=tm1,df:=[],pan:=none,h:=h1.set l (.loop .busy pend fn' tm' nt' ps as' bd' dd) }) _:=(g2.out tm1 s1).out
  obtain⟨r,⟨N,hr⟩,kk⟩:=Wp.mono (Q':=fun r=>∃ r',(∃ N,∀ n,N≤n→(fun(_:Nat)=>roundB T l fn) n r=r')∧Leaves (fun r=>∃ v h',r=.ret v h'∧P v h') r') w2 (by
   rintro _ ⟨e,tm2,h2,st2,pend2,fn2,tm3,nt2,ps2,as2,bd2,d2,rfl,hl2,p⟩
   exact⟨.ret (exV e) (h2.set l (exO e fn2 tm3 nt2 ps2 as2 bd2 d2)),⟨0,fun _ _=>roundB_fin hl2⟩,⟨_,_,rfl,p⟩⟩)
  obtain⟨r',⟨N',hr'⟩,q⟩:=bind_leaves (fun _=>roundB T l fn) r kk
  refine⟨r',⟨N+N',fun n hn=>?_⟩,q⟩
  simp only[roundA,hl]
  rw[hr n (by omega)]
  exact hr' n (by omega)
structure YldB {α:Type}(T:Tabs) (l:Nat) (args:α→List AV) (A:List α→α→Prop) (I:(Nat→Prop)→List α→Bool→Heap→Prop):Prop where
 call:∀ (S:Nat→Prop) (acc:List α) (s:α) (h:Heap),acc.length≤500000→A acc s→I S acc true h→∃ fn tm nt asg bd,invokeA T (.yield l) [] (args s) h=.round l fn tm nt asg bd h∧RGives T l fn tm nt asg bd h (fun v h'=>∃ b,v=.bool b∧Touch S h h'∧∃ S':Nat→Prop,(∀ c,S' c→S c∨h.next≤c)∧I S' (acc++[s]) b h')
 low:∀ (S:Nat→Prop) (acc:List α) (b:Bool) (h:Heap),I S acc b h→∀ c,S c→c<h.next
 stable:∀ (S:Nat→Prop) (acc:List α) (b:Bool) (h h':Heap),I S acc b h→h.next≤h'.next→(∀ c,S c→c<h.next→h'.get c=h.get c)→(h.ok→h'.ok)→I S acc b h'
theorem yldB_of {α:Type}{T:Tabs}{l:Nat}{args:α→List AV}{A:List α→α→Prop}{I:(Nat→Prop)→List α→Bool→Heap→Prop}{fn:FuncId}{tm:Tr AV}{nt dd:Nat}{ps:List Tmp}{as bd:Code}(hp:∀ s,(args s).length=ps.length) (hn:(ps.all fun p=>Nat.blt p nt)=true)
  (gl:∀ S acc h,I S acc true h→h.get l=some (.loop .ready none fn tm nt ps as bd dd))
  (low:∀ (S:Nat→Prop) (acc:List α) (b:Bool) (h:Heap),I S acc b h→∀ c,S c→c<h.next)
  (stable:∀ (S:Nat→Prop) (acc:List α) (b:Bool) (h h':Heap),I S acc b h→h.next≤h'.next→(∀ c,S c→c<h.next→h'.get c=h.get c)→(h.ok→h'.ok)→I S acc b h')
  (rnd:∀ (S:Nat→Prop) (acc:List α) (s:α) (h:Heap),acc.length≤500000→A acc s→I S acc true h→RGives T l fn (setParams tm ps (args s)) nt as bd h (fun v h'=>∃ b,v=.bool b∧Touch S h h'∧∃ S':Nat→Prop,(∀ c,S' c→S c∨h.next≤c)∧I S' (acc++[s]) b h')):YldB T l args A I where
 call:=fun S acc s h hl a i=>⟨fn,_,nt,as,bd,by simp only[invokeA,gl S acc h i,hp s,hn]; simp,rnd S acc s h hl a i⟩
 low:=low
 stable:=stable
end Ev
end
section
namespace Ev
open Go Go.RowKit
structure Inr where
 a:Addr
 e:TypeId
 z:Nat
 cs:List AV
def enIn (l:List Inr):En:=⟨fun b=>match l[b]? with|some x=>x.a.block|none=>0,fun b=>match l[b]? with|some x=>x.a.off|none=>0,fun b=>match l[b]? with|some x=>x.z|none=>0,fun b=>b<l.length⟩
def heapIn (l:List Inr):Heap:=l.foldl (fun h x=>h.alloc (.cells x.e x.cs false)) ⟨.nil,0⟩
theorem heapIn_snoc (l:List Inr) (x:Inr):heapIn (l++[x])=(heapIn l).alloc (.cells x.e x.cs false):=by simp[heapIn]
theorem heapIn_all (l:List Inr):(heapIn l).ok∧(heapIn l).next=l.length∧∀ b,(heapIn l).get b=(l[b]?).map fun x=>.cells x.e x.cs false:=by
 suffices H:∀ r:List Inr,(heapIn r.reverse).ok∧(heapIn r.reverse).next=r.reverse.length∧∀ b,(heapIn r.reverse).get b=(r.reverse[b]?).map fun x=>.cells x.e x.cs false by
  have:=H l.reverse
  rwa [List.reverse_reverse] at this
 intro r
 induction r with
 |nil=>exact⟨ok_nil,rfl,fun b=>by rw[List.reverse_nil]; exact Tr.get_nil b⟩
 |cons x r ih =>
  obtain⟨k,n,g⟩:=ih
  rw[List.reverse_cons,heapIn_snoc]
  refine⟨ok_al k _,by show(heapIn r.reverse).next+1=_; rw[n]; simp,fun b=>?_⟩
  rw[Heap.get_alloc,n]
  by_cases c:b=r.reverse.length
  ·rw[if_pos c,c]; simp
  ·rw[if_neg c,g]
   congr 1
   by_cases d:b<r.reverse.length
   ·rw[List.getElem?_append_left d]
   ·rw[List.getElem?_eq_none (by omega),List.getElem?_eq_none (by simp at c d ⊢; omega)]
theorem heapIn_ext (l m:List Inr):Ext (heapIn l) (heapIn (l++m)):=by
 suffices H:∀ r:List Inr,Ext (heapIn l) (heapIn (l++r.reverse)) by
  have:=H m.reverse
  rwa [List.reverse_reverse] at this
 intro r
 induction r with
 |nil=>rw[List.reverse_nil,List.append_nil]; exact .refl _
 |cons x r ih=>rw[List.reverse_cons,← List.append_assoc,heapIn_snoc]; exact ih.al _
theorem enIn_le (l m:List Inr):(enIn l).Le (enIn (l++m)):=by
 have g:∀ b,b<l.length→(l++m)[b]?=l[b]?:=fun b hb=>List.getElem?_append_left hb
 refine⟨fun b h=>?_,fun b h=>?_,fun b h=>?_,fun b h=>?_⟩
 ·have h:b<l.length:=h
  show b<(l++m).length
  rw[List.length_append]; omega
 all_goals (simp only[enIn]; rw[g b h])
def InOK (W:World) (l:List Inr):Prop:=∀ (b:Nat) (x:Inr),l[b]?=some x→∃ (c':Array Value) (z:Nat×Nat),W.heap[x.a.block]?=some (.cells c' x.e z)∧c'.size=x.a.off+x.z∧x.cs.length≤x.z∧∀ (i:Nat) (v:AV),x.cs[i]?=some v→∃ v',c'[x.a.off+i]?=some v'∧VR (enIn l) v v'
theorem in_nil (W:World):InOK W []:=fun b x h=>by simp at h
theorem in_add {W:World}{l:List Inr}(ok:InOK W l) (x:Inr) (h:∃ (c':Array Value) (z:Nat×Nat),W.heap[x.a.block]?=some (.cells c' x.e z)∧c'.size=x.a.off+x.z∧x.cs.length≤x.z∧∀ (i:Nat) (v:AV),x.cs[i]?=some v→∃ v',c'[x.a.off+i]?=some v'∧VR (enIn l) v v'):InOK W (l++[x]):=by
 intro b y hb
 have K:∃ (c':Array Value) (z:Nat×Nat),W.heap[y.a.block]?=some (.cells c' y.e z)∧c'.size=y.a.off+y.z∧y.cs.length≤y.z∧∀ (i:Nat) (v:AV),y.cs[i]?=some v→∃ v',c'[y.a.off+i]?=some v'∧VR (enIn l) v v':=by
  by_cases c:b<l.length
  ·rw[List.getElem?_append_left c] at hb
   exact ok b y hb
  ·rw[List.getElem?_append_right (by omega)] at hb
   obtain⟨hi,e⟩:=List.getElem?_eq_some_iff.1 hb
   simp at e
   subst e
   exact h
 obtain⟨c',z,h1,h2,h3,h4⟩:=K
 refine⟨c',z,h1,h2,h3,fun i v hv=>?_⟩
 obtain⟨v',a,b⟩:=h4 i v hv
 exact⟨v',a,b.mono (enIn_le l [x])⟩
theorem hr_in {W:World}{l:List Inr}(ok:InOK W l):HR W.heap.size W (enIn l) (heapIn l) W:=by
 obtain⟨k,n,g⟩:=heapIn_all l
 have blk:∀ b x,l[b]?=some x→(enIn l).blk b=x.a.block∧(enIn l).off b=x.a.off∧(enIn l).ext b=x.z:=fun b x h=>by simp[enIn,h]
 have lt:∀ b,b<l.length→(enIn l).blk b<W.heap.size:=by
  intro b hb
  have hx:l[b]?=some l[b]:=by simp[hb]
  obtain⟨c',z,h1,_⟩:=ok b _ hx
  rw[(blk b _ hx).1]
  exact(Array.getElem?_eq_some_iff.1 h1).1
 refine⟨fun b h=>by rw[n]; exact h,fun b o h hg=>?_,fun b b' o o' _ _ hg _ w1=>?_,Below.refl _ _,Nat.le_refl _,Nat.le_refl _,fun b h=>lt b h⟩
 ·rw[g] at hg
  cases hx:l[b]? with
  |none=>rw[hx] at hg; cases hg
  |some x =>
   rw[hx] at hg
   cases hg
   obtain⟨c',z,h1,h2,h3,h4⟩:=ok b x hx
   obtain⟨b1,b2,b3⟩:=blk b x hx
   have hl:=lt b h
   refine⟨c',z,by rw[b1]; exact h1,by rw[b2,b3]; exact h2,by rw[b3]; exact h3,fun i v hv=>by rw[b2]; exact h4 i v hv,(fun q=>by cases q),fun _=>hl⟩
 ·rw[g] at hg
  cases hx:l[b]? with
  |none=>rw[hx] at hg; cases hg
  |some x=>rw[hx] at hg; cases hg; cases w1
theorem cell_at {W:World}{a:Addr}{v:Value}(h:W.cell? a=some v):a.spot=none∧∃ c' e z,W.heap[a.block]?=some (.cells c' e z)∧c'[a.off]?=some v:=by
 unfold World.cell? at h
 cases hh:W.heap[a.block]? with
 |none=>rw[hh] at h; cases h
 |some o =>
  rw[hh] at h
  cases o with
  |cells c e z =>
   cases hs:a.spot with
   |none=>simp[hs] at h; exact⟨rfl,c,e,z,rfl,h⟩
   |some q=>simp[hs] at h
  |_=>cases h
theorem slice_in {α:Type}{enc:α→List AV}{sz:Nat}(hs:∀ x,(enc x).length=sz) (h0:0<sz){W:World}{l:List Inr}(ok:InOK W l){a:Addr}{n cap:Nat}{xs:List α}{vs:Nat→List Value}(hn:0<n) (hx:xs.length=n) (hv:∀ i,i<n→∀ r v,(vs i)[r]?=some v→W.cell? (a.add (i*sz+r))=some v) (hr:∀ (i:Nat) (x:α),xs[i]?=some x→VRs (enIn l) (enc x) (vs i)) :
  ∃ x:Inr,InOK W (l++[x])∧VR (enIn (l++[x])) (.slice l.length 0 n cap) (.slice (some a) n cap)∧Ls enc sz (heapIn (l++[x])) (.slice l.length 0 n cap) xs:=by
 have get:∀ i,i<n→∀ r v,(vs i)[r]?=some v→∃ c' e z,W.heap[a.block]?=some (.cells c' e z)∧c'[a.off+(i*sz+r)]?=some v:=by
  intro i hi r v e
  obtain⟨s,c',t,z,h1,h2⟩:=cell_at (hv i hi r v e)
  by_cases z0:i*sz+r=0
  ·rw[z0] at h1 h2 ⊢
   have ea:a.add 0=a:=by unfold Addr.add; rw[if_pos rfl]
   rw[ea] at h1 h2
   exact⟨c',t,z,h1,h2⟩
  ·unfold Addr.add at h1 h2
   rw[if_neg z0] at h1 h2
   exact⟨c',t,z,h1,h2⟩
 have len:∀ i,i<n→(vs i).length=sz:=fun i hi=>by
  have hx0:xs[i]?=some (xs[i]'(by omega)):=by simp
  rw[← (hr i _ hx0).length,hs]
 have spot:a.spot=none:=by
  have l0:=len 0 hn
  have e0:(vs 0)[0]?=some ((vs 0)[0]'(by omega)):=by simp
  obtain⟨s,_⟩:=cell_at (hv 0 hn 0 _ e0)
  have ea:a.add (0*sz+0)=a:=by unfold Addr.add; rw[if_pos (by omega)]
  rwa [ea] at s
 obtain⟨c',e,z,hh⟩:∃ c' e z,W.heap[a.block]?=some (.cells c' e z):=by
  have l0:=len 0 hn
  have e0:(vs 0)[0]?=some ((vs 0)[0]'(by omega)):=by simp
  obtain⟨c',e,z,h1,_⟩:=get 0 hn 0 _ e0
  exact⟨c',e,z,h1⟩
 have get:∀ i,i<n→∀ r v,(vs i)[r]?=some v→c'[a.off+(i*sz+r)]?=some v:=by
  intro i hi r v q
  obtain⟨c2,e2,z2,h1,h2⟩:=get i hi r v q
  rw[hh] at h1
  cases h1
  exact h2
 have flen:(xs.flatMap enc).length=n*sz:=by rw[flat_len hs,hx]
 have hsz:a.off+n*sz≤c'.size:=by
  have l1:=len (n-1) (by omega)
  have e1:(vs (n-1))[sz-1]?=some ((vs (n-1))[sz-1]'(by omega)):=by simp
  have q:=(Array.getElem?_eq_some_iff.1 (get (n-1) (by omega) (sz-1) _ e1)).1
  have m:(n-1)*sz+sz=n*sz:=by
   obtain⟨k,rfl⟩:∃ k,n=k+1:=⟨n-1,by omega⟩
   rw[Nat.add_sub_cancel,Nat.succ_mul]
  omega
 obtain⟨_,nx,g⟩:=heapIn_all (l++[(⟨a,e,c'.size-a.off,xs.flatMap enc⟩:Inr)])
 refine⟨⟨a,e,c'.size-a.off,xs.flatMap enc⟩,in_add ok _ ⟨c',z,hh,by show _=a.off+(c'.size-a.off); omega,by show(xs.flatMap enc).length≤c'.size-a.off; omega,fun i v q=>?_⟩,?_,?_⟩
 ·have q:(xs.flatMap enc)[i]?=some v:=q
  have hi:i<n*sz:=by
   have:=(List.getElem?_eq_some_iff.1 q).1
   omega
  have hd:i / sz<n:=by rw[Nat.div_lt_iff_lt_mul h0]; exact hi
  have hm:=Nat.mod_lt i h0
  have ei:i / sz*sz+i % sz=i:=by rw[Nat.mul_comm]; exact Nat.div_add_mod i sz
  have hx0:xs[i / sz]?=some (xs[i / sz]'(by omega)):=by simp
  have f:=flat_at hs xs (i / sz) _ hx0
  have fe:(enc (xs[i / sz]'(by omega)))[i % sz]?=some v:=by
   rw[← f,List.getElem?_take,if_pos hm,List.getElem?_drop,ei]
   exact q
  obtain⟨v',k1,k2⟩:=(hr _ _ hx0).get fe
  have k3:=get _ hd _ _ k1
  rw[ei] at k3
  exact⟨v',k3,k2⟩
 ·have hd:(enIn (l++[(⟨a,e,c'.size-a.off,xs.flatMap enc⟩:Inr)])).dom l.length:=by show l.length<_; simp
  have:=VR.slice (E:=enIn (l++[(⟨a,e,c'.size-a.off,xs.flatMap enc⟩:Inr)])) l.length 0 n cap hd
  have ea:(enIn (l++[(⟨a,e,c'.size-a.off,xs.flatMap enc⟩:Inr)])).at l.length 0=a:=by
   unfold En.at
   simp[enIn]
   rw[← spot]
  rwa [ea] at this
 ·refine⟨hx.symm,?_,e,xs.flatMap enc,false,?_,by rw[hx,flen]; omega,by rw[hx,List.drop_zero,List.take_of_length_le (by omega)]⟩
  ·rw[nx]; simp
  ·rw[g]; simp
end Ev
end
