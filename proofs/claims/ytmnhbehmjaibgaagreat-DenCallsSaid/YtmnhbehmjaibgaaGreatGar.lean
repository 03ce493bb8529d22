/- A part of an evaluator of the program's form in Lean, of the proof that what it says of a call is what the machine does, and of the rules by which proofs walk over it. Conditions: those that each theorem states. -/
import Derived.Test.YtmnhbehmjaibgaaGreatGaj
import Derived.ChangeArms
import Derived.Test.YtmnhbehmjaibgaaGreatGap
set_option linter.unusedVariables false
set_option linter.unusedSimpArgs false
section
namespace Ev
open Go Go.RowKit Go.ChangeShapes Go.WideShapes
section
variable {H:Type}{enc:TypeId×Value→H}{P:Program}{w:World}{base:Nat}{spare:Nat→Bool}{held:Bool}
theorem d1k {r:Reach}{b0:Nat}{t:TypeId}{fs:Array Field}{v:Value}{d:DataW H}{ps:List MemPlace}(ht:P.underlying t=some (.struct fs)) (hval:Value.okWide P w r b0 t v) (hd:DataW.Trod enc P w base spare held t v d ps) :
  ∃ l:List Value,v=.agg l.toArray∧l.length=P.cellsOf t∧∃ n,∀ (i:Nat) (f:Field),fs[i]?=some f→∃ y,DataW.trod enc P w base spare held n f.type ((l.drop f.offset).take (P.cellsOf f.type))=some y:=by
 obtain⟨cs,rfl,hs⟩:=okWide_struct ht hval
 obtain⟨fuel,hf⟩:=hd
 have e:(Value.agg cs).cells.toList=cs.toList:=rfl
 rw[e] at hf
 obtain⟨xs,n,_,_,hl,hx,hall⟩:=DataW.trod_struct ht hf
 refine⟨cs.toList,by simp,by simpa using hl,n,fun i f hi=>?_⟩
 have lt:=(Array.getElem?_eq_some_iff.1 hi).1
 have:=hall i f hi
 rw[List.getElem?_eq_getElem (by omega)] at this
 exact⟨_,this⟩
theorem e7d {t:TypeId}{n:Nat}{v:Value}(ht:P.underlying t=some .string) (h:∃ y,DataW.trod enc P w base spare held n t [v]=some y):∃ s:ByteArray,v=.string s∧s.size≤maxLen:=by
 obtain⟨y,h⟩:=h
 obtain⟨s,e,_,hw⟩:=DataW.trod_string ht h
 simp only[List.cons.injEq,and_true] at e
 exact⟨s,e,hw⟩
theorem d4c {fs:Array Field}{l:List Value}{n:Nat}(hf:∀ (i:Nat) (f:Field),fs[i]?=some f→∃ y,DataW.trod enc P w base spare held n f.type ((l.drop f.offset).take (P.cellsOf f.type))=some y) (i:Nat){f:Field}(hi:fs[i]?=some f) (hc:P.cellsOf f.type=1){v:Value}(hd:(l.drop f.offset).take 1=[v]) (ht:P.underlying f.type=some .string):∃ s:ByteArray,v=.string s∧s.size≤maxLen:=by
 have h:=hf i f hi
 rw[hc,hd] at h
 exact e7d ht h
end
end Ev
end
section
namespace Ev
open Go
theorem a1l.back {h:a0a}{e:TypeId}{sz n k:Nat}{S:Nat→Prop}{v:AV}{cs:List AV}{kd:IntKind}(w:a1l e sz S h v n cs) (hk:k≤n) (hs:0<sz):∃ v',a3f sz h v (some (.int kd (k:Nat))) none none=some v'∧Sl h sz v' (n-k) (cs.drop (k*sz)):=by
 cases w with
 |nil =>
  obtain rfl:k=0:=by omega
  exact⟨.nilslice,rfl,rfl,by simp⟩
 |@sl B cap n all cs hb hl hg hn ha hc =>
  have hk':(k:Int)≤(n:Int):=by omega
  refine⟨.slice B (if cap=k then 0 else 0+k*sz) (n-k) (cap-k),?_,rfl,hl,e,all,true,hg,?_,?_⟩
  ·simp[a3f,a2x,mxA,hiA,loA,a5f,hk']
  ·have:=Nat.mul_le_mul_right sz hn
   have h2:=Nat.mul_le_mul_right sz hk
   rw[Nat.sub_mul]
   split<;>omega
  ·by_cases c:cap=k
   ·have:n=k:=by omega
    subst this
    rw[Nat.sub_self,Nat.zero_mul,List.take_zero,List.drop_eq_nil_of_le]
    rw[← hc,List.length_take]; omega
   ·rw[if_neg c,← hc,Nat.zero_add,List.drop_take,Nat.sub_mul]
 |@os B cap n all cs hb hl hg hn ha hc =>
  have hkn:(all.length-0) / sz=cap:=by rw[Nat.sub_zero,ha]; exact Nat.mul_div_cancel _ hs
  have hkn2:all.length / sz=cap:=by rw[ha]; exact Nat.mul_div_cancel _ hs
  have hk':(k:Int)≤(n:Int):=by omega
  have b1:loA n (some (.int kd (k:Nat)))=some k:=by simp only[loA,a5f]; rw[if_pos ⟨by omega,hk'⟩]; simp
  by_cases c:k<cap
  ·refine⟨.oslice B (0+k*sz) (n-k) sz,?_,rfl,rfl,hl,e,all,true,hg,?_,?_⟩
   ·simp only[a3f,hg,hkn,a2x,mxA,hiA,b1,ne_eq,not_true_eq_false,if_false,c,if_true]
   ·have:=Nat.mul_le_mul_right sz hn
    have h2:=Nat.mul_le_mul_right sz hk
    rw[Nat.sub_mul]
    omega
   ·rw[← hc,Nat.zero_add,List.drop_take,Nat.sub_mul]
  ·by_cases c0:k=0
   ·subst c0
    refine⟨.oslice B 0 n sz,?_,by simp,rfl,hl,e,all,true,hg,?_,?_⟩
    ·simp only[a3f,hg,hkn,a2x,mxA,hiA,b1,ne_eq,not_true_eq_false,if_false,c,if_true,Nat.sub_zero,hkn2]
    ·have:n=0:=by omega
     subst this; simp
    ·have:n=0:=by omega
     subst this; simp[← hc]
   ·refine⟨.eslice,?_,by omega,?_⟩
    ·have:n=k:=by omega
     subst this
     simp only[a3f,hg,hkn,a2x,mxA,hiA,b1,ne_eq,not_true_eq_false,if_false,c,c0,if_true,hkn2,Nat.sub_zero,Nat.lt_irrefl]
    ·have:n=k:=by omega
     subst this
     rw[List.drop_eq_nil_of_le]
     rw[← hc,List.length_take]; omega
theorem a1l.d1l {h h':a0a}{e:TypeId}{sz n:Nat}{S:Nat→Prop}{v:AV}{cs:List AV}(w:a1l e sz S h v n cs) (k:∀ b,S b→b<h.next→h'.get b=h.get b) (lo hi mx:Option AV):a3f sz h' v lo hi mx=a3f sz h v lo hi mx:=by
 cases w with
 |nil=>rfl
 |sl hb hl hg hn ha hc=>rfl
 |os hb hl hg hn ha hc=>simp only[a3f,k _ hb hl]
end Ev
end
section
namespace Ev
open Go
variable {T:a0n}{h h':a0a}{cx:Cx}{k:List K}{Q:Res→Prop}{all rest:List Oper}{df:List ADef}{pan:Option (AV×Bool)}{L:List (Nat×AV)}{tm:Tr AV}{o:Oper}{d:Nat}
def f0k (pend:Option Code) (k:List K):List K:=match pend with
 |none=>k
 |some c=>.code c::k
theorem d9k {fo:Operand}{params:Array Nat}{as bd:Code}{g:FuncId}{first cap:List AV}{F:Func}{c:Code}{P:a0a→Prop}(hr:cx.round=none) (hf:env tm fo=some (.func (.func g) first cap)) (hF:T.fn g=some F) (hb:F.body=some c)
  (hc:a0l T g (first++[.func (.yield (h.next+1)) [] []]++cap) ((h.alloc (.dfr (some []))).alloc (.loop .ready none cx.fn tm cx.nt params.toList as bd h.next)) fun _ h4=>P h4)
  (q:∀ h4,P h4→∃ st pend fn' tm' nt' ps as' bd' d,h4.get (h.next+1)=some (.loop st pend fn' tm' nt' ps as' bd' d)∧st≠.busy∧a3q T cx (f0k pend k) ⟨tm,.collected h.next::df,pan,h4.set (h.next+1) (.loop .exhausted pend fn' tm' nt' ps as' bd' d)⟩ Q) :
  a3q T cx (.code (.rangeFunc fo params as bd)::k) ⟨tm,df,pan,h⟩ Q:=by
 refine Wp.bind (t':=.call g (first++[.func (.yield (h.next+1)) [] []]++cap) ((h.alloc (.dfr (some []))).alloc (.loop .ready none cx.fn tm cx.nt params.toList as bd h.next))) (fun rec r=>match r with
     |.ret _ h4=>match h4.get (h.next+1) with
      |some (.loop st pend fn' tm' nt' ps as bd d)=>match st with
       | .busy => .no "rangeFunc: busy" []
       |_ =>
        let s5:St:=⟨tm,.collected h.next::df,pan,h4.set (h.next+1) (.loop .exhausted pend fn' tm' nt' ps as bd d)⟩
        match pend with
        |none=>.fin .normal s5
        |some c=>rec (.code cx c s5)
      | _ => .no "rangeFunc: no loop" []
     |.thrown v h4=>.pan v ⟨tm,.collected h.next::df,pan,h4⟩
     |r=>r) (fun rec=>?_) (Wp.mono hc ?_)
 ·simp only[step,hf,b4q,hr,a4y,hF,hb]
  rfl
 ·rintro _ ⟨v,h4,rfl,p⟩
  obtain⟨st,pend,fn',tm',nt',ps,as',bd',d,hg,hst,w⟩:=q h4 p
  cases pend with
  |none =>
   refine⟨.fin .normal ⟨tm,.collected h.next::df,pan,h4.set (h.next+1) (.loop .exhausted none fn' tm' nt' ps as' bd' d)⟩,⟨0,fun _ _=>?_⟩,w⟩
   simp only[hg]
  |some c =>
   have w:Wp T (.code cx c ⟨tm,.collected h.next::df,pan,h4.set (h.next+1) (.loop .exhausted (some c) fn' tm' nt' ps as' bd' d)⟩) (after T cx k Q):=w
   obtain⟨r,⟨N,hr⟩,w⟩:=w
   refine⟨r,⟨N,fun n hn=>?_⟩,w⟩
   simp only[hg]
   exact hr n hn
theorem b9c {fo:Operand}{params:Array Nat}{as bd:Code}{g:FuncId}{first cap:List AV}{F:Func}{c:Code}{P:a0a→Prop}(hr:cx.round=none) (hf:a1u L fo=some (.func (.func g) first cap)) (hF:T.fn g=some F) (hb:F.body=some c)
  (hc:∀ tm,a0m tm L→a0l T g (first++[.func (.yield (h.next+1)) [] []]++cap) ((h.alloc (.dfr (some []))).alloc (.loop .ready none cx.fn tm cx.nt params.toList as bd h.next)) fun _ h4=>P h4)
  (q:∀ h4,P h4→∃ st pend fn' tm' nt' ps as' bd' d,h4.get (h.next+1)=some (.loop st pend fn' tm' nt' ps as' bd' d)∧st≠.busy∧GJ T cx (f0k pend k) L (.collected h.next::df) pan (h4.set (h.next+1) (.loop .exhausted pend fn' tm' nt' ps as' bd' d)) Q) :
  GJ T cx (.code (.rangeFunc fo params as bd)::k) L df pan h Q :=
 ⟨fun tm hs=>⟨d9k hr ((hs.env hf)) hF hb (hc tm hs) fun h4 p=>by
  obtain⟨st,pend,fn',tm',nt',ps,as',bd',d,e1,e2,e3⟩:=q h4 p
  exact⟨st,pend,fn',tm',nt',ps,as',bd',d,e1,e2,(e3.out tm hs).out⟩⟩⟩
def exV:Ex→AV
 |.normal=>.bool true
 |_=>.bool false
def exO (e:Ex) (fn:FuncId) (tm:Tr AV) (nt:Nat) (ps:List Tmp) (as bd:Code) (d:Nat):a1t:=match e with
 |.normal=>.loop .ready none fn tm nt ps as bd d
 |e=>.loop .done (some (goCode e)) fn tm nt ps as bd d
theorem d4y {l:Nat}{fn:FuncId}{e:Ex}{tm2:Tr AV}{h2:a0a}{st2:LoopState}{pend2:Option Code}{fn2:FuncId}{tm3:Tr AV}{nt2:Nat}{ps2:List Tmp}{as2 bd2:Code}{d2:Nat}(hl:h2.get l=some (.loop st2 pend2 fn2 tm3 nt2 ps2 as2 bd2 d2)) :
  c4j T l fn (.fin e ⟨tm2,[],none,h2⟩)=.ret (exV e) (h2.set l (exO e fn2 tm3 nt2 ps2 as2 bd2 d2)):=by
 cases e<;>simp only[c4j,hl,exV,exO]
theorem b8p {l:Nat}{fn:FuncId}{tm0:Tr AV}{nt:Nat}{as bd:Code}{P:AV→a0a→Prop}{L:List (Nat×AV)}(hs:a0m tm0 L)
  (g:GJ T { fn:=fn,nt:=nt,round:=some l } [.code as] L [] none h fun r=>∃ tm1 h1 L1 pend fn' tm' nt' ps as' bd' dd,r=.fin .normal ⟨tm1,[],none,h1⟩∧a0m tm1 L1∧h1.get l=some (.loop .ready pend fn' tm' nt' ps as' bd' dd) ∧
   GJ T { fn:=fn,nt:=nt,round:=some l } [.code bd] L1 [] none (h1.set l (.loop .busy pend fn' tm' nt' ps as' bd' dd)) fun r=>∃ e tm2 h2 st2 pend2 fn2 tm3 nt2 ps2 as2 bd2 d2,r=.fin e ⟨tm2,[],none,h2⟩∧h2.get l=some (.loop st2 pend2 fn2 tm3 nt2 ps2 as2 bd2 d2)∧P (exV e) (h2.set l (exO e fn2 tm3 nt2 ps2 as2 bd2 d2))):b3t T l fn tm0 nt as bd h P:=by
 refine Wp.bind (t':=.code { fn:=fn,nt:=nt,round:=some l } as { tm:=tm0,df:=[],pan:=none,h:=h }) (e2j T l fn nt bd) (fun rec=>?_) (Wp.mono (g.out tm0 hs).out ?_)
 ·show a5i _ _=a5i _ _
  congr 1
 ·rintro _ ⟨tm1,h1,L1,pend,fn',tm',nt',ps,as',bd',dd,rfl,s1,hl,g2⟩
  have w2:Wp T (.code { fn:=fn,nt:=nt,round:=some l } bd { tm:=tm1,df:=[],pan:=none,h:=h1.set l (.loop .busy pend fn' tm' nt' ps as' bd' dd) }) _:=(g2.out tm1 s1).out
  obtain⟨r,⟨N,hr⟩,kk⟩:=Wp.mono (Q':=fun r=>∃ r',(∃ N,∀ n,N≤n→(fun(_:Nat)=>c4j T l fn) n r=r')∧Leaves (fun r=>∃ v h',r=.ret v h'∧P v h') r') w2 (by
   rintro _ ⟨e,tm2,h2,st2,pend2,fn2,tm3,nt2,ps2,as2,bd2,d2,rfl,hl2,p⟩
   exact⟨.ret (exV e) (h2.set l (exO e fn2 tm3 nt2 ps2 as2 bd2 d2)),⟨0,fun _ _=>d4y hl2⟩,⟨_,_,rfl,p⟩⟩)
  obtain⟨r',⟨N',hr'⟩,q⟩:=a8i (fun _=>c4j T l fn) r kk
  refine⟨r',⟨N+N',fun n hn=>?_⟩,q⟩
  simp only[e2j,hl]
  rw[hr n (by omega)]
  exact hr' n (by omega)
structure e9m {α:Type}(T:a0n) (l:Nat) (args:α→List AV) (A:List α→α→Prop) (I:(Nat→Prop)→List α→Bool→a0a→Prop):Prop where
 call:∀ (S:Nat→Prop) (acc:List α) (s:α) (h:a0a),acc.length≤500000→A acc s→I S acc true h→∃ fn tm nt asg bd,a4y T (.yield l) [] (args s) h=.round l fn tm nt asg bd h∧b3t T l fn tm nt asg bd h (fun v h'=>∃ b,v=.bool b∧Touch S h h'∧∃ S':Nat→Prop,(∀ c,S' c→S c∨h.next≤c)∧I S' (acc++[s]) b h')
 low:∀ (S:Nat→Prop) (acc:List α) (b:Bool) (h:a0a),I S acc b h→∀ c,S c→c<h.next
 a5v:∀ (S:Nat→Prop) (acc:List α) (b:Bool) (h h':a0a),I S acc b h→h.next≤h'.next→(∀ c,S c→c<h.next→h'.get c=h.get c)→(h.ok→h'.ok)→I S acc b h'
theorem c7w {α:Type}{T:a0n}{l:Nat}{args:α→List AV}{A:List α→α→Prop}{I:(Nat→Prop)→List α→Bool→a0a→Prop}{fn:FuncId}{tm:Tr AV}{nt dd:Nat}{ps:List Tmp}{as bd:Code}(hp:∀ s,(args s).length=ps.length) (hn:(ps.all fun p=>Nat.blt p nt)=true)
  (gl:∀ S acc h,I S acc true h→h.get l=some (.loop .ready none fn tm nt ps as bd dd))
  (low:∀ (S:Nat→Prop) (acc:List α) (b:Bool) (h:a0a),I S acc b h→∀ c,S c→c<h.next)
  (a5v:∀ (S:Nat→Prop) (acc:List α) (b:Bool) (h h':a0a),I S acc b h→h.next≤h'.next→(∀ c,S c→c<h.next→h'.get c=h.get c)→(h.ok→h'.ok)→I S acc b h')
  (rnd:∀ (S:Nat→Prop) (acc:List α) (s:α) (h:a0a),acc.length≤500000→A acc s→I S acc true h→b3t T l fn (a7b tm ps (args s)) nt as bd h (fun v h'=>∃ b,v=.bool b∧Touch S h h'∧∃ S':Nat→Prop,(∀ c,S' c→S c∨h.next≤c)∧I S' (acc++[s]) b h')):e9m T l args A I where
 call:=fun S acc s h hl a i=>⟨fn,_,nt,as,bd,by simp only[a4y,gl S acc h i,hp s,hn]; simp,rnd S acc s h hl a i⟩
 low:=low
 a5v:=a5v
end Ev
end
section
namespace Ev
open Go
theorem a9y:∀ (N:Nat) (l:List Nat),l.Nodup→(∀ q∈l,q<N)→l.length≤N
 |0,l,_,h=>by
  cases l with
  |nil=>simp
  |cons a l=>exact absurd (h a (List.mem_cons_self ..)) (by omega)
 |N+1,l,hn,h=>by
  by_cases c:N∈l
  ·have ih:=a9y N (l.erase N) (hn.erase N) fun q hq=>by
    have:=hn.mem_erase_iff.1 hq
    have:=h q this.2
    omega
   rw[List.length_erase_of_mem c] at ih
   omega
  ·have:=a9y N l hn fun q hq=>by
    have:=h q hq
    have:q≠N:=fun e=>c (e ▸ hq)
    omega
   omega
def stN (pg:List Nat) (n:Nat):List (Nat×AV×Nat):=(pg.zipIdx n).map fun x=>(x.1,.agg [],x.2)
theorem b7a (q:Nat) (pg:List Nat) (n:Nat):stN (q::pg) n=(q,.agg [],n)::stN pg (n+1):=by simp[stN,List.zipIdx_cons]
theorem e3q (pg:List Nat) (m n:Nat):stN (pg++[m]) n=stN pg n++[(m,.agg [],n+pg.length)]:=by simp[stN,List.zipIdx_append]
theorem e8l (pg:List Nat) (n:Nat):(stN pg n).length=pg.length:=by simp[stN]
theorem b8u (k:Nat):∀ (pg:List Nat) (n:Nat),assoc (stN pg n) k=if k∈pg then some (.agg []) else none
 |[],n=>by simp[stN,assoc]
 |q::pg,n=>by
  rw[b7a]
  show(if q=k then some (AV.agg []) else assoc (stN pg (n+1)) k)=_
  by_cases c:q=k
  ·rw[if_pos c,if_pos (by rw[c]; exact List.mem_cons_self ..)]
  ·rw[if_neg c,b8u k pg (n+1)]
   by_cases d:k∈pg
   ·rw[if_pos d,if_pos (List.mem_cons_of_mem _ d)]
   ·rw[if_neg d,if_neg fun r=>by rcases List.mem_cons.1 r with r|r; exact c r.symm; exact d r]
def a7x (h:a0a) (M:Nat) (pg:List Nat):Prop:=M<h.next∧h.get M=some (.map (a6f k32 (stN pg 0)) pg.length)
theorem a7x.keep {h h':a0a}{M:Nat}{pg:List Nat}(s:a7x h M pg) (g:h'.get M=h.get M) (hn:h.next≤h'.next):a7x h' M pg:=⟨Nat.lt_of_lt_of_le s.1 hn,g.trans s.2⟩
theorem a7x.f5o {h:a0a}{M:Nat}{pg:List Nat}(s:a7x h M pg):b8s k32 h M (fun q=>if q∈pg then some (.agg []) else none) pg.length:=⟨s.1,stN pg 0,pg.length,s.2,fun k=>b8u k pg 0,e8l _ _⟩
theorem a7x.new (h:a0a):a7x (h.alloc (.map [] 0)) h.next []:=⟨Nat.lt_succ_self _,a0s _ _⟩
theorem a7x.ins {T:a0n}{h:a0a}{M m:Nat}{pg:List Nat}{t kt et:TypeId}(s:a7x h M pg) (hm:m ∉ pg) (ht:T.und t=some (.map kt et)) (hk:b5k T kt (k32 m)=true):a8h T t h (.map M) (k32 m) (.agg [])=some (h.set M (.map (a6f k32 (stN (pg++[m]) 0)) (pg++[m]).length)):=by
 obtain⟨r,hr,p⟩:=b7w c7g m (stN pg 0) 0
 rcases p with ⟨rfl,p⟩|⟨j,e,rfl,p1,p2,p⟩
 ·simp only[a8h,ht,hk,s.2,hr]
  rw[e3q]
  simp[a6f]
 ·rw[b8u,if_neg hm] at p
  cases p
theorem a7x.put {h:a0a}{M m:Nat}{pg:List Nat}(s:a7x h M pg):a7x (h.set M (.map (a6f k32 (stN (pg++[m]) 0)) (pg++[m]).length)) M (pg++[m]):=⟨s.1,a0a.gs _ _ _⟩
theorem c2o (n:Nat):∀ (l:List Nat),a9p n l=true↔n∈l
 |[]=>by simp[a9p]
 |m::l=>by
  rw[List.mem_cons]
  unfold a9p
  split
  ·rename_i e
   exact⟨fun _=>.inl (Nat.eq_of_beq_eq_true e),fun _=>rfl⟩
  ·rename_i e
   rw[c2o n l]
   constructor
   ·exact .inr
   ·rintro(r|r)
    ·subst r; simp at e
    ·exact r
theorem d0t (seen:List Nat):∀ (pg:List Nat) (n:Nat) (e:AV×AV×Nat),e∈b1e seen (a6f k32 (stN pg n))↔∃ i q,pg[i]?=some q∧n+i ∉ seen∧e=(k32 q,.agg [],n+i)
 |[],n,e=>by simp[stN,a6f,b1e]
 |q::pg,n,e=>by
  rw[b7a]
  show e∈b1e seen ((k32 q,.agg [],n)::a6f k32 (stN pg (n+1)))↔_
  have ih:=d0t seen pg (n+1) e
  have tail:(∃ i p,pg[i]?=some p∧n+1+i ∉ seen∧e=(k32 p,AV.agg [],n+1+i))→∃ i p,(q::pg)[i]?=some p∧n+i ∉ seen∧e=(k32 p,AV.agg [],n+i):=by
   rintro⟨i,p,a,b,c⟩
   exact⟨i+1,p,by simpa using a,by rw[show n+(i+1)=n+1+i by omega]; exact b,by rw[c,show n+(i+1)=n+1+i by omega]⟩
  unfold b1e
  simp only
  split
  ·rename_i c
   rw[ih]
   refine⟨tail,?_⟩
   rintro⟨i,p,a,b,d⟩
   cases i with
   |zero=>exact absurd ((c2o n seen).1 c) b
   |succ i=>exact⟨i,p,by simpa using a,by rw[show n+1+i=n+(i+1) by omega]; exact b,by rw[d,show n+(i+1)=n+1+i by omega]⟩
  ·rename_i c
   rw[List.mem_cons,ih]
   constructor
   ·rintro(r|r)
    ·exact⟨0,q,rfl,fun k=>(by rw[(c2o n seen).2 k] at c; cases c),r⟩
    ·exact tail r
   ·rintro⟨i,p,a,b,d⟩
    cases i with
    |zero=>simp at a; subst a; exact .inl d
    |succ i=>exact .inr ⟨i,p,by simpa using a,by rw[show n+1+i=n+(i+1) by omega]; exact b,by rw[d,show n+(i+1)=n+1+i by omega]⟩
theorem c6k (since:Nat):∀ (l:List (AV×AV×Nat)),(∀ e∈l,e.2.2<since)→b6i since l=true
 |[],_=>rfl
 |e::l,h=>by
  have h1:Nat.blt e.2.2 since=true:=Nat.ble_eq.mpr (h e (List.mem_cons_self ..))
  unfold b6i
  rw[h1]
  exact c6k since l fun e he=>h e (List.mem_cons_of_mem _ he)
theorem d1u (m:Option Nat) (since clock b:Nat) (seen:List Nat) (h:a0a):∀ (l:List (AV×AV×Nat)) (p:AV×a0a),p∈b6l m since seen clock h b l→∃ e∈l,p=(.tuple [.bool true,e.1,e.2.1],h.set b (.iter m since (seen++[e.2.2]) clock))
 |[],p,hp=>by cases hp
 |e::l,p,hp=>by
  rcases List.mem_cons.1 hp with r|r
  ·exact⟨e,List.mem_cons_self ..,r⟩
  ·obtain⟨e',a,b⟩:=d1u m since clock b seen h l p r
   exact⟨e',List.mem_cons_of_mem _ a,b⟩
theorem e2h {T:a0n}{h:a0a}{b M:Nat}{pg seen:List Nat}(s:a7x h M pg) (g:h.get b=some (.iter (some M) pg.length seen pg.length)):a9b T h b=match b1e seen (a6f k32 (stN pg 0)) with
    |[]=>.val (.tuple [.bool false]) h
    |[e]=>match Nat.blt e.2.2 pg.length with
     |true=>.val (.tuple [.bool true,e.1,e.2.1]) (h.set b (.iter (some M) pg.length (seen++[e.2.2]) pg.length))
     | false => .no "next: a new entry"
    |l=>match T.alts&&b6i pg.length l with
     |true=>.choice (b6l (some M) pg.length seen pg.length h b l)
     | false => .no "next: a new entry" := by
 have g2:=s.2
 unfold a9b
 rw[g]
 dsimp only
 rw[g2]
 cases seen with
 |nil=>rfl
 |cons a l =>
  cases pg with
  |nil=>rfl
  |cons q pg =>
   rfl
theorem c2l {T:a0n}(hT:T.alts=true){h:a0a}{b M:Nat}{pg seen:List Nat}(s:a7x h M pg) (g:h.get b=some (.iter (some M) pg.length seen pg.length)) :
  ((∀ i,i<pg.length→i∈seen)∧a9b T h b=.val (.tuple [.bool false]) h)∨(∃ i q,pg[i]?=some q∧i ∉ seen∧a9b T h b=.val (.tuple [.bool true,k32 q,.agg []]) (h.set b (.iter (some M) pg.length (seen++[i]) pg.length))) ∨
    ∃ l,l≠[]∧a9b T h b=.choice l∧∀ p∈l,∃ i q,pg[i]?=some q∧i ∉ seen∧p=(.tuple [.bool true,k32 q,.agg []],h.set b (.iter (some M) pg.length (seen++[i]) pg.length)):=by
 have hl:=d0t seen pg 0
 have lt:∀ {i q},pg[i]?=some q→i<pg.length:=fun h=>(List.getElem?_eq_some_iff.1 h).1
 rw[e2h s g]
 generalize b1e seen (a6f k32 (stN pg 0))=lf at hl
 cases lf with
 |nil =>
  refine .inl ⟨fun i hi=>Decidable.byContradiction fun c=>?_,rfl⟩
  have:=(hl (k32 pg[i],.agg [],0+i)).2 ⟨i,pg[i],List.getElem?_eq_getElem hi,by rw[Nat.zero_add]; exact c,rfl⟩
  cases this
 |cons e l =>
  have old:∀ e'∈e::l,e'.2.2<pg.length:=fun e' he'=>by
   obtain⟨i,q,a,_,c⟩:=(hl e').1 he'
   rw[c]; simpa using lt a
  cases l with
  |nil =>
   obtain⟨i,q,a,b',c⟩:=(hl e).1 (List.mem_cons_self ..)
   have:=old e (List.mem_cons_self ..)
   refine .inr (.inl ⟨i,q,a,by simpa using b',?_⟩)
   have h1:Nat.blt e.2.2 pg.length=true:=Nat.ble_eq.mpr this
   simp only[h1]
   rw[c]; simp
  |cons e2 l =>
   refine .inr (.inr ⟨b6l (some M) pg.length seen pg.length h b (e::e2::l),by simp[b6l],?_,fun p hp=>?_⟩)
   ·simp only[hT,c6k _ _ old,Bool.and_self]
   ·obtain⟨e',he',r⟩:=d1u _ _ _ _ _ _ _ p hp
    obtain⟨i,q,a,b',c⟩:=(hl e').1 he'
    exact⟨i,q,a,by simpa using b',by rw[r,c]; simp⟩
theorem d4t (l:List Nat) (i:Nat):d0w (l++[i])=some i:=by
 induction l with
 |nil=>rfl
 |cons a l ih =>
  cases l with
  |nil=>rfl
  |cons b l=>exact ih
theorem d1h (i q:Nat):∀ (pg:List Nat) (n:Nat),pg[i]?=some q→c0m (n+i) (a6f k32 (stN pg n))=some (k32 q,.agg [],n+i)
 |[],n,h=>by simp at h
 |p::pg,n,h=>by
  rw[b7a]
  show c0m (n+i) ((k32 p,.agg [],n)::a6f k32 (stN pg (n+1)))=_
  unfold c0m
  cases i with
  |zero =>
   simp at h
   subst h
   simp
  |succ i =>
   have e:Nat.beq n (n+(i+1))=false:=by
    cases c:Nat.beq n (n+(i+1)) with
    |false=>rfl
    |true=>have:=Nat.eq_of_beq_eq_true c; omega
   simp only[e]
   have:=d1h i q pg (n+1) (by simpa using h)
   rw[show n+1+i=n+(i+1) by omega] at this
   exact this
theorem d9y {h:a0a}{b M i q:Nat}{pg seen:List Nat}(s:a7x h M pg) (g:h.get b=some (.iter (some M) pg.length (seen++[i]) pg.length)) (hi:pg[i]?=some q):c4a h b=some (.tuple [k32 q,.agg []]):=by
 have hb:=d1h i q pg 0 hi
 rw[Nat.zero_add] at hb
 unfold c4a
 simp only[g,d4t,s.2,hb,Nat.beq_refl]
variable {T:a0n}{h:a0a}{cx:Cx}{k:List K}{Q:Res→Prop}{all rest:List Oper}{df:List ADef}{pan:Option (AV×Bool)}{L:List (Nat×AV)}{o:Oper}{d:Nat}
theorem e0f {l:List (AV×a0a)}(hg:a0p all L o=some true) (hd:o.dst=some d) (hn:Nat.blt d cx.nt=true) (ho:opA T (a1u L) o h=.choice l) (hl:l≠[]) (c:∀ p,p∈l→OJ T cx all rest k ((d,p.1)::L) df pan p.2 Q):OJ T cx all (o::rest) k L df pan h Q :=
 ⟨fun tm hs=>⟨d3b hs hg hd ho hn hl fun p hp tm' s'=>((c p hp).out tm' s').out⟩⟩
theorem e9i {b M:Nat}{pg seen:List Nat}(hT:T.alts=true) (sr:a7x h M pg) (g:h.get b=some (.iter (some M) pg.length seen pg.length)) (hg:a0p all L o=some true) (hd:o.dst=some d) (hn:Nat.blt d cx.nt=true) (ho:opA T (a1u L) o h=a9b T h b)
  (done:(∀ i,i<pg.length→i∈seen)→OJ T cx all rest k ((d,.tuple [.bool false])::L) df pan h Q)
  (more:∀ i q,pg[i]?=some q→i ∉ seen→OJ T cx all rest k ((d,.tuple [.bool true,k32 q,.agg []])::L) df pan (h.set b (.iter (some M) pg.length (seen++[i]) pg.length)) Q):OJ T cx all (o::rest) k L df pan h Q:=by
 rcases c2l hT sr g with ⟨a,e⟩|⟨i,q,a,b',e⟩|⟨l,hl,e,a⟩
 ·exact a1r hg hd hn (ho.trans e) (done a)
 ·exact a1r hg hd hn (ho.trans e) (more i q a b')
 ·refine e0f hg hd hn (ho.trans e) hl fun p hp=>?_
  obtain⟨i,q,a1,a2,rfl⟩:=a p hp
  exact more i q a1 a2
theorem e9k {ρ:Operand→Option AV}{t kt et:TypeId}{x:Operand}{M:Nat}{pg:List Nat}(s:a7x h M pg) (ho:o.op=.range t x) (ht:T.und t=some (.map kt et)) (hx:ρ x=some (.map M)):opA T ρ o h=.val (.ptr h.next 0) (h.alloc (.iter (some M) pg.length [] pg.length)):=by
 cases o; cases ho
 simp only[opA,hx,c7c,ht,s.2]
theorem f2o {ρ:Operand→Option AV}{it:Operand}{s:Bool}{b:Nat}(ho:o.op=.next it s) (hs:s=false) (hx:ρ it=some (.ptr b 0)):opA T ρ o h=a9b T h b:=by
 cases o; cases ho; subst hs
 simp only[opA,hx]
theorem e5s {ρ:Operand→Option AV}{it:Operand}{b M i q:Nat}{pg seen:List Nat}(s:a7x h M pg) (g:h.get b=some (.iter (some M) pg.length (seen++[i]) pg.length)) (hi:pg[i]?=some q) (ho:o.op=.entry it) (hx:ρ it=some (.ptr b 0)):opA T ρ o h=.val (.tuple [k32 q,.agg []]) h:=by
 cases o; cases ho
 simp only[opA,hx,d9y s g hi,rv]
end Ev
end
section
namespace Ev
open Go Go.RowKit
structure Inr where
 a:Addr
 e:TypeId
 z:Nat
 cs:List AV
def b0x (l:List Inr):En:=⟨fun b=>match l[b]? with|some x=>x.a.block|none=>0,fun b=>match l[b]? with|some x=>x.a.off|none=>0,fun b=>match l[b]? with|some x=>x.z|none=>0,fun b=>b<l.length⟩
def a4w (l:List Inr):a0a:=l.foldl (fun h x=>h.alloc (.cells x.e x.cs false)) ⟨.nil,0⟩
theorem c0f (l:List Inr) (x:Inr):a4w (l++[x])=(a4w l).alloc (.cells x.e x.cs false):=by simp[a4w]
theorem b6s (l:List Inr):(a4w l).ok∧(a4w l).next=l.length∧∀ b,(a4w l).get b=(l[b]?).map fun x=>.cells x.e x.cs false:=by
 suffices H:∀ r:List Inr,(a4w r.reverse).ok∧(a4w r.reverse).next=r.reverse.length∧∀ b,(a4w r.reverse).get b=(r.reverse[b]?).map fun x=>.cells x.e x.cs false by
  have:=H l.reverse
  rwa [List.reverse_reverse] at this
 intro r
 induction r with
 |nil=>exact⟨a2e,rfl,fun b=>by rw[List.reverse_nil]; exact Tr.get_nil b⟩
 |cons x r ih =>
  obtain⟨k,n,g⟩:=ih
  rw[List.reverse_cons,c0f]
  refine⟨a4l k _,by show(a4w r.reverse).next+1=_; rw[n]; simp,fun b=>?_⟩
  rw[a0a.a3r,n]
  by_cases c:b=r.reverse.length
  ·rw[if_pos c,c]; simp
  ·rw[if_neg c,g]
   congr 1
   by_cases d:b<r.reverse.length
   ·rw[List.getElem?_append_left d]
   ·rw[List.getElem?_eq_none (by omega),List.getElem?_eq_none (by simp at c d ⊢; omega)]
theorem d4l (l m:List Inr):Ext (a4w l) (a4w (l++m)):=by
 suffices H:∀ r:List Inr,Ext (a4w l) (a4w (l++r.reverse)) by
  have:=H m.reverse
  rwa [List.reverse_reverse] at this
 intro r
 induction r with
 |nil=>rw[List.reverse_nil,List.append_nil]; exact .refl _
 |cons x r ih=>rw[List.reverse_cons,← List.append_assoc,c0f]; exact ih.al _
theorem d7a (l m:List Inr):(b0x l).Le (b0x (l++m)):=by
 have g:∀ b,b<l.length→(l++m)[b]?=l[b]?:=fun b hb=>List.getElem?_append_left hb
 refine⟨fun b h=>?_,fun b h=>?_,fun b h=>?_,fun b h=>?_⟩
 ·have h:b<l.length:=h
  show b<(l++m).length
  rw[List.length_append]; omega
 all_goals (simp only[b0x]; rw[g b h])
def b8b (W:World) (l:List Inr):Prop:=∀ (b:Nat) (x:Inr),l[b]?=some x→∃ (c':Array Value) (z:Nat×Nat),W.heap[x.a.block]?=some (.cells c' x.e z)∧c'.size=x.a.off+x.z∧x.cs.length≤x.z∧∀ (i:Nat) (v:AV),x.cs[i]?=some v→∃ v',c'[x.a.off+i]?=some v'∧VR (b0x l) v v'
theorem f1o (W:World):b8b W []:=fun b x h=>by simp at h
theorem f1l {W:World}{l:List Inr}(ok:b8b W l) (x:Inr) (h:∃ (c':Array Value) (z:Nat×Nat),W.heap[x.a.block]?=some (.cells c' x.e z)∧c'.size=x.a.off+x.z∧x.cs.length≤x.z∧∀ (i:Nat) (v:AV),x.cs[i]?=some v→∃ v',c'[x.a.off+i]?=some v'∧VR (b0x l) v v'):b8b W (l++[x]):=by
 intro b y hb
 have K:∃ (c':Array Value) (z:Nat×Nat),W.heap[y.a.block]?=some (.cells c' y.e z)∧c'.size=y.a.off+y.z∧y.cs.length≤y.z∧∀ (i:Nat) (v:AV),y.cs[i]?=some v→∃ v',c'[y.a.off+i]?=some v'∧VR (b0x l) v v':=by
  by_cases c:b<l.length
  ·rw[List.getElem?_append_left c] at hb
   exact ok b y hb
  ·rw[List.getElem?_append_right (by omega)] at hb
   obtain⟨hi,e⟩:=List.getElem?_eq_some_iff.1 hb
   simp at e
   subst e
   exact h
 obtain⟨c',z,h1,h2,h3,h4⟩:=K
 refine⟨c',z,h1,h2,h3,fun i v hv=>?_⟩
 obtain⟨v',a,b⟩:=h4 i v hv
 exact⟨v',a,b.mono (d7a l [x])⟩
theorem f4b {P:Program}{W:World}{l:List Inr}(ok:b8b W l):HR P W.heap.size W (b0x l) (a4w l) W:=by
 obtain⟨k,n,g⟩:=b6s l
 have blk:∀ b x,l[b]?=some x→(b0x l).blk b=x.a.block∧(b0x l).off b=x.a.off∧(b0x l).ext b=x.z:=fun b x h=>by simp[b0x,h]
 have lt:∀ b,b<l.length→(b0x l).blk b<W.heap.size:=by
  intro b hb
  have hx:l[b]?=some l[b]:=by simp[hb]
  obtain⟨c',z,h1,_⟩:=ok b _ hx
  rw[(blk b _ hx).1]
  exact(Array.getElem?_eq_some_iff.1 h1).1
 refine⟨fun b h=>by rw[n]; exact h,fun b o h hg=>?_,fun b b' o o' _ _ hg _ w1=>?_,Below.refl _ _,Nat.le_refl _,Nat.le_refl _,fun b h=>lt b h⟩
 ·rw[g] at hg
  cases hx:l[b]? with
  |none=>rw[hx] at hg; cases hg
  |some x =>
   rw[hx] at hg
   cases hg
   obtain⟨c',z,h1,h2,h3,h4⟩:=ok b x hx
   obtain⟨b1,b2,b3⟩:=blk b x hx
   have hl:=lt b h
   refine⟨c',z,by rw[b1]; exact h1,by rw[b2,b3]; exact h2,by rw[b3]; exact h3,fun i v hv=>by rw[b2]; exact h4 i v hv,(fun q=>by cases q),fun _=>hl⟩
 ·rw[g] at hg
  cases hx:l[b]? with
  |none=>rw[hx] at hg; cases hg
  |some x=>rw[hx] at hg; cases hg; cases w1
theorem d6i {W:World}{a:Addr}{v:Value}(h:W.cell? a=some v):a.spot=none∧∃ c' e z,W.heap[a.block]?=some (.cells c' e z)∧c'[a.off]?=some v:=by
 unfold World.cell? at h
 cases hh:W.heap[a.block]? with
 |none=>rw[hh] at h; cases h
 |some o =>
  rw[hh] at h
  cases o with
  |cells c e z =>
   cases hs:a.spot with
   |none=>simp[hs] at h; exact⟨rfl,c,e,z,rfl,h⟩
   |some q=>simp[hs] at h
  |_=>cases h
theorem d0r {α:Type}{enc:α→List AV}{sz:Nat}(hs:∀ x,(enc x).length=sz) (h0:0<sz){W:World}{l:List Inr}(ok:b8b W l){a:Addr}{n cap:Nat}{xs:List α}{vs:Nat→List Value}(hn:0<n) (hx:xs.length=n) (hv:∀ i,i<n→∀ r v,(vs i)[r]?=some v→W.cell? (a.add (i*sz+r))=some v) (hr:∀ (i:Nat) (x:α),xs[i]?=some x→VRs (b0x l) (enc x) (vs i)) :
  ∃ x:Inr,b8b W (l++[x])∧VR (b0x (l++[x])) (.slice l.length 0 n cap) (.slice (some a) n cap)∧Ls enc sz (a4w (l++[x])) (.slice l.length 0 n cap) xs:=by
 have get:∀ i,i<n→∀ r v,(vs i)[r]?=some v→∃ c' e z,W.heap[a.block]?=some (.cells c' e z)∧c'[a.off+(i*sz+r)]?=some v:=by
  intro i hi r v e
  obtain⟨s,c',t,z,h1,h2⟩:=d6i (hv i hi r v e)
  by_cases z0:i*sz+r=0
  ·rw[z0] at h1 h2 ⊢
   have ea:a.add 0=a:=by unfold Addr.add; rw[if_pos rfl]
   rw[ea] at h1 h2
   exact⟨c',t,z,h1,h2⟩
  ·unfold Addr.add at h1 h2
   rw[if_neg z0] at h1 h2
   exact⟨c',t,z,h1,h2⟩
 have len:∀ i,i<n→(vs i).length=sz:=fun i hi=>by
  have hx0:xs[i]?=some (xs[i]'(by omega)):=by simp
  rw[← (hr i _ hx0).length,hs]
 have spot:a.spot=none:=by
  have l0:=len 0 hn
  have e0:(vs 0)[0]?=some ((vs 0)[0]'(by omega)):=by simp
  obtain⟨s,_⟩:=d6i (hv 0 hn 0 _ e0)
  have ea:a.add (0*sz+0)=a:=by unfold Addr.add; rw[if_pos (by omega)]
  rwa [ea] at s
 obtain⟨c',e,z,hh⟩:∃ c' e z,W.heap[a.block]?=some (.cells c' e z):=by
  have l0:=len 0 hn
  have e0:(vs 0)[0]?=some ((vs 0)[0]'(by omega)):=by simp
  obtain⟨c',e,z,h1,_⟩:=get 0 hn 0 _ e0
  exact⟨c',e,z,h1⟩
 have get:∀ i,i<n→∀ r v,(vs i)[r]?=some v→c'[a.off+(i*sz+r)]?=some v:=by
  intro i hi r v q
  obtain⟨c2,e2,z2,h1,h2⟩:=get i hi r v q
  rw[hh] at h1
  cases h1
  exact h2
 have flen:(xs.flatMap enc).length=n*sz:=by rw[a6o hs,hx]
 have hsz:a.off+n*sz≤c'.size:=by
  have l1:=len (n-1) (by omega)
  have e1:(vs (n-1))[sz-1]?=some ((vs (n-1))[sz-1]'(by omega)):=by simp
  have q:=(Array.getElem?_eq_some_iff.1 (get (n-1) (by omega) (sz-1) _ e1)).1
  have m:(n-1)*sz+sz=n*sz:=by
   obtain⟨k,rfl⟩:∃ k,n=k+1:=⟨n-1,by omega⟩
   rw[Nat.add_sub_cancel,Nat.succ_mul]
  omega
 obtain⟨_,nx,g⟩:=b6s (l++[(⟨a,e,c'.size-a.off,xs.flatMap enc⟩:Inr)])
 refine⟨⟨a,e,c'.size-a.off,xs.flatMap enc⟩,f1l ok _ ⟨c',z,hh,by show _=a.off+(c'.size-a.off); omega,by show(xs.flatMap enc).length≤c'.size-a.off; omega,fun i v q=>?_⟩,?_,?_⟩
 ·have q:(xs.flatMap enc)[i]?=some v:=q
  have hi:i<n*sz:=by
   have:=(List.getElem?_eq_some_iff.1 q).1
   omega
  have hd:i / sz<n:=by rw[Nat.div_lt_iff_lt_mul h0]; exact hi
  have hm:=Nat.mod_lt i h0
  have ei:i / sz*sz+i % sz=i:=by rw[Nat.mul_comm]; exact Nat.div_add_mod i sz
  have hx0:xs[i / sz]?=some (xs[i / sz]'(by omega)):=by simp
  have f:=c1b hs xs (i / sz) _ hx0
  have fe:(enc (xs[i / sz]'(by omega)))[i % sz]?=some v:=by
   rw[← f,List.getElem?_take,if_pos hm,List.getElem?_drop,ei]
   exact q
  obtain⟨v',k1,k2⟩:=(hr _ _ hx0).get fe
  have k3:=get _ hd _ _ k1
  rw[ei] at k3
  exact⟨v',k3,k2⟩
 ·have hd:(b0x (l++[(⟨a,e,c'.size-a.off,xs.flatMap enc⟩:Inr)])).dom l.length:=by show l.length<_; simp
  have:=VR.slice (E:=b0x (l++[(⟨a,e,c'.size-a.off,xs.flatMap enc⟩:Inr)])) l.length 0 n cap hd
  have ea:(b0x (l++[(⟨a,e,c'.size-a.off,xs.flatMap enc⟩:Inr)])).at l.length 0=a:=by
   unfold En.at
   simp[b0x]
   rw[← spot]
  rwa [ea] at this
 ·refine⟨hx.symm,?_,e,xs.flatMap enc,false,?_,by rw[hx,flen]; omega,by rw[hx,List.drop_zero,List.take_of_length_le (by omega)]⟩
  ·rw[nx]; simp
  ·rw[g]; simp
end Ev
end
