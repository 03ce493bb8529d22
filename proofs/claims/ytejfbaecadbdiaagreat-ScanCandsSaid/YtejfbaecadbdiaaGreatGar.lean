/- A part of an evaluator of the program's form in Lean, of the proof that what it says of a call is what the machine does, and of the rules by which proofs walk over it. Conditions: those that each theorem states. -/
import Derived.Test.YtejfbaecadbdiaaGreatGap
set_option linter.unusedVariables false
set_option linter.unusedSimpArgs false
section
namespace Ev
open Go
theorem a1u.back {h:a0a}{e:TypeId}{sz n k:Nat}{S:Nat→Prop}{v:AV}{cs:List AV}{kd:IntKind}(w:a1u e sz S h v n cs) (hk:k≤n) (hs:0<sz):∃ v',a3j sz h v (some (.int kd (k:Nat))) none none=some v'∧Sl h sz v' (n-k) (cs.drop (k*sz)):=by
 cases w with
 |nil =>
  obtain rfl:k=0:=by omega
  exact⟨.nilslice,rfl,rfl,by simp⟩
 |@sl B cap n all cs hb hl hg hn ha hc =>
  have hk':(k:Int)≤(n:Int):=by omega
  refine⟨.slice B (if cap=k then 0 else 0+k*sz) (n-k) (cap-k),?_,rfl,hl,e,all,true,hg,?_,?_⟩
  ·simp[a3j,a2y,mxA,hiA,loA,a5q,hk']
  ·have:=Nat.mul_le_mul_right sz hn
   have h2:=Nat.mul_le_mul_right sz hk
   rw[Nat.sub_mul]
   split<;>omega
  ·by_cases c:cap=k
   ·have:n=k:=by omega
    subst this
    rw[Nat.sub_self,Nat.zero_mul,List.take_zero,List.drop_eq_nil_of_le]
    rw[← hc,List.length_take]; omega
   ·rw[if_neg c,← hc,Nat.zero_add,List.drop_take,Nat.sub_mul]
 |@os B cap n all cs hb hl hg hn ha hc =>
  have hkn:(all.length-0) / sz=cap:=by rw[Nat.sub_zero,ha]; exact Nat.mul_div_cancel _ hs
  have hkn2:all.length / sz=cap:=by rw[ha]; exact Nat.mul_div_cancel _ hs
  have hk':(k:Int)≤(n:Int):=by omega
  have b1:loA n (some (.int kd (k:Nat)))=some k:=by simp only[loA,a5q]; rw[if_pos ⟨by omega,hk'⟩]; simp
  by_cases c:k<cap
  ·refine⟨.oslice B (0+k*sz) (n-k) sz,?_,rfl,rfl,hl,e,all,true,hg,?_,?_⟩
   ·simp only[a3j,hg,hkn,a2y,mxA,hiA,b1,ne_eq,not_true_eq_false,if_false,c,if_true]
   ·have:=Nat.mul_le_mul_right sz hn
    have h2:=Nat.mul_le_mul_right sz hk
    rw[Nat.sub_mul]
    omega
   ·rw[← hc,Nat.zero_add,List.drop_take,Nat.sub_mul]
  ·by_cases c0:k=0
   ·subst c0
    refine⟨.oslice B 0 n sz,?_,by simp,rfl,hl,e,all,true,hg,?_,?_⟩
    ·simp only[a3j,hg,hkn,a2y,mxA,hiA,b1,ne_eq,not_true_eq_false,if_false,c,if_true,Nat.sub_zero,hkn2]
    ·have:n=0:=by omega
     subst this; simp
    ·have:n=0:=by omega
     subst this; simp[← hc]
   ·refine⟨.eslice,?_,by omega,?_⟩
    ·have:n=k:=by omega
     subst this
     simp only[a3j,hg,hkn,a2y,mxA,hiA,b1,ne_eq,not_true_eq_false,if_false,c,c0,if_true,hkn2,Nat.sub_zero,Nat.lt_irrefl]
    ·have:n=k:=by omega
     subst this
     rw[List.drop_eq_nil_of_le]
     rw[← hc,List.length_take]; omega
theorem a1u.d0w {h h':a0a}{e:TypeId}{sz n:Nat}{S:Nat→Prop}{v:AV}{cs:List AV}(w:a1u e sz S h v n cs) (k:∀ b,S b→b<h.next→h'.get b=h.get b) (lo hi mx:Option AV):a3j sz h' v lo hi mx=a3j sz h v lo hi mx:=by
 cases w with
 |nil=>rfl
 |sl hb hl hg hn ha hc=>rfl
 |os hb hl hg hn ha hc=>simp only[a3j,k _ hb hl]
end Ev
end
section
namespace Ev
open Go
variable {T:a0k}{h h':a0a}{cx:Cx}{k:List K}{Q:Res→Prop}{all rest:List Oper}{df:List ADef}{pan:Option (AV×Bool)}{L:List (Nat×AV)}{tm:Tr AV}{o:Oper}{d:Nat}
def f0i (pend:Option Code) (k:List K):List K:=match pend with
 |none=>k
 |some c=>.code c::k
theorem d9v {fo:Operand}{params:Array Nat}{as bd:Code}{g:FuncId}{first cap:List AV}{F:Func}{c:Code}{P:a0a→Prop}(hr:cx.round=none) (hf:env tm fo=some (.func (.func g) first cap)) (hF:T.fn g=some F) (hb:F.body=some c)
  (hc:a0l T g (first++[.func (.yield (h.next+1)) [] []]++cap) ((h.alloc (.dfr (some []))).alloc (.loop .ready none cx.fn tm cx.nt params.toList as bd h.next)) fun _ h4=>P h4)
  (q:∀ h4,P h4→∃ st pend fn' tm' nt' ps as' bd' d,h4.get (h.next+1)=some (.loop st pend fn' tm' nt' ps as' bd' d)∧st≠.busy∧a3r T cx (f0i pend k) ⟨tm,.collected h.next::df,pan,h4.set (h.next+1) (.loop .exhausted pend fn' tm' nt' ps as' bd' d)⟩ Q) :
  a3r T cx (.code (.rangeFunc fo params as bd)::k) ⟨tm,df,pan,h⟩ Q:=by
 refine Wp.bind (t':=.call g (first++[.func (.yield (h.next+1)) [] []]++cap) ((h.alloc (.dfr (some []))).alloc (.loop .ready none cx.fn tm cx.nt params.toList as bd h.next))) (fun rec r=>match r with
     |.ret _ h4=>match h4.get (h.next+1) with
      |some (.loop st pend fn' tm' nt' ps as bd d)=>match st with
       | .busy => .no "rangeFunc: busy" []
       |_ =>
        let s5:St:=⟨tm,.collected h.next::df,pan,h4.set (h.next+1) (.loop .exhausted pend fn' tm' nt' ps as bd d)⟩
        match pend with
        |none=>.fin .normal s5
        |some c=>rec (.code cx c s5)
      | _ => .no "rangeFunc: no loop" []
     |.thrown v h4=>.pan v ⟨tm,.collected h.next::df,pan,h4⟩
     |r=>r) (fun rec=>?_) (Wp.mono hc ?_)
 ·simp only[step,hf,b1l,hr,a3d,hF,hb]
  rfl
 ·rintro _ ⟨v,h4,rfl,p⟩
  obtain⟨st,pend,fn',tm',nt',ps,as',bd',d,hg,hst,w⟩:=q h4 p
  cases pend with
  |none =>
   refine⟨.fin .normal ⟨tm,.collected h.next::df,pan,h4.set (h.next+1) (.loop .exhausted none fn' tm' nt' ps as' bd' d)⟩,⟨0,fun _ _=>?_⟩,w⟩
   simp only[hg]
  |some c =>
   have w:Wp T (.code cx c ⟨tm,.collected h.next::df,pan,h4.set (h.next+1) (.loop .exhausted (some c) fn' tm' nt' ps as' bd' d)⟩) (after T cx k Q):=w
   obtain⟨r,⟨N,hr⟩,w⟩:=w
   refine⟨r,⟨N,fun n hn=>?_⟩,w⟩
   simp only[hg]
   exact hr n hn
theorem c5g {fo:Operand}{params:Array Nat}{as bd:Code}{g:FuncId}{first cap:List AV}{F:Func}{c:Code}{P:a0a→Prop}(hr:cx.round=none) (hf:a1y L fo=some (.func (.func g) first cap)) (hF:T.fn g=some F) (hb:F.body=some c)
  (hc:∀ tm,a0m tm L→a0l T g (first++[.func (.yield (h.next+1)) [] []]++cap) ((h.alloc (.dfr (some []))).alloc (.loop .ready none cx.fn tm cx.nt params.toList as bd h.next)) fun _ h4=>P h4)
  (q:∀ h4,P h4→∃ st pend fn' tm' nt' ps as' bd' d,h4.get (h.next+1)=some (.loop st pend fn' tm' nt' ps as' bd' d)∧st≠.busy∧GJ T cx (f0i pend k) L (.collected h.next::df) pan (h4.set (h.next+1) (.loop .exhausted pend fn' tm' nt' ps as' bd' d)) Q) :
  GJ T cx (.code (.rangeFunc fo params as bd)::k) L df pan h Q :=
 ⟨fun tm hs=>⟨d9v hr ((hs.env hf)) hF hb (hc tm hs) fun h4 p=>by
  obtain⟨st,pend,fn',tm',nt',ps,as',bd',d,e1,e2,e3⟩:=q h4 p
  exact⟨st,pend,fn',tm',nt',ps,as',bd',d,e1,e2,(e3.out tm hs).out⟩⟩⟩
def exV:Ex→AV
 |.normal=>.bool true
 |_=>.bool false
def exO (e:Ex) (fn:FuncId) (tm:Tr AV) (nt:Nat) (ps:List Tmp) (as bd:Code) (d:Nat):a1t:=match e with
 |.normal=>.loop .ready none fn tm nt ps as bd d
 |e=>.loop .done (some (goCode e)) fn tm nt ps as bd d
theorem d3r {l:Nat}{fn:FuncId}{e:Ex}{tm2:Tr AV}{h2:a0a}{st2:LoopState}{pend2:Option Code}{fn2:FuncId}{tm3:Tr AV}{nt2:Nat}{ps2:List Tmp}{as2 bd2:Code}{d2:Nat}(hl:h2.get l=some (.loop st2 pend2 fn2 tm3 nt2 ps2 as2 bd2 d2)) :
  b3t T l fn (.fin e ⟨tm2,[],none,h2⟩)=.ret (exV e) (h2.set l (exO e fn2 tm3 nt2 ps2 as2 bd2 d2)):=by
 cases e<;>simp only[b3t,hl,exV,exO]
theorem c5x {l:Nat}{fn:FuncId}{tm0:Tr AV}{nt:Nat}{as bd:Code}{P:AV→a0a→Prop}{L:List (Nat×AV)}(hs:a0m tm0 L)
  (g:GJ T { fn:=fn,nt:=nt,round:=some l } [.code as] L [] none h fun r=>∃ tm1 h1 L1 pend fn' tm' nt' ps as' bd' dd,r=.fin .normal ⟨tm1,[],none,h1⟩∧a0m tm1 L1∧h1.get l=some (.loop .ready pend fn' tm' nt' ps as' bd' dd) ∧
   GJ T { fn:=fn,nt:=nt,round:=some l } [.code bd] L1 [] none (h1.set l (.loop .busy pend fn' tm' nt' ps as' bd' dd)) fun r=>∃ e tm2 h2 st2 pend2 fn2 tm3 nt2 ps2 as2 bd2 d2,r=.fin e ⟨tm2,[],none,h2⟩∧h2.get l=some (.loop st2 pend2 fn2 tm3 nt2 ps2 as2 bd2 d2)∧P (exV e) (h2.set l (exO e fn2 tm3 nt2 ps2 as2 bd2 d2))):a7w T l fn tm0 nt as bd h P:=by
 refine Wp.bind (t':=.code { fn:=fn,nt:=nt,round:=some l } as { tm:=tm0,df:=[],pan:=none,h:=h }) (c7a T l fn nt bd) (fun rec=>?_) (Wp.mono (g.out tm0 hs).out ?_)
 ·show a5c _ _=a5c _ _
  congr 1
 ·rintro _ ⟨tm1,h1,L1,pend,fn',tm',nt',ps,as',bd',dd,rfl,s1,hl,g2⟩
  have w2:Wp T (.code { fn:=fn,nt:=nt,round:=some l } bd { tm:=tm1,df:=[],pan:=none,h:=h1.set l (.loop .busy pend fn' tm' nt' ps as' bd' dd) }) _:=(g2.out tm1 s1).out
  obtain⟨r,⟨N,hr⟩,kk⟩:=Wp.mono (Q':=fun r=>∃ r',(∃ N,∀ n,N≤n→(fun(_:Nat)=>b3t T l fn) n r=r')∧Leaves (fun r=>∃ v h',r=.ret v h'∧P v h') r') w2 (by
   rintro _ ⟨e,tm2,h2,st2,pend2,fn2,tm3,nt2,ps2,as2,bd2,d2,rfl,hl2,p⟩
   exact⟨.ret (exV e) (h2.set l (exO e fn2 tm3 nt2 ps2 as2 bd2 d2)),⟨0,fun _ _=>d3r hl2⟩,⟨_,_,rfl,p⟩⟩)
  obtain⟨r',⟨N',hr'⟩,q⟩:=a6v (fun _=>b3t T l fn) r kk
  refine⟨r',⟨N+N',fun n hn=>?_⟩,q⟩
  simp only[c7a,hl]
  rw[hr n (by omega)]
  exact hr' n (by omega)
structure f1c {α:Type}(T:a0k) (l:Nat) (args:α→List AV) (A:List α→α→Prop) (I:(Nat→Prop)→List α→Bool→a0a→Prop):Prop where
 call:∀ (S:Nat→Prop) (acc:List α) (s:α) (h:a0a),acc.length≤500000→A acc s→I S acc true h→∃ fn tm nt asg bd,a3d T (.yield l) [] (args s) h=.round l fn tm nt asg bd h∧a7w T l fn tm nt asg bd h (fun v h'=>∃ b,v=.bool b∧Touch S h h'∧∃ S':Nat→Prop,(∀ c,S' c→S c∨h.next≤c)∧I S' (acc++[s]) b h')
 low:∀ (S:Nat→Prop) (acc:List α) (b:Bool) (h:a0a),I S acc b h→∀ c,S c→c<h.next
 a2l:∀ (S:Nat→Prop) (acc:List α) (b:Bool) (h h':a0a),I S acc b h→h.next≤h'.next→(∀ c,S c→c<h.next→h'.get c=h.get c)→(h.ok→h'.ok)→I S acc b h'
theorem d5u {α:Type}{T:a0k}{l:Nat}{args:α→List AV}{A:List α→α→Prop}{I:(Nat→Prop)→List α→Bool→a0a→Prop}{fn:FuncId}{tm:Tr AV}{nt dd:Nat}{ps:List Tmp}{as bd:Code}(hp:∀ s,(args s).length=ps.length) (hn:(ps.all fun p=>Nat.blt p nt)=true)
  (gl:∀ S acc h,I S acc true h→h.get l=some (.loop .ready none fn tm nt ps as bd dd))
  (low:∀ (S:Nat→Prop) (acc:List α) (b:Bool) (h:a0a),I S acc b h→∀ c,S c→c<h.next)
  (a2l:∀ (S:Nat→Prop) (acc:List α) (b:Bool) (h h':a0a),I S acc b h→h.next≤h'.next→(∀ c,S c→c<h.next→h'.get c=h.get c)→(h.ok→h'.ok)→I S acc b h')
  (rnd:∀ (S:Nat→Prop) (acc:List α) (s:α) (h:a0a),acc.length≤500000→A acc s→I S acc true h→a7w T l fn (a5m tm ps (args s)) nt as bd h (fun v h'=>∃ b,v=.bool b∧Touch S h h'∧∃ S':Nat→Prop,(∀ c,S' c→S c∨h.next≤c)∧I S' (acc++[s]) b h')):f1c T l args A I where
 call:=fun S acc s h hl a i=>⟨fn,_,nt,as,bd,by simp only[a3d,gl S acc h i,hp s,hn]; simp,rnd S acc s h hl a i⟩
 low:=low
 a2l:=a2l
end Ev
end
section
namespace Ev
open Go
theorem b0g:∀ (N:Nat) (l:List Nat),l.Nodup→(∀ q∈l,q<N)→l.length≤N
 |0,l,_,h=>by
  cases l with
  |nil=>simp
  |cons a l=>exact absurd (h a (List.mem_cons_self ..)) (by omega)
 |N+1,l,hn,h=>by
  by_cases c:N∈l
  ·have ih:=b0g N (l.erase N) (hn.erase N) fun q hq=>by
    have:=hn.mem_erase_iff.1 hq
    have:=h q this.2
    omega
   rw[List.length_erase_of_mem c] at ih
   omega
  ·have:=b0g N l hn fun q hq=>by
    have:=h q hq
    have:q≠N:=fun e=>c (e ▸ hq)
    omega
   omega
def stN (pg:List Nat) (n:Nat):List (Nat×AV×Nat):=(pg.zipIdx n).map fun x=>(x.1,.agg [],x.2)
theorem b7w (q:Nat) (pg:List Nat) (n:Nat):stN (q::pg) n=(q,.agg [],n)::stN pg (n+1):=by simp[stN,List.zipIdx_cons]
theorem e3k (pg:List Nat) (m n:Nat):stN (pg++[m]) n=stN pg n++[(m,.agg [],n+pg.length)]:=by simp[stN,List.zipIdx_append]
theorem e7b (pg:List Nat) (n:Nat):(stN pg n).length=pg.length:=by simp[stN]
theorem b8u (k:Nat):∀ (pg:List Nat) (n:Nat),assoc (stN pg n) k=if k∈pg then some (.agg []) else none
 |[],n=>by simp[stN,assoc]
 |q::pg,n=>by
  rw[b7w]
  show(if q=k then some (AV.agg []) else assoc (stN pg (n+1)) k)=_
  by_cases c:q=k
  ·rw[if_pos c,if_pos (by rw[c]; exact List.mem_cons_self ..)]
  ·rw[if_neg c,b8u k pg (n+1)]
   by_cases d:k∈pg
   ·rw[if_pos d,if_pos (List.mem_cons_of_mem _ d)]
   ·rw[if_neg d,if_neg fun r=>by rcases List.mem_cons.1 r with r|r; exact c r.symm; exact d r]
def a7v (h:a0a) (M:Nat) (pg:List Nat):Prop:=M<h.next∧h.get M=some (.map (a4h k32 (stN pg 0)) pg.length)
theorem a7v.keep {h h':a0a}{M:Nat}{pg:List Nat}(s:a7v h M pg) (g:h'.get M=h.get M) (hn:h.next≤h'.next):a7v h' M pg:=⟨Nat.lt_of_lt_of_le s.1 hn,g.trans s.2⟩
theorem a7v.f6a {h:a0a}{M:Nat}{pg:List Nat}(s:a7v h M pg):b9a k32 h M (fun q=>if q∈pg then some (.agg []) else none) pg.length:=⟨s.1,stN pg 0,pg.length,s.2,fun k=>b8u k pg 0,e7b _ _⟩
theorem a7v.new (h:a0a):a7v (h.alloc (.map [] 0)) h.next []:=⟨Nat.lt_succ_self _,a0t _ _⟩
theorem a7v.ins {T:a0k}{h:a0a}{M m:Nat}{pg:List Nat}{t kt et:TypeId}(s:a7v h M pg) (hm:m ∉ pg) (ht:T.und t=some (.map kt et)) (hk:b5x T kt (k32 m)=true):a8f T t h (.map M) (k32 m) (.agg [])=some (h.set M (.map (a4h k32 (stN (pg++[m]) 0)) (pg++[m]).length)):=by
 obtain⟨r,hr,p⟩:=b7z c7z m (stN pg 0) 0
 rcases p with ⟨rfl,p⟩|⟨j,e,rfl,p1,p2,p⟩
 ·simp only[a8f,ht,hk,s.2,hr]
  rw[e3k]
  simp[a4h]
 ·rw[b8u,if_neg hm] at p
  cases p
theorem a7v.put {h:a0a}{M m:Nat}{pg:List Nat}(s:a7v h M pg):a7v (h.set M (.map (a4h k32 (stN (pg++[m]) 0)) (pg++[m]).length)) M (pg++[m]):=⟨s.1,a0a.gs _ _ _⟩
theorem c3o (n:Nat):∀ (l:List Nat),b0h n l=true↔n∈l
 |[]=>by simp[b0h]
 |m::l=>by
  rw[List.mem_cons]
  unfold b0h
  split
  ·rename_i e
   exact⟨fun _=>.inl (Nat.eq_of_beq_eq_true e),fun _=>rfl⟩
  ·rename_i e
   rw[c3o n l]
   constructor
   ·exact .inr
   ·rintro(r|r)
    ·subst r; simp at e
    ·exact r
theorem d0i (seen:List Nat):∀ (pg:List Nat) (n:Nat) (e:AV×AV×Nat),e∈b1j seen (a4h k32 (stN pg n))↔∃ i q,pg[i]?=some q∧n+i ∉ seen∧e=(k32 q,.agg [],n+i)
 |[],n,e=>by simp[stN,a4h,b1j]
 |q::pg,n,e=>by
  rw[b7w]
  show e∈b1j seen ((k32 q,.agg [],n)::a4h k32 (stN pg (n+1)))↔_
  have ih:=d0i seen pg (n+1) e
  have tail:(∃ i p,pg[i]?=some p∧n+1+i ∉ seen∧e=(k32 p,AV.agg [],n+1+i))→∃ i p,(q::pg)[i]?=some p∧n+i ∉ seen∧e=(k32 p,AV.agg [],n+i):=by
   rintro⟨i,p,a,b,c⟩
   exact⟨i+1,p,by simpa using a,by rw[show n+(i+1)=n+1+i by omega]; exact b,by rw[c,show n+(i+1)=n+1+i by omega]⟩
  unfold b1j
  simp only
  split
  ·rename_i c
   rw[ih]
   refine⟨tail,?_⟩
   rintro⟨i,p,a,b,d⟩
   cases i with
   |zero=>exact absurd ((c3o n seen).1 c) b
   |succ i=>exact⟨i,p,by simpa using a,by rw[show n+1+i=n+(i+1) by omega]; exact b,by rw[d,show n+(i+1)=n+1+i by omega]⟩
  ·rename_i c
   rw[List.mem_cons,ih]
   constructor
   ·rintro(r|r)
    ·exact⟨0,q,rfl,fun k=>(by rw[(c3o n seen).2 k] at c; cases c),r⟩
    ·exact tail r
   ·rintro⟨i,p,a,b,d⟩
    cases i with
    |zero=>simp at a; subst a; exact .inl d
    |succ i=>exact .inr ⟨i,p,by simpa using a,by rw[show n+1+i=n+(i+1) by omega]; exact b,by rw[d,show n+(i+1)=n+1+i by omega]⟩
theorem c5p (since:Nat):∀ (l:List (AV×AV×Nat)),(∀ e∈l,e.2.2<since)→b6q since l=true
 |[],_=>rfl
 |e::l,h=>by
  have h1:Nat.blt e.2.2 since=true:=Nat.ble_eq.mpr (h e (List.mem_cons_self ..))
  unfold b6q
  rw[h1]
  exact c5p since l fun e he=>h e (List.mem_cons_of_mem _ he)
theorem d0o (m:Option Nat) (since clock b:Nat) (seen:List Nat) (h:a0a):∀ (l:List (AV×AV×Nat)) (p:AV×a0a),p∈b6i m since seen clock h b l→∃ e∈l,p=(.tuple [.bool true,e.1,e.2.1],h.set b (.iter m since (seen++[e.2.2]) clock))
 |[],p,hp=>by cases hp
 |e::l,p,hp=>by
  rcases List.mem_cons.1 hp with r|r
  ·exact⟨e,List.mem_cons_self ..,r⟩
  ·obtain⟨e',a,b⟩:=d0o m since clock b seen h l p r
   exact⟨e',List.mem_cons_of_mem _ a,b⟩
theorem e4t {T:a0k}{h:a0a}{b M:Nat}{pg seen:List Nat}(s:a7v h M pg) (g:h.get b=some (.iter (some M) pg.length seen pg.length)):a9b T h b=match b1j seen (a4h k32 (stN pg 0)) with
    |[]=>.val (.tuple [.bool false]) h
    |[e]=>match Nat.blt e.2.2 pg.length with
     |true=>.val (.tuple [.bool true,e.1,e.2.1]) (h.set b (.iter (some M) pg.length (seen++[e.2.2]) pg.length))
     | false => .no "next: a new entry"
    |l=>match T.alts&&b6q pg.length l with
     |true=>.choice (b6i (some M) pg.length seen pg.length h b l)
     | false => .no "next: a new entry" := by
 have g2:=s.2
 unfold a9b
 rw[g]
 dsimp only
 rw[g2]
 cases seen with
 |nil=>rfl
 |cons a l =>
  cases pg with
  |nil=>rfl
  |cons q pg =>
   rfl
theorem c1w {T:a0k}(hT:T.alts=true){h:a0a}{b M:Nat}{pg seen:List Nat}(s:a7v h M pg) (g:h.get b=some (.iter (some M) pg.length seen pg.length)) :
  ((∀ i,i<pg.length→i∈seen)∧a9b T h b=.val (.tuple [.bool false]) h)∨(∃ i q,pg[i]?=some q∧i ∉ seen∧a9b T h b=.val (.tuple [.bool true,k32 q,.agg []]) (h.set b (.iter (some M) pg.length (seen++[i]) pg.length))) ∨
    ∃ l,l≠[]∧a9b T h b=.choice l∧∀ p∈l,∃ i q,pg[i]?=some q∧i ∉ seen∧p=(.tuple [.bool true,k32 q,.agg []],h.set b (.iter (some M) pg.length (seen++[i]) pg.length)):=by
 have hl:=d0i seen pg 0
 have lt:∀ {i q},pg[i]?=some q→i<pg.length:=fun h=>(List.getElem?_eq_some_iff.1 h).1
 rw[e4t s g]
 generalize b1j seen (a4h k32 (stN pg 0))=lf at hl
 cases lf with
 |nil =>
  refine .inl ⟨fun i hi=>Decidable.byContradiction fun c=>?_,rfl⟩
  have:=(hl (k32 pg[i],.agg [],0+i)).2 ⟨i,pg[i],List.getElem?_eq_getElem hi,by rw[Nat.zero_add]; exact c,rfl⟩
  cases this
 |cons e l =>
  have old:∀ e'∈e::l,e'.2.2<pg.length:=fun e' he'=>by
   obtain⟨i,q,a,_,c⟩:=(hl e').1 he'
   rw[c]; simpa using lt a
  cases l with
  |nil =>
   obtain⟨i,q,a,b',c⟩:=(hl e).1 (List.mem_cons_self ..)
   have:=old e (List.mem_cons_self ..)
   refine .inr (.inl ⟨i,q,a,by simpa using b',?_⟩)
   have h1:Nat.blt e.2.2 pg.length=true:=Nat.ble_eq.mpr this
   simp only[h1]
   rw[c]; simp
  |cons e2 l =>
   refine .inr (.inr ⟨b6i (some M) pg.length seen pg.length h b (e::e2::l),by simp[b6i],?_,fun p hp=>?_⟩)
   ·simp only[hT,c5p _ _ old,Bool.and_self]
   ·obtain⟨e',he',r⟩:=d0o _ _ _ _ _ _ _ p hp
    obtain⟨i,q,a,b',c⟩:=(hl e').1 he'
    exact⟨i,q,a,by simpa using b',by rw[r,c]; simp⟩
theorem d2a (l:List Nat) (i:Nat):d0f (l++[i])=some i:=by
 induction l with
 |nil=>rfl
 |cons a l ih =>
  cases l with
  |nil=>rfl
  |cons b l=>exact ih
theorem d1c (i q:Nat):∀ (pg:List Nat) (n:Nat),pg[i]?=some q→c0j (n+i) (a4h k32 (stN pg n))=some (k32 q,.agg [],n+i)
 |[],n,h=>by simp at h
 |p::pg,n,h=>by
  rw[b7w]
  show c0j (n+i) ((k32 p,.agg [],n)::a4h k32 (stN pg (n+1)))=_
  unfold c0j
  cases i with
  |zero =>
   simp at h
   subst h
   simp
  |succ i =>
   have e:Nat.beq n (n+(i+1))=false:=by
    cases c:Nat.beq n (n+(i+1)) with
    |false=>rfl
    |true=>have:=Nat.eq_of_beq_eq_true c; omega
   simp only[e]
   have:=d1c i q pg (n+1) (by simpa using h)
   rw[show n+1+i=n+(i+1) by omega] at this
   exact this
theorem d8c {h:a0a}{b M i q:Nat}{pg seen:List Nat}(s:a7v h M pg) (g:h.get b=some (.iter (some M) pg.length (seen++[i]) pg.length)) (hi:pg[i]?=some q):c1x h b=some (.tuple [k32 q,.agg []]):=by
 have hb:=d1c i q pg 0 hi
 rw[Nat.zero_add] at hb
 unfold c1x
 simp only[g,d2a,s.2,hb,Nat.beq_refl]
variable {T:a0k}{h:a0a}{cx:Cx}{k:List K}{Q:Res→Prop}{all rest:List Oper}{df:List ADef}{pan:Option (AV×Bool)}{L:List (Nat×AV)}{o:Oper}{d:Nat}
theorem d7c {l:List (AV×a0a)}(hg:a0p all L o=some true) (hd:o.dst=some d) (hn:Nat.blt d cx.nt=true) (ho:opA T (a1y L) o h=.choice l) (hl:l≠[]) (c:∀ p,p∈l→OJ T cx all rest k ((d,p.1)::L) df pan p.2 Q):OJ T cx all (o::rest) k L df pan h Q :=
 ⟨fun tm hs=>⟨d2z hs hg hd ho hn hl fun p hp tm' s'=>((c p hp).out tm' s').out⟩⟩
theorem e8y {b M:Nat}{pg seen:List Nat}(hT:T.alts=true) (sr:a7v h M pg) (g:h.get b=some (.iter (some M) pg.length seen pg.length)) (hg:a0p all L o=some true) (hd:o.dst=some d) (hn:Nat.blt d cx.nt=true) (ho:opA T (a1y L) o h=a9b T h b)
  (done:(∀ i,i<pg.length→i∈seen)→OJ T cx all rest k ((d,.tuple [.bool false])::L) df pan h Q)
  (more:∀ i q,pg[i]?=some q→i ∉ seen→OJ T cx all rest k ((d,.tuple [.bool true,k32 q,.agg []])::L) df pan (h.set b (.iter (some M) pg.length (seen++[i]) pg.length)) Q):OJ T cx all (o::rest) k L df pan h Q:=by
 rcases c1w hT sr g with ⟨a,e⟩|⟨i,q,a,b',e⟩|⟨l,hl,e,a⟩
 ·exact a1k hg hd hn (ho.trans e) (done a)
 ·exact a1k hg hd hn (ho.trans e) (more i q a b')
 ·refine d7c hg hd hn (ho.trans e) hl fun p hp=>?_
  obtain⟨i,q,a1,a2,rfl⟩:=a p hp
  exact more i q a1 a2
theorem e6x {ρ:Operand→Option AV}{t kt et:TypeId}{x:Operand}{M:Nat}{pg:List Nat}(s:a7v h M pg) (ho:o.op=.range t x) (ht:T.und t=some (.map kt et)) (hx:ρ x=some (.map M)):opA T ρ o h=.val (.ptr h.next 0) (h.alloc (.iter (some M) pg.length [] pg.length)):=by
 cases o; cases ho
 simp only[opA,hx,c8c,ht,s.2]
theorem f2q {ρ:Operand→Option AV}{it:Operand}{s:Bool}{b:Nat}(ho:o.op=.next it s) (hs:s=false) (hx:ρ it=some (.ptr b 0)):opA T ρ o h=a9b T h b:=by
 cases o; cases ho; subst hs
 simp only[opA,hx]
theorem e7g {ρ:Operand→Option AV}{it:Operand}{b M i q:Nat}{pg seen:List Nat}(s:a7v h M pg) (g:h.get b=some (.iter (some M) pg.length (seen++[i]) pg.length)) (hi:pg[i]?=some q) (ho:o.op=.entry it) (hx:ρ it=some (.ptr b 0)):opA T ρ o h=.val (.tuple [k32 q,.agg []]) h:=by
 cases o; cases ho
 simp only[opA,hx,d8c s g hi,rv]
end Ev
end
