/- A part of an evaluator of the program's form in Lean, of the proof that what it says of a call is what the machine does, and of the rules by which proofs walk over it. Conditions: those that each theorem states. -/
import Derived.Test.YtmnhbehmjaibgaaGreatGap
set_option linter.unusedVariables false
set_option linter.unusedSimpArgs false
section
namespace Ev
open Go
theorem OwnS.back {h:Heap} {e:TypeId} {sz n k:Nat} {S:Nat→Prop} {v:AV} {cs:List AV} {kd:IntKind} (w:OwnS e sz S h v n cs) (hk:k≤n) (hs:0<sz):∃ v',sliceS sz h v (some (.int kd (k:Nat))) none none=some v'∧Sl h sz v' (n-k) (cs.drop (k*sz)):=by
 cases w with
 |nil =>
  obtain rfl:k=0:=by omega
  exact ⟨.nilslice,rfl,rfl,by simp⟩
 |@sl B cap n all cs hb hl hg hn ha hc =>
  have hk':(k:Int)≤(n:Int):=by omega
  refine ⟨.slice B (if cap=k then 0 else 0+k*sz) (n-k) (cap-k),?_,rfl,hl,e,all,true,hg,?_,?_⟩
  ·simp [sliceS,boundsA,mxA,hiA,loA,boundA,hk']
  ·have:=Nat.mul_le_mul_right sz hn
   have h2:=Nat.mul_le_mul_right sz hk
   rw [Nat.sub_mul]
   split<;>omega
  ·by_cases c:cap=k
   ·have:n=k:=by omega
    subst this
    rw [Nat.sub_self,Nat.zero_mul,List.take_zero,List.drop_eq_nil_of_le]
    rw [← hc,List.length_take]; omega
   ·rw [if_neg c,← hc,Nat.zero_add,List.drop_take,Nat.sub_mul]
 |@os B cap n all cs hb hl hg hn ha hc =>
  have hkn:(all.length-0) / sz=cap:=by rw [Nat.sub_zero,ha]; exact Nat.mul_div_cancel _ hs
  have hkn2:all.length / sz=cap:=by rw [ha]; exact Nat.mul_div_cancel _ hs
  have hk':(k:Int)≤(n:Int):=by omega
  have b1:loA n (some (.int kd (k:Nat)))=some k:=by simp only [loA,boundA]; rw [if_pos ⟨by omega,hk'⟩]; simp
  by_cases c:k<cap
  ·refine ⟨.oslice B (0+k*sz) (n-k) sz,?_,rfl,rfl,hl,e,all,true,hg,?_,?_⟩
   ·simp only [sliceS,hg,hkn,boundsA,mxA,hiA,b1,ne_eq,not_true_eq_false,if_false,c,if_true]
   ·have:=Nat.mul_le_mul_right sz hn
    have h2:=Nat.mul_le_mul_right sz hk
    rw [Nat.sub_mul]
    omega
   ·rw [← hc,Nat.zero_add,List.drop_take,Nat.sub_mul]
  ·by_cases c0:k=0
   ·subst c0
    refine ⟨.oslice B 0 n sz,?_,by simp,rfl,hl,e,all,true,hg,?_,?_⟩
    ·simp only [sliceS,hg,hkn,boundsA,mxA,hiA,b1,ne_eq,not_true_eq_false,if_false,c,if_true,Nat.sub_zero,hkn2]
    ·have:n=0:=by omega
     subst this; simp
    ·have:n=0:=by omega
     subst this; simp [← hc]
   ·refine ⟨.eslice,?_,by omega,?_⟩
    ·have:n=k:=by omega
     subst this
     simp only [sliceS,hg,hkn,boundsA,mxA,hiA,b1,ne_eq,not_true_eq_false,if_false,c,c0,if_true,hkn2,Nat.sub_zero,Nat.lt_irrefl]
    ·have:n=k:=by omega
     subst this
     rw [List.drop_eq_nil_of_le]
     rw [← hc,List.length_take]; omega
end Ev
end
section
namespace Ev
open Go
variable {T:Tabs} {h h':Heap} {cx:Cx} {k:List K} {Q:Res→Prop} {all rest:List Oper} {df:List ADef} {pan:Option (AV×Bool)} {L:List (Nat×AV)} {tm:Tr AV} {o:Oper} {d:Nat}
def pendK (pend:Option Code) (k:List K):List K:=match pend with
 |none=>k
 |some c=>.code c::k
theorem go_range2 {fo:Operand} {params:Array Nat} {as bd:Code} {g:FuncId} {first cap:List AV} {F:Func} {c:Code} {P:Heap→Prop} (hr:cx.round=none) (hf:env tm fo=some (.func (.func g) first cap)) (hF:T.fn g=some F) (hb:F.body=some c)
  (hc:Gives T g (first++[.func (.yield (h.next+1)) [] []]++cap) ((h.alloc (.dfr (some []))).alloc (.loop .ready none cx.fn tm cx.nt params.toList as bd h.next)) fun _ h4=>P h4)
  (q:∀ h4,P h4→∃ st pend fn' tm' nt' ps as' bd' d,h4.get (h.next+1)=some (.loop st pend fn' tm' nt' ps as' bd' d)∧st≠.busy∧Goes T cx (pendK pend k) ⟨tm,.collected h.next::df,pan,h4.set (h.next+1) (.loop .exhausted pend fn' tm' nt' ps as' bd' d)⟩ Q) :
  Goes T cx (.code (.rangeFunc fo params as bd)::k) ⟨tm,df,pan,h⟩ Q:=by
 refine Wp.bind (t':=.call g (first++[.func (.yield (h.next+1)) [] []]++cap) ((h.alloc (.dfr (some []))).alloc (.loop .ready none cx.fn tm cx.nt params.toList as bd h.next))) (fun rec r=>match r with
     |.ret _ h4=>match h4.get (h.next+1) with
      |some (.loop st pend fn' tm' nt' ps as bd d)=>match st with
       | .busy => .no "rangeFunc: busy" []
       |_ =>
        let s5:St:=⟨tm,.collected h.next::df,pan,h4.set (h.next+1) (.loop .exhausted pend fn' tm' nt' ps as bd d)⟩
        match pend with
        |none=>.fin .normal s5
        |some c=>rec (.code cx c s5)
      | _ => .no "rangeFunc: no loop" []
     |.thrown v h4=>.pan v ⟨tm,.collected h.next::df,pan,h4⟩
     |r=>r) (fun rec=>?_) (Wp.mono hc ?_)
 ·simp only [step,hf,startLoop,hr,invokeA,hF,hb]
  rfl
 ·rintro _ ⟨v,h4,rfl,p⟩
  obtain ⟨st,pend,fn',tm',nt',ps,as',bd',d,hg,hst,w⟩:=q h4 p
  cases pend with
  |none =>
   refine ⟨.fin .normal ⟨tm,.collected h.next::df,pan,h4.set (h.next+1) (.loop .exhausted none fn' tm' nt' ps as' bd' d)⟩,⟨0,fun _ _=>?_⟩,w⟩
   simp only [hg]
  |some c =>
   have w:Wp T (.code cx c ⟨tm,.collected h.next::df,pan,h4.set (h.next+1) (.loop .exhausted (some c) fn' tm' nt' ps as' bd' d)⟩) (after T cx k Q):=w
   obtain ⟨r,⟨N,hr⟩,w⟩:=w
   refine ⟨r,⟨N,fun n hn=>?_⟩,w⟩
   simp only [hg]
   exact hr n hn
theorem jg_range2 {fo:Operand} {params:Array Nat} {as bd:Code} {g:FuncId} {first cap:List AV} {F:Func} {c:Code} {P:Heap→Prop} (hr:cx.round=none) (hf:envL L fo=some (.func (.func g) first cap)) (hF:T.fn g=some F) (hb:F.body=some c)
  (hc:∀ tm,Sees tm L→Gives T g (first++[.func (.yield (h.next+1)) [] []]++cap) ((h.alloc (.dfr (some []))).alloc (.loop .ready none cx.fn tm cx.nt params.toList as bd h.next)) fun _ h4=>P h4)
  (q:∀ h4,P h4→∃ st pend fn' tm' nt' ps as' bd' d,h4.get (h.next+1)=some (.loop st pend fn' tm' nt' ps as' bd' d)∧st≠.busy∧GJ T cx (pendK pend k) L (.collected h.next::df) pan (h4.set (h.next+1) (.loop .exhausted pend fn' tm' nt' ps as' bd' d)) Q) :
  GJ T cx (.code (.rangeFunc fo params as bd)::k) L df pan h Q :=
 ⟨fun tm hs=>⟨go_range2 hr ((hs.env hf)) hF hb (hc tm hs) fun h4 p=>by
  obtain ⟨st,pend,fn',tm',nt',ps,as',bd',d,e1,e2,e3⟩:=q h4 p
  exact ⟨st,pend,fn',tm',nt',ps,as',bd',d,e1,e2,(e3.out tm hs).out⟩⟩⟩
def exV:Ex→AV
 |.normal=>.bool true
 |_=>.bool false
def exO (e:Ex) (fn:FuncId) (tm:Tr AV) (nt:Nat) (ps:List Tmp) (as bd:Code) (d:Nat):AObj:=match e with
 |.normal=>.loop .ready none fn tm nt ps as bd d
 |e=>.loop .done (some (goCode e)) fn tm nt ps as bd d
theorem roundB_fin {l:Nat} {fn:FuncId} {e:Ex} {tm2:Tr AV} {h2:Heap} {st2:LoopState} {pend2:Option Code} {fn2:FuncId} {tm3:Tr AV} {nt2:Nat} {ps2:List Tmp} {as2 bd2:Code} {d2:Nat} (hl:h2.get l=some (.loop st2 pend2 fn2 tm3 nt2 ps2 as2 bd2 d2)) :
  roundB T l fn (.fin e ⟨tm2,[],none,h2⟩)=.ret (exV e) (h2.set l (exO e fn2 tm3 nt2 ps2 as2 bd2 d2)):=by
 cases e<;>simp only [roundB,hl,exV,exO]
theorem round_of2 {l:Nat} {fn:FuncId} {tm0:Tr AV} {nt:Nat} {as bd:Code} {P:AV→Heap→Prop} {L:List (Nat×AV)} (hs:Sees tm0 L)
  (g:GJ T { fn:=fn,nt:=nt,round:=some l } [.code as] L [] none h fun r=>∃ tm1 h1 L1 pend fn' tm' nt' ps as' bd' dd,r=.fin .normal ⟨tm1,[],none,h1⟩∧Sees tm1 L1∧h1.get l=some (.loop .ready pend fn' tm' nt' ps as' bd' dd) ∧
   GJ T { fn:=fn,nt:=nt,round:=some l } [.code bd] L1 [] none (h1.set l (.loop .busy pend fn' tm' nt' ps as' bd' dd)) fun r=>∃ e tm2 h2 st2 pend2 fn2 tm3 nt2 ps2 as2 bd2 d2,r=.fin e ⟨tm2,[],none,h2⟩∧h2.get l=some (.loop st2 pend2 fn2 tm3 nt2 ps2 as2 bd2 d2)∧P (exV e) (h2.set l (exO e fn2 tm3 nt2 ps2 as2 bd2 d2))):RGives T l fn tm0 nt as bd h P:=by
 refine Wp.bind (t':=.code { fn:=fn,nt:=nt,round:=some l } as { tm:=tm0,df:=[],pan:=none,h:=h }) (roundA T l fn nt bd) (fun rec=>?_) (Wp.mono (g.out tm0 hs).out ?_)
 ·show bindR _ _=bindR _ _
  congr 1
 ·rintro _ ⟨tm1,h1,L1,pend,fn',tm',nt',ps,as',bd',dd,rfl,s1,hl,g2⟩
  have w2:Wp T (.code { fn:=fn,nt:=nt,round:=some l } bd { tm:=tm1,df:=[],pan:=none,h:=h1.set l (.loop .busy pend fn' tm' nt' ps as' bd' dd) }) _:=(g2.out tm1 s1).out
  obtain ⟨r,⟨N,hr⟩,kk⟩:=Wp.mono (Q':=fun r=>∃ r',(∃ N,∀ n,N≤n→(fun (_:Nat)=>roundB T l fn) n r=r')∧Leaves (fun r=>∃ v h',r=.ret v h'∧P v h') r') w2 (by
   rintro _ ⟨e,tm2,h2,st2,pend2,fn2,tm3,nt2,ps2,as2,bd2,d2,rfl,hl2,p⟩
   exact ⟨.ret (exV e) (h2.set l (exO e fn2 tm3 nt2 ps2 as2 bd2 d2)),⟨0,fun _ _=>roundB_fin hl2⟩,⟨_,_,rfl,p⟩⟩)
  obtain ⟨r',⟨N',hr'⟩,q⟩:=bind_leaves (fun _=>roundB T l fn) r kk
  refine ⟨r',⟨N+N',fun n hn=>?_⟩,q⟩
  simp only [roundA,hl]
  rw [hr n (by omega)]
  exact hr' n (by omega)
structure YldB {α:Type} (T:Tabs) (l:Nat) (args:α→List AV) (A:α→Prop) (I:(Nat→Prop)→List α→Bool→Heap→Prop):Prop where
 call:∀ (S:Nat→Prop) (acc:List α) (s:α) (h:Heap),acc.length≤500000→A s→I S acc true h→∃ fn tm nt asg bd,invokeA T (.yield l) [] (args s) h=.round l fn tm nt asg bd h∧RGives T l fn tm nt asg bd h (fun v h'=>∃ b,v=.bool b∧Touch S h h'∧∃ S':Nat→Prop,(∀ c,S' c→S c∨h.next≤c)∧I S' (acc++[s]) b h')
 low:∀ (S:Nat→Prop) (acc:List α) (b:Bool) (h:Heap),I S acc b h→∀ c,S c→c<h.next
 stable:∀ (S:Nat→Prop) (acc:List α) (b:Bool) (h h':Heap),I S acc b h→h.next≤h'.next→(∀ c,S c→c<h.next→h'.get c=h.get c)→(h.ok→h'.ok)→I S acc b h'
theorem yldB_of {α:Type} {T:Tabs} {l:Nat} {args:α→List AV} {A:α→Prop} {I:(Nat→Prop)→List α→Bool→Heap→Prop} {fn:FuncId} {tm:Tr AV} {nt dd:Nat} {ps:List Tmp} {as bd:Code} (hp:∀ s,(args s).length=ps.length) (hn:(ps.all fun p=>Nat.blt p nt)=true)
  (gl:∀ S acc h,I S acc true h→h.get l=some (.loop .ready none fn tm nt ps as bd dd))
  (low:∀ (S:Nat→Prop) (acc:List α) (b:Bool) (h:Heap),I S acc b h→∀ c,S c→c<h.next)
  (stable:∀ (S:Nat→Prop) (acc:List α) (b:Bool) (h h':Heap),I S acc b h→h.next≤h'.next→(∀ c,S c→c<h.next→h'.get c=h.get c)→(h.ok→h'.ok)→I S acc b h')
  (rnd:∀ (S:Nat→Prop) (acc:List α) (s:α) (h:Heap),acc.length≤500000→A s→I S acc true h→RGives T l fn (setParams tm ps (args s)) nt as bd h (fun v h'=>∃ b,v=.bool b∧Touch S h h'∧∃ S':Nat→Prop,(∀ c,S' c→S c∨h.next≤c)∧I S' (acc++[s]) b h')):YldB T l args A I where
 call:=fun S acc s h hl a i=>⟨fn,_,nt,as,bd,by simp only [invokeA,gl S acc h i,hp s,hn]; simp,rnd S acc s h hl a i⟩
 low:=low
 stable:=stable
end Ev
end
section
namespace Ev
open Go
theorem nodup_le:∀ (N:Nat) (l:List Nat),l.Nodup→(∀ q∈l,q<N)→l.length≤N
 |0,l,_,h=>by
  cases l with
  |nil=>simp
  |cons a l=>exact absurd (h a (List.mem_cons_self ..)) (by omega)
 |N+1,l,hn,h=>by
  by_cases c:N∈l
  ·have ih:=nodup_le N (l.erase N) (hn.erase N) fun q hq=>by
    have:=hn.mem_erase_iff.1 hq
    have:=h q this.2
    omega
   rw [List.length_erase_of_mem c] at ih
   omega
  ·have:=nodup_le N l hn fun q hq=>by
    have:=h q hq
    have:q≠N:=fun e=>c (e ▸ hq)
    omega
   omega
def stN (pg:List Nat) (n:Nat):List (Nat×AV×Nat):=(pg.zipIdx n).map fun x=>(x.1,.agg [],x.2)
theorem stN_cons (q:Nat) (pg:List Nat) (n:Nat):stN (q::pg) n=(q,.agg [],n)::stN pg (n+1):=by simp [stN,List.zipIdx_cons]
theorem stN_snoc (pg:List Nat) (m n:Nat):stN (pg++[m]) n=stN pg n++[(m,.agg [],n+pg.length)]:=by simp [stN,List.zipIdx_append]
theorem stN_len (pg:List Nat) (n:Nat):(stN pg n).length=pg.length:=by simp [stN]
theorem assoc_stN (k:Nat):∀ (pg:List Nat) (n:Nat),assoc (stN pg n) k=if k∈pg then some (.agg []) else none
 |[],n=>by simp [stN,assoc]
 |q::pg,n=>by
  rw [stN_cons]
  show (if q=k then some (AV.agg []) else assoc (stN pg (n+1)) k)=_
  by_cases c:q=k
  ·rw [if_pos c,if_pos (by rw [c]; exact List.mem_cons_self ..)]
  ·rw [if_neg c,assoc_stN k pg (n+1)]
   by_cases d:k∈pg
   ·rw [if_pos d,if_pos (List.mem_cons_of_mem _ d)]
   ·rw [if_neg d,if_neg fun r=>by rcases List.mem_cons.1 r with r|r; exact c r.symm; exact d r]
def SetR (h:Heap) (M:Nat) (pg:List Nat):Prop:=M<h.next∧h.get M=some (.map (encM k32 (stN pg 0)) pg.length)
theorem SetR.keep {h h':Heap} {M:Nat} {pg:List Nat} (s:SetR h M pg) (g:h'.get M=h.get M) (hn:h.next≤h'.next):SetR h' M pg:=⟨Nat.lt_of_lt_of_le s.1 hn,g.trans s.2⟩
theorem SetR.mapR {h:Heap} {M:Nat} {pg:List Nat} (s:SetR h M pg):MapR k32 h M (fun q=>if q∈pg then some (.agg []) else none) pg.length:=⟨s.1,stN pg 0,pg.length,s.2,fun k=>assoc_stN k pg 0,stN_len _ _⟩
theorem SetR.new (h:Heap):SetR (h.alloc (.map [] 0)) h.next []:=⟨Nat.lt_succ_self _,get_new _ _⟩
theorem SetR.ins {T:Tabs} {h:Heap} {M m:Nat} {pg:List Nat} {t kt et:TypeId} (s:SetR h M pg) (hm:m ∉ pg) (ht:T.und t=some (.map kt et)) (hk:keyIs T kt (k32 m)=true):updateA T t h (.map M) (k32 m) (.agg [])=some (h.set M (.map (encM k32 (stN (pg++[m]) 0)) (pg++[m]).length)):=by
 obtain ⟨r,hr,p⟩:=find_enc k32_ok m (stN pg 0) 0
 rcases p with ⟨rfl,p⟩|⟨j,e,rfl,p1,p2,p⟩
 ·simp only [updateA,ht,hk,s.2,hr]
  rw [stN_snoc]
  simp [encM]
 ·rw [assoc_stN,if_neg hm] at p
  cases p
theorem SetR.put {h:Heap} {M m:Nat} {pg:List Nat} (s:SetR h M pg):SetR (h.set M (.map (encM k32 (stN (pg++[m]) 0)) (pg++[m]).length)) M (pg++[m]):=⟨s.1,Heap.gs _ _ _⟩
theorem memN_iff (n:Nat):∀ (l:List Nat),memN n l=true↔n∈l
 |[]=>by simp [memN]
 |m::l=>by
  rw [List.mem_cons]
  unfold memN
  split
  ·rename_i e
   exact ⟨fun _=>.inl (Nat.eq_of_beq_eq_true e),fun _=>rfl⟩
  ·rename_i e
   rw [memN_iff n l]
   constructor
   ·exact .inr
   ·rintro (r|r)
    ·subst r; simp at e
    ·exact r
theorem left_stN (seen:List Nat):∀ (pg:List Nat) (n:Nat) (e:AV×AV×Nat),e∈leftA seen (encM k32 (stN pg n))↔∃ i q,pg[i]?=some q∧n+i ∉ seen∧e=(k32 q,.agg [],n+i)
 |[],n,e=>by simp [stN,encM,leftA]
 |q::pg,n,e=>by
  rw [stN_cons]
  show e∈leftA seen ((k32 q,.agg [],n)::encM k32 (stN pg (n+1)))↔_
  have ih:=left_stN seen pg (n+1) e
  have tail:(∃ i p,pg[i]?=some p∧n+1+i ∉ seen∧e=(k32 p,AV.agg [],n+1+i))→∃ i p,(q::pg)[i]?=some p∧n+i ∉ seen∧e=(k32 p,AV.agg [],n+i):=by
   rintro ⟨i,p,a,b,c⟩
   exact ⟨i+1,p,by simpa using a,by rw [show n+(i+1)=n+1+i by omega]; exact b,by rw [c,show n+(i+1)=n+1+i by omega]⟩
  unfold leftA
  simp only
  split
  ·rename_i c
   rw [ih]
   refine ⟨tail,?_⟩
   rintro ⟨i,p,a,b,d⟩
   cases i with
   |zero=>exact absurd ((memN_iff n seen).1 c) b
   |succ i=>exact ⟨i,p,by simpa using a,by rw [show n+1+i=n+(i+1) by omega]; exact b,by rw [d,show n+(i+1)=n+1+i by omega]⟩
  ·rename_i c
   rw [List.mem_cons,ih]
   constructor
   ·rintro (r|r)
    ·exact ⟨0,q,rfl,fun k=>(by rw [(memN_iff n seen).2 k] at c; cases c),r⟩
    ·exact tail r
   ·rintro ⟨i,p,a,b,d⟩
    cases i with
    |zero=>simp at a; subst a; exact .inl d
    |succ i=>exact .inr ⟨i,p,by simpa using a,by rw [show n+1+i=n+(i+1) by omega]; exact b,by rw [d,show n+(i+1)=n+1+i by omega]⟩
theorem allOld_of (since:Nat):∀ (l:List (AV×AV×Nat)),(∀ e∈l,e.2.2<since)→allOld since l=true
 |[],_=>rfl
 |e::l,h=>by
  have h1:Nat.blt e.2.2 since=true:=Nat.ble_eq.mpr (h e (List.mem_cons_self ..))
  unfold allOld
  rw [h1]
  exact allOld_of since l fun e he=>h e (List.mem_cons_of_mem _ he)
theorem nexts_of (m:Option Nat) (since clock b:Nat) (seen:List Nat) (h:Heap):∀ (l:List (AV×AV×Nat)) (p:AV×Heap),p∈nextsA m since seen clock h b l→∃ e∈l,p=(.tuple [.bool true,e.1,e.2.1],h.set b (.iter m since (seen++[e.2.2]) clock))
 |[],p,hp=>by cases hp
 |e::l,p,hp=>by
  rcases List.mem_cons.1 hp with r|r
  ·exact ⟨e,List.mem_cons_self ..,r⟩
  ·obtain ⟨e',a,b⟩:=nexts_of m since clock b seen h l p r
   exact ⟨e',List.mem_cons_of_mem _ a,b⟩
theorem next_unf {T:Tabs} {h:Heap} {b M:Nat} {pg seen:List Nat} (s:SetR h M pg) (g:h.get b=some (.iter (some M) pg.length seen pg.length)):nextA T h b=match leftA seen (encM k32 (stN pg 0)) with
    |[]=>.val (.tuple [.bool false]) h
    |[e]=>match Nat.blt e.2.2 pg.length with
     |true=>.val (.tuple [.bool true,e.1,e.2.1]) (h.set b (.iter (some M) pg.length (seen++[e.2.2]) pg.length))
     | false => .no "next: a new entry"
    |l=>match T.alts&&allOld pg.length l with
     |true=>.choice (nextsA (some M) pg.length seen pg.length h b l)
     | false => .no "next: a new entry" := by
 have g2:=s.2
 unfold nextA
 rw [g]
 dsimp only
 rw [g2]
 cases seen with
 |nil=>rfl
 |cons a l =>
  cases pg with
  |nil=>rfl
  |cons q pg =>
   rfl
theorem next_set {T:Tabs} (hT:T.alts=true) {h:Heap} {b M:Nat} {pg seen:List Nat} (s:SetR h M pg) (g:h.get b=some (.iter (some M) pg.length seen pg.length)) :
  ((∀ i,i<pg.length→i∈seen)∧nextA T h b=.val (.tuple [.bool false]) h)∨(∃ i q,pg[i]?=some q∧i ∉ seen∧nextA T h b=.val (.tuple [.bool true,k32 q,.agg []]) (h.set b (.iter (some M) pg.length (seen++[i]) pg.length))) ∨
    ∃ l,l≠[]∧nextA T h b=.choice l∧∀ p∈l,∃ i q,pg[i]?=some q∧i ∉ seen∧p=(.tuple [.bool true,k32 q,.agg []],h.set b (.iter (some M) pg.length (seen++[i]) pg.length)):=by
 have hl:=left_stN seen pg 0
 have lt:∀ {i q},pg[i]?=some q→i<pg.length:=fun h=>(List.getElem?_eq_some_iff.1 h).1
 rw [next_unf s g]
 generalize leftA seen (encM k32 (stN pg 0))=lf at hl
 cases lf with
 |nil =>
  refine .inl ⟨fun i hi=>Decidable.byContradiction fun c=>?_,rfl⟩
  have:=(hl (k32 pg[i],.agg [],0+i)).2 ⟨i,pg[i],List.getElem?_eq_getElem hi,by rw [Nat.zero_add]; exact c,rfl⟩
  cases this
 |cons e l =>
  have old:∀ e'∈e::l,e'.2.2<pg.length:=fun e' he'=>by
   obtain ⟨i,q,a,_,c⟩:=(hl e').1 he'
   rw [c]; simpa using lt a
  cases l with
  |nil =>
   obtain ⟨i,q,a,b',c⟩:=(hl e).1 (List.mem_cons_self ..)
   have:=old e (List.mem_cons_self ..)
   refine .inr (.inl ⟨i,q,a,by simpa using b',?_⟩)
   have h1:Nat.blt e.2.2 pg.length=true:=Nat.ble_eq.mpr this
   simp only [h1]
   rw [c]; simp
  |cons e2 l =>
   refine .inr (.inr ⟨nextsA (some M) pg.length seen pg.length h b (e::e2::l),by simp [nextsA],?_,fun p hp=>?_⟩)
   ·simp only [hT,allOld_of _ _ old,Bool.and_self]
   ·obtain ⟨e',he',r⟩:=nexts_of _ _ _ _ _ _ _ p hp
    obtain ⟨i,q,a,b',c⟩:=(hl e').1 he'
    exact ⟨i,q,a,by simpa using b',by rw [r,c]; simp⟩
theorem lastN_snoc (l:List Nat) (i:Nat):lastN (l++[i])=some i:=by
 induction l with
 |nil=>rfl
 |cons a l ih =>
  cases l with
  |nil=>rfl
  |cons b l=>exact ih
theorem born_stN (i q:Nat):∀ (pg:List Nat) (n:Nat),pg[i]?=some q→bornA (n+i) (encM k32 (stN pg n))=some (k32 q,.agg [],n+i)
 |[],n,h=>by simp at h
 |p::pg,n,h=>by
  rw [stN_cons]
  show bornA (n+i) ((k32 p,.agg [],n)::encM k32 (stN pg (n+1)))=_
  unfold bornA
  cases i with
  |zero =>
   simp at h
   subst h
   simp
  |succ i =>
   have e:Nat.beq n (n+(i+1))=false:=by
    cases c:Nat.beq n (n+(i+1)) with
    |false=>rfl
    |true=>have:=Nat.eq_of_beq_eq_true c; omega
   simp only [e]
   have:=born_stN i q pg (n+1) (by simpa using h)
   rw [show n+1+i=n+(i+1) by omega] at this
   exact this
theorem entry_set {h:Heap} {b M i q:Nat} {pg seen:List Nat} (s:SetR h M pg) (g:h.get b=some (.iter (some M) pg.length (seen++[i]) pg.length)) (hi:pg[i]?=some q):entryA h b=some (.tuple [k32 q,.agg []]):=by
 have hb:=born_stN i q pg 0 hi
 rw [Nat.zero_add] at hb
 unfold entryA
 simp only [g,lastN_snoc,s.2,hb,Nat.beq_refl]
variable {T:Tabs} {h:Heap} {cx:Cx} {k:List K} {Q:Res→Prop} {all rest:List Oper} {df:List ADef} {pan:Option (AV×Bool)} {L:List (Nat×AV)} {o:Oper} {d:Nat}
theorem jo_choice {l:List (AV×Heap)} (hg:wantedL all L o=some true) (hd:o.dst=some d) (hn:Nat.blt d cx.nt=true) (ho:opA T (envL L) o h=.choice l) (hl:l≠[]) (c:∀ p,p∈l→OJ T cx all rest k ((d,p.1)::L) df pan p.2 Q):OJ T cx all (o::rest) k L df pan h Q :=
 ⟨fun tm hs=>⟨ops_choice hs hg hd ho hn hl fun p hp tm' s'=>((c p hp).out tm' s').out⟩⟩
theorem jo_next {b M:Nat} {pg seen:List Nat} (hT:T.alts=true) (sr:SetR h M pg) (g:h.get b=some (.iter (some M) pg.length seen pg.length)) (hg:wantedL all L o=some true) (hd:o.dst=some d) (hn:Nat.blt d cx.nt=true) (ho:opA T (envL L) o h=nextA T h b)
  (done:(∀ i,i<pg.length→i∈seen)→OJ T cx all rest k ((d,.tuple [.bool false])::L) df pan h Q)
  (more:∀ i q,pg[i]?=some q→i ∉ seen→OJ T cx all rest k ((d,.tuple [.bool true,k32 q,.agg []])::L) df pan (h.set b (.iter (some M) pg.length (seen++[i]) pg.length)) Q):OJ T cx all (o::rest) k L df pan h Q:=by
 rcases next_set hT sr g with ⟨a,e⟩|⟨i,q,a,b',e⟩|⟨l,hl,e,a⟩
 ·exact jo_val hg hd hn (ho.trans e) (done a)
 ·exact jo_val hg hd hn (ho.trans e) (more i q a b')
 ·refine jo_choice hg hd hn (ho.trans e) hl fun p hp=>?_
  obtain ⟨i,q,a1,a2,rfl⟩:=a p hp
  exact more i q a1 a2
theorem k_range {ρ:Operand→Option AV} {t kt et:TypeId} {x:Operand} {M:Nat} {pg:List Nat} (s:SetR h M pg) (ho:o.op=.range t x) (ht:T.und t=some (.map kt et)) (hx:ρ x=some (.map M)):opA T ρ o h=.val (.ptr h.next 0) (h.alloc (.iter (some M) pg.length [] pg.length)):=by
 cases o; cases ho
 simp only [opA,hx,rangeA,ht,s.2]
theorem k_next {ρ:Operand→Option AV} {it:Operand} {s:Bool} {b:Nat} (ho:o.op=.next it s) (hs:s=false) (hx:ρ it=some (.ptr b 0)):opA T ρ o h=nextA T h b:=by
 cases o; cases ho; subst hs
 simp only [opA,hx]
theorem k_entry {ρ:Operand→Option AV} {it:Operand} {b M i q:Nat} {pg seen:List Nat} (s:SetR h M pg) (g:h.get b=some (.iter (some M) pg.length (seen++[i]) pg.length)) (hi:pg[i]?=some q) (ho:o.op=.entry it) (hx:ρ it=some (.ptr b 0)):opA T ρ o h=.val (.tuple [k32 q,.agg []]) h:=by
 cases o; cases ho
 simp only [opA,hx,entry_set s g hi,rv]
end Ev
end
