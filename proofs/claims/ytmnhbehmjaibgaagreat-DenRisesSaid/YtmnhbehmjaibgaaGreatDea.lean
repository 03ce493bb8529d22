/- What the functions of this part answer at any input, told by the rules over the evaluator. Conditions: those that each theorem states. -/
import Derived.Test.YtmnhbehmjaibgaaGreatGar
import Derived.Test.YtmnhbehmjaibgaaGreatGaq
import Derived.Test.YtmnhbehmjaibgaaGreatGof
import Derived.Test.YtmnhbehmjaibgaaGreatDap
set_option linter.unusedVariables false
set_option linter.unusedSimpArgs false
open Go Ev
namespace Go.Proofs.YtmnhbehmjaibgaaGreat
set_option maxRecDepth 10000
set_option maxHeartbeats 4000000
def flD (x:List UInt8×Pr):List AV:=[.str x.1,.agg x.2.cs]
def allD (bs:List (List UInt8×List Pr)):List (List UInt8×Pr):=bs.flatMap fun b=>b.2.map (b.1,·)
theorem allD_snoc (bs:List (List UInt8×List Pr)) (b:List UInt8×List Pr):allD (bs++[b])=allD bs++b.2.map (b.1,·):=by simp [allD]
theorem allD_pre {bs:List (List UInt8×List Pr)} {i:Nat} {b:List UInt8×List Pr} (h:bs[i]?=some b) (j:Nat):(allD (bs.take i)++(b.2.take j).map (b.1,·)) <+: allD bs:=by
 obtain ⟨hi,rfl⟩:=List.getElem?_eq_some_iff.1 h
 have e:bs=bs.take i++bs[i]::bs.drop (i+1):=by
  conv=>lhs; rw [← List.take_append_drop i bs,List.drop_eq_getElem_cons hi]
 have e2:allD bs=allD (bs.take i)++(bs[i].2.map (bs[i].1,·)++allD (bs.drop (i+1))):=by
  rw [show allD bs=allD (bs.take i++bs[i]::bs.drop (i+1)) from congrArg allD e]
  unfold allD
  rw [List.flatMap_append,List.flatMap_cons]
 rw [e2]
 refine (List.prefix_append_right_inj _).2 ?_
 refine List.IsPrefix.trans ?_ (List.prefix_append _ _)
 exact (List.take_prefix j _).map _
def DenN (nl:List (List UInt8×AV)) (h:Heap) (v:AV) (bs:List (List UInt8×List Pr)):Prop:=Ls Nm.cs 2 h v nl∧nl.length=bs.length∧∀ (j:Nat) (x:List UInt8×AV) (b:List UInt8×List Pr),nl[j]?=some x→bs[j]?=some b→x.1=b.1∧Ls Pr.cs 2 h x.2 b.2
structure EaI (bs:List (List UInt8×List Pr)) (I:(Nat→Prop)→List (List UInt8×Pr)→Bool→Heap→Prop) (S0:Nat→Prop) (h0:Heap) (acc:List (List UInt8×Pr)) (S:Nat→Prop) (h:Heap):Prop where
 t:Ev.Touch S0 h0 h
 k:h.ok
 i:I S acc true h
 s:∀ c,S c→S0 c∨h0.next≤c
theorem each1_g {n l b:Nat} {nl:List (List UInt8×AV)} {dv:AV} {bs:List (List UInt8×List Pr)} {A:List UInt8×Pr→Prop} {I:(Nat→Prop)→List (List UInt8×Pr)→Bool→Heap→Prop} {S0:Nat→Prop} {h0:Heap} (yl:YldB (TV n) l flD A I) (hk:h0.ok) (gb:h0.get b=some (.cells 27 [dv] true)) (lb:b<h0.next) (nb:¬ S0 b) (i0:I S0 [] true h0)
  (fr:∀ S acc h',h0.next≤h'.next→(∀ c,c<h0.next→¬ S0 c→h'.get c=h0.get c)→h'.ok→I S acc true h'→DenN nl h' dv bs) (hA:∀ x∈allD bs,A x) (hl:(allD bs).length≤400000) (hb:bs.length≤1000) (hp:∀ b∈bs,b.2.length≤1000000) :
  Gives (TV n) 39 [.func (.yield l) [] [],.ptr b 0] h0 (fun v h'=>v=.tuple []∧∃ S acc bb,Ev.Touch S0 h0 h'∧h'.ok∧I S acc bb h'∧(∀ c,S c→S0 c∨h0.next≤c)∧acc <+: allD bs∧(bb=true→acc=allD bs)):=by
 obtain ⟨d1,d2,d3⟩:=fr S0 [] h0 (Nat.le_refl _) (fun _ _ _=>rfl) hk i0
 have e1:=d1.len
 have n1:=d1.ns
 rw [d2] at e1
 refine call_j (no_w rfl rfl) rfl rfl ?_
 refine walk ?_
 refine jg_loop (ι:=Nat×(Nat→Prop)) (fun a=>bs.length-a.1) (fun a=>[(0,.func (.yield l) [] []),(8,dv),(9,.int .i64 (bs.length:Nat)),(10,.int .i64 (a.1:Nat))]) (fun a h2=>a.1≤bs.length∧EaI bs I S0 h0 (allD (bs.take a.1)) a.2 h2) (0,S0) (by exact hsub) ⟨Nat.zero_le _,.refl _ _,hk,by simpa [allD] using i0,fun c q=>.inl q⟩ ?_
 rintro ⟨i,S⟩ h2 ⟨hi,e2⟩ next
 dsimp only at hi e2 next ⊢
 have tt:=e2.t
 have nx2:=tt.nx
 have k2:=e2.k
 by_cases c:i<bs.length
 case neg =>
  have ei:bs.take i=bs:=List.take_of_length_le (by omega)
  rw [ei] at e2
  refine walk ?_
  exact jg_nil fun tm hs=>ends_normal hs rfl ⟨rfl,S,_,true,tt,k2,e2.i,e2.s,List.prefix_refl _,fun _=>rfl⟩
 obtain ⟨f1,f2,f3⟩:=fr _ _ h2 nx2 tt.old k2 e2.i
 obtain ⟨y,hy⟩:∃ y,nl[i]?=some y:=⟨_,List.getElem?_eq_getElem (by omega)⟩
 obtain ⟨bk,hb0⟩:∃ b,bs[i]?=some b:=⟨_,List.getElem?_eq_getElem c⟩
 obtain ⟨q1,q2⟩:=f3 i y bk hy hb0
 obtain ⟨B,p,e,all,rw',hbB,hg,hpl,he,a1⟩:=f1.at Nm.len hy
 have he:(all.drop p).take 2=[.str y.1,y.2]:=he
 have yo:=Sl.one q2
 have yc:=Sl.cells q2
 have lw:=q2.len
 have nw:=q2.ns
 have bm:=hp bk (List.mem_of_getElem? hb0)
 have et:bs.take (i+1)=bs.take i++[bk]:=by rw [List.take_add_one,hb0]; rfl
 refine walk ?_
 refine jo_skip rfl rfl (k_storeN (n:=2) (cs:=[.str [],.nilslice]) (vs:=[.str y.1,y.2]) rfl rfl rfl rfl rfl (by simp [yo]; rfl) (get_new _ _) (by decide)) ?_
 refine walk ?_
 have lowS:=yl.low S _ true h2 e2.i
 have iA:=yl.stable S _ true h2 ((h2.alloc (.cells 35 [.str [],.nilslice] true)).set h2.next (.cells 35 [.str y.1,y.2] true)) e2.i (Nat.le_succ _) (fun c q hc=>(Heap.gn _ _ _ _ (by omega)).trans (Heap.ga _ _ _ (by omega))) (fun k=>ok_st (ok_al k _) _ _ (Nat.lt_succ_self _))
 refine jg_loop (ι:=Nat×(Nat→Prop)) (fun a=>bk.2.length-a.1) (fun a=>[(0,.func (.yield l) [] []),(4,.ptr h2.next 0),(8,dv),(9,.int .i64 (bs.length:Nat)),(10,.int .i64 (i:Nat)),(15,y.2),(16,.int .i64 (bk.2.length:Nat)),(17,.int .i64 (a.1:Nat))]) (fun a h4=>a.1≤bk.2.length∧EaI bs I S0 h0 (allD (bs.take i)++(bk.2.take a.1).map (bk.1,·)) a.2 h4∧¬ a.2 h2.next∧h2.next<h4.next∧h4.get h2.next=some (.cells 35 [.str y.1,y.2] true)) (0,S) (by exact hsub) ⟨Nat.zero_le _,⟨⟨Nat.le_trans nx2 (Nat.le_succ _),fun c hc q=>(Heap.gn _ _ _ _ (by omega)).trans ((Heap.ga _ _ _ (by omega)).trans (tt.old c hc q)),fun _=>by exact hok⟩,by exact hok,by simp only [List.take_zero,List.map_nil,List.append_nil]; exact iA,e2.s⟩,fun q=>by have:=lowS _ q; omega,Nat.lt_succ_self _,Heap.gs _ _ _⟩ ?_
 rintro ⟨j,S4⟩ h4 ⟨hj,e4,nS4,l4,g4⟩ next4
 dsimp only at hj e4 nS4 next4 ⊢
 have t4:=e4.t
 have n4:=t4.nx
 have k4:=e4.k
 by_cases c4:j<bk.2.length
 case neg =>
  have ej:bk.2.take j=bk.2:=List.take_of_length_le (by omega)
  rw [ej] at e4
  refine walk ?_
  refine next (i+1,S4) (by simp only; omega) (by exact hsub) ⟨by simp only; omega,?_⟩
  simp only
  rw [et,allD_snoc]
  exact e4
 obtain ⟨r1,r2,r3⟩:=fr _ _ h4 n4 t4.old k4 e4.i
 obtain ⟨w1,w2⟩:=r3 i y bk hy hb0
 obtain ⟨x,hx⟩:∃ x,bk.2[j]?=some x:=⟨_,List.getElem?_eq_getElem c4⟩
 clear a1 hbB hg hpl he
 obtain ⟨B,p,e,all,rw',hbB,hg,hpl,he,a1⟩:=w2.at Pr.csl hx
 have he:(all.drop p).take 2=[.str x.key,.str x.val]:=he
 have et4:bk.2.take (j+1)=bk.2.take j++[x]:=by rw [List.take_add_one,hx]; rfl
 refine walk ?_
 have pre:=allD_pre hb0 (j+1)
 have pl:=pre.length_le
 have em:allD (bs.take i)++(bk.2.take (j+1)).map (bk.1,·)=(allD (bs.take i)++(bk.2.take j).map (bk.1,·))++[(y.1,x)]:=by rw [et4,List.map_append,w1,List.append_assoc]; rfl
 rw [em] at pl pre
 have la:(allD (bs.take i)++(bk.2.take j).map (bk.1,·)).length≤500000:=by rw [List.length_append] at pl; omega
 have lowS4:=yl.low S4 _ true h4 e4.i
 obtain ⟨H,hH⟩:∃ H,H=(h4.alloc (.cells 37 [.str [],.str []] true)).set h4.next (.cells 37 [.str x.key,.str x.val] true):=⟨_,rfl⟩
 have oH:∀ c,c<h4.next→H.get c=h4.get c:=fun c hc=>by rw [hH]; exact (Heap.gn _ _ _ _ (by omega)).trans (Heap.ga _ _ _ (by omega))
 have nH:H.next=h4.next+1:=by rw [hH]; rfl
 have kH:H.ok:=by rw [hH]; exact ok_st (ok_al k4 _) _ _ (Nat.lt_succ_self _)
 have iH:=yl.stable S4 _ true h4 H e4.i (by omega) (fun c q hc=>oH c hc) (fun _=>kH)
 obtain ⟨fn,tm,nt,asg,bd,einv,rg⟩:=yl.call S4 _ (y.1,x) H la (hA _ (pre.subset (by simp))) iH
 rw [hH] at einv rg
 refine jo_round rg rfl rfl rfl (k_yield einv rfl rfl rfl) ?_
 rw [← hH]
 rintro _ h5 ⟨bb,rfl,t5,S',s',i5⟩
 have n5:=t5.nx
 have o5:∀ c,c<h4.next→¬ S4 c→h5.get c=h4.get c:=fun c hc q=>(t5.old c (by omega) q).trans (oH c hc)
 have tt5:Ev.Touch S0 h0 h5:=⟨by omega,fun c hc q=>(o5 c (by omega) (fun r=>by rcases e4.s c r with r|r; exact q r; omega)).trans (t4.old c hc q),fun _=>t5.ok kH⟩
 have S5:∀ c,S' c→S0 c∨h0.next≤c:=fun c q=>by
  rcases s' c q with r|r
  ·exact e4.s c r
  ·exact .inr (by omega)
 cases bb with
 |false =>
  refine walk ?_
  exact jg_fin fun tm hs=>ends_ret hs rfl ⟨rfl,S',_,false,tt5,t5.ok kH,i5,S5,pre,fun q=>by cases q⟩
 |true =>
  refine walk ?_
  refine next4 (j+1,S') (by simp only; omega) (by exact hsub) ⟨by simp only; omega,⟨tt5,t5.ok kH,by simp only; rw [em]; exact i5,S5⟩,fun q=>?_,by omega,(o5 _ l4 nS4).trans g4⟩
  rcases s' _ q with r|r
  ·exact nS4 r
  ·omega
set_option maxRecDepth 10000
set_option maxHeartbeats 4000000
theorem DenN.ext {nl:List (List UInt8×AV)} {h h':Heap} {v:AV} {bs:List (List UInt8×List Pr)} (d:DenN nl h v bs) (x:Ext h h'):DenN nl h' v bs:=⟨d.1.ext x,d.2.1,fun j y b h1 h2=>⟨(d.2.2 j y b h1 h2).1,(d.2.2 j y b h1 h2).2.ext x⟩⟩
def hitD (nm key:List UInt8) (x:List UInt8×Pr):Bool:=decide (x.1=nm)&&decide (x.2.key=key)
def getD (bs:List (List UInt8×List Pr)) (nm key:List UInt8):Option (List UInt8):=((allD bs).find? (hitD nm key)).map (·.2.val)
def getV (r:Option (List UInt8)):AV:=match r with
 |some s=>.tuple [.str s,.bool true]
 |none=>.tuple [.str [],.bool false]
structure GetI (nm key:List UInt8) (D:Nat) (O:AObj) (S:Nat→Prop) (acc:List (List UInt8×Pr)) (b:Bool) (h:Heap):Prop where
 k:h.ok
 low:∀ c,S c→c<h.next
 s0:S (D+1)∧S (D+2)∧S (D+3)∧S (D+4)∧S (D+6)∧S (D+7)
 g1:h.get (D+1)=some (.cells 9 [.str nm] true)
 g2:h.get (D+2)=some (.cells 9 [.str key] true)
 gd:h.get (D+6)=some (.dfr (some []))
 st:match b with
  |true=>h.get (D+7)=some O∧h.get (D+3)=some (.cells 9 [.str []] true)∧h.get (D+4)=some (.cells 4 [.bool false] true)∧∀ x∈acc,hitD nm key x=false
  |false=>(∃ fn tm nt ps as' bd dd,h.get (D+7)=some (.loop .done (some .ret) fn tm nt ps as' bd dd))∧∃ acc' x,acc=acc'++[x]∧hitD nm key x=true∧(∀ y∈acc',hitD nm key y=false)∧h.get (D+3)=some (.cells 9 [.str x.2.val] true)∧h.get (D+4)=some (.cells 4 [.bool true] true)
theorem GetI.stable {nm key:List UInt8} {D:Nat} {O:AObj} {S:Nat→Prop} {acc:List (List UInt8×Pr)} {b:Bool} {h h':Heap} (i:GetI nm key D O S acc b h) (hn:h.next≤h'.next) (k:∀ c,S c→c<h.next→h'.get c=h.get c) (hk:h.ok→h'.ok):GetI nm key D O S acc b h':=by
 obtain ⟨a1,a2,a3,a4,a5,a6⟩:=i.s0
 have q:∀ c,S c→h'.get c=h.get c:=fun c s=>k c s (i.low c s)
 refine ⟨hk i.k,fun c s=>Nat.lt_of_lt_of_le (i.low c s) hn,i.s0,(q _ a1).trans i.g1,(q _ a2).trans i.g2,(q _ a5).trans i.gd,?_⟩
 have st:=i.st
 cases b with
 |true=>exact ⟨(q _ a6).trans st.1,(q _ a3).trans st.2.1,(q _ a4).trans st.2.2.1,st.2.2.2⟩
 |false =>
  obtain ⟨⟨fn,tm,nt,ps,as',bd,dd,gl⟩,acc',x,e,hx,ha,g3,g4⟩:=st
  exact ⟨⟨fn,tm,nt,ps,as',bd,dd,(q _ a6).trans gl⟩,acc',x,e,hx,ha,(q _ a3).trans g3,(q _ a4).trans g4⟩
theorem GetI.no {nm key:List UInt8} {D:Nat} {O:AObj} {S:Nat→Prop} {acc:List (List UInt8×Pr)} {H Z:Heap} {x:List UInt8×Pr} (i:GetI nm key D O S acc true H) (hh:hitD nm key x=false) (nZ:H.next≤Z.next) (oZ:∀ c,c<H.next→c≠D+7→Z.get c=H.get c) (kZ:Z.ok) (gZ:Z.get (D+7)=some O):Ev.Touch S H Z∧∃ S':Nat→Prop,(∀ c,S' c→S c∨H.next≤c)∧GetI nm key D O S' (acc++[x]) true Z:=by
 obtain ⟨a1,a2,a3,a4,a5,a6⟩:=i.s0
 obtain ⟨gl,g3,g4,al⟩:=i.st
 have low:=i.low
 refine ⟨⟨nZ,fun c hc q=>oZ c hc (fun e=>q (e ▸ a6)),fun _=>kZ⟩,S,fun c q=>.inl q,⟨kZ,fun c q=>Nat.lt_of_lt_of_le (low c q) nZ,i.s0,(oZ _ (low _ a1) (by omega)).trans i.g1,(oZ _ (low _ a2) (by omega)).trans i.g2,(oZ _ (low _ a5) (by omega)).trans i.gd,gZ,(oZ _ (low _ a3) (by omega)).trans g3,(oZ _ (low _ a4) (by omega)).trans g4,fun y hy=>?_⟩⟩
 rcases List.mem_append.1 hy with r|r
 ·exact al y r
 ·obtain rfl:=List.mem_singleton.1 r
  exact hh
theorem GetI.hit {nm key:List UInt8} {D:Nat} {O:AObj} {S:Nat→Prop} {acc:List (List UInt8×Pr)} {H Z:Heap} {x:List UInt8×Pr} {fn:FuncId} {tm:Tr AV} {nt:Nat} {ps:List Tmp} {as' bd:Code} {dd:Nat} (i:GetI nm key D O S acc true H) (hh:hitD nm key x=true) (nZ:H.next≤Z.next) (oZ:∀ c,c<H.next→c≠D+3→c≠D+4→c≠D+7→Z.get c=H.get c) (kZ:Z.ok) (g3:Z.get (D+3)=some (.cells 9 [.str x.2.val] true)) (g4:Z.get (D+4)=some (.cells 4 [.bool true] true)) (gZ:Z.get (D+7)=some (.loop .done (some .ret) fn tm nt ps as' bd dd)):Ev.Touch S H Z∧∃ S':Nat→Prop,(∀ c,S' c→S c∨H.next≤c)∧GetI nm key D O S' (acc++[x]) false Z:=by
 obtain ⟨a1,a2,a3,a4,a5,a6⟩:=i.s0
 obtain ⟨-,-,-,al⟩:=i.st
 have low:=i.low
 exact ⟨⟨nZ,fun c hc q=>oZ c hc (fun e=>q (e ▸ a3)) (fun e=>q (e ▸ a4)) (fun e=>q (e ▸ a6)),fun _=>kZ⟩,S,fun c q=>.inl q,⟨kZ,fun c q=>Nat.lt_of_lt_of_le (low c q) nZ,i.s0,(oZ _ (low _ a1) (by omega) (by omega) (by omega)).trans i.g1,(oZ _ (low _ a2) (by omega) (by omega) (by omega)).trans i.g2,(oZ _ (low _ a5) (by omega) (by omega) (by omega)).trans i.gd,⟨fn,tm,nt,ps,as',bd,dd,gZ⟩,acc,x,rfl,hh,al,g3,g4⟩⟩
theorem each_fn {n:Nat} {dv:AV} {h:Heap}:Gives (TV n) 11 [.agg [dv]] h (fun v h'=>v=.func (.func 39) [] [.ptr h.next 0]∧h'=h.alloc (.cells 27 [dv] true)):=by
 refine call_j (no_w rfl rfl) rfl rfl ?_
 refine walk ?_
 exact jg_ret1 (by exact hres) ⟨rfl,rfl⟩
theorem get_loop {n:Nat} {nm key:List UInt8} {nl:List (List UInt8×AV)} {dv:AV} {bs:List (List UInt8×List Pr)} {h0 h1:Heap} {D:Nat} {fn:FuncId} {tm:Tr AV} {nt:Nat} {as' bd:Code} (dn:DenN nl h0 dv bs) (x1:Ext h0 h1) (k1:h1.ok) (hD:h0.next≤D) (n1:h1.next=D+6) (q1:h1.get (D+1)=some (.cells 9 [.str nm] true)) (q2:h1.get (D+2)=some (.cells 9 [.str key] true)) (q3:h1.get (D+3)=some (.cells 9 [.str []] true)) (q4:h1.get (D+4)=some (.cells 4 [.bool false] true)) (q5:h1.get (D+5)=some (.cells 27 [dv] true)) (hl:(allD bs).length≤400000) (hb:bs.length≤1000) (hp:∀ b∈bs,b.2.length≤1000000) (hnt:(([12,13]:List Tmp).all fun p=>Nat.blt p nt)=true)
  (rnd:∀ (S:Nat→Prop) (acc:List (List UInt8×Pr)) (s:List UInt8×Pr) (h:Heap),acc.length≤500000→GetI nm key D (.loop .ready none fn tm nt [12,13] as' bd (D+6)) S acc true h→RGives (TV n) (D+7) fn (setParams tm [12,13] (flD s)) nt as' bd h (fun v h'=>∃ b,v=.bool b∧Ev.Touch S h h'∧∃ S':Nat→Prop,(∀ c,S' c→S c∨h.next≤c)∧GetI nm key D (.loop .ready none fn tm nt [12,13] as' bd (D+6)) S' (acc++[s]) b h')) :
  Gives (TV n) 39 [.func (.yield (h1.next+1)) [] [],.ptr (D+5) 0] ((h1.alloc (.dfr (some []))).alloc (.loop .ready none fn tm nt [12,13] as' bd h1.next)) fun _ h4=>∃ S acc b,(∀ c,c<D→h4.get c=h1.get c)∧h4.ok∧D+8≤h4.next∧GetI nm key D (.loop .ready none fn tm nt [12,13] as' bd (D+6)) S acc b h4∧acc <+: allD bs∧(b=true→acc=allD bs):=by
 have nl':h1.next+1=D+7:=by omega
 have x2:Ext h0 ((h1.alloc (.dfr (some []))).alloc (.loop .ready none fn tm nt [12,13] as' bd h1.next)):=(x1.trans (.alloc _ _)).trans (.alloc _ _)
 refine Gives.mono (each1_g (n:=n) (nl:=nl) (dv:=dv) (bs:=bs) (l:=h1.next+1) (b:=D+5) (A:=fun _=>True) (I:=GetI nm key D (.loop .ready none fn tm nt [12,13] as' bd (D+6))) (S0:=fun c=>c=D+1∨c=D+2∨c=D+3∨c=D+4∨c=D+6∨c=D+7) (yldB_of (ps:=[12,13]) (fun _=>rfl) hnt (fun S acc h i=>by rw [nl']; exact i.st.1) (fun S acc b h i=>i.low) (fun S acc b h h' i hn k o=>i.stable hn k o) (by rw [nl']; exact fun S acc s h la _ i=>rnd S acc s h la i)) (by exact hok) (by exact hget) (by show D+5<h1.next+1+1; omega) (by omega) ?_ ?_ (fun _ _=>trivial) hl hb hp) ?_
 ·exact ⟨by exact hok,fun c q=>by show c<h1.next+1+1; omega,⟨by omega,by omega,by omega,by omega,by omega,by omega⟩,by exact hget,by exact hget,by rw [← n1]; exact hget,by rw [← nl',← n1]; exact get_new _ _,by exact hget,by exact hget,fun x hx=>by cases hx⟩
 ·intro _ _ h' hn hc hk' _
  have d2:=dn.ext x2
  have n2:h0.next≤h1.next+1+1:=x2.nx
  refine dn.ext ⟨Nat.le_trans x2.nx hn,fun c hc'=>(hc c (by show c<h1.next+1+1; omega) (by omega)).trans (x2.old c hc'),fun _=>hk'⟩
 ·rintro _ h4 ⟨-,S,acc,b,t,k4,i,s,f1,f2⟩
  have nx:h1.next+1+1≤h4.next:=t.nx
  refine ⟨S,acc,b,fun c hc=>?_,k4,by omega,i,f1,f2⟩
  refine (t.old c (by show c<h1.next+1+1; omega) (by omega)).trans ?_
  exact (Heap.ga _ _ _ (by show c≠h1.next+1; omega)).trans (Heap.ga _ _ _ (by omega))
theorem DenN.any {nl:List (List UInt8×AV)} {h h':Heap} {v:AV} {bs:List (List UInt8×List Pr)} (d:DenN nl h v bs) (p:v.plain=true):DenN nl h' v bs:=by
 obtain ⟨a,b,c⟩:=d
 have hl:nl=[]:=by
  have a':Sl h 2 v nl.length (nl.flatMap Nm.cs):=a
  cases v<;>first|(simp [AV.plain] at p; done)|exact a'.elim|exact List.length_eq_zero_iff.1 a'.1
 subst hl
 exact ⟨a.any p,b,fun j x y q=>by simp at q⟩
theorem getD_of {bs:List (List UInt8×List Pr)} {nm key:List UInt8} {acc:List (List UInt8×Pr)} {x:List UInt8×Pr} (h1:(acc++[x]) <+: allD bs) (h2:hitD nm key x=true) (h3:∀ y∈acc,hitD nm key y=false):getD bs nm key=some x.2.val:=by
 obtain ⟨r,e⟩:=h1
 unfold getD
 rw [← e,List.find?_append,List.find?_append,List.find?_eq_none.2 fun y hy=>by rw [h3 y hy]; simp]
 simp [h2]
theorem getD_no {bs:List (List UInt8×List Pr)} {nm key:List UInt8} (h3:∀ y∈allD bs,hitD nm key y=false):getD bs nm key=none:=by
 unfold getD
 rw [List.find?_eq_none.2 fun y hy=>by rw [h3 y hy]; simp]
 rfl
theorem dget_w {n:Nat} (hn:0<n) {nm key:List UInt8} {nl:List (List UInt8×AV)} {dv:AV} {bs:List (List UInt8×List Pr)} {h:Heap} (hk:h.ok) (dn:DenN nl h dv bs) (hl:(allD bs).length≤400000) (hb:bs.length≤1000) (hp:∀ b∈bs,b.2.length≤1000000):(TV n).sm 12 [.agg [dv],.str nm,.str key] h=some (getV (getD bs nm key),h):=by
 refine w_in hn (fun h=>DenN nl h dv bs∧h.ok) rfl (by unfold getV; split<;>rfl) ⟨dn,hk⟩ (fun hp=>⟨dn.any (by simp [AV.plains,AV.plain] at hp; exact hp),ok_nil⟩) ?_
 clear dn hk h
 rintro n hn h ⟨dn,hk⟩
 have dvc:=Sl.cells dn.1
 have dvo:=Sl.one dn.1
 refine body_jl rfl rfl ?_
 refine walk ?_
 refine jo_call (each_fn (dv:=dv)) rfl rfl rfl rfl ?_
 rintro _ _ ⟨rfl,rfl⟩
 refine walk ?_
 refine GJ.gen [(3,.ptr h.next 0),(4,.ptr (h.next+1) 0),(5,.ptr (h.next+2) 0),(6,.ptr (h.next+3) 0),(7,.ptr (h.next+4) 0),(11,.func (.func 39) [] [.ptr (h.next+5) 0])] (fun g=>Ext h g∧g.ok∧g.next=h.next+6∧g.get (h.next+1)=some (.cells 9 [.str nm] true)∧g.get (h.next+2)=some (.cells 9 [.str key] true)∧g.get (h.next+3)=some (.cells 9 [.str []] true)∧g.get (h.next+4)=some (.cells 4 [.bool false] true)∧g.get (h.next+5)=some (.cells 27 [dv] true)) (by exact hsub) ⟨by exact hext,by exact hok,rfl,by exact hget,by exact hget,by exact hget,by exact hget,by exact hget⟩ ?_
 rintro h1 ⟨x1,k1,n1,q1,q2,q3,q4,q5⟩
 refine jg_range2 (P:=fun h4=>∃ S acc b fn tm nt ps as' bd dd,Ext h h4∧h4.ok∧h.next+8≤h4.next∧GetI nm key h.next (.loop .ready none fn tm nt ps as' bd dd) S acc b h4∧acc <+: allD bs∧(b=true→acc=allD bs)) rfl rfl rfl rfl ?_ ?_
 ·intro tm hs
  have hs2:Sees tm [(4,.ptr (h.next+1) 0),(5,.ptr (h.next+2) 0),(6,.ptr (h.next+3) 0),(7,.ptr (h.next+4) 0)]:=hs.sub hsub
  refine Gives.mono (get_loop (D:=h.next) dn x1 k1 (Nat.le_refl _) n1 q1 q2 q3 q4 q5 hl hb hp rfl ?_) ?_
  rotate_left
  ·rintro _ h4 ⟨S,acc,b,o4,k4,n4,i,f1,f2⟩
   exact ⟨S,acc,b,_,_,_,_,_,_,_,⟨by omega,fun c hc=>(o4 c hc).trans (x1.old c hc),fun _=>k4⟩,k4,n4,i,f1,f2⟩
  ·intro S acc x H la i
   obtain ⟨a1,a2,a3,a4,a5,a6⟩:=i.s0
   obtain ⟨gl,g3,g4,al⟩:=i.st
   have g1:=i.g1
   have g2:=i.g2
   have gd:=i.gd
   have kH:=i.k
   have low:=i.low
   have b1:=low _ a1
   have b2:=low _ a2
   have b3:=low _ a3
   have b4:=low _ a4
   have b5:=low _ a5
   have b6:=low _ a6
   obtain ⟨xn,xp⟩:=x
   refine round_of2 ((hs2.set 12 _).set 13 _) ?_
   refine walk ?_
   refine jg_nil fun tm1 hs1=>⟨tm1,_,_,none,_,_,_,_,_,_,_,rfl,hs1,by exact hget,?_⟩
   by_cases c1:xn=nm
   ·by_cases c2:xp.key=key
    ·refine walk ?_
     refine jg_fin fun tm3 hs3=>⟨.ret,_,_,_,_,_,_,_,_,_,_,_,rfl,by exact hget,false,rfl,?_⟩
     exact GetI.hit i (by simp [hitD,c1,c2]) (by exact hle) (fun c hc r3 r4 r7=>by have gc:H.get c=H.get c:=rfl; exact hget) (by exact hok) (by exact hget) (by exact hget) (Heap.gs _ _ _)
    ·refine walk ?_
     refine jg_nil fun tm3 hs3=>⟨.normal,_,_,_,_,_,_,_,_,_,_,_,rfl,by exact hget,true,rfl,?_⟩
     refine GetI.no i (by simp [hitD,c2]) (by exact hle) (fun c hc r=>by have gc:H.get c=H.get c:=rfl; exact hget) (by exact hok) (Heap.gs _ _ _)
   ·refine walk ?_
    refine jg_nil fun tm3 hs3=>⟨.normal,_,_,_,_,_,_,_,_,_,_,_,rfl,by exact hget,true,rfl,?_⟩
    refine GetI.no i (by simp [hitD,c1]) (by exact hle) (fun c hc r=>by have gc:H.get c=H.get c:=rfl; exact hget) (by exact hok) (Heap.gs _ _ _)
 ·rintro h4 ⟨S,acc,b,fn,tm,nt,ps,as',bd,dd,x4,k4,n4,i,f1,f2⟩
  obtain ⟨a1,a2,a3,a4,a5,a6⟩:=i.s0
  have gd:=i.gd
  have st:=i.st
  have e8:h1.next=h.next+6:=n1
  cases b with
  |true =>
   obtain ⟨gl,g3,g4,al⟩:=st
   refine ⟨_,none,fn,tm,nt,ps,as',bd,dd,by rw [e8]; exact gl,(by intro c; cases c),?_⟩
   rw [e8]
   show GJ _ _ _ _ _ _ _ _
   rw [f2 rfl] at al
   rw [getD_no al]
   refine walk ?_
   refine jg_fin fun tm hs=>?_
   refine leave_collected (by exact hget) ?_
   exact leave_ret (vs:=[.str [],.bool false]) hs rfl (results_cell rfl (cell_one rfl rfl (by exact hget)) (results_cell rfl (cell_one rfl rfl (by exact hget)) rfl)) ⟨_,_,rfl,rfl,by exact hext⟩
  |false =>
   obtain ⟨⟨fn',tm',nt',ps',as2,bd',dd',gl⟩,acc',x,rfl,hx,ha,g3,g4⟩:=st
   refine ⟨_,some .ret,fn',tm',nt',ps',as2,bd',dd',by rw [e8]; exact gl,(by intro c; cases c),?_⟩
   rw [e8]
   rw [getD_of f1 hx ha]
   show GJ _ _ (.code .ret::_) _ _ _ _ _
   refine jg_fin fun tm hs=>?_
   refine leave_collected (by exact (Heap.gn _ _ _ _ (by omega)).trans gd) ?_
   exact leave_ret (vs:=[.str x.2.val,.bool true]) hs rfl (results_cell rfl (cell_one rfl rfl (by exact hget)) (results_cell rfl (cell_one rfl rfl (by exact hget)) rfl)) ⟨_,_,rfl,rfl,by exact hext⟩
set_option maxRecDepth 10000
set_option maxHeartbeats 4000000
theorem getD_in {bs:List (List UInt8×List Pr)} (hn:(bs.map (·.1)).Pairwise (fun a b=>bytesLess a b=true)) (hr:∀ b∈bs,Rise b.2) {x:List UInt8×Pr} (hx:x∈allD bs):getD bs x.1 x.2.key=some x.2.val:=by
 unfold getD
 have ex:∃ y,(allD bs).find? (hitD x.1 x.2.key)=some y:=by
  cases e:(allD bs).find? (hitD x.1 x.2.key) with
  |some y=>exact ⟨y,rfl⟩
  |none=>have:=List.find?_eq_none.1 e x hx; simp [hitD] at this
 obtain ⟨y,hy⟩:=ex
 rw [hy]
 have h1:=List.find?_some hy
 have h2:=List.mem_of_find?_eq_some hy
 simp only [hitD,Bool.and_eq_true,decide_eq_true_eq] at h1
 unfold allD at hx h2
 obtain ⟨b,hb,hxb⟩:=List.mem_flatMap.1 hx
 obtain ⟨c,hc,hyc⟩:=List.mem_flatMap.1 h2
 obtain ⟨p,hp,rfl⟩:=List.mem_map.1 hxb
 obtain ⟨q,hq,rfl⟩:=List.mem_map.1 hyc
 dsimp only at h1 ⊢
 have ebc:c=b:=by
  have inj:∀ a∈bs,∀ d∈bs,a.1=d.1→a=d:=by
   have pw:bs.Pairwise (fun a b=>a.1≠b.1):=(List.pairwise_map.1 hn).imp fun h e=>by rw [e,bl_irr] at h; cases h
   intro a ha d hd e
   obtain ⟨i,hi⟩:=List.getElem?_of_mem ha
   obtain ⟨j,hj⟩:=List.getElem?_of_mem hd
   obtain ⟨hi1,hi2⟩:=List.getElem?_eq_some_iff.1 hi
   obtain ⟨hj1,hj2⟩:=List.getElem?_eq_some_iff.1 hj
   rcases Nat.lt_trichotomy i j with r|r|r
   ·exact absurd (by rw [hi2,hj2]; exact e) (List.pairwise_iff_getElem.1 pw i j hi1 hj1 r)
   ·subst r; rw [← hi2,← hj2]
   ·exact absurd (by rw [hi2,hj2]; exact e.symm) (List.pairwise_iff_getElem.1 pw j i hj1 hi1 r)
  exact inj c hc b hb h1.1
 subst ebc
 have epq:q=p:=by
  have pw:c.2.Pairwise (fun a b=>a.key≠b.key):=List.Pairwise.imp (fun h e=>by rw [e,bl_irr] at h; cases h) (hr c hc)
  obtain ⟨i,hi⟩:=List.getElem?_of_mem hq
  obtain ⟨j,hj⟩:=List.getElem?_of_mem hp
  obtain ⟨hi1,hi2⟩:=List.getElem?_eq_some_iff.1 hi
  obtain ⟨hj1,hj2⟩:=List.getElem?_eq_some_iff.1 hj
  rcases Nat.lt_trichotomy i j with r|r|r
  ·exact absurd (by rw [hi2,hj2]; exact h1.2) (List.pairwise_iff_getElem.1 pw i j hi1 hj1 r)
  ·subst r; rw [← hi2,← hj2]
  ·exact absurd (by rw [hi2,hj2]; exact h1.2.symm) (List.pairwise_iff_getElem.1 pw j i hj1 hi1 r)
 rw [epq]
 rfl
section
variable {z:Int} {img:List UInt8}
theorem leaf_tight {p:Pg} {d:Nat} {b:Bd} {s t:Rs} (f:Fine (pages z img) s.pg) (e:leafS z img p d b s=some t):Fine (pages z img) t.pg∧t.out.length≤s.out.length+1400∧s.pg.length≤t.pg.length:=by
 unfold leafS at e
 cases el:ofI p with
 |none=>rw [el] at e; cases e
 |some l =>
  rw [el] at e
  have e:(if s.deep=0∨s.deep=d then itemsS z img b ⟨s.pg,d,s.out⟩ l else none)=some t:=e
  split at e
  ·obtain ⟨g,o⟩:=itemsS_grow (s:=⟨s.pg,d,s.out⟩) f e
   have:=(ofI_len el).1
   have gl:=g.le
   dsimp only at o gl
   exact ⟨g.f,by omega,gl⟩
  ·cases e
theorem forks_tight {N:Nat} {go:Nat→Bd→Rs→Option Rs} {b:Bd} {l:List Fk} (hg:∀ n c s t,Fine N s.pg→go n c s=some t→Fine N t.pg∧t.out.length+1400*s.pg.length≤s.out.length+1400*t.pg.length):∀ (k i:Nat) (s t:Rs),Fine N s.pg→forksS go b l i k s=some t→Fine N t.pg∧t.out.length+1400*s.pg.length≤s.out.length+1400*t.pg.length
 |0,i,s,t,f,e=>by cases e; exact ⟨f,Nat.le_refl _⟩
 |k+1,i,s,t,f,e=>by
  unfold forksS at e
  split at e
  ·cases e
  ·cases e1:go (l.getD i ⟨[],0⟩).child (forkB b l i) s with
   |none=>rw [e1] at e; cases e
   |some s' =>
    rw [e1] at e
    obtain ⟨f1,o1⟩:=hg _ _ _ _ f e1
    obtain ⟨f2,o2⟩:=forks_tight hg k (i+1) s' t f1 e
    exact ⟨f2,by omega⟩
theorem node_tight:∀ (k n:Nat) (b:Bd) (s t:Rs),Fine (pages z img) s.pg→nodeS z img k n b s=some t→Fine (pages z img) t.pg∧t.out.length+1400*s.pg.length≤s.out.length+1400*t.pg.length
 |0,n,b,s,t,f,e=>by cases e
 |k+1,n,b,s,t,f,e=>by
  unfold nodeS at e
  cases e1:comeS s.pg n with
  |none=>rw [e1] at e; cases e
  |some q =>
   rw [e1] at e
   have e:(if n<2∨(readR z img n).2≠0 then none else if (readR z img n).1.kind=4 then leafS z img (readR z img n).1 (16-k) b ⟨q,s.deep,s.out⟩ else match ofB (readR z img n).1 with
    |none=>none
    |some l=>forksS (nodeS z img k) b l 0 l.length ⟨q,s.deep,s.out⟩)=some t:=e
   split at e
   ·cases e
   ·rename_i c
    have e0:(readR z img n).2=0:=Decidable.byContradiction fun q=>c (.inr q)
    have fq:=f.come e1 (read_page e0).2
    have lq:q.length=s.pg.length+1:=by rw [comeS_len e1]; simp
    split at e
    ·obtain ⟨g,o,le⟩:=leaf_tight (s:=⟨q,s.deep,s.out⟩) fq e
     dsimp only at o le
     exact ⟨g,by omega⟩
    ·cases el:ofB (readR z img n).1 with
     |none=>rw [el] at e; cases e
     |some l =>
      rw [el] at e
      obtain ⟨g,o⟩:=forks_tight (node_tight k) _ _ ⟨q,s.deep,s.out⟩ t fq e
      dsimp only at o
      exact ⟨g,by omega⟩
theorem tree_tight {root:Nat} {pg:List Nat} {t:Rs} (f:Fine (pages z img) pg) (e:treeS z img root pg=some t):Fine (pages z img) t.pg∧t.out.length+1400*pg.length≤1400*t.pg.length:=by
 unfold treeS at e
 split at e
 ·cases e; exact ⟨f,by simp⟩
 ·obtain ⟨g,o⟩:=node_tight _ _ _ ⟨pg,0,[]⟩ _ f e
  exact ⟨g,by simpa using o⟩
theorem buckets_tight:∀ (l:List Bk) (pg:List Nat) (out:List (List UInt8×List Pr)) (pg2:List Nat) (bs:List (List UInt8×List Pr)),bucketsS z img pg out l=some (pg2,bs)→Fine (pages z img) pg→(allD bs).length+1400*pg.length≤(allD out).length+1400*pg2.length
 |[],pg,out,pg2,bs,e,f=>by cases e; exact Nat.le_refl _
 |b::l,pg,out,pg2,bs,e,f=>by
  unfold bucketsS at e
  cases e1:treeS z img b.root pg with
  |none=>rw [e1] at e; cases e
  |some s =>
   rw [e1] at e
   have e:(if (s.out.length:Int)=b.keys then bucketsS z img s.pg (out++[(b.name,s.out)]) l else none)=some (pg2,bs):=e
   split at e
   ·obtain ⟨g,o⟩:=tree_tight f e1
    have ih:=buckets_tight l s.pg _ pg2 bs e g
    rw [allD_snoc,List.length_append,List.length_map] at ih
    dsimp only at ih
    omega
   ·cases e
theorem den_tight {n:Nat} {pg:List Nat} {bs:List (List UInt8×List Pr)} (e:denS z img n=some (pg,bs)):(allD bs).length≤1400*pg.length:=by
 unfold denS at e
 split at e
 ·cases e; simp [allD]
 ·split at e
  ·cases e
  ·rename_i c2
   cases el:ofC (rightR z img n 2).1 with
   |none=>rw [el] at e; cases e
   |some l =>
    rw [el] at e
    have r1:(readR z img n).2=0:=by
     have c3:(rightR z img n 2).2≠false:=fun q=>c2 (.inr q)
     unfold rightR at c3
     by_cases q:(readR z img n).2=0∧(readR z img n).1.kind=2∧rightP (readR z img n).1
     ·exact q.1
     ·rw [if_neg q] at c3; exact absurd rfl c3
    have lt:=(read_page r1).2
    have f0:Fine (pages z img) [n]:=⟨by simp,fun q hq=>by obtain rfl:=List.mem_singleton.1 hq; exact lt⟩
    have:=buckets_tight l [n] [] pg bs e f0
    simp only [allD,List.flatMap_nil,List.length_nil,List.length_cons] at this ⊢
    omega
end
structure RisI (E:Nat) (h2:Heap) (O:AObj) (S:Nat→Prop) (acc:List (List UInt8×Pr)) (b:Bool) (h:Heap):Prop where
 k:h.ok
 low:∀ c,S c→c<h.next
 s0:∀ c,c<E+4→c≠E→S c
 bt:b=true
 old:∀ c,c<E→h.get c=h2.get c
 g1:h.get (E+1)=some (.cells 3 [.int .i64 (acc.length:Nat)] true)
 gd:h.get (E+2)=some (.dfr (some []))
 gl:h.get (E+3)=some O
theorem RisI.stable {E:Nat} {h2:Heap} {O:AObj} {S:Nat→Prop} {acc:List (List UInt8×Pr)} {b:Bool} {h h':Heap} (i:RisI E h2 O S acc b h) (hn:h.next≤h'.next) (k:∀ c,S c→c<h.next→h'.get c=h.get c) (hk:h.ok→h'.ok):RisI E h2 O S acc b h':=by
 have q:∀ c,S c→h'.get c=h.get c:=fun c s=>k c s (i.low c s)
 exact ⟨hk i.k,fun c s=>Nat.lt_of_lt_of_le (i.low c s) hn,i.s0,i.bt,fun c hc=>(q c (i.s0 c (by omega) (by omega))).trans (i.old c hc),(q _ (i.s0 _ (by omega) (by omega))).trans i.g1,(q _ (i.s0 _ (by omega) (by omega))).trans i.gd,(q _ (i.s0 _ (by omega) (by omega))).trans i.gl⟩
theorem ris_loop {n:Nat} {nl:List (List UInt8×AV)} {dv:AV} {bs:List (List UInt8×List Pr)} {h2 h1:Heap} {fn:FuncId} {tm:Tr AV} {nt:Nat} {as' bd:Code} (dn:DenN nl h2 dv bs) (x1:Ext h2 h1) (k1:h1.ok) (n1:h1.next=h2.next+2) (q0:h1.get h2.next=some (.cells 27 [dv] true)) (q1:h1.get (h2.next+1)=some (.cells 3 [.int .i64 0] true)) (hl:(allD bs).length≤400000) (hb:bs.length≤1000) (hp:∀ b∈bs,b.2.length≤1000000) (hnt:(([157,158]:List Tmp).all fun p=>Nat.blt p nt)=true)
  (rnd:∀ (S:Nat→Prop) (acc:List (List UInt8×Pr)) (s:List UInt8×Pr) (h:Heap),acc.length≤500000→s∈allD bs→RisI h2.next h2 (.loop .ready none fn tm nt [157,158] as' bd (h2.next+2)) S acc true h→RGives (TV n) (h2.next+3) fn (setParams tm [157,158] (flD s)) nt as' bd h (fun v h'=>∃ b,v=.bool b∧Ev.Touch S h h'∧∃ S':Nat→Prop,(∀ c,S' c→S c∨h.next≤c)∧RisI h2.next h2 (.loop .ready none fn tm nt [157,158] as' bd (h2.next+2)) S' (acc++[s]) b h')) :
  Gives (TV n) 39 [.func (.yield (h1.next+1)) [] [],.ptr h2.next 0] ((h1.alloc (.dfr (some []))).alloc (.loop .ready none fn tm nt [157,158] as' bd h1.next)) fun _ h4=>∃ S,h4.ok∧h2.next+4≤h4.next∧RisI h2.next h2 (.loop .ready none fn tm nt [157,158] as' bd (h2.next+2)) S (allD bs) true h4:=by
 have nl':h1.next+1=h2.next+3:=by omega
 have x2:Ext h2 ((h1.alloc (.dfr (some []))).alloc (.loop .ready none fn tm nt [157,158] as' bd h1.next)):=(x1.trans (.alloc _ _)).trans (.alloc _ _)
 refine Gives.mono (each1_g (n:=n) (nl:=nl) (dv:=dv) (bs:=bs) (l:=h1.next+1) (b:=h2.next) (A:=fun x=>x∈allD bs) (I:=RisI h2.next h2 (.loop .ready none fn tm nt [157,158] as' bd (h2.next+2))) (S0:=fun c=>c<h2.next+4∧c≠h2.next) (yldB_of (ps:=[157,158]) (fun _=>rfl) hnt (fun S acc h i=>by rw [nl']; exact i.gl) (fun S acc b h i=>i.low) (fun S acc b h h' i hn k o=>i.stable hn k o) (by rw [nl']; exact rnd)) (by exact hok) (by exact hget) (by show h2.next<h1.next+1+1; omega) (by omega) ?_ ?_ (fun _ h=>h) hl hb hp) ?_
 ·exact ⟨by exact hok,fun c q=>by show c<h1.next+1+1; omega,fun c q r=>⟨q,r⟩,rfl,fun c hc=>x2.old c hc,by exact hget,by rw [← n1]; exact hget,by rw [← nl',← n1]; exact get_new _ _⟩
 ·intro S acc h' hn hc hk' i
  have n2:h2.next≤h1.next+1+1:=x2.nx
  exact dn.ext ⟨Nat.le_trans n2 hn,fun c hc'=>i.old c hc',fun _=>hk'⟩
 ·rintro _ h4 ⟨-,S,acc,b,t,k4,i,s,f1,f2⟩
  have nx:h1.next+1+1≤h4.next:=t.nx
  have e:=f2 i.bt
  have eb:=i.bt
  subst e eb
  exact ⟨S,k4,by omega,i⟩
theorem drises_law {n:Nat} (hn:9<n) {z:Int} {img:List UInt8} {m:Nat} {h:Heap} (hk:h.ok) (hi:img.length<9223372036854775808) (hm:m<4294967296):Gives (TV n) 3 [.int .i64 z,.str img,.int .u32 m] h (fun v h'=>v=.bool true∧Ext h h'):=by
 refine call_jl (no_w rfl rfl) rfl rfl ?_
 have w1:∀ h,(TV n).sm 7 [] h=some (.bool true,h):=fun h=>b_w rfl rfl
 have w2:=light_w (n:=n) (by omega) img hi
 have w3:=rpages_w (n:=n) (by omega) z img hi
 by_cases c1:img.length≤5000
 case neg =>
  rw [decide_eq_false c1] at w2
  refine walk ?_
  refine jg_fin fun tm hs=>?_
  exact leave_ret (vs:=[.bool true]) hs rfl (results_cell rfl (cell_one rfl rfl (by exact hget)) rfl) ⟨_,_,rfl,rfl,by exact hext⟩
 rw [decide_eq_true c1] at w2
 refine walk ?_
 refine jo_call (of_g (n:=n) (by omega) (z:=z) (img:=img) (m:=m) (by exact hok) c1 hm) rfl rfl rfl rfl ?_
 rintro v h1 ⟨x1,co⟩
 have n1:h.next+1≤h1.next:=x1.nx
 have k1:h1.ok:=x1.ok (by exact hok)
 have x01:Ext h h1:=Ext.trans (by exact hext) x1
 have g6:h1.get h.next=some (.cells 4 [.bool false] true):=(x1.old _ (by show h.next<h.next+1; omega)).trans (by exact hget)
 cases ed:denS z img m with
 |none =>
  rw [ed] at co
  subst co
  refine walk ?_
  refine jg_fin fun tm hs=>?_
  exact leave_ret (vs:=[.bool true]) hs rfl (results_cell rfl (cell_one rfl rfl (by exact hget)) rfl) ⟨_,_,rfl,rfl,by exact hext⟩
 |some r =>
 obtain ⟨pg,bs⟩:=r
 rw [ed] at co
 obtain ⟨dv,pv,out,rfl,do1,op1,is⟩:=co
 have lp:LsW h1 pv out:=op1.ls
 have lw:=lp.len
 have nw:=lp.ns
 obtain ⟨nl,d1,d2,d3⟩:=do1.den
 have vdo:=Sl.cells d1
 have wdo:=Sl.one d1
 refine walk ?_
 refine jo_skip rfl rfl (k_storeN (n:=1) (cs:=[.nilslice]) (vs:=[dv]) rfl rfl rfl rfl rfl (by simp [wdo]) (get_new _ _) (by decide)) ?_
 refine walk ?_
 obtain ⟨o1,o2,o3,o4,o5,o6⟩:=den_out ed
 have fl:=o2.len
 have p157:=pages_157 (z:=z) (img:=img) (by omega)
 have ll:out.length=pg.length:=is.1.length_eq
 have olt:=issort_lt is o2.nd
 have oin:∀ y∈out,2≤y∧y<pages z img:=fun y hy=>⟨o1 y (is.1.subset hy),o2.lt y (is.1.subset hy)⟩
 refine GJ.gen [(0,.int .i64 z),(1,.str img),(2,.int .u32 m),(6,.ptr h.next 0),(7,.ptr h1.next 0),(8,pv),(10,.int .i64 0)] (fun g=>Ext h1 g∧h1.next<g.next∧g.get h1.next=some (.cells 27 [dv] true)) (by exact hsub) ⟨by exact hext,by exact hlt,Heap.gs _ _ _⟩ ?_
 rintro gA ⟨xA,nA,gD⟩
 have kA:=xA.ok k1
 refine jg_loop (ι:=Nat) (fun i=>out.length-i) (fun i=>[(0,.int .i64 z),(1,.str img),(2,.int .u32 m),(6,.ptr h.next 0),(7,.ptr h1.next 0),(8,pv),(10,.int .i64 (i:Nat))]) (fun i g=>i≤out.length∧Ext gA g) 0 (by exact hsub) ⟨Nat.zero_le _,.refl _⟩ ?_
 rintro i h2 ⟨hi2,x2⟩ next
 have k2:=x2.ok kA
 have x12:=xA.trans x2
 by_cases c:i<out.length
 ·obtain ⟨y,hy⟩:∃ y,out[i]?=some y:=⟨_,List.getElem?_eq_getElem c⟩
  obtain ⟨B2,p2,e2',all2,rw2,hb2,hg2,hpl2,he2,a1⟩:=(lp.ext x12).at u32c_len hy
  have he2:(all2.drop p2).take 1=[.int .u32 y]:=he2
  obtain ⟨y1,y2⟩:=oin y (List.mem_of_getElem? hy)
  rcases Nat.eq_zero_or_pos i with rfl|i0
  ·have c0:¬ (0:Int)<((0:Nat):Int):=by omega
   refine walk ?_
   refine jg_drawn (q:=32) (ms:=[0,0,3,7,15,31,63,63,255,511,1023,63,63,6207,16383,32767,65535,131071,262143,524287,1048575,1048575,4194303,8388607,1048575,1048575,34603007,118489087,252706815,536870911,1073741823,2147483647]) (hl:=[[55],[54],[],[],[],[],[61,65,66,67],[60,65,66,67],[65,66,67],[65,66,67],[65,66,67],[60,61,62,63,64,66],[60,61,62,63,64,65],[60,61,62,63,64],[],[],[],[],[],[],[75,78,79,80,81,82],[74,78,79,80,81,82],[78,79,80,81,82],[78,79,80,81,82],[74,75,76,77,79,80],[74,75,76,77,78],[74,75,76,77,78],[74,75,76,77],[74,75,76,77],[],[],[]]) hok rfl (by kernel_rfl) (by kernel_rfl) rfl ?_
   refine walk ?_
   exact next 1 (by omega) (by exact hsub) ⟨by omega,by exact hext⟩
  ·have c0:(0:Int)<(i:Int):=by omega
   obtain ⟨x,hx⟩:∃ x,out[i-1]?=some x:=⟨_,List.getElem?_eq_getElem (by omega)⟩
   obtain ⟨B3,p3,e3',all3,rw3,hb3,hg3,hpl3,he3,a2⟩:=(lp.ext x12).at u32c_len hx
   have he3:(all3.drop p3).take 1=[.int .u32 x]:=he3
   have lt:x<y:=by
    obtain ⟨q1,q2⟩:=List.getElem?_eq_some_iff.1 hx
    obtain ⟨q3,q4⟩:=List.getElem?_eq_some_iff.1 hy
    rw [← q2,← q4]
    exact List.pairwise_iff_getElem.1 olt (i-1) i q1 q3 (by omega)
   refine walk ?_
   refine jg_drawn (q:=32) (ms:=[0,0,3,7,15,31,63,63,255,511,1023,63,63,6207,16383,32767,65535,131071,262143,524287,1048575,1048575,4194303,8388607,1048575,1048575,34603007,118489087,252706815,536870911,1073741823,2147483647]) (hl:=[[55],[54],[],[],[],[],[61,65,66,67],[60,65,66,67],[65,66,67],[65,66,67],[65,66,67],[60,61,62,63,64,66],[60,61,62,63,64,65],[60,61,62,63,64],[],[],[],[],[],[],[75,78,79,80,81,82],[74,78,79,80,81,82],[78,79,80,81,82],[78,79,80,81,82],[74,75,76,77,79,80],[74,75,76,77,78],[74,75,76,77,78],[74,75,76,77],[74,75,76,77],[],[],[]]) hok rfl (by kernel_rfl) (by kernel_rfl) rfl ?_
   refine walk ?_
   exact next (i+1) (by omega) (by exact hsub) ⟨by omega,by exact hext⟩
 clear next
 refine walk ?_
 have own:decide (m=0∨m∈out)=true:=by
  rw [decide_eq_true_eq]
  rcases o3 with q|q
  ·exact .inl q
  ·exact .inr (is.1.symm.subset q)
 refine GJ.gen [(0,.int .i64 z),(1,.str img),(2,.int .u32 m),(6,.ptr h.next 0),(7,.ptr h1.next 0),(8,pv),(11,.bool (decide (m=0∨m∈out.take 0))),(12,.int .i64 0)] (fun g=>h2=g) (by rw [show decide (m=0∨m∈out.take 0)=decide ((m:Int)=0) by simp]; exact hsub) rfl ?_
 rintro _ rfl
 refine jg_loop (ι:=Nat) (fun i=>out.length-i) (fun i=>[(0,.int .i64 z),(1,.str img),(2,.int .u32 m),(6,.ptr h.next 0),(7,.ptr h1.next 0),(8,pv),(11,.bool (decide (m=0∨m∈out.take i))),(12,.int .i64 (i:Nat))]) (fun i g=>i≤out.length∧Ext gA g) 0 (by exact hsub) ⟨Nat.zero_le _,x2⟩ ?_
 clear x2 k2 x12 hi2 c
 clear i h2
 rintro i h2 ⟨hi2,x2⟩ next
 have k2:=x2.ok kA
 have x12:=xA.trans x2
 by_cases c:i<out.length
 ·obtain ⟨y,hy⟩:∃ y,out[i]?=some y:=⟨_,List.getElem?_eq_getElem c⟩
  obtain ⟨B2,p2,e2',all2,rw2,hb2,hg2,hpl2,he2,a1⟩:=(lp.ext x12).at u32c_len hy
  have he2:(all2.drop p2).take 1=[.int .u32 y]:=he2
  have et:out.take (i+1)=out.take i++[y]:=by rw [List.take_add_one,hy]; rfl
  by_cases c0:m=0∨m∈out.take i
  ·have e:decide (m=0∨m∈out.take (i+1))=true:=by
    rw [et,decide_eq_true_eq]
    rcases c0 with q|q
    ·exact .inl q
    ·exact .inr (List.mem_append_left _ q)
   rw [decide_eq_true c0]
   refine walk ?_
   refine next (i+1) (by omega) ?_ ⟨by omega,x2⟩
   rw [e]
   exact hsub
  ·rw [decide_eq_false c0]
   have e:decide (m=0∨m∈out.take (i+1))=decide ((y:Int)=(m:Int)):=by
    rw [et,decide_eq_decide]
    constructor
    ·rintro (q|q)
     ·exact absurd (.inl q) c0
     ·rcases List.mem_append.1 q with r|r
      ·exact absurd (.inr r) c0
      ·have:=List.mem_singleton.1 r; omega
    ·intro q
     exact .inr (List.mem_append_right _ (by simp; omega))
   refine walk ?_
   refine next (i+1) (by omega) ?_ ⟨by omega,x2⟩
   rw [e]
   exact hsub
 have ei:out.take i=out:=List.take_of_length_le (by omega)
 rw [ei,own]
 clear next
 refine walk ?_
 have e1:=d1.len
 have n1':=d1.ns
 rw [d2] at e1
 refine GJ.gen [(6,.ptr h.next 0),(7,.ptr h1.next 0),(11,.bool true),(13,.int .i64 0)] (fun g=>h2=g) (by exact hsub) rfl ?_
 rintro _ rfl
 refine jg_loop (ι:=Nat) (fun i=>bs.length-i) (fun i=>[(6,.ptr h.next 0),(7,.ptr h1.next 0),(11,.bool true),(13,.int .i64 (i:Nat))]) (fun i g=>i≤bs.length∧Ext gA g) 0 (by exact hsub) ⟨Nat.zero_le _,x2⟩ ?_
 clear x2 k2 x12 hi2 c ei
 clear i h2
 rintro i h2 ⟨hi2,x2⟩ next
 have k2:=x2.ok kA
 have x12:=xA.trans x2
 have gD2:=(x2.old _ nA).trans gD
 by_cases c:i<bs.length
 ·obtain ⟨y,hy⟩:∃ y,nl[i]?=some y:=⟨_,List.getElem?_eq_getElem (by omega)⟩
  obtain ⟨bk,hb0⟩:∃ b,bs[i]?=some b:=⟨_,List.getElem?_eq_getElem c⟩
  obtain ⟨q1,q2⟩:=d3 i y bk hy hb0
  obtain ⟨B,p,e,all,rw',hbB,hg,hpl,he,a1⟩:=(d1.ext x12).at Nm.len hy
  have he:(all.drop p).take 2=[.str y.1,y.2]:=he
  have rb:=(o5 bk (List.mem_of_getElem? hb0)).1
  have lb:=(o5 bk (List.mem_of_getElem? hb0)).2
  have lw2:=q2.len
  have nw2:=q2.ns
  refine walk ?_
  refine gj_cut1 (ι:=Unit) (fun _=>[(6,.ptr h.next 0),(7,.ptr h1.next 0),(11,.bool true),(13,.int .i64 (i:Nat)),(14,y.2),(133,.bool false)]) (fun _ g=>Ext h2 g) ?_ ?_
  ·intro k' join
   rcases Nat.eq_zero_or_pos i with rfl|i0
   ·have c0:¬ (0:Int)<((0:Nat):Int):=by omega
    refine jg_drawn (q:=18) (ms:=[0,1,3,7,15,7,39,127,255,511,7,1031,7,7175,15367,31751,65535,131071]) (hl:=[[],[],[],[121,122,126,127,128,129,130,131],[121,122,126,127,128,129,130,131],[119,120,126,127,128,129,130,131],[119,120,126,127,128,129,130,131],[126,127,128,129,130,131],[126,127,128,129,130,131],[126,127,128,129,130,131],[119,120,121,122,123,124,125,128],[119,120,121,122,123,124,125,128],[119,120,121,122,123,124,125,126,127],[119,120,121,122,123,124,125],[119,120,121,122,123,124,125],[119,120,121,122,123,124,125],[],[]]) hok rfl (by kernel_rfl) (by kernel_rfl) rfl ?_
    refine walk ?_
    exact join () (by exact hsub) (by exact hext)
   ·have c0:(0:Int)<(i:Int):=by omega
    obtain ⟨y3,hy3⟩:∃ y,nl[i-1]?=some y:=⟨_,List.getElem?_eq_getElem (by omega)⟩
    obtain ⟨b3,hb3⟩:∃ b,bs[i-1]?=some b:=⟨_,List.getElem?_eq_getElem (by omega)⟩
    obtain ⟨q3,-⟩:=d3 (i-1) y3 b3 hy3 hb3
    obtain ⟨B3,p3,e3',all3,rw3,hbB3,hg3,hpl3,he3,a2⟩:=(d1.ext x12).at Nm.len hy3
    have he3:(all3.drop p3).take 2=[.str y3.1,y3.2]:=he3
    have ls:(!bytesLess y3.1 y.1)=false:=by
     have pw:=List.pairwise_iff_getElem.1 (List.pairwise_map.1 o4) (i-1) i (by omega) c (by omega)
     obtain ⟨r1,r2⟩:=List.getElem?_eq_some_iff.1 hb3
     obtain ⟨r3,r4⟩:=List.getElem?_eq_some_iff.1 hb0
     rw [r2,r4] at pw
     rw [q1,q3,pw]
     rfl
    refine jg_drawn (q:=18) (ms:=[0,1,3,7,15,7,39,127,255,511,7,1031,7,7175,15367,31751,65535,131071]) (hl:=[[],[],[],[121,122,126,127,128,129,130,131],[121,122,126,127,128,129,130,131],[119,120,126,127,128,129,130,131],[119,120,126,127,128,129,130,131],[126,127,128,129,130,131],[126,127,128,129,130,131],[126,127,128,129,130,131],[119,120,121,122,123,124,125,128],[119,120,121,122,123,124,125,128],[119,120,121,122,123,124,125,126,127],[119,120,121,122,123,124,125],[119,120,121,122,123,124,125],[119,120,121,122,123,124,125],[],[]]) hok rfl (by kernel_rfl) (by kernel_rfl) rfl ?_
    refine walk ?_
    rw [ls]
    exact join () (by exact hsub) (by exact hext)
  rintro ⟨⟩ g3 x3
  have k3:=x3.ok k2
  have x23:=x2.trans x3
  have lp2:=(q2.ext x12).ext x3
  refine walk ?_
  refine jg_loop (ι:=Nat) (fun j=>bk.2.length-j) (fun j=>[(6,.ptr h.next 0),(7,.ptr h1.next 0),(11,.bool true),(13,.int .i64 (i:Nat)),(14,y.2),(15,.int .i64 (j:Nat))]) (fun j g=>1≤j∧Ext g3 g) 1 (by exact hsub) ⟨Nat.le_refl _,.refl _⟩ ?_
  rintro j g4 ⟨hj,x4⟩ next4
  have k4:=x4.ok k3
  by_cases cj:j<bk.2.length
  ·obtain ⟨u,hu⟩:∃ y,bk.2[j]?=some y:=⟨_,List.getElem?_eq_getElem cj⟩
   obtain ⟨w,hw⟩:∃ y,bk.2[j-1]?=some y:=⟨_,List.getElem?_eq_getElem (by omega)⟩
   clear a1 hbB hg hpl he
   obtain ⟨B,p,e,all,rw',hbB,hg,hpl,he,a1⟩:=(lp2.ext x4).at Pr.csl hu
   obtain ⟨B3,p3,e3',all3,rw3,hbB3,hg3,hpl3,he3,a2⟩:=(lp2.ext x4).at Pr.csl hw
   have he:(all.drop p).take 2=[.str u.key,.str u.val]:=he
   have he3:(all3.drop p3).take 2=[.str w.key,.str w.val]:=he3
   have ls:(!bytesLess w.key u.key)=false:=by
    have pw:=List.pairwise_iff_getElem.1 rb (j-1) j (by omega) cj (by omega)
    obtain ⟨r1,r2⟩:=List.getElem?_eq_some_iff.1 hw
    obtain ⟨r3,r4⟩:=List.getElem?_eq_some_iff.1 hu
    rw [r2,r4] at pw
    rw [pw]
    rfl
   have cj':((j:Nat):Int)-1=((j-1:Nat):Int):=by omega
   refine walk ?_
   refine jg_drawn (q:=12) (ms:=[0,0,2,7,15,31,0,0,192,448,960,2047]) (hl:=[[141,142,146,147,148,149,150],[140,146,147,148,149,150],[140,146,147,148,149,150],[146,147,148,149,150],[146,147,148,149,150],[146,147,148,149,150],[140,141,142,143,144,145,147],[140,141,142,143,144,145,146],[140,141,142,143,144,145],[140,141,142,143,144,145],[140,141,142,143,144,145],[]]) hok rfl (by kernel_rfl) (by kernel_rfl) rfl ?_
   refine walk ?_
   exact next4 (j+1) (by omega) (by exact hsub) ⟨by omega,by exact hext⟩
  ·refine walk ?_
   exact next (i+1) (by omega) (by exact hsub) ⟨by omega,x23.trans x4⟩
 clear next
 refine walk ?_
 refine jo_call (each_fn (dv:=dv)) rfl rfl rfl rfl ?_
 rintro _ _ ⟨rfl,rfl⟩
 refine walk ?_
 have dt:=den_tight ed
 have l17:h1.next<h2.next:=by have:=x2.nx; omega
 have l67:h.next<h1.next:=by omega
 refine GJ.gen [(6,.ptr h.next 0),(7,.ptr h1.next 0),(11,.bool true),(17,.ptr (h2.next+1) 0),(156,.func (.func 39) [] [.ptr h2.next 0])] (fun g=>Ext h2 g∧g.ok∧g.next=h2.next+2∧g.get h2.next=some (.cells 27 [dv] true)∧g.get (h2.next+1)=some (.cells 3 [.int .i64 0] true)) (by exact hsub) ⟨by exact hext,by exact hok,rfl,by exact hget,by exact hget⟩ ?_
 rintro h3 ⟨x3,k3,n3,q0,q1⟩
 have dn:DenN nl h2 dv bs:=⟨d1.ext x12,d2,fun j x b e1 e2=>⟨(d3 j x b e1 e2).1,(d3 j x b e1 e2).2.ext x12⟩⟩
 have pb:∀ b∈bs,b.2.length≤1000000:=fun b hb=>by have:=(o5 b hb).2; omega
 refine jg_range2 (P:=fun h4=>∃ S fn tm nt ps as' bd dd,h4.ok∧h2.next+4≤h4.next∧RisI h2.next h2 (.loop .ready none fn tm nt ps as' bd dd) S (allD bs) true h4) rfl rfl rfl rfl ?_ ?_
 ·intro tm hs
  have hs2:Sees tm [(7,.ptr h1.next 0),(17,.ptr (h2.next+1) 0)]:=hs.sub hsub
  refine Gives.mono (ris_loop dn x3 k3 n3 q0 q1 (by omega) (by omega) pb rfl ?_) ?_
  rotate_left
  ·rintro _ h4 ⟨S,k4,n4,i⟩
   exact ⟨S,_,_,_,_,_,_,_,k4,n4,i⟩
  ·intro S acc x H la hx i
   have low:=i.low
   have gl:=i.gl
   have gd:=i.gd
   have g1:=i.g1
   have kH:=i.k
   have b1:=low _ (i.s0 (h2.next+1) (by omega) (by omega))
   have b3:=low _ (i.s0 (h2.next+3) (by omega) (by omega))
   have xH:Ext h2 H:=⟨by omega,i.old,fun _=>kH⟩
   have g7:=(xH.old h1.next (by have:=x12.nx; have:=x2.nx; omega)).trans gD2
   obtain ⟨xn,xp⟩:=x
   have gi:=getD_in (bs:=bs) o4 (fun b hb=>(o5 b hb).1) hx
   dsimp only at gi
   refine round_of2 ((hs2.set 157 _).set 158 _) ?_
   refine walk ?_
   refine jg_nil fun tm1 hs1=>⟨tm1,_,_,none,_,_,_,_,_,_,_,rfl,hs1,by exact hget,?_⟩
   have xY:∀ {Y:Heap},Ext h2 Y→Y.ok→(TV n).sm 12 [.agg [dv],.str xn,.str xp.key] Y=some (.tuple [.str xp.val,.bool true],Y):=fun {Y} x k=>by
    rw [dget_w (n:=n) (nl:=nl) (dv:=dv) (bs:=bs) (by omega) k (dn.ext x) (by omega) (by omega) pb,gi]
    rfl
   refine walk ?_
   refine jo_w (xY (by exact hext) (by exact hok)) rfl rfl rfl rfl ?_
   have cv:xp.val=xp.val:=rfl
   refine walk ?_
   refine jg_nil fun tm3 hs3=>⟨.normal,_,_,_,_,_,_,_,_,_,_,_,rfl,by exact hget,true,rfl,?_⟩
   refine ⟨⟨by exact hle,fun c hc q=>?_,fun _=>by exact hok⟩,S,fun c q=>.inl q,?_⟩
   ·have c1:c≠h2.next+1:=fun e=>q (e ▸ i.s0 _ (by omega) (by omega))
    have c3:c≠h2.next+3:=fun e=>q (e ▸ i.s0 _ (by omega) (by omega))
    have gc:H.get c=H.get c:=rfl
    exact hget
   ·refine ⟨by exact hok,fun c q=>Nat.lt_of_lt_of_le (low c q) (by exact hle),i.s0,rfl,fun c hc=>?_,?_,by exact hget,Heap.gs _ _ _⟩
    ·have gc:H.get c=h2.get c:=i.old c hc
     exact hget
    ·rw [List.length_append]
     exact hget
 ·rintro h4 ⟨S,fn,tm,nt,ps,as',bd,dd,k4,n4,i⟩
  have gd:=i.gd
  have gl:=i.gl
  refine ⟨_,none,fn,tm,nt,ps,as',bd,dd,by rw [n3]; exact gl,(by intro c; cases c),?_⟩
  rw [n3]
  show GJ _ _ _ _ _ _ _ _
  refine walk ?_
  have low:=i.low
  have x24:Ext h2 (h4.set (h2.next+2+1) (.loop .exhausted none fn tm nt ps as' bd dd)):=⟨by show h2.next≤h4.next; omega,fun c hc=>(Heap.gn _ _ _ _ (by omega)).trans (i.old c hc),fun _=>ok_st k4 _ _ (by omega)⟩
  have k5:=x24.ok k2
  have g17:(h4.set (h2.next+2+1) (.loop .exhausted none fn tm nt ps as' bd dd)).get (h2.next+1)=some (.cells 3 [.int .i64 ((allD bs).length:Nat)] true):=(Heap.gn _ _ _ _ (by omega)).trans i.g1
  have gd5:(h4.set (h2.next+2+1) (.loop .exhausted none fn tm nt ps as' bd dd)).get (h2.next+2)=some (.dfr (some [])):=(Heap.gn _ _ _ _ (by omega)).trans gd
  have n5:h2.next+4≤(h4.set (h2.next+2+1) (.loop .exhausted none fn tm nt ps as' bd dd)).next:=n4
  generalize h4.set (h2.next+2+1) (.loop .exhausted none fn tm nt ps as' bd dd)=h5 at x24 k5 g17 gd5 n5 ⊢
  have g7:=(x24.old h1.next l17).trans gD2
  refine jg_loop (ι:=Nat) (fun i=>bs.length-i) (fun i=>[(6,.ptr h.next 0),(7,.ptr h1.next 0),(11,.bool true),(17,.ptr (h2.next+1) 0),(22,.int .i64 ((allD (bs.take i)).length:Nat)),(23,.int .i64 (i:Nat))]) (fun i g=>i≤bs.length∧Ext h5 g) 0 (by exact hsub) ⟨Nat.zero_le _,.refl _⟩ ?_
  rintro i g ⟨hi,xg⟩ next
  have kg:=xg.ok k5
  have n6:=xg.nx
  have g7g:=(xg.old h1.next (by have:=x24.nx; omega)).trans g7
  by_cases c:i<bs.length
  ·obtain ⟨y,hy⟩:∃ y,nl[i]?=some y:=⟨_,List.getElem?_eq_getElem (by omega)⟩
   obtain ⟨bk,hb0⟩:∃ b,bs[i]?=some b:=⟨_,List.getElem?_eq_getElem c⟩
   obtain ⟨q1,q2⟩:=d3 i y bk hy hb0
   obtain ⟨B,p,e,all,rw',hbB,hg,hpl,he,a1⟩:=((d1.ext x12).ext (x24.trans xg)).at Nm.len hy
   have he:(all.drop p).take 2=[.str y.1,y.2]:=he
   have lw2:=q2.len
   have nw2:=q2.ns
   have et:bs.take (i+1)=bs.take i++[bk]:=by rw [List.take_add_one,hb0]; rfl
   have es:(allD (bs.take (i+1))).length=(allD (bs.take i)).length+bk.2.length:=by rw [et,allD_snoc,List.length_append,List.length_map]
   have ple:=(allD_pre hb0 bk.2.length).length_le
   rw [List.length_append,List.length_map,List.take_length] at ple
   have ei:(((allD (bs.take (i+1))).length:Nat):Int)=((allD (bs.take i)).length:Int)+(bk.2.length:Int):=by rw [es]; push_cast; rfl
   refine walk ?_
   refine next (i+1) (by omega) ?_ ⟨by omega,xg⟩
   rw [ei]
   exact hsub
  have ei:bs.take i=bs:=List.take_of_length_le (by omega)
  rw [ei]
  have g6':g.get h.next=some (.cells 4 [.bool false] true):=(xg.old _ (by have:=x24.nx; omega)).trans ((x24.old _ (by omega)).trans ((x12.old _ l67).trans g6))
  have gdg:=(xg.old _ (by omega)).trans gd5
  have g17g:=(xg.old _ (by omega)).trans g17
  have xhg:Ext h g:=x01.trans (x12.trans (x24.trans xg))
  refine walk ?_
  refine jg_fin fun tm hs=>?_
  refine leave_collected (by exact hget) ?_
  exact leave_ret (vs:=[.bool (decide (((allD bs).length:Int)=((allD bs).length:Int)))]) hs rfl (results_cell rfl (cell_one rfl rfl (by exact hget)) rfl) ⟨_,_,rfl,by show AV.bool (decide _)=_; rw [decide_eq_true rfl],by exact hext⟩
end Go.Proofs.YtmnhbehmjaibgaaGreat
