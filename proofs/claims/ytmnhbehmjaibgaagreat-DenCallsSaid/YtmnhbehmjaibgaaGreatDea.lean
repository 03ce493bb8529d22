/- What the functions of this part answer at any input, told by the rules over the evaluator. Conditions: those that each theorem states. -/
import Derived.Test.YtmnhbehmjaibgaaGreatGar
import Derived.Test.YtmnhbehmjaibgaaGreatGaq
import Derived.Test.YtmnhbehmjaibgaaGreatDnb
set_option linter.unusedVariables false
set_option linter.unusedSimpArgs false
open Go Ev
namespace Go.Proofs.YtmnhbehmjaibgaaGreat
set_option maxRecDepth 10000
set_option maxHeartbeats 4000000
def flD (x:List UInt8×Pr):List AV:=[.str x.1,.agg x.2.cs]
def a4p (bs:List (List UInt8×List Pr)):List (List UInt8×Pr):=bs.flatMap fun b=>b.2.map (b.1,·)
theorem c5w (bs:List (List UInt8×List Pr)) (b:List UInt8×List Pr):a4p (bs++[b])=a4p bs++b.2.map (b.1,·):=by simp[a4p]
theorem d1a {bs:List (List UInt8×List Pr)}{i:Nat}{b:List UInt8×List Pr}(h:bs[i]?=some b) (j:Nat):(a4p (bs.take i)++(b.2.take j).map (b.1,·)) <+: a4p bs:=by
 obtain⟨hi,rfl⟩:=List.getElem?_eq_some_iff.1 h
 have e:bs=bs.take i++bs[i]::bs.drop (i+1):=by
  conv=>lhs; rw[← List.take_append_drop i bs,List.drop_eq_getElem_cons hi]
 have e2:a4p bs=a4p (bs.take i)++(bs[i].2.map (bs[i].1,·)++a4p (bs.drop (i+1))):=by
  rw[show a4p bs=a4p (bs.take i++bs[i]::bs.drop (i+1)) from congrArg a4p e]
  unfold a4p
  rw[List.flatMap_append,List.flatMap_cons]
 rw[e2]
 refine(List.prefix_append_right_inj _).2 ?_
 refine List.IsPrefix.trans ?_ (List.prefix_append _ _)
 exact(List.take_prefix j _).map _
def c4l (nl:List (List UInt8×AV)) (h:a0a) (v:AV) (bs:List (List UInt8×List Pr)):Prop:=Ls Nm.cs 2 h v nl∧nl.length=bs.length∧∀ (j:Nat) (x:List UInt8×AV) (b:List UInt8×List Pr),nl[j]?=some x→bs[j]?=some b→x.1=b.1∧Ls Pr.cs 2 h x.2 b.2
structure EaI (bs:List (List UInt8×List Pr)) (I:(Nat→Prop)→List (List UInt8×Pr)→Bool→a0a→Prop) (S0:Nat→Prop) (h0:a0a) (acc:List (List UInt8×Pr)) (S:Nat→Prop) (h:a0a):Prop where
 t:Ev.Touch S0 h0 h
 k:h.ok
 i:I S acc true h
 s:∀ c,S c→S0 c∨h0.next≤c
theorem e6x {n l b:Nat}{nl:List (List UInt8×AV)}{dv:AV}{bs:List (List UInt8×List Pr)}{A:List (List UInt8×Pr)→List UInt8×Pr→Prop}{I:(Nat→Prop)→List (List UInt8×Pr)→Bool→a0a→Prop}{S0:Nat→Prop}{h0:a0a}(yl:e9m (TV n) l flD A I) (hk:h0.ok) (gb:h0.get b=some (.cells 27 [dv] true)) (lb:b<h0.next) (nb:¬ S0 b) (i0:I S0 [] true h0)
  (fr:∀ S acc h',h0.next≤h'.next→(∀ c,c<h0.next→¬ S0 c→h'.get c=h0.get c)→h'.ok→I S acc true h'→c4l nl h' dv bs) (hA:∀ acc x,(acc++[x]) <+: a4p bs→A acc x) (hl:(a4p bs).length≤400000) (hb:bs.length≤1000) (hp:∀ b∈bs,b.2.length≤1000000) :
  a0l (TV n) 39 [.func (.yield l) [] [],.ptr b 0] h0 (fun v h'=>v=.tuple []∧∃ S acc bb,Ev.Touch S0 h0 h'∧h'.ok∧I S acc bb h'∧(∀ c,S c→S0 c∨h0.next≤c)∧acc <+: a4p bs∧(bb=true→acc=a4p bs)):=by
 obtain⟨d1,d2,d3⟩:=fr S0 [] h0 (Nat.le_refl _) (fun _ _ _=>rfl) hk i0
 have e1:=d1.len
 have n1:=d1.ns
 rw[d2] at e1
 refine a0r (a1x rfl rfl) rfl rfl ?_
 refine walk ?_
 refine a0k (ι:=Nat×(Nat→Prop)) (fun a=>bs.length-a.1) (fun a=>[(0,.func (.yield l) [] []),(8,dv),(9,.int .i64 (bs.length:Nat)),(10,.int .i64 (a.1:Nat))]) (fun a h2=>a.1≤bs.length∧EaI bs I S0 h0 (a4p (bs.take a.1)) a.2 h2) (0,S0) (by exact hsub) ⟨Nat.zero_le _,.refl _ _,hk,by simpa [a4p] using i0,fun c q=>.inl q⟩ ?_
 rintro⟨i,S⟩ h2 ⟨hi,e2⟩ next
 dsimp only at hi e2 next ⊢
 have tt:=e2.t
 have nx2:=tt.nx
 have k2:=e2.k
 by_cases c:i<bs.length
 case neg =>
  have ei:bs.take i=bs:=List.take_of_length_le (by omega)
  rw[ei] at e2
  refine walk ?_
  exact a2v fun tm hs=>a1y hs rfl ⟨rfl,S,_,true,tt,k2,e2.i,e2.s,List.prefix_refl _,fun _=>rfl⟩
 obtain⟨f1,f2,f3⟩:=fr _ _ h2 nx2 tt.old k2 e2.i
 obtain⟨y,hy⟩:∃ y,nl[i]?=some y:=⟨_,List.getElem?_eq_getElem (by omega)⟩
 obtain⟨bk,hb0⟩:∃ b,bs[i]?=some b:=⟨_,List.getElem?_eq_getElem c⟩
 obtain⟨q1,q2⟩:=f3 i y bk hy hb0
 obtain⟨B,p,e,all,rw',hbB,hg,hpl,he,a1⟩:=f1.at Nm.len hy
 have he:(all.drop p).take 2=[.str y.1,y.2]:=he
 have yo:=Sl.one q2
 have yc:=Sl.cells q2
 have lw:=q2.len
 have nw:=q2.ns
 have bm:=hp bk (List.mem_of_getElem? hb0)
 have et:bs.take (i+1)=bs.take i++[bk]:=by rw[List.take_add_one,hb0]; rfl
 refine walk ?_
 refine a5h rfl rfl (a5b (n:=2) (cs:=[.str [],.nilslice]) (vs:=[.str y.1,y.2]) rfl rfl rfl rfl rfl (by simp[yo]; rfl) (a0s _ _) (by decide)) ?_
 refine walk ?_
 have lowS:=yl.low S _ true h2 e2.i
 have iA:=yl.a5v S _ true h2 ((h2.alloc (.cells 35 [.str [],.nilslice] true)).set h2.next (.cells 35 [.str y.1,y.2] true)) e2.i (Nat.le_succ _) (fun c q hc=>(a0a.gn _ _ _ _ (by omega)).trans (a0a.ga _ _ _ (by omega))) (fun k=>a0w (a4l k _) _ _ (Nat.lt_succ_self _))
 refine a0k (ι:=Nat×(Nat→Prop)) (fun a=>bk.2.length-a.1) (fun a=>[(0,.func (.yield l) [] []),(4,.ptr h2.next 0),(8,dv),(9,.int .i64 (bs.length:Nat)),(10,.int .i64 (i:Nat)),(15,y.2),(16,.int .i64 (bk.2.length:Nat)),(17,.int .i64 (a.1:Nat))]) (fun a h4=>a.1≤bk.2.length∧EaI bs I S0 h0 (a4p (bs.take i)++(bk.2.take a.1).map (bk.1,·)) a.2 h4∧¬ a.2 h2.next∧h2.next<h4.next∧h4.get h2.next=some (.cells 35 [.str y.1,y.2] true)) (0,S) (by exact hsub) ⟨Nat.zero_le _,⟨⟨Nat.le_trans nx2 (Nat.le_succ _),fun c hc q=>(a0a.gn _ _ _ _ (by omega)).trans ((a0a.ga _ _ _ (by omega)).trans (tt.old c hc q)),fun _=>by exact hok⟩,by exact hok,by simp only[List.take_zero,List.map_nil,List.append_nil]; exact iA,e2.s⟩,fun q=>by have:=lowS _ q; omega,Nat.lt_succ_self _,a0a.gs _ _ _⟩ ?_
 rintro⟨j,S4⟩ h4 ⟨hj,e4,nS4,l4,g4⟩ next4
 dsimp only at hj e4 nS4 next4 ⊢
 have t4:=e4.t
 have n4:=t4.nx
 have k4:=e4.k
 by_cases c4:j<bk.2.length
 case neg =>
  have ej:bk.2.take j=bk.2:=List.take_of_length_le (by omega)
  rw[ej] at e4
  refine walk ?_
  refine next (i+1,S4) (by simp only; omega) (by exact hsub) ⟨by simp only; omega,?_⟩
  simp only
  rw[et,c5w]
  exact e4
 obtain⟨r1,r2,r3⟩:=fr _ _ h4 n4 t4.old k4 e4.i
 obtain⟨w1,w2⟩:=r3 i y bk hy hb0
 obtain⟨x,hx⟩:∃ x,bk.2[j]?=some x:=⟨_,List.getElem?_eq_getElem c4⟩
 clear a1 hbB hg hpl he
 obtain⟨B,p,e,all,rw',hbB,hg,hpl,he,a1⟩:=w2.at Pr.csl hx
 have he:(all.drop p).take 2=[.str x.key,.str x.val]:=he
 have et4:bk.2.take (j+1)=bk.2.take j++[x]:=by rw[List.take_add_one,hx]; rfl
 refine walk ?_
 have pre:=d1a hb0 (j+1)
 have pl:=pre.length_le
 have em:a4p (bs.take i)++(bk.2.take (j+1)).map (bk.1,·)=(a4p (bs.take i)++(bk.2.take j).map (bk.1,·))++[(y.1,x)]:=by rw[et4,List.map_append,w1,List.append_assoc]; rfl
 rw[em] at pl pre
 have la:(a4p (bs.take i)++(bk.2.take j).map (bk.1,·)).length≤500000:=by rw[List.length_append] at pl; omega
 have lowS4:=yl.low S4 _ true h4 e4.i
 obtain⟨H,hH⟩:∃ H,H=(h4.alloc (.cells 37 [.str [],.str []] true)).set h4.next (.cells 37 [.str x.key,.str x.val] true):=⟨_,rfl⟩
 have oH:∀ c,c<h4.next→H.get c=h4.get c:=fun c hc=>by rw[hH]; exact(a0a.gn _ _ _ _ (by omega)).trans (a0a.ga _ _ _ (by omega))
 have nH:H.next=h4.next+1:=by rw[hH]; rfl
 have kH:H.ok:=by rw[hH]; exact a0w (a4l k4 _) _ _ (Nat.lt_succ_self _)
 have iH:=yl.a5v S4 _ true h4 H e4.i (by omega) (fun c q hc=>oH c hc) (fun _=>kH)
 obtain⟨fn,tm,nt,asg,bd,einv,rg⟩:=yl.call S4 _ (y.1,x) H la (hA _ _ pre) iH
 rw[hH] at einv rg
 refine b7v rg rfl rfl rfl (c1j einv rfl rfl rfl) ?_
 rw[← hH]
 rintro _ h5 ⟨bb,rfl,t5,S',s',i5⟩
 have n5:=t5.nx
 have o5:∀ c,c<h4.next→¬ S4 c→h5.get c=h4.get c:=fun c hc q=>(t5.old c (by omega) q).trans (oH c hc)
 have tt5:Ev.Touch S0 h0 h5:=⟨by omega,fun c hc q=>(o5 c (by omega) (fun r=>by rcases e4.s c r with r|r; exact q r; omega)).trans (t4.old c hc q),fun _=>t5.ok kH⟩
 have S5:∀ c,S' c→S0 c∨h0.next≤c:=fun c q=>by
  rcases s' c q with r|r
  ·exact e4.s c r
  ·exact .inr (by omega)
 cases bb with
 |false =>
  refine walk ?_
  exact a2n fun tm hs=>a3a hs rfl ⟨rfl,S',_,false,tt5,t5.ok kH,i5,S5,pre,fun q=>by cases q⟩
 |true =>
  refine walk ?_
  refine next4 (j+1,S') (by simp only; omega) (by exact hsub) ⟨by simp only; omega,⟨tt5,t5.ok kH,by simp only; rw[em]; exact i5,S5⟩,fun q=>?_,by omega,(o5 _ l4 nS4).trans g4⟩
  rcases s' _ q with r|r
  ·exact nS4 r
  ·omega
set_option maxRecDepth 10000
set_option maxHeartbeats 4000000
theorem c4l.ext {nl:List (List UInt8×AV)}{h h':a0a}{v:AV}{bs:List (List UInt8×List Pr)}(d:c4l nl h v bs) (x:Ext h h'):c4l nl h' v bs:=⟨d.1.ext x,d.2.1,fun j y b h1 h2=>⟨(d.2.2 j y b h1 h2).1,(d.2.2 j y b h1 h2).2.ext x⟩⟩
def b1t (nm key:List UInt8) (x:List UInt8×Pr):Bool:=decide (x.1=nm)&&decide (x.2.key=key)
def getD (bs:List (List UInt8×List Pr)) (nm key:List UInt8):Option (List UInt8):=((a4p bs).find? (b1t nm key)).map (·.2.val)
def e1p (r:Option (List UInt8)):AV:=match r with
 |some s=>.tuple [.str s,.bool true]
 |none=>.tuple [.str [],.bool false]
structure b4f (nm key:List UInt8) (D:Nat) (O:a1t) (S:Nat→Prop) (acc:List (List UInt8×Pr)) (b:Bool) (h:a0a):Prop where
 k:h.ok
 low:∀ c,S c→c<h.next
 s0:S (D+1)∧S (D+2)∧S (D+3)∧S (D+4)∧S (D+6)∧S (D+7)
 g1:h.get (D+1)=some (.cells 9 [.str nm] true)
 g2:h.get (D+2)=some (.cells 9 [.str key] true)
 gd:h.get (D+6)=some (.dfr (some []))
 st:match b with
  |true=>h.get (D+7)=some O∧h.get (D+3)=some (.cells 9 [.str []] true)∧h.get (D+4)=some (.cells 4 [.bool false] true)∧∀ x∈acc,b1t nm key x=false
  |false=>(∃ fn tm nt ps as' bd dd,h.get (D+7)=some (.loop .done (some .ret) fn tm nt ps as' bd dd))∧∃ acc' x,acc=acc'++[x]∧b1t nm key x=true∧(∀ y∈acc',b1t nm key y=false)∧h.get (D+3)=some (.cells 9 [.str x.2.val] true)∧h.get (D+4)=some (.cells 4 [.bool true] true)
theorem b4f.a5v {nm key:List UInt8}{D:Nat}{O:a1t}{S:Nat→Prop}{acc:List (List UInt8×Pr)}{b:Bool}{h h':a0a}(i:b4f nm key D O S acc b h) (hn:h.next≤h'.next) (k:∀ c,S c→c<h.next→h'.get c=h.get c) (hk:h.ok→h'.ok):b4f nm key D O S acc b h':=by
 obtain⟨a1,a2,a3,a4,a5,a6⟩:=i.s0
 have q:∀ c,S c→h'.get c=h.get c:=fun c s=>k c s (i.low c s)
 refine⟨hk i.k,fun c s=>Nat.lt_of_lt_of_le (i.low c s) hn,i.s0,(q _ a1).trans i.g1,(q _ a2).trans i.g2,(q _ a5).trans i.gd,?_⟩
 have st:=i.st
 cases b with
 |true=>exact⟨(q _ a6).trans st.1,(q _ a3).trans st.2.1,(q _ a4).trans st.2.2.1,st.2.2.2⟩
 |false =>
  obtain⟨⟨fn,tm,nt,ps,as',bd,dd,gl⟩,acc',x,e,hx,ha,g3,g4⟩:=st
  exact⟨⟨fn,tm,nt,ps,as',bd,dd,(q _ a6).trans gl⟩,acc',x,e,hx,ha,(q _ a3).trans g3,(q _ a4).trans g4⟩
theorem b4f.no {nm key:List UInt8}{D:Nat}{O:a1t}{S:Nat→Prop}{acc:List (List UInt8×Pr)}{H Z:a0a}{x:List UInt8×Pr}(i:b4f nm key D O S acc true H) (hh:b1t nm key x=false) (nZ:H.next≤Z.next) (oZ:∀ c,c<H.next→c≠D+7→Z.get c=H.get c) (kZ:Z.ok) (gZ:Z.get (D+7)=some O):Ev.Touch S H Z∧∃ S':Nat→Prop,(∀ c,S' c→S c∨H.next≤c)∧b4f nm key D O S' (acc++[x]) true Z:=by
 obtain⟨a1,a2,a3,a4,a5,a6⟩:=i.s0
 obtain⟨gl,g3,g4,al⟩:=i.st
 have low:=i.low
 refine⟨⟨nZ,fun c hc q=>oZ c hc (fun e=>q (e ▸ a6)),fun _=>kZ⟩,S,fun c q=>.inl q,⟨kZ,fun c q=>Nat.lt_of_lt_of_le (low c q) nZ,i.s0,(oZ _ (low _ a1) (by omega)).trans i.g1,(oZ _ (low _ a2) (by omega)).trans i.g2,(oZ _ (low _ a5) (by omega)).trans i.gd,gZ,(oZ _ (low _ a3) (by omega)).trans g3,(oZ _ (low _ a4) (by omega)).trans g4,fun y hy=>?_⟩⟩
 rcases List.mem_append.1 hy with r|r
 ·exact al y r
 ·obtain rfl:=List.mem_singleton.1 r
  exact hh
theorem b4f.hit {nm key:List UInt8}{D:Nat}{O:a1t}{S:Nat→Prop}{acc:List (List UInt8×Pr)}{H Z:a0a}{x:List UInt8×Pr}{fn:FuncId}{tm:Tr AV}{nt:Nat}{ps:List Tmp}{as' bd:Code}{dd:Nat}(i:b4f nm key D O S acc true H) (hh:b1t nm key x=true) (nZ:H.next≤Z.next) (oZ:∀ c,c<H.next→c≠D+3→c≠D+4→c≠D+7→Z.get c=H.get c) (kZ:Z.ok) (g3:Z.get (D+3)=some (.cells 9 [.str x.2.val] true)) (g4:Z.get (D+4)=some (.cells 4 [.bool true] true)) (gZ:Z.get (D+7)=some (.loop .done (some .ret) fn tm nt ps as' bd dd)):Ev.Touch S H Z∧∃ S':Nat→Prop,(∀ c,S' c→S c∨H.next≤c)∧b4f nm key D O S' (acc++[x]) false Z:=by
 obtain⟨a1,a2,a3,a4,a5,a6⟩:=i.s0
 obtain⟨-,-,-,al⟩:=i.st
 have low:=i.low
 exact⟨⟨nZ,fun c hc q=>oZ c hc (fun e=>q (e ▸ a3)) (fun e=>q (e ▸ a4)) (fun e=>q (e ▸ a6)),fun _=>kZ⟩,S,fun c q=>.inl q,⟨kZ,fun c q=>Nat.lt_of_lt_of_le (low c q) nZ,i.s0,(oZ _ (low _ a1) (by omega) (by omega) (by omega)).trans i.g1,(oZ _ (low _ a2) (by omega) (by omega) (by omega)).trans i.g2,(oZ _ (low _ a5) (by omega) (by omega) (by omega)).trans i.gd,⟨fn,tm,nt,ps,as',bd,dd,gZ⟩,acc,x,rfl,hh,al,g3,g4⟩⟩
theorem e8y {n:Nat}{dv:AV}{h:a0a}:a0l (TV n) 11 [.agg [dv]] h (fun v h'=>v=.func (.func 39) [] [.ptr h.next 0]∧h'=h.alloc (.cells 27 [dv] true)):=by
 refine a0r (a1x rfl rfl) rfl rfl ?_
 refine walk ?_
 exact a0d (by exact hres) ⟨rfl,rfl⟩
theorem e4p {n:Nat}{nm key:List UInt8}{nl:List (List UInt8×AV)}{dv:AV}{bs:List (List UInt8×List Pr)}{h0 h1:a0a}{D:Nat}{fn:FuncId}{tm:Tr AV}{nt:Nat}{as' bd:Code}(dn:c4l nl h0 dv bs) (x1:Ext h0 h1) (k1:h1.ok) (hD:h0.next≤D) (n1:h1.next=D+6) (q1:h1.get (D+1)=some (.cells 9 [.str nm] true)) (q2:h1.get (D+2)=some (.cells 9 [.str key] true)) (q3:h1.get (D+3)=some (.cells 9 [.str []] true)) (q4:h1.get (D+4)=some (.cells 4 [.bool false] true)) (q5:h1.get (D+5)=some (.cells 27 [dv] true)) (hl:(a4p bs).length≤400000) (hb:bs.length≤1000) (hp:∀ b∈bs,b.2.length≤1000000) (hnt:(([12,13]:List Tmp).all fun p=>Nat.blt p nt)=true)
  (rnd:∀ (S:Nat→Prop) (acc:List (List UInt8×Pr)) (s:List UInt8×Pr) (h:a0a),acc.length≤500000→b4f nm key D (.loop .ready none fn tm nt [12,13] as' bd (D+6)) S acc true h→b3t (TV n) (D+7) fn (a7b tm [12,13] (flD s)) nt as' bd h (fun v h'=>∃ b,v=.bool b∧Ev.Touch S h h'∧∃ S':Nat→Prop,(∀ c,S' c→S c∨h.next≤c)∧b4f nm key D (.loop .ready none fn tm nt [12,13] as' bd (D+6)) S' (acc++[s]) b h')) :
  a0l (TV n) 39 [.func (.yield (h1.next+1)) [] [],.ptr (D+5) 0] ((h1.alloc (.dfr (some []))).alloc (.loop .ready none fn tm nt [12,13] as' bd h1.next)) fun _ h4=>∃ S acc b,(∀ c,c<D→h4.get c=h1.get c)∧h4.ok∧D+8≤h4.next∧b4f nm key D (.loop .ready none fn tm nt [12,13] as' bd (D+6)) S acc b h4∧acc <+: a4p bs∧(b=true→acc=a4p bs):=by
 have nl':h1.next+1=D+7:=by omega
 have x2:Ext h0 ((h1.alloc (.dfr (some []))).alloc (.loop .ready none fn tm nt [12,13] as' bd h1.next)):=(x1.trans (.alloc _ _)).trans (.alloc _ _)
 refine a0l.mono (e6x (n:=n) (nl:=nl) (dv:=dv) (bs:=bs) (l:=h1.next+1) (b:=D+5) (A:=fun _ _=>True) (I:=b4f nm key D (.loop .ready none fn tm nt [12,13] as' bd (D+6))) (S0:=fun c=>c=D+1∨c=D+2∨c=D+3∨c=D+4∨c=D+6∨c=D+7) (c7w (ps:=[12,13]) (fun _=>rfl) hnt (fun S acc h i=>by rw[nl']; exact i.st.1) (fun S acc b h i=>i.low) (fun S acc b h h' i hn k o=>i.a5v hn k o) (by rw[nl']; exact fun S acc s h la _ i=>rnd S acc s h la i)) (by exact hok) (by exact a0j) (by show D+5<h1.next+1+1; omega) (by omega) ?_ ?_ (fun _ _ _=>trivial) hl hb hp) ?_
 ·exact⟨by exact hok,fun c q=>by show c<h1.next+1+1; omega,⟨by omega,by omega,by omega,by omega,by omega,by omega⟩,by exact a0j,by exact a0j,by rw[← n1]; exact a0j,by rw[← nl',← n1]; exact a0s _ _,by exact a0j,by exact a0j,fun x hx=>by cases hx⟩
 ·intro _ _ h' hn hc hk' _
  have d2:=dn.ext x2
  have n2:h0.next≤h1.next+1+1:=x2.nx
  refine dn.ext ⟨Nat.le_trans x2.nx hn,fun c hc'=>(hc c (by show c<h1.next+1+1; omega) (by omega)).trans (x2.old c hc'),fun _=>hk'⟩
 ·rintro _ h4 ⟨-,S,acc,b,t,k4,i,s,f1,f2⟩
  have nx:h1.next+1+1≤h4.next:=t.nx
  refine⟨S,acc,b,fun c hc=>?_,k4,by omega,i,f1,f2⟩
  refine(t.old c (by show c<h1.next+1+1; omega) (by omega)).trans ?_
  exact(a0a.ga _ _ _ (by show c≠h1.next+1; omega)).trans (a0a.ga _ _ _ (by omega))
theorem c4l.any {nl:List (List UInt8×AV)}{h h':a0a}{v:AV}{bs:List (List UInt8×List Pr)}(d:c4l nl h v bs) (p:v.plain=true):c4l nl h' v bs:=by
 obtain⟨a,b,c⟩:=d
 have hl:nl=[]:=by
  have a':Sl h 2 v nl.length (nl.flatMap Nm.cs):=a
  cases v<;>first|(simp[AV.plain] at p; done)|exact a'.elim|exact List.length_eq_zero_iff.1 a'.1
 subst hl
 exact⟨a.any p,b,fun j x y q=>by simp at q⟩
theorem d5v {bs:List (List UInt8×List Pr)}{nm key:List UInt8}{acc:List (List UInt8×Pr)}{x:List UInt8×Pr}(h1:(acc++[x]) <+: a4p bs) (h2:b1t nm key x=true) (h3:∀ y∈acc,b1t nm key y=false):getD bs nm key=some x.2.val:=by
 obtain⟨r,e⟩:=h1
 unfold getD
 rw[← e,List.find?_append,List.find?_append,List.find?_eq_none.2 fun y hy=>by rw[h3 y hy]; simp]
 simp[h2]
theorem d6s {bs:List (List UInt8×List Pr)}{nm key:List UInt8}(h3:∀ y∈a4p bs,b1t nm key y=false):getD bs nm key=none:=by
 unfold getD
 rw[List.find?_eq_none.2 fun y hy=>by rw[h3 y hy]; simp]
 rfl
theorem f1u {n:Nat}(hn:0<n){nm key:List UInt8}{nl:List (List UInt8×AV)}{dv:AV}{bs:List (List UInt8×List Pr)}{h:a0a}(hk:h.ok) (dn:c4l nl h dv bs) (hl:(a4p bs).length≤400000) (hb:bs.length≤1000) (hp:∀ b∈bs,b.2.length≤1000000):(TV n).sm 12 [.agg [dv],.str nm,.str key] h=some (e1p (getD bs nm key),h):=by
 refine a6l hn (fun h=>c4l nl h dv bs∧h.ok) rfl (by unfold e1p; split<;>rfl) ⟨dn,hk⟩ (fun hp=>⟨dn.any (by simp[AV.a0z,AV.plain] at hp; exact hp),a2e⟩) ?_
 clear dn hk h
 rintro n hn h ⟨dn,hk⟩
 have dvc:=Sl.cells dn.1
 have dvo:=Sl.one dn.1
 refine c8c rfl rfl ?_
 refine walk ?_
 refine a0c (e8y (dv:=dv)) rfl rfl rfl rfl ?_
 rintro _ _ ⟨rfl,rfl⟩
 refine walk ?_
 refine GJ.gen [(3,.ptr h.next 0),(4,.ptr (h.next+1) 0),(5,.ptr (h.next+2) 0),(6,.ptr (h.next+3) 0),(7,.ptr (h.next+4) 0),(11,.func (.func 39) [] [.ptr (h.next+5) 0])] (fun g=>Ext h g∧g.ok∧g.next=h.next+6∧g.get (h.next+1)=some (.cells 9 [.str nm] true)∧g.get (h.next+2)=some (.cells 9 [.str key] true)∧g.get (h.next+3)=some (.cells 9 [.str []] true)∧g.get (h.next+4)=some (.cells 4 [.bool false] true)∧g.get (h.next+5)=some (.cells 27 [dv] true)) (by exact hsub) ⟨by exact a0g,by exact hok,rfl,by exact a0j,by exact a0j,by exact a0j,by exact a0j,by exact a0j⟩ ?_
 rintro h1 ⟨x1,k1,n1,q1,q2,q3,q4,q5⟩
 refine b9c (P:=fun h4=>∃ S acc b fn tm nt ps as' bd dd,Ext h h4∧h4.ok∧h.next+8≤h4.next∧b4f nm key h.next (.loop .ready none fn tm nt ps as' bd dd) S acc b h4∧acc <+: a4p bs∧(b=true→acc=a4p bs)) rfl rfl rfl rfl ?_ ?_
 ·intro tm hs
  have hs2:a0m tm [(4,.ptr (h.next+1) 0),(5,.ptr (h.next+2) 0),(6,.ptr (h.next+3) 0),(7,.ptr (h.next+4) 0)]:=hs.sub hsub
  refine a0l.mono (e4p (D:=h.next) dn x1 k1 (Nat.le_refl _) n1 q1 q2 q3 q4 q5 hl hb hp rfl ?_) ?_
  rotate_left
  ·rintro _ h4 ⟨S,acc,b,o4,k4,n4,i,f1,f2⟩
   exact⟨S,acc,b,_,_,_,_,_,_,_,⟨by omega,fun c hc=>(o4 c hc).trans (x1.old c hc),fun _=>k4⟩,k4,n4,i,f1,f2⟩
  ·intro S acc x H la i
   obtain⟨a1,a2,a3,a4,a5,a6⟩:=i.s0
   obtain⟨gl,g3,g4,al⟩:=i.st
   have g1:=i.g1
   have g2:=i.g2
   have gd:=i.gd
   have kH:=i.k
   have low:=i.low
   have b1:=low _ a1
   have b2:=low _ a2
   have b3:=low _ a3
   have b4:=low _ a4
   have b5:=low _ a5
   have b6:=low _ a6
   obtain⟨xn,xp⟩:=x
   refine b8p ((hs2.set 12 _).set 13 _) ?_
   refine walk ?_
   refine a2v fun tm1 hs1=>⟨tm1,_,_,none,_,_,_,_,_,_,_,rfl,hs1,by exact a0j,?_⟩
   by_cases c1:xn=nm
   ·by_cases c2:xp.key=key
    ·refine walk ?_
     refine a2n fun tm3 hs3=>⟨.ret,_,_,_,_,_,_,_,_,_,_,_,rfl,by exact a0j,false,rfl,?_⟩
     exact b4f.hit i (by simp[b1t,c1,c2]) (by exact hle) (fun c hc r3 r4 r7=>by have gc:H.get c=H.get c:=rfl; exact a0j) (by exact hok) (by exact a0j) (by exact a0j) (a0a.gs _ _ _)
    ·refine walk ?_
     refine a2v fun tm3 hs3=>⟨.normal,_,_,_,_,_,_,_,_,_,_,_,rfl,by exact a0j,true,rfl,?_⟩
     refine b4f.no i (by simp[b1t,c2]) (by exact hle) (fun c hc r=>by have gc:H.get c=H.get c:=rfl; exact a0j) (by exact hok) (a0a.gs _ _ _)
   ·refine walk ?_
    refine a2v fun tm3 hs3=>⟨.normal,_,_,_,_,_,_,_,_,_,_,_,rfl,by exact a0j,true,rfl,?_⟩
    refine b4f.no i (by simp[b1t,c1]) (by exact hle) (fun c hc r=>by have gc:H.get c=H.get c:=rfl; exact a0j) (by exact hok) (a0a.gs _ _ _)
 ·rintro h4 ⟨S,acc,b,fn,tm,nt,ps,as',bd,dd,x4,k4,n4,i,f1,f2⟩
  obtain⟨a1,a2,a3,a4,a5,a6⟩:=i.s0
  have gd:=i.gd
  have st:=i.st
  have e8:h1.next=h.next+6:=n1
  cases b with
  |true =>
   obtain⟨gl,g3,g4,al⟩:=st
   refine⟨_,none,fn,tm,nt,ps,as',bd,dd,by rw[e8]; exact gl,(by intro c; cases c),?_⟩
   rw[e8]
   show GJ _ _ _ _ _ _ _ _
   rw[f2 rfl] at al
   rw[d6s al]
   refine walk ?_
   refine a2n fun tm hs=>?_
   refine a5a (by exact a0j) ?_
   exact a2b (vs:=[.str [],.bool false]) hs rfl (a0t rfl (a1v rfl rfl (by exact a0j)) (a0t rfl (a1v rfl rfl (by exact a0j)) rfl)) ⟨_,_,rfl,rfl,by exact a0g⟩
  |false =>
   obtain⟨⟨fn',tm',nt',ps',as2,bd',dd',gl⟩,acc',x,rfl,hx,ha,g3,g4⟩:=st
   refine⟨_,some .ret,fn',tm',nt',ps',as2,bd',dd',by rw[e8]; exact gl,(by intro c; cases c),?_⟩
   rw[e8]
   rw[d5v f1 hx ha]
   show GJ _ _ (.code .ret::_) _ _ _ _ _
   refine a2n fun tm hs=>?_
   refine a5a (by exact(a0a.gn _ _ _ _ (by omega)).trans gd) ?_
   exact a2b (vs:=[.str x.2.val,.bool true]) hs rfl (a0t rfl (a1v rfl rfl (by exact a0j)) (a0t rfl (a1v rfl rfl (by exact a0j)) rfl)) ⟨_,_,rfl,rfl,by exact a0g⟩
end Go.Proofs.YtmnhbehmjaibgaaGreat
