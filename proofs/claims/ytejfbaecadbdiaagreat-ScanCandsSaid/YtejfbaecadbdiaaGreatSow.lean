/- What the functions of this part answer at any input, told by the rules over the evaluator. Conditions: those that each theorem states. -/
import Derived.Test.YtejfbaecadbdiaaGreatGar
import Derived.Test.YtejfbaecadbdiaaGreatSr6
import Derived.Test.YtejfbaecadbdiaaGreatGaq
set_option linter.unusedVariables false
set_option linter.unusedSimpArgs false
open Go Ev
namespace Go.Proofs.YtejfbaecadbdiaaGreat
set_option maxRecDepth 10000
set_option maxHeartbeats 4000000
def f5g (q:Nat):List AV:=[.int .u32 q]
theorem d8i {pg seen:List Nat}(nd:seen.Nodup) (lt:∀ i∈seen,i<pg.length) (all:∀ i,i<pg.length→i∈seen):(seen.map (pg.getD · 0)).Perm pg:=by
 have p:seen.Perm (List.range pg.length):=(List.perm_ext_iff_of_nodup nd List.nodup_range).2 fun a=>by
  rw[List.mem_range]
  exact⟨lt a,all a⟩
 have:=p.map (pg.getD · 0)
 have e:(List.range pg.length).map (pg.getD · 0)=pg:=by
  apply List.ext_getElem
  ·simp
  ·intro i h1 h2
   simp[List.getD_eq_getElem?_getD,List.getElem?_eq_getElem h2]
 rwa [e] at this
structure f5j (M:Nat) (pg:List Nat) (I:(Nat→Prop)→List Nat→Bool→a0a→Prop) (S0:Nat→Prop) (h0:a0a) (seen:List Nat) (S:Nat→Prop) (h:a0a):Prop where
 t:Ev.Touch S0 h0 h
 k:h.ok
 it:h.get h0.next=some (.iter (some M) pg.length seen pg.length)
 il:h0.next<h.next
 i:I S (seen.map (pg.getD · 0)) true h
 s:∀ c,S c→S0 c∨h0.next<c
 nd:seen.Nodup
 lt:∀ i∈seen,i<pg.length
theorem e7p {n l b M:Nat}{pg:List Nat}{I:(Nat→Prop)→List Nat→Bool→a0a→Prop}{S0:Nat→Prop}{h0:a0a}(yl:f1c (TA n) l f5g (fun _ _=>True) I) (hk:h0.ok) (s:a7v h0 M pg) (gb:h0.get b=some (.cells 150 [.map M] true)) (i0:I S0 [] true h0) (nM:¬ S0 M) (hl:pg.length≤400000) :
  a0l (TA n) 147 [.func (.yield l) [] [],.ptr b 0] h0 (fun v h'=>v=.tuple []∧∃ S acc bb,Ev.Touch S0 h0 h'∧h'.ok∧I S acc bb h'∧(∀ c,S c→S0 c∨h0.next≤c)∧(bb=true→acc.Perm pg)):=by
 have s2:=s.2
 refine a0r (a6m rfl rfl) rfl rfl ?_
 refine walk ?_
 refine a1k rfl rfl rfl (e6x s rfl rfl rfl) ?_
 refine walk ?_
 have M0:=s.1
 refine a0n (ι:=List Nat×(Nat→Prop)) (fun a=>pg.length-a.1.length) (fun a=>[(0,.func (.yield l) [] []),(5,.ptr h0.next 0)]) (fun a h2=>f5j M pg I S0 h0 a.1 a.2 h2) ([],S0) (by exact hsub) ?_ ?_
 ·exact {
   t:=.al _
   k:=by exact hok
   it:=a0t _ _
   il:=Nat.lt_succ_self _
   i:=yl.a2l S0 [] true h0 _ i0 (Nat.le_succ _) (fun c _ hc=>a0a.ga _ _ _ (by omega)) (fun k=>a4n k _)
   s:=fun c q=>.inl q
   nd:=.nil
   lt:=fun i hi=>by cases hi }
 rintro⟨seen,S⟩ h2 e2 next
 dsimp only at e2 next ⊢
 have tt:=e2.t
 have nx2:=tt.nx
 have sr2:a7v h2 M pg:=s.keep (tt.old M M0 nM) nx2
 have ln:=b0g _ _ e2.nd e2.lt
 have git:=e2.it
 have il:=e2.il
 have nSi:¬ S h0.next:=fun q=>by
  rcases e2.s _ q with r|r
  ·have:=yl.low S0 [] true h0 i0 _ r; omega
  ·omega
 refine walk ?_
 refine e8y rfl sr2 git rfl rfl rfl (f2q rfl rfl rfl) ?_ ?_
 ·intro all
  refine walk ?_
  exact a2e fun tm hs=>a2b hs rfl ⟨rfl,S,_,true,tt,e2.k,e2.i,fun c q=>by
   rcases e2.s c q with r|r
   ·exact .inl r
   ·exact .inr (by omega),fun _=>d8i e2.nd e2.lt all⟩
 ·intro i q hi hs
  have hlt:i<pg.length:=(List.getElem?_eq_some_iff.1 hi).1
  have gi:(h2.set h0.next (.iter (some M) pg.length (seen++[i]) pg.length)).get h0.next=some (.iter (some M) pg.length (seen++[i]) pg.length):=a0a.gs _ _ _
  have sr3:a7v (h2.set h0.next (.iter (some M) pg.length (seen++[i]) pg.length)) M pg:=sr2.keep (a0a.gn _ _ _ _ (by omega)) (Nat.le_refl _)
  refine walk ?_
  refine a1k rfl rfl rfl (e7g sr3 gi hi rfl rfl) ?_
  have i3:=yl.a2l S _ true h2 (h2.set h0.next (.iter (some M) pg.length (seen++[i]) pg.length)) e2.i (Nat.le_refl _) (fun c p hc=>a0a.gn _ _ _ _ (fun e=>nSi (e ▸ p))) (fun k=>a0w k _ _ il)
  have k3:(h2.set h0.next (.iter (some M) pg.length (seen++[i]) pg.length)).ok:=a0w e2.k _ _ il
  have la:(seen.map (pg.getD · 0)).length≤500000:=by rw[List.length_map]; omega
  obtain⟨fn,tm,nt,asg,bd,einv,rg⟩:=yl.call S _ q _ la trivial i3
  refine walk ?_
  refine b4l rg rfl rfl rfl (b7l einv rfl rfl rfl) ?_
  rintro _ h3 ⟨bb,rfl,t3,S',s',i4⟩
  have n3:h2.next≤h3.next:=t3.nx
  have o3:∀ c,c<h2.next→c≠h0.next→¬ S c→h3.get c=h2.get c:=fun c hc r p=>(t3.old c hc p).trans (a0a.gn _ _ _ _ r)
  have tt3:Ev.Touch S0 h0 h3:=⟨by omega,fun c hc p=>(o3 c (by omega) (by omega) (fun r=>by rcases e2.s c r with r|r; exact p r; omega)).trans (tt.old c hc p),fun _=>t3.ok k3⟩
  have S3:∀ c,S' c→S0 c∨h0.next<c:=fun c p=>by
   rcases s' c p with r|r
   ·exact e2.s c r
   ·have r:h2.next≤c:=r
    exact .inr (by omega)
  have nd':(seen++[i]).Nodup:=by
   rw[List.nodup_append]
   exact⟨e2.nd,by simp,fun a ha b hb e=>by
    obtain rfl:=List.mem_singleton.1 hb
    exact hs (e ▸ ha)⟩
  have lt':∀ a∈seen++[i],a<pg.length:=fun a ha=>by
   rcases List.mem_append.1 ha with r|r
   ·exact e2.lt a r
   ·obtain rfl:=List.mem_singleton.1 r
    exact hlt
  have ln':=b0g _ _ nd' lt'
  rw[List.length_append,List.length_cons,List.length_nil] at ln'
  have em:seen.map (pg.getD · 0)++[q]=(seen++[i]).map (pg.getD · 0):=by simp[List.getD_eq_getElem?_getD,hi]
  rw[em] at i4
  cases bb with
  |false =>
   refine walk ?_
   exact a2x fun tm hs=>a3o hs rfl ⟨rfl,S',_,false,tt3,t3.ok k3,i4,fun c p=>by
    rcases S3 c p with r|r
    ·exact .inl r
    ·exact .inr (by omega),fun e=>by cases e⟩
  |true =>
   refine walk ?_
   refine next (seen++[i],S') ?_ (by exact hsub) ?_
   ·simp only[List.length_append,List.length_cons,List.length_nil]
    omega
   ·exact {
     t:=tt3
     k:=t3.ok k3
     it:=(t3.old _ il nSi).trans gi
     il:=by omega
     i:=i4
     s:=S3
     nd:=nd'
     lt:=lt' }
set_option maxRecDepth 10000
set_option maxHeartbeats 4000000
def a8r (S:Nat→Prop) (h:a0a) (u:AV) (l:List Nat):Prop:=(u=.nilslice∧l=[])∨∃ B,S B∧B<h.next∧u=.oslice B 0 l.length 1∧h.get B=some (.cells 29 (l.flatMap a3a) true)∧l≠[]
theorem a8r.keep {S S':Nat→Prop}{h h':a0a}{u:AV}{l:List Nat}(e:a8r S h u l) (k:∀ b,S b→b<h.next→h'.get b=h.get b∧S' b) (hn:h.next≤h'.next):a8r S' h' u l:=by
 rcases e with e|⟨B,a,b,c,d,f⟩
 ·exact .inl e
 ·exact .inr ⟨B,(k B a b).2,Nat.lt_of_lt_of_le b hn,c,(k B a b).1.trans d,f⟩
theorem a8r.one {S:Nat→Prop}{h:a0a}{u:AV}{l:List Nat}(e:a8r S h u l):u.cells=[u]∧u.one=true:=by
 rcases e with ⟨rfl,_⟩|⟨B,_,_,rfl,_,_⟩<;>exact⟨rfl,rfl⟩
theorem e0b {n:Nat}{S:Nat→Prop}{h:a0a}{u:AV}{l:List Nat}{c x:Nat}(e:a8r S h u l) (hc:h.get c=some (.cells 29 (a3a x) true)) (hcl:c<h.next) (hr:l.length≤1000000) :
  ∃ v' h',a1h (TA n) [u,.slice c 0 1 1] [42,42] h=.val v' h'∧a8r (fun b=>S b∨h.next≤b) h' v' (l++[x])∧Ev.Touch S h h':=by
 have bw:Sl h 1 (.slice c 0 1 1) 1 (a3a x):=⟨rfl,hcl,29,a3a x,true,hc,by show 0+1*1≤1; omega,rfl⟩
 have hm:a3x (TA n) [42]=some false:=rfl
 have hcount:=b0e hm bw
 have hnew:=b6e (elem:=29) hm bw
 have hu:(TA n).und 42=some (.slice 29):=rfl
 have hsz:(TA n).size 29=some 1:=rfl
 have hz:a5y (TA n) 29 1=true:=rfl
 obtain⟨ei,hti,hb⟩:∃ ei,(TA n).ti 29=some ei∧ei.bytes≤10000:=⟨_,rfl,Nat.le_of_ble_eq_true rfl⟩
 have hroom:a2u (l.length+1) ei.bytes=true:=by
  unfold a2u
  refine Nat.ble_eq.mpr (Nat.le_trans (Nat.mul_le_mul (show 4*(l.length+1)+1000≤4001004 by omega) (show ei.bytes+1≤10001 by omega)) (by decide))
 have fl:∀ l:List Nat,(l.flatMap a3a).length=l.length:=fun l=>by rw[a7l a2k,Nat.mul_one]
 rcases e with ⟨rfl,rfl⟩|⟨B,sB,lB,rfl,gB,-⟩
 ·refine⟨.oslice h.next 0 1 1,h.alloc (.cells 29 ([]++a3a x) true),?_,.inr ⟨h.next,.inr (Nat.le_refl _),Nat.lt_succ_self _,rfl,a0t _ _,by simp⟩,.al _⟩
  have hf:a3z 1 0 h .nilslice=some []:=rfl
  have hl:a5a .nilslice=some 0:=rfl
  have hroom:a2u 1 ei.bytes=true:=hroom
  unfold a1h
  simp only[hu,hsz,hl,hcount,hti,hnew,hf,Nat.zero_add]
  simp[hroom,hz,a3a]
 ·have hS:Sl h 1 (.oslice B 0 l.length 1) l.length (l.flatMap a3a):=⟨rfl,rfl,lB,29,_,true,gB,by rw[fl]; omega,by rw[List.drop_zero,Nat.mul_one]; exact List.take_of_length_le (by rw[fl]; omega)⟩
  have hf:a3z 1 l.length h (.oslice B 0 l.length 1)=some (l.flatMap a3a):=hS.first
  have hl:a5a (.oslice B 0 l.length 1)=some l.length:=rfl
  refine⟨.oslice h.next 0 (l.length+1) 1,(h.set B .dead).alloc (.cells 29 (l.flatMap a3a++a3a x) true),?_,.inr ⟨h.next,.inr (Nat.le_refl _),Nat.lt_succ_self _,by simp,?_,by simp⟩,(Ev.Touch.set _ sB lB).trans (.al _)⟩
  ·unfold a1h
   simp only[hu,hsz,hl,hcount,hti,hnew,hf,gB,hroom,hz]
   simp[a3a,fl,AV.one]
   intro q
   omega
  ·rw[List.flatMap_append]
   simpa using a0t (h.set B .dead) _
structure SqI (box l d:Nat) (O:a1t) (S:Nat→Prop) (acc:List Nat) (b:Bool) (h:a0a):Prop where
 k:h.ok
 low:∀ c,S c→c<h.next
 bt:b=true
 sb:S box
 sl:S l
 sd:S d
 n1:box≠l
 n2:l≠d
 n3:box≠d
 gl:h.get l=some O
 gd:h.get d=some (.dfr (some []))
 own:∃ u,h.get box=some (.cells 42 [u] true)∧a8r (fun c=>S c∧c≠box∧c≠l∧c≠d) h u acc
theorem SqI.a2l {box l d:Nat}{O:a1t}{S:Nat→Prop}{acc:List Nat}{b:Bool}{h h':a0a}(i:SqI box l d O S acc b h) (hn:h.next≤h'.next) (k:∀ c,S c→c<h.next→h'.get c=h.get c) (hk:h.ok→h'.ok):SqI box l d O S acc b h':=by
 obtain⟨u,g,o⟩:=i.own
 exact⟨hk i.k,fun c q=>Nat.lt_of_lt_of_le (i.low c q) hn,i.bt,i.sb,i.sl,i.sd,i.n1,i.n2,i.n3,(k _ i.sl (i.low _ i.sl)).trans i.gl,(k _ i.sd (i.low _ i.sd)).trans i.gd,u,(k _ i.sb (i.low _ i.sb)).trans g,o.keep (fun c q hc=>⟨k c q.1 hc,q⟩) hn⟩
theorem e2j {n b M:Nat}{pg:List Nat}{h0 h1:a0a}{fn:FuncId}{tm:Tr AV}{nt:Nat}{as' bd:Code}(k1:h1.ok) (n1:h1.next=h0.next+1) (s:a7v h1 M pg) (nM:M<h0.next) (gb:h1.get b=some (.cells 150 [.map M] true)) (lb:b<h0.next) (gx:h1.get h0.next=some (.cells 42 [.nilslice] true)) (hl:pg.length≤400000) (hnt:(([7]:List Tmp).all fun p=>Nat.blt p nt)=true)
  (rnd:∀ (S:Nat→Prop) (acc:List Nat) (s:Nat) (h:a0a),acc.length≤500000→SqI h0.next (h0.next+2) (h0.next+1) (.loop .ready none fn tm nt [7] as' bd (h0.next+1)) S acc true h→a7w (TA n) (h0.next+2) fn (tm.set 7 (.int .u32 s)) nt as' bd h (fun v h'=>∃ b,v=.bool b∧Ev.Touch S h h'∧∃ S':Nat→Prop,(∀ c,S' c→S c∨h.next≤c)∧SqI h0.next (h0.next+2) (h0.next+1) (.loop .ready none fn tm nt [7] as' bd (h0.next+1)) S' (acc++[s]) b h')) :
  a0l (TA n) 147 [.func (.yield (h1.next+1)) [] [],.ptr b 0] ((h1.alloc (.dfr (some []))).alloc (.loop .ready none fn tm nt [7] as' bd h1.next)) fun _ h4=>∃ acc u,(∀ c,c<h0.next→h4.get c=h1.get c)∧h4.ok∧h0.next+3≤h4.next∧h4.get h0.next=some (.cells 42 [u] true)∧h4.get (h0.next+1)=some (.dfr (some []))∧h4.get (h0.next+2)=some (.loop .ready none fn tm nt [7] as' bd (h0.next+1))∧a8r (fun c=>h0.next+3≤c) h4 u acc∧acc.Perm pg:=by
 have nl:h1.next+1=h0.next+2:=by omega
 have i0:SqI h0.next (h0.next+2) (h0.next+1) (.loop .ready none fn tm nt [7] as' bd (h0.next+1)) (fun c=>h0.next≤c∧c<h0.next+3) [] true ((h1.alloc (.dfr (some []))).alloc (.loop .ready none fn tm nt [7] as' bd h1.next)) :=
  ⟨by exact hok,fun c q=>by show c<h1.next+1+1; omega,rfl,⟨by omega,by omega⟩,⟨by omega,by omega⟩,⟨by omega,by omega⟩,by omega,by omega,by omega,by rw[← nl,← n1]; exact a0t _ _,by rw[← n1]; exact a0g,.nilslice,by exact a0g,.inl ⟨rfl,rfl⟩⟩
 refine a0l.mono (e7p (l:=h1.next+1) (I:=SqI h0.next (h0.next+2) (h0.next+1) (.loop .ready none fn tm nt [7] as' bd (h0.next+1))) (d5u (ps:=[7]) (fun _=>rfl) hnt (fun S acc h i=>by rw[nl]; exact i.gl) (fun S acc b h i=>i.low) (fun S acc b h h' i hn k o=>i.a2l hn k o) (by rw[nl]; exact fun S acc s h la _ i=>rnd S acc s h la i)) (by exact hok) (s.keep (by have:=s.1; exact(a0a.ga _ _ _ (by show M≠h1.next+1; omega)).trans (a0a.ga _ _ _ (by omega))) (by show h1.next≤h1.next+1+1; omega)) (by exact a0g) i0 (by omega) hl) ?_
 rintro _ h4 ⟨-,S,acc,bb,t,k4,i,sS,pm⟩
 have nx:h1.next+1+1≤h4.next:=t.nx
 obtain⟨u,gu,ex⟩:=i.own
 refine⟨acc,u,fun c hc=>?_,k4,by omega,gu,i.gd,i.gl,ex.keep (fun c q hc=>⟨rfl,?_⟩) (Nat.le_refl _),pm i.bt⟩
 ·refine(t.old c (by show c<h1.next+1+1; omega) (by omega)).trans ?_
  exact(a0a.ga _ _ _ (by show c≠h1.next+1; omega)).trans (a0a.ga _ _ _ (by omega))
 ·rcases sS c q.1 with r|r
  ·omega
  ·have r:h1.next+1+1≤c:=r
   omega
theorem d9h {n b M:Nat}{pg:List Nat}{h0:a0a}(hk:h0.ok) (s:a7v h0 M pg) (gb:h0.get b=some (.cells 150 [.map M] true)) (lb:b<h0.next) (hl:pg.length≤400000) :
  a0l (TA n) 172 [.nilslice,.func (.func 147) [] [.ptr b 0]] h0 (fun v h'=>∃ acc,Ext h0 h'∧a8r (h0.next ≤ ·) h' v acc∧acc.Perm pg):=by
 refine a4k (a6m rfl rfl) rfl rfl ?_
 have M0:=s.1
 refine walk ?_
 refine c5g (P:=fun h4=>∃ acc u fn tm nt ps as' bd dd,Ext h0 h4∧h4.ok∧h0.next+3≤h4.next∧h4.get h0.next=some (.cells 42 [u] true)∧h4.get (h0.next+1)=some (.dfr (some []))∧h4.get (h0.next+2)=some (.loop .ready none fn tm nt ps as' bd dd)∧a8r (fun c=>h0.next+3≤c) h4 u acc∧acc.Perm pg) rfl rfl rfl rfl ?_ ?_
 ·intro tm hs
  have hs2:a0m tm [(2,.ptr h0.next 0)]:=hs.sub hsub
  refine a0l.mono (e2j (h0:=h0) (h1:=h0.alloc (.cells 42 [.nilslice] true)) (by exact hok) rfl (s.keep (a0a.ga _ _ _ (by omega)) (Nat.le_succ _)) M0 (by exact a0g) lb (by exact a0g) hl rfl ?_) ?_
  rotate_left
  ·rintro _ h4 ⟨acc,u,o4,k4,n4,gu,gd,gl,ex,pm⟩
   exact⟨acc,u,_,_,_,_,_,_,_,⟨by omega,fun c hc=>(o4 c hc).trans (a0a.ga _ _ _ (by omega)),fun _=>k4⟩,k4,n4,gu,gd,gl,ex,pm⟩
  ·intro S acc x H la i
   obtain⟨u,gu,ex⟩:=i.own
   have lb':=i.low _ i.sb
   have ll:=i.low _ i.sl
   have ld:=i.low _ i.sd
   have gl:=i.gl
   have gd:=i.gd
   have kH:=i.k
   refine c5x (hs2.set 7 _) ?_
   refine walk ?_
   refine a2e fun tm1 hs1=>⟨tm1,_,_,none,_,_,_,_,_,_,_,rfl,hs1,by exact a0g,?_⟩
   obtain⟨vu,wu⟩:=ex.one
   refine walk ?_
   refine OJ.gen [(2,.ptr h0.next 0),(8,u),(10,.slice H.next 0 1 1)] (fun Y=>Y.next=H.next+1∧(∀ c,c<H.next→c≠h0.next+2→Y.get c=H.get c)∧Y.ok∧Y.get H.next=some (.cells 29 (a3a x) true)∧Y.get (h0.next+2)=some (.loop .busy none _ tm _ [7] _ _ (h0.next+1))) (by exact hsub) ⟨rfl,fun c hc r=>(a0a.ga _ _ _ (by show c≠H.next; omega)).trans (a0a.gn _ _ _ _ r),by exact hok,a0t _ _,(a0a.ga _ _ _ (by show h0.next+2≠H.next; omega)).trans (a0a.gs _ _ _)⟩ ?_
   rintro Y ⟨nY,oY,kY,gY,lY⟩
   have low:=i.low
   obtain⟨v6,h6,e6,x6,t6⟩:=e0b (n:=n) (ex.keep (S':=fun c=>S c∧c≠h0.next∧c≠h0.next+2∧c≠h0.next+1) (fun c q hc=>⟨oY c hc (by omega),q⟩) (by omega)) gY (by omega) (by omega)
   have n6:=t6.nx
   obtain⟨vc6,vo6⟩:=x6.one
   have o6:∀ c,c<H.next→c≠h0.next+2→(¬ S c∨c=h0.next∨c=h0.next+1)→h6.get c=H.get c:=fun c hc r q=>(t6.old c (by omega) (fun p=>by rcases q with q|q|q; exact q p.1; exact p.2.1 q; exact p.2.2.2 q)).trans (oY c hc r)
   have g6:h6.get h0.next=some (.cells 42 [u] true):=(o6 _ lb' (by omega) (.inr (.inl rfl))).trans gu
   have l6:=(t6.old (h0.next+2) (by omega) (fun p=>p.2.2.1 rfl)).trans lY
   refine walk ?_
   refine a2e fun tm3 hs3=>⟨.normal,_,_,_,_,_,_,_,_,_,_,_,rfl,(a0a.gn _ _ _ _ (by omega)).trans l6,true,rfl,⟨by show H.next≤h6.next; omega,fun c hc q=>?_,fun _=>a0w (a0w (t6.ok kY) _ _ (by omega)) _ _ (by show _<h6.next; omega)⟩,fun c=>S c∨(H.next≤c∧c<h6.next),fun c q=>by rcases q with q|q; exact .inl q; exact .inr q.1,?_⟩
   ·have q1:c≠h0.next:=fun e=>q (e ▸ i.sb)
    have q2:c≠h0.next+2:=fun e=>q (e ▸ i.sl)
    exact(a0a.gn _ _ _ _ q2).trans ((a0a.gn _ _ _ _ q1).trans (o6 c hc q2 (.inl q)))
   ·refine⟨a0w (a0w (t6.ok kY) _ _ (by omega)) _ _ (by show _<h6.next; omega),fun c q=>by show c<h6.next; rcases q with q|q; (have:=low c q; omega); exact q.2,rfl,.inl i.sb,.inl i.sl,.inl i.sd,by omega,by omega,by omega,a0a.gs _ _ _,?_,v6,(a0a.gn _ _ _ _ (by omega)).trans (a0a.gs _ _ _),?_⟩
    ·exact(a0a.gn _ _ _ _ (by omega)).trans ((a0a.gn _ _ _ _ (by omega)).trans ((o6 _ ld (by omega) (.inr (.inr rfl))).trans gd))
    ·refine x6.keep (fun c q hc=>?_) (Nat.le_refl _)
     have q1:(S c∨H.next≤c∧c<h6.next)∧c≠h0.next∧c≠h0.next+2∧c≠h0.next+1:=by
      rcases q with q|q
      ·exact⟨.inl q.1,q.2⟩
      ·exact⟨.inr ⟨by omega,hc⟩,by omega,by omega,by omega⟩
     exact⟨(a0a.gn _ _ _ _ q1.2.2.1).trans (a0a.gn _ _ _ _ q1.2.1),q1⟩
 ·rintro h4 ⟨acc,u,fn,tm,nt,ps,as',bd,dd,x4,k4,n4,gu,gd,gl,ex,pm⟩
  refine⟨_,none,fn,tm,nt,ps,as',bd,dd,by exact gl,(by intro c; cases c),?_⟩
  show GJ _ _ _ _ _ _ _ _
  obtain⟨vu,wu⟩:=ex.one
  refine walk ?_
  refine a2x fun tm2 hs=>?_
  refine a3k (by exact a0g) (a1z (vs:=[u]) hs rfl rfl ⟨_,_,rfl,acc,?_,?_,pm⟩)
  ·exact Ext.st (Ext.st x4 _ _ (by show h0.next≤h0.next+1+1; omega) (by show h0.next+1+1<h4.next; omega)) _ _ (by show h0.next≤h0.next+1; omega) (by show h0.next+1<h4.next; omega)
  ·refine ex.keep (fun c q hc=>⟨?_,by omega⟩) (Nat.le_refl _)
   exact(a0a.gn _ _ _ _ (by show c≠h0.next+1; omega)).trans (a0a.gn _ _ _ _ (by show c≠h0.next+1+1; omega))
set_option maxRecDepth 10000
set_option maxHeartbeats 4000000
theorem e6t {n b M:Nat}{pg:List Nat}{h0:a0a}(hk:h0.ok) (s:a7v h0 M pg) (gb:h0.get b=some (.cells 150 [.map M] true)) (lb:b<h0.next) (hl:pg.length≤400000) :
  a0l (TA n) 145 [.func (.func 147) [] [.ptr b 0]] h0 (fun v h'=>∃ acc,Ext h0 h'∧a8r (h0.next ≤ ·) h' v acc∧acc.Perm pg):=by
 refine a0r (a6m rfl rfl) rfl rfl ?_
 refine walk ?_
 refine a0b (d9h hk s gb lb hl) rfl rfl rfl rfl ?_
 intro v h1 p
 refine walk ?_
 exact a0e (by exact hres) p
def f5o (lo:Nat) (h:a0a) (v:AV) (out:List Nat):Prop:=(v=.nilslice∧out=[])∨∃ B,lo≤B∧v=.oslice B 0 out.length 1∧h.get B=some (.cells 29 (out.flatMap a3a) true)∧out≠[]
theorem e8i {n b M:Nat}(hn:2<n){pg:List Nat}{h0:a0a}(hk:h0.ok) (s:a7v h0 M pg) (gb:h0.get b=some (.cells 150 [.map M] true)) (lb:b<h0.next) (hl:pg.length<50) :
  a0l (TA n) 113 [.func (.func 147) [] [.ptr b 0]] h0 (fun v h'=>∃ out,Ext h0 h'∧f5o h0.next h' v out∧b9g pg out):=by
 refine a0r (a6m rfl rfl) rfl rfl ?_
 refine walk ?_
 refine a0b (e6t (n:=n) hk s gb lb (by omega)) rfl rfl rfl rfl ?_
 rintro v h1 ⟨acc,x1,ex,pm⟩
 have k1:=x1.ok hk
 have la:acc.length<50:=by rw[pm.length_eq]; exact hl
 rcases ex with ⟨rfl,rfl⟩|⟨B,sB,lB,rfl,gB,nE⟩
 ·refine walk ?_
  refine a0b (f2c (n:=n) hn (v:=.nilslice) rfl rfl) rfl rfl rfl rfl ?_
  rintro _ _ ⟨rfl,rfl⟩
  refine walk ?_
  exact a0e (by exact hres) ⟨[],x1,.inl ⟨rfl,rfl⟩,pm,.nil⟩
 ·refine walk ?_
  refine a0b (f2i (n:=n) hn (d:=acc.toArray) (tl:=[]) (B:=B) ⟨lB,by unfold cel; rw[List.toList_toArray,List.append_nil]; exact gB,.inr rfl⟩ k1 (by simpa using la)) rfl rfl rfl rfl ?_
  rintro _ h2 ⟨rfl,d',pmd,so,D',O'⟩
  have is:=d9b pmd so
  refine walk ?_
  have sz:d'.toList.length=acc.length:=is.1.length_eq
  refine a0e (by exact hres) ⟨d'.toList,⟨by have:=x1.nx; have:=O'.nx; omega,fun c hc=>(O'.old c (by have:=x1.nx; omega) (by omega)).trans (x1.old c hc),fun _=>O'.ok k1⟩,?_,is.1.trans pm,is.2⟩
  by_cases c:d'.toList=[]
  ·have:acc=[]:=List.length_eq_zero_iff.1 (by rw[← sz,c]; rfl)
   exact absurd this nE
  ·refine .inr ⟨B,sB,by rw[sz],?_,c⟩
   have g:=D'.get
   unfold cel at g
   rw[List.append_nil] at g
   exact g
def c6l (pg:List Nat):List Nat:=pg.mergeSort (fun a b=>decide (a≤b))
theorem c1s (pg:List Nat):b9g pg (c6l pg):=by
 refine⟨List.mergeSort_perm _ _,?_⟩
 have:=List.pairwise_mergeSort (le:=fun a b:Nat=>decide (a≤b)) (fun a b c h1 h2=>by simp at h1 h2 ⊢; omega) (fun a b=>by simp; omega) pg
 exact this.imp fun h=>by simpa using h
theorem e4n {pg out:List Nat}(s:b9g pg out):out=c6l pg:=(s.1.trans (c1s pg).1.symm).eq_of_pairwise (le:=(· ≤ ·)) (fun a b _ _ h1 h2=>Nat.le_antisymm h1 h2) s.2 (c1s pg).2
def nfK (pg:List Nat):NF:=match c6l pg with
 |[]=>.nil
 |q::l=>.row (q::l).length 1 29 ((q::l).flatMap a3a)
theorem c5m:∀ (pg:List Nat) (n:Nat),b0o (a4h k32 (stN pg n))=true
 |[],n=>rfl
 |q::pg,n=>by
  rw[b7w]
  show b0o ((k32 q,.agg [],n)::a4h k32 (stN pg (n+1)))=true
  unfold b0o
  rw[c5m pg (n+1)]
  rfl
theorem c6b:∀ (es:List (AV×AV×Nat)),c9y es es=true
 |[]=>rfl
 |(k,v,n)::l=>by simp[c9y,b4x,c6b l]
theorem c2h:∀ (l:List Nat),AV.a1q (l.flatMap a3a)=true
 |[]=>rfl
 |q::l=>by
  rw[List.flatMap_cons]
  show AV.a1q (.int .u32 q::l.flatMap a3a)=true
  simp[AV.a1q,AV.plain,c2h l]
theorem e7c {nx b m:Nat}{o1 o2:a1t}(hb:b<nx) (hm:m<nx) (hbm:b≠m):(c0t nx b m o1 o2).ok:=fun c hc=>by
 have hc:nx≤c:=hc
 cases g:(c0t nx b m o1 o2).get c with
 |none=>rfl
 |some o=>rcases c1g hbm g with ⟨r,_⟩|⟨r,_⟩<;>omega
theorem e3j {n b M:Nat}{pg:List Nat}{h:a0a}(s:a7v h M pg) (gb:h.get b=some (.cells 150 [.map M] true)) (lb:b<h.next) (hbm:b≠M) (hl:pg.length<50) :
  (TV n).sm 113 [.func (.func 147) [] [.ptr b 0]] h=some (c5y (nfK pg) h):=by
 refine b_w rfl ?_
 show c5d (TA 60) 113 [.func (.func 147) [] [.ptr b 0]] h=_
 refine e0x gb s.2 (c5m _ _) hbm ?_ ?_
 ·unfold nfK
  split<;>simp[c9l,a7y]
 ·have g1:(c0t h.next b M (.cells 150 [.map M] true) (.map (a4h k32 (stN pg 0)) pg.length)).get b=some (.cells 150 [.map M] true):=by
   show(Tr.set (Tr.set .nil b _) M _).get b=_
   rw[Tr.a1d,if_neg hbm,Tr.a1d,if_pos rfl]
  have g2:(c0t h.next b M (.cells 150 [.map M] true) (.map (a4h k32 (stN pg 0)) pg.length)).get M=some (.map (a4h k32 (stN pg 0)) pg.length):=by
   show(Tr.set (Tr.set .nil b _) M _).get M=_
   rw[Tr.a1d,if_pos rfl]
  refine Wp.mono (e8i (n:=60) (by decide) (pg:=pg) (M:=M) (e7c lb s.1 hbm) ⟨s.1,g2⟩ g1 lb hl) ?_
  rintro _ ⟨v,h',rfl,out,x,r,is⟩
  refine⟨v,h',rfl,?_⟩
  have k1:=(x.old b lb).trans g1
  have k2:=(x.old M s.1).trans g2
  have kp:c5n b M 150 (a4h k32 (stN pg 0)) pg.length h'=true:=by
   unfold c5n
   rw[k1,k2]
   simp[c6b]
  have eo:=e4n is
  unfold nf1
  rw[kp]
  rcases r with ⟨rfl,rfl⟩|⟨B,lB,rfl,gB,ne⟩
  ·unfold nfK
   rw[← eo]
  ·have lB:h.next≤B:=lB
   have e1:(Nat.ble h.next B&&AV.a1q (out.flatMap a3a))=true:=by rw[c2h,Bool.and_true,Nat.ble_eq]; exact lB
   simp only[gB,e1]
   unfold nfK
   rw[← eo]
   cases out with
   |nil=>exact absurd rfl ne
   |cons q l=>rfl
theorem e5j {pg:List Nat}{h:a0a}:a1a a3a 29 1 (h.next ≤ ·) (c5y (nfK pg) h).2 (c5y (nfK pg) h).1 (c6l pg)∧Ext h (c5y (nfK pg) h).2:=by
 unfold nfK
 split
 ·rename_i e
  rw[e]
  exact⟨.nil,.refl _⟩
 ·rename_i q l e
  rw[e]
  refine⟨.os (B:=h.next) (cap:=(q::l).length) (Nat.le_refl _) (Nat.lt_succ_self _) (a0t _ _) (Nat.le_refl _) (a7l a2k _) ?_,.alloc _ _⟩
  exact List.take_of_length_le (by rw[a7l a2k]; exact Nat.le_refl _)
theorem e6w {n M:Nat}{h:a0a}:a0l (TV n) 114 [.map M] h (fun v h'=>v=.func (.func 147) [] [.ptr h.next 0]∧h'=h.alloc (.cells 150 [.map M] true)):=by
 refine a0r (a1x rfl rfl) rfl rfl ?_
 refine walk ?_
 exact a0e (by exact hres) ⟨rfl,rfl⟩
end Go.Proofs.YtejfbaecadbdiaaGreat
