/- What the functions of this part answer at any input, told by the rules over the evaluator. Conditions: those that each theorem states. -/
import Derived.Test.YtmnhbehmjaibgaaGreatDsm
set_option linter.unusedVariables false
set_option linter.unusedSimpArgs false
open Go Ev
namespace Go.Proofs.YtmnhbehmjaibgaaGreat
set_option maxRecDepth 10000
set_option maxHeartbeats 4000000
theorem deach_law {n:Nat}(hn:9<n){v:AV}{bs:Dn}{nm key:List UInt8}{h:Heap}(hk:h.ok) (dl:DenL h v bs) (fl:bs.length<9223372036854775808) (fb:∀ b∈bs,b.1.length<9223372036854775808∧b.2.length<9223372036854775808∧∀ p∈b.2,p.key.length<9223372036854775808∧p.val.length<9223372036854775808) (hnm:nm.length<9223372036854775808) (hkey:key.length<9223372036854775808):Gives (TV n) 6 [.agg [v],.str nm,.str key] h (fun r h'=>r=.bool true∧Ext h h'):=by
 refine call_jl (no_w rfl rfl) rfl rfl ?_
 have w1:∀ h,(TV n).sm 7 [] h=some (.bool true,h):=fun h=>b_w rfl rfl
 have vo:v.cells=[v]∧v.one=true:=by
  obtain⟨l,a,_⟩:=dl
  exact⟨Sl.cells a,Sl.one a⟩
 obtain⟨vc,vo⟩:=vo
 have dl0:=dl
 obtain⟨ol,d1,d2,d3⟩:=dl0
 have e1:=d1.len
 have n1':=d1.ns
 rw[d2] at e1
 obtain⟨X,hX⟩:∃ X,X=(((h.alloc (.cells 27 [v] true)).alloc (.cells 9 [.str nm] true)).alloc (.cells 9 [.str key] true)).alloc (.cells 4 [.bool false] true):=⟨_,rfl⟩
 have xX:Ext h X:=by rw[hX]; exact hext
 have wl:=lightDen_w (n:=n) (by omega) (xX.ok hk) (dl.ext xX) fl fb
 rw[hX] at wl
 cases c1:lightD bs
 case false =>
  rw[c1] at wl
  refine walk ?_
  refine jo_w wl rfl rfl rfl rfl ?_
  refine walk ?_
  refine jg_fin fun tm hs=>?_
  exact leave_ret (vs:=[.bool true]) hs rfl (results_cell rfl (cell_one rfl rfl (by exact hget)) rfl) ⟨_,_,rfl,rfl,by exact hext⟩
 have lt:=lightD_ok c1
 rw[c1] at wl
 by_cases c2:(nm.length:Int)>100
 ·refine walk ?_
  refine jo_w wl rfl rfl rfl rfl ?_
  refine walk ?_
  refine jg_fin fun tm hs=>?_
  exact leave_ret (vs:=[.bool true]) hs rfl (results_cell rfl (cell_one rfl rfl (by exact hget)) rfl) ⟨_,_,rfl,rfl,by exact hext⟩
 by_cases c3:(key.length:Int)>100
 ·refine walk ?_
  refine jo_w wl rfl rfl rfl rfl ?_
  refine walk ?_
  refine jg_fin fun tm hs=>?_
  exact leave_ret (vs:=[.bool true]) hs rfl (results_cell rfl (cell_one rfl rfl (by exact hget)) rfl) ⟨_,_,rfl,rfl,by exact hext⟩
 have lb:bs.length≤10:=lt.len
 have lp:∀ b∈bs,b.2.length≤80:=fun b hb=>(lt.nm b hb).2.1
 have la:(allD bs).length≤80:=by rw[allD_len]; exact lt.all
 refine walk ?_
 refine jo_w wl rfl rfl rfl rfl ?_
 refine OJ.gen [(3,.ptr h.next 0),(4,.ptr (h.next+1) 0),(5,.ptr (h.next+2) 0),(6,.ptr (h.next+3) 0),(24,.bool true)] (fun g=>Ext h g∧g.next=h.next+4∧g.get h.next=some (.cells 27 [v] true)∧g.get (h.next+1)=some (.cells 9 [.str nm] true)∧g.get (h.next+2)=some (.cells 9 [.str key] true)∧g.get (h.next+3)=some (.cells 4 [.bool false] true)) (by exact hsub) ⟨by exact hext,rfl,by exact hget,by exact hget,by exact hget,by exact hget⟩ ?_
 clear wl hX xX X
 rintro X ⟨xX,nX,b0,b1,b2,b3⟩
 have kX:=xX.ok hk
 have e5:h.next+5=X.next+1:=by omega
 have e6:h.next+6=X.next+2:=by omega
 have e7:h.next+7=X.next+3:=by omega
 refine walk ?_
 refine OJ.gen [(3,.ptr h.next 0),(4,.ptr (h.next+1) 0),(5,.ptr (h.next+2) 0),(6,.ptr (h.next+3) 0),(7,.ptr (h.next+4) 0),(8,.ptr (h.next+5) 0),(9,.ptr (h.next+6) 0),(10,.ptr (h.next+7) 0),(36,.agg [v])] (fun g=>Ext h g∧g.next=h.next+8∧g.get h.next=some (.cells 27 [v] true)∧g.get (h.next+1)=some (.cells 9 [.str nm] true)∧g.get (h.next+2)=some (.cells 9 [.str key] true)∧g.get (h.next+3)=some (.cells 4 [.bool false] true)∧g.get (h.next+4)=some (.cells 3 [.int .i64 0] true)∧g.get (h.next+5)=some (.cells 3 [.int .i64 0] true)∧g.get (h.next+6)=some (.cells 9 [.str []] true)∧g.get (h.next+7)=some (.cells 4 [.bool false] true)) (by rw[e5,e6,e7,← nX]; exact hsub) ⟨by exact hext,by rw[show h.next+8=X.next+4 by omega]; rfl,by exact hget,by exact hget,by exact hget,by exact hget,by rw[← nX]; exact hget,by rw[e5]; exact hget,by rw[e6]; exact hget,by rw[e7]; exact hget⟩ ?_
 rintro A ⟨xA,nA,f0,f1,f2,f3,f4,f5,f6,f7⟩
 have kA:=xA.ok hk
 refine jo_call (ownDen_g (n:=n) kA (dl.ext xA) (by omega) (fun b hb=>by have:=lp b hb; omega)) rfl rfl rfl rfl ?_
 rintro _ h1 ⟨dv,Sd,Sp,nl,rfl,x1,o⟩
 have n1:=x1.nx
 have k1:=x1.ok kA
 rw[nA] at o
 refine walk ?_
 refine jo_call (each_fn (dv:=dv)) rfl rfl rfl rfl ?_
 rintro _ _ ⟨rfl,rfl⟩
 refine walk ?_
 have old1:∀ c,c<A.next→h1.get c=A.get c:=fun c hc=>x1.old c hc
 refine GJ.gen [(3,.ptr h.next 0),(4,.ptr (h.next+1) 0),(5,.ptr (h.next+2) 0),(6,.ptr (h.next+3) 0),(7,.ptr (h.next+4) 0),(8,.ptr (h.next+5) 0),(9,.ptr (h.next+6) 0),(10,.ptr (h.next+7) 0),(41,.func (.func 39) [] [.ptr h1.next 0])] (fun g=>Ext h1 g∧g.ok∧g.next=h1.next+1∧g.get h1.next=some (.cells 27 [dv] true)) (by exact hsub) ⟨.alloc _ _,ok_al k1 _,rfl,get_new _ _⟩ ?_
 rintro h2 ⟨x2,k2,n2,gE⟩
 have o2:∀ c,c<A.next→h2.get c=A.get c:=fun c hc=>(x2.old c (by omega)).trans (old1 c hc)
 refine jg_range2 (P:=fun h4=>∃ S fn tm nt ps as' bd dd,h4.ok∧h1.next+3≤h4.next∧EchI bs nm key h.next h1.next h1 (.loop .ready none fn tm nt ps as' bd dd) S (allD bs) true h4) rfl rfl rfl rfl ?_ ?_
 ·intro tm hs
  have hs2:Sees tm [(3,.ptr h.next 0),(4,.ptr (h.next+1) 0),(5,.ptr (h.next+2) 0),(6,.ptr (h.next+3) 0),(7,.ptr (h.next+4) 0),(8,.ptr (h.next+5) 0),(9,.ptr (h.next+6) 0),(10,.ptr (h.next+7) 0)]:=hs.sub hsub
  refine Gives.mono (ech_loop (D:=h.next) (nm:=nm) (key:=key) o (by omega) x2 k2 n2 gE ((o2 _ (by omega)).trans f4) ((o2 _ (by omega)).trans f5) ((o2 _ (by omega)).trans f6) ((o2 _ (by omega)).trans f7) (by omega) (by omega) (fun b hb=>by have:=lp b hb; omega) rfl ?_) ?_
  rotate_left
  ·rintro _ h4 ⟨S,k4,n4,i⟩
   exact⟨S,_,_,_,_,_,_,_,k4,n4,i⟩
  ·intro S acc x H la hx i
   have low:=i.low
   have gl:=i.gl
   have gd:=i.gd
   have kH:=i.k
   have lH:=low _ (i.s0 (h1.next+2) (by omega) (by omega))
   obtain⟨pi,pk,ps,g4,g5,g6,g7⟩:=i.st
   have oH:∀ c,c<h.next+4→H.get c=A.get c:=fun c hc=>(i.old c (by omega) (.inl hc)).trans (old1 c (by omega))
   have g0:=(oH h.next (by omega)).trans f0
   have g1:=(oH (h.next+1) (by omega)).trans f1
   have g2:=(oH (h.next+2) (by omega)).trans f2
   have g3:=(oH (h.next+3) (by omega)).trans f3
   obtain⟨xn,xp⟩:=x
   refine round_of2 ((hs2.set 42 _).set 43 _) ?_
   refine walk ?_
   refine jg_nil fun tm1 hs1=>⟨tm1,_,_,none,_,_,_,_,_,_,_,rfl,hs1,by exact hget,?_⟩
   refine GJ.gen [(3,.ptr h.next 0),(4,.ptr (h.next+1) 0),(5,.ptr (h.next+2) 0),(6,.ptr (h.next+3) 0),(7,.ptr (h.next+4) 0),(8,.ptr (h.next+5) 0),(9,.ptr (h.next+6) 0),(10,.ptr (h.next+7) 0),(12,.str xn),(13,.ptr H.next 0)] (fun g=>g.next=H.next+1∧g.ok∧(∀ c,c<H.next→c≠h1.next+2→g.get c=H.get c)∧g.get H.next=some (.cells 37 [.str xp.key,.str xp.val] true)∧g.get (h1.next+2)=some (.loop .busy none _ _ _ _ _ _ _)) (by exact hsub) ⟨rfl,by exact hok,fun c hc r=>by have gc:H.get c=H.get c:=rfl; exact hget,by exact hget,Heap.gs _ _ _⟩ ?_
   rintro Y ⟨nY,kY,oY,gY,gL⟩
   have tY:∀ c,c<h.next+8→Y.get c=H.get c:=fun c hc=>oY c (by omega) (by omega)
   have y0:=(tY _ (by omega)).trans g0
   have y1:=(tY _ (by omega)).trans g1
   have y2:=(tY _ (by omega)).trans g2
   have y3:=(tY _ (by omega)).trans g3
   have y6:=(tY _ (by omega)).trans g6
   have y7:=(tY _ (by omega)).trans g7
   refine walk ?_
   refine jg_loop (ι:=Nat×Nat) (fun a=>bs.length-a.1) (fun a=>[(3,.ptr h.next 0),(4,.ptr (h.next+1) 0),(5,.ptr (h.next+2) 0),(6,.ptr (h.next+3) 0),(7,.ptr (h.next+4) 0),(8,.ptr (h.next+5) 0),(9,.ptr (h.next+6) 0),(10,.ptr (h.next+7) 0),(12,.str xn),(13,.ptr H.next 0)]) (fun a g=>Y.next≤g.next∧g.ok∧(∀ c,c<Y.next→c≠h.next+4→c≠h.next+5→g.get c=Y.get c)∧g.get (h.next+4)=some (.cells 3 [.int .i64 (a.1:Nat)] true)∧g.get (h.next+5)=some (.cells 3 [.int .i64 (a.2:Nat)] true)∧Pos bs a.1 a.2 acc) (pi,pk) (by exact hsub) ⟨Nat.le_refl _,kY,fun c _ _ _=>rfl,(tY _ (by omega)).trans g4,(tY _ (by omega)).trans g5,ps⟩ ?_
   clear ps g4 g5 pi pk
   rintro⟨pi,pk⟩ Z ⟨nZ,kZ,oZ,z4,z5,ps⟩ next
   dsimp only at z4 z5 ps next ⊢
   have pm:=ps.more hx
   have xZ:Ext h Z:=⟨by omega,fun c hc=>(oZ c (by omega) (by omega) (by omega)).trans ((tY c (by omega)).trans ((oH c (by omega)).trans (xA.old c hc))),fun _=>kZ⟩
   have z0:=(oZ _ (by omega) (by omega) (by omega)).trans y0
   obtain⟨y,hy⟩:∃ y,ol[pi]?=some y:=⟨_,List.getElem?_eq_getElem (by omega)⟩
   obtain⟨bk,hb0⟩:∃ b,bs[pi]?=some b:=⟨_,List.getElem?_eq_getElem pm⟩
   obtain⟨q1,q2⟩:=d3 pi y bk hy hb0
   obtain⟨B,p,e,all,rw',hbB,hg,hpl,he,a1⟩:=(d1.ext xZ).at Nm.len hy
   have he:(all.drop p).take 2=[.str y.1,y.2]:=he
   have lw2:=q2.len
   have nw2:=q2.ns
   have z6:=(oZ (h.next+6) (by omega) (by omega) (by omega)).trans y6
   have z7:=(oZ (h.next+7) (by omega) (by omega) (by omega)).trans y7
   have z1:=(oZ (h.next+1) (by omega) (by omega) (by omega)).trans y1
   have z2:=(oZ (h.next+2) (by omega) (by omega) (by omega)).trans y2
   have zP:=(oZ H.next (by omega) (by omega) (by omega)).trans gY
   have lZ:h.next+8≤Z.next:=by omega
   have pl:=ps.le hb0
   have lbk:=lp bk (List.mem_of_getElem? hb0)
   by_cases ck:bk.2.length≤pk
   ·have ck':(bk.2.length:Int)≤(pk:Int):=by omega
    refine walk ?_
    refine jg_drawn (q:=16) (ms:=[0,0,2,6,15,31,63,63,191,63,959,1983,4031,8127,16383,32767]) (hl:=[[45,46,47],[44],[44],[44],[],[],[51,52,53,54,55,56,57],[50,53],[50,53],[50,51,52],[50],[50],[50],[50],[],[]]) kZ rfl (by kernel_rfl) (by kernel_rfl) rfl ?_
    refine walk ?_
    refine next (pi+1,0) (by simp only; omega) (by exact hsub) ⟨by exact hle,by exact hok,fun c hc r s=>by have gc:Z.get c=Z.get c:=rfl; exact Eq.trans (b:=Z.get c) hget (oZ c hc r s),by exact hget,by exact hget,ps.skip hb0 ck⟩
   ·have ck':¬ (bk.2.length:Int)≤(pk:Int):=by omega
    obtain⟨u,hu,eu⟩:=ps.at_ hb0 (by omega) hx
    cases eu
    refine walk ?_
    refine jg_drawn (q:=16) (ms:=[0,0,2,6,15,31,63,63,191,63,959,1983,4031,8127,16383,32767]) (hl:=[[45,46,47],[44],[44],[44],[],[],[51,52,53,54,55,56,57],[50,53],[50,53],[50,51,52],[50],[50],[50],[50],[],[]]) kZ rfl (by kernel_rfl) (by kernel_rfl) rfl ?_
    refine walk ?_
    refine GJ.gen [(3,.ptr h.next 0),(4,.ptr (h.next+1) 0),(5,.ptr (h.next+2) 0),(6,.ptr (h.next+3) 0),(7,.ptr (h.next+4) 0),(8,.ptr (h.next+5) 0),(9,.ptr (h.next+6) 0),(10,.ptr (h.next+7) 0),(12,.str bk.1),(13,.ptr H.next 0)] (fun g=>Ext Z g) (by exact hsub) (Ext.more (Ext.refl _) kZ 16) ?_
    clear a1 hbB hg hpl he next
    rintro G xG
    have kG:=xG.ok kZ
    have nG:=xG.nx
    have xhG:=xZ.trans xG
    obtain⟨B,p,e,all,rw',hbB,hg,hpl,he,a1⟩:=(d1.ext xhG).at Nm.len hy
    have he:(all.drop p).take 2=[.str y.1,y.2]:=he
    rw[q1] at he
    obtain⟨B2,p2,e2',all2,rw2,hb2,hg2,hpl2,he2,a2⟩:=(q2.ext xhG).at Pr.csl hu
    have he2:(all2.drop p2).take 2=[.str xp.key,.str xp.val]:=he2
    have v0:=(xG.old _ (by omega)).trans z0
    have v1:=(xG.old _ (by omega)).trans z1
    have v2:=(xG.old _ (by omega)).trans z2
    have v4:=(xG.old _ (by omega)).trans z4
    have v5:=(xG.old _ (by omega)).trans z5
    have v6:=(xG.old _ (by omega)).trans z6
    have v7:=(xG.old _ (by omega)).trans z7
    have vP:=(xG.old _ (by omega)).trans zP
    have cn:bk.1=bk.1:=rfl
    refine walk ?_
    refine jg_drawn (q:=28) (ms:=[0,0,2,6,15,31,63,63,191,63,959,1983,4031,8191,16383,32767,65535,65535,196607,65535,983039,2031615,4128767,65535,16711679,33488895,67108863,134217727]) (hl:=[[63,64,65],[62],[62],[62],[],[],[69,70,71,72,73,74],[68,71],[68,71],[68,69,70],[68],[68],[68],[],[],[],[79,80,81,82,83,84,85,86,87],[78,81,85],[78,81,85],[78,79,80,85],[78,85],[78,85],[78,85],[78,79,80,81,82,83,84],[78],[78],[],[]]) kG rfl (by kernel_rfl) (by kernel_rfl) rfl ?_
    refine walk ?_
    refine jd_val rfl rfl rfl rfl (k_bin rfl rfl rfl (bin_ne (pr_eqv xp xp) rfl) rfl) ?_
    rw[show decide (¬ xp=xp)=false from decide_eq_false (fun c=>c rfl)]
    refine walk ?_
    clear cn
    have hs1':=@hitL_snoc nm key acc (bk.1,xp)
    refine oj_cut1 (ι:=Unit) (fun _=>[(8,.ptr (h.next+5) 0)]) (fun _ g=>G.next≤g.next∧g.ok∧(∀ c,c<G.next→c≠h.next+6→c≠h.next+7→g.get c=G.get c)∧g.get (h.next+6)=some (.cells 9 [.str ((hitL nm key (acc++[(bk.1,xp)])).getD [])] true)∧g.get (h.next+7)=some (.cells 4 [.bool (hitL nm key (acc++[(bk.1,xp)])).isSome] true)) ?_ ?_
    ·intro k' join
     cases ehl:hitL nm key acc with
     |some s =>
      rw[ehl] at hs1' v6 v7
      have hs1':hitL nm key (acc++[(bk.1,xp)])=some s:=hs1'
      rw[hs1'] at join
      refine walk ?_
      exact join () (by exact hsub) ⟨by exact hle,by exact hok,fun c hc _ _=>by have gc:G.get c=G.get c:=rfl; exact hget,by exact hget,by exact hget⟩
     |none =>
      rw[ehl] at hs1' v6 v7
      by_cases cm:bk.1=nm
      ·by_cases cq:xp.key=key
       ·have hs1':hitL nm key (acc++[(bk.1,xp)])=some xp.val:=by rw[hs1']; simp[hitD,cm,cq]
        rw[hs1'] at join
        refine walk ?_
        refine jg_drawn (q:=4) (ms:=[0,1,0,7]) (hl:=[[],[],[103,104],[]]) hok rfl (by kernel_rfl) (by kernel_rfl) rfl ?_
        refine walk ?_
        exact join () (by exact hsub) ⟨by exact hle,by exact hok,fun c hc _ _=>by have gc:G.get c=G.get c:=rfl; exact hget,by exact hget,by exact hget⟩
       ·have hs1':hitL nm key (acc++[(bk.1,xp)])=none:=by rw[hs1']; simp[hitD,cq]
        rw[hs1'] at join
        refine walk ?_
        exact join () (by exact hsub) ⟨by exact hle,by exact hok,fun c hc _ _=>by have gc:G.get c=G.get c:=rfl; exact hget,by exact hget,by exact hget⟩
      ·have hs1':hitL nm key (acc++[(bk.1,xp)])=none:=by rw[hs1']; simp[hitD,cm]
       rw[hs1'] at join
       refine walk ?_
       exact join () (by exact hsub) ⟨by exact hle,by exact hok,fun c hc _ _=>by have gc:G.get c=G.get c:=rfl; exact hget,by exact hget,by exact hget⟩
    rintro⟨⟩ W ⟨nW,kW,oW,u6,u7⟩
    have u5:=(oW (h.next+5) (by omega) (by omega) (by omega)).trans v5
    have u4:=(oW (h.next+4) (by omega) (by omega) (by omega)).trans v4
    refine walk ?_
    have uL:=(oW (h1.next+2) (by omega) (by omega) (by omega)).trans ((xG.old _ (by omega)).trans ((oZ (h1.next+2) (by omega) (by omega) (by omega)).trans gL))
    have fin:∀ c,c<H.next→c≠h.next+4→c≠h.next+6→c≠h.next+7→c≠h1.next+2→W.get c=H.get c∨c=h.next+5:=fun c hc r4 r6 r7 rL=>by
     by_cases r5:c=h.next+5
     ·exact .inr r5
     ·exact .inl ((oW c (by omega) r6 r7).trans ((xG.old _ (by omega)).trans ((oZ c (by omega) r4 r5).trans (oY c hc rL))))
    have fin2:∀ (X O:AObj) c,c<H.next→c≠h.next+4→c≠h.next+5→c≠h.next+6→c≠h.next+7→c≠h1.next+2→((W.set (h.next+5) X).set (h1.next+2) O).get c=H.get c:=fun X O c hc r4 r5 r6 r7 rL=>(Heap.gn _ _ _ _ rL).trans ((Heap.gn _ _ _ _ r5).trans ((fin c hc r4 r6 r7 rL).resolve_right r5))
    have ins:∀ c,¬ S c→c<H.next→c≠h.next+4∧c≠h.next+5∧c≠h.next+6∧c≠h.next+7∧c≠h1.next+2:=fun c q _=>by
     refine⟨?_,?_,?_,?_,?_⟩<;>intro e<;>exact q (e ▸ i.s0 _ (by omega) (by omega))
    refine jg_nil fun tm3 hs3=>⟨.normal,_,_,_,_,_,_,_,_,_,_,_,rfl,(Heap.gn _ _ _ _ (by omega)).trans uL,true,rfl,?_⟩
    refine⟨⟨by show H.next≤W.next; omega,fun c hc q=>?_,fun _=>ok_st (ok_st kW _ _ (by omega)) _ _ (by show h1.next+2<W.next; omega)⟩,S,fun c q=>.inl q,?_⟩
    ·obtain⟨r4,r5,r6,r7,rL⟩:=ins c q hc
     exact fin2 _ _ c hc r4 r5 r6 r7 rL
    ·refine⟨ok_st (ok_st kW _ _ (by omega)) _ _ (by show h1.next+2<W.next; omega),fun c q=>Nat.lt_of_lt_of_le (low c q) (by show H.next≤W.next; omega),i.s0,rfl,fun c hc r=>(fin2 _ _ c (by omega) (by omega) (by omega) (by omega) (by omega) (by omega)).trans (i.old c hc r),(fin2 _ _ _ (by omega) (by omega) (by omega) (by omega) (by omega) (by omega)).trans gd,Heap.gs _ _ _,pi,pk+1,ps.next hb0 hu,?_,?_,?_,?_⟩
     ·exact(Heap.gn _ _ _ _ (by omega)).trans ((Heap.gn _ _ _ _ (by omega)).trans u4)
     ·rw[show((pk+1:Nat):Int)=(pk:Int)+1 by omega]
      exact(Heap.gn _ _ _ _ (by omega)).trans (Heap.gs _ _ _)
     ·exact(Heap.gn _ _ _ _ (by omega)).trans ((Heap.gn _ _ _ _ (by omega)).trans u6)
     ·exact(Heap.gn _ _ _ _ (by omega)).trans ((Heap.gn _ _ _ _ (by omega)).trans u7)
 ·rintro h4 ⟨S,fn,tm,nt,pp,as',bd,dd,k4,n4,i⟩
  have gd:=i.gd
  have gl:=i.gl
  refine⟨_,none,fn,tm,nt,pp,as',bd,dd,by rw[n2]; exact gl,(by intro c; cases c),?_⟩
  rw[n2]
  show GJ _ _ _ _ _ _ _ _
  obtain⟨pi,pk,ps,g4,g5,g6,g7⟩:=i.st
  have q0:∀ O c,c≠h1.next+2→(h4.set (h1.next+1+1) O).get c=h4.get c:=fun O c r=>Heap.gn _ _ _ _ r
  refine GJ.gen [(3,.ptr h.next 0),(4,.ptr (h.next+1) 0),(5,.ptr (h.next+2) 0),(6,.ptr (h.next+3) 0),(7,.ptr (h.next+4) 0),(8,.ptr (h.next+5) 0),(9,.ptr (h.next+6) 0),(10,.ptr (h.next+7) 0)] (fun g=>h1.next+3≤g.next∧g.ok∧(∀ c,c<h.next+4→g.get c=A.get c)∧g.get (h1.next+1)=some (.dfr (some []))∧g.get (h.next+4)=some (.cells 3 [.int .i64 (pi:Nat)] true)∧g.get (h.next+5)=some (.cells 3 [.int .i64 (pk:Nat)] true)∧g.get (h.next+6)=some (.cells 9 [.str ((hitL nm key (allD bs)).getD [])] true)∧g.get (h.next+7)=some (.cells 4 [.bool (hitL nm key (allD bs)).isSome] true)) (by exact hsub) ⟨n4,ok_st k4 _ _ (by omega),fun c hc=>(q0 _ c (by omega)).trans ((i.old c (by omega) (.inl hc)).trans (old1 c (by omega))),(q0 _ _ (by omega)).trans gd,(q0 _ _ (by omega)).trans g4,(q0 _ _ (by omega)).trans g5,(q0 _ _ (by omega)).trans g6,(q0 _ _ (by omega)).trans g7⟩ ?_
  clear g4 g5 g6 g7 gd gl q0 i
  rintro Y ⟨nY,kY,oY,gd,g4,g5,g6,g7⟩
  have g0:=(oY _ (by omega)).trans f0
  have g1:=(oY _ (by omega)).trans f1
  have g2:=(oY _ (by omega)).trans f2
  have g3:=(oY _ (by omega)).trans f3
  refine walk ?_
  refine jg_loop (ι:=Nat×Nat) (fun a=>bs.length-a.1) (fun a=>[(3,.ptr h.next 0),(4,.ptr (h.next+1) 0),(5,.ptr (h.next+2) 0),(6,.ptr (h.next+3) 0),(7,.ptr (h.next+4) 0),(8,.ptr (h.next+5) 0),(9,.ptr (h.next+6) 0),(10,.ptr (h.next+7) 0)]) (fun a g=>Y.next≤g.next∧g.ok∧(∀ c,c<Y.next→c≠h.next+4→c≠h.next+5→g.get c=Y.get c)∧g.get (h.next+4)=some (.cells 3 [.int .i64 (a.1:Nat)] true)∧g.get (h.next+5)=some (.cells 3 [.int .i64 (a.2:Nat)] true)∧Pos bs a.1 a.2 (allD bs)) (pi,pk) (by exact hsub) ⟨Nat.le_refl _,kY,fun c _ _ _=>rfl,g4,g5,ps⟩ ?_
  clear ps g4 g5 pi pk
  rintro⟨pi,pk⟩ Z ⟨nZ,kZ,oZ,z4,z5,ps⟩ next
  dsimp only at z4 z5 ps next ⊢
  have xZ:Ext h Z:=⟨by omega,fun c hc=>(oZ c (by omega) (by omega) (by omega)).trans ((oY c (by omega)).trans (xA.old c hc)),fun _=>kZ⟩
  have z0:=(oZ _ (by omega) (by omega) (by omega)).trans g0
  have z1:=(oZ (h.next+1) (by omega) (by omega) (by omega)).trans g1
  have z2:=(oZ (h.next+2) (by omega) (by omega) (by omega)).trans g2
  have z3:=(oZ (h.next+3) (by omega) (by omega) (by omega)).trans g3
  have z6:=(oZ (h.next+6) (by omega) (by omega) (by omega)).trans g6
  have z7:=(oZ (h.next+7) (by omega) (by omega) (by omega)).trans g7
  have zd:=(oZ (h1.next+1) (by omega) (by omega) (by omega)).trans gd
  have lZ:h.next+8≤Z.next:=by omega
  by_cases c:pi<bs.length
  ·obtain⟨y,hy⟩:∃ y,ol[pi]?=some y:=⟨_,List.getElem?_eq_getElem (by omega)⟩
   obtain⟨bk,hb0⟩:∃ b,bs[pi]?=some b:=⟨_,List.getElem?_eq_getElem c⟩
   obtain⟨q1,q2⟩:=d3 pi y bk hy hb0
   obtain⟨B,p,e,all,rw',hbB,hg,hpl,he,a1⟩:=(d1.ext xZ).at Nm.len hy
   have he:(all.drop p).take 2=[.str y.1,y.2]:=he
   have lw2:=q2.len
   have nw2:=q2.ns
   have pl:=ps.le hb0
   have lbk:=lp bk (List.mem_of_getElem? hb0)
   have ck:=ps.done hb0
   have ck':(bk.2.length:Int)≤(pk:Int):=by omega
   refine walk ?_
   refine jg_drawn (q:=16) (ms:=[0,0,2,6,15,31,63,63,191,63,959,1983,4031,8127,16383,32767]) (hl:=[[108,109,110],[107],[107],[107],[],[],[114,115,116,117,118,119,120],[113,116],[113,116],[113,114,115],[113],[113],[113],[113],[],[]]) kZ rfl (by kernel_rfl) (by kernel_rfl) rfl ?_
   refine walk ?_
   exact next (pi+1,0) (by simp only; omega) (by exact hsub) ⟨by exact hle,by exact hok,fun c hc r s=>by have gc:Z.get c=Z.get c:=rfl; exact Eq.trans (b:=Z.get c) hget (oZ c hc r s),by exact hget,by exact hget,ps.skip hb0 ck⟩
  have ei:pi=bs.length:=by have:=ps.hi; omega
  clear next
  refine walk ?_
  refine jg_drawn (q:=16) (ms:=[0,0,2,6,15,31,63,63,191,63,959,1983,4031,8127,16383,32767]) (hl:=[[108,109,110],[107],[107],[107],[],[],[114,115,116,117,118,119,120],[113,116],[113,116],[113,114,115],[113],[113],[113],[113],[],[]]) kZ rfl (by kernel_rfl) (by kernel_rfl) rfl ?_
  refine walk ?_
  subst ei
  refine OJ.gen [(3,.ptr h.next 0),(4,.ptr (h.next+1) 0),(5,.ptr (h.next+2) 0),(6,.ptr (h.next+3) 0),(7,.ptr (h.next+4) 0),(8,.ptr (h.next+5) 0),(9,.ptr (h.next+6) 0),(10,.ptr (h.next+7) 0),(126,.agg [v]),(127,.str nm),(128,.str key)] (fun g=>Ext Z g) (by exact hsub) (Ext.more (Ext.refl _) kZ 16) ?_
  clear c ps
  rintro G xG
  have kG:=xG.ok kZ
  have nG:=xG.nx
  have xhG:=xZ.trans xG
  obtain⟨rr,hrr⟩:∃ rr,rr=hitL nm key (allD bs):=⟨_,rfl⟩
  rw[← hrr] at z6 z7
  have v0:=(xG.old _ (by omega)).trans z0
  have v1:=(xG.old _ (by omega)).trans z1
  have v2:=(xG.old _ (by omega)).trans z2
  have v3:=(xG.old _ (by omega)).trans z3
  have v4:=(xG.old _ (by omega)).trans z4
  have v6:=(xG.old _ (by omega)).trans z6
  have v7:=(xG.old _ (by omega)).trans z7
  have vd:=(xG.old _ (by omega)).trans zd
  have lG:h1.next+3≤G.next:=by omega
  have pb:∀ b∈bs,b.2.length≤100000:=fun b hb=>by have:=lp b hb; omega
  have pb2:∀ b∈bs,b.2.length≤1000000:=fun b hb=>by have:=lp b hb; omega
  have wg:(TV n).sm 12 [.agg [v],.str nm,.str key] G=some (.tuple [.str (rr.getD []),.bool rr.isSome],G):=by
   rw[dget_w (n:=n) (by omega) kG ⟨d1.ext xhG,d2,fun j x b e1 e2=>⟨(d3 j x b e1 e2).1,(d3 j x b e1 e2).2.ext xhG⟩⟩ (by omega) (by omega) pb2,getV_eq,hrr]
   rfl
  clear z0 z1 z2 z3 z4 z5 z6 z7 zd oZ g0 g1 g2 g3 gd oY
  refine jo_w wg rfl rfl rfl rfl ?_
  clear wg
  refine walk ?_
  refine jg_drawn (q:=6) (ms:=[0,1,0,7,0,31]) (hl:=[[134,16],[134,16],[132,133,16],[16],[132,133,134,135],[]]) kG rfl (by kernel_rfl) (by kernel_rfl) rfl ?_
  refine walk ?_
  refine jd_call (ownDen_g (n:=n) (by exact hok) ((dl.ext xhG).ext (Ext.more (Ext.refl _) kG 6)) (by omega) pb) rfl rfl rfl rfl rfl rfl ?_
  rintro _ h5 ⟨dv2,Sd2,Sp2,nl2,rfl,x5,o5⟩
  have n5:G.next+6≤h5.next:=x5.nx
  have k5:=x5.ok (by exact hok)
  refine walk ?_
  refine jd_call (without_g (n:=n) (nm:=nm) k5 o5.den (by omega) pb) rfl rfl rfl rfl rfl rfl ?_
  rintro _ h6 ⟨dv3,Sd3,Sp3,nl3,rfl,x6,o6⟩
  have n6:=x6.nx
  have k6:=x6.ok k5
  obtain⟨vc3,vo3⟩:=OwnS.one o6.od
  refine walk ?_
  refine jd_skip rfl rfl rfl (k_storeN (n:=1) (cs:=[.nilslice]) (vs:=[dv3]) rfl rfl rfl rfl rfl (by simp[vo3]) (Heap.gs _ _ _) (by decide)) ?_
  refine walk ?_
  obtain⟨fs,hfs⟩:∃ fs:Dn,fs=bs.filter fun b=>decide (b.1≠nm):=⟨_,rfl⟩
  rw[← hfs] at o6
  refine OJ.gen [(3,.ptr h.next 0),(4,.ptr (h.next+1) 0),(5,.ptr (h.next+2) 0),(6,.ptr (h.next+3) 0),(7,.ptr (h.next+4) 0),(8,.ptr (h.next+5) 0),(9,.ptr (h.next+6) 0),(10,.ptr (h.next+7) 0),(14,.str (rr.getD [])),(15,.bool rr.isSome),(16,.ptr (G.next+4) 0),(137,.agg [dv3]),(138,.str nm),(139,.str key)] (fun g=>Ext G g∧G.next+4<g.next∧g.get (G.next+4)=some (.cells 27 [dv3] true)∧OutI h5.next g Sd3 Sp3 dv3 nl3 fs) (by exact hsub) ⟨by exact hext,by show G.next+4<h6.next; omega,Heap.gs _ _ _,o6.keep (Nat.le_refl _) fun c q _=>(Heap.gn _ _ _ _ (by omega)).trans (Heap.gn _ _ _ _ (by omega))⟩ ?_
  clear o6 n6 k6 x6 o5 k5 n5 x5
  rintro M ⟨xM,lM,gM,oM⟩
  have kM:=xM.ok kG
  have xhM:=xhG.trans xM
  obtain⟨nl4,m1,m2,m3⟩:=oM.den
  have lf:fs.length≤bs.length:=by rw[hfs]; exact List.length_filter_le _ _
  have pf:∀ b∈fs,b.2.length≤1000000:=fun b hb=>pb2 b (by rw[hfs] at hb; exact(List.mem_filter.1 hb).1)
  have pf2:∀ b∈fs,b.2.length≤100000:=fun b hb=>pb b (by rw[hfs] at hb; exact(List.mem_filter.1 hb).1)
  have lfa:(allD fs).length≤400000:=by
   have:=allD_flt (fun b=>decide (b.1≠nm)) bs
   rw[← hfs] at this
   omega
  have u0:=(xM.old _ (by omega)).trans v0
  have u1:=(xM.old _ (by omega)).trans v1
  have u2:=(xM.old _ (by omega)).trans v2
  have u3:=(xM.old _ (by omega)).trans v3
  have u4:=(xM.old _ (by omega)).trans v4
  have u6:=(xM.old _ (by omega)).trans v6
  have u7:=(xM.old _ (by omega)).trans v7
  have ud:=(xM.old _ (by omega)).trans vd
  have nM:=xM.nx
  clear v0 v1 v2 v3 v4 v6 v7 vd
  have wg:(TV n).sm 12 [.agg [dv3],.str nm,.str key] M=some (.tuple [.str [],.bool false],M):=by
   rw[dget_w (n:=n) (by omega) kM ⟨m1,m2,m3⟩ lfa (by omega) pf,hfs,flt_none]
   rfl
  refine jo_w wg rfl rfl rfl rfl ?_
  clear wg
  refine walk ?_
  have e3:=m1.len
  have n3:=m1.ns
  rw[m2] at e3
  refine jg_loop (ι:=Nat) (fun i=>bs.length-i) (fun i=>[(3,.ptr h.next 0),(4,.ptr (h.next+1) 0),(5,.ptr (h.next+2) 0),(6,.ptr (h.next+3) 0),(7,.ptr (h.next+4) 0),(8,.ptr (h.next+5) 0),(9,.ptr (h.next+6) 0),(10,.ptr (h.next+7) 0),(14,.str (rr.getD [])),(15,.bool rr.isSome),(16,.ptr (G.next+4) 0),(18,.bool false),(19,.int .i64 (((bs.take i).filter fun b=>decide (b.1≠nm)).length:Nat)),(20,.int .i64 (i:Nat))]) (fun i g=>i≤bs.length∧Ext M g) 0 (by exact hsub) ⟨Nat.zero_le _,.refl _⟩ ?_
  rintro i N ⟨hi,xN⟩ next
  have kN:=xN.ok kM
  have xhN:=xhM.trans xN
  have nN:=xN.nx
  have w0:=(xN.old _ (by omega)).trans u0
  have w1':=(xN.old _ (by omega)).trans u1
  have w2':=(xN.old _ (by omega)).trans u2
  have wM:=(xN.old _ lM).trans gM
  by_cases c:i<bs.length
  ·obtain⟨y,hy⟩:∃ y,ol[i]?=some y:=⟨_,List.getElem?_eq_getElem (by omega)⟩
   obtain⟨bk,hb0⟩:∃ b,bs[i]?=some b:=⟨_,List.getElem?_eq_getElem c⟩
   obtain⟨q1,q2⟩:=d3 i y bk hy hb0
   obtain⟨B,p,e,all,rw',hbB,hg,hpl,he,a1⟩:=(d1.ext xhN).at Nm.len hy
   have he:(all.drop p).take 2=[.str y.1,y.2]:=he
   rw[q1] at he
   have et:bs.take (i+1)=bs.take i++[bk]:=by rw[List.take_add_one,hb0]; rfl
   by_cases cm:bk.1=nm
   ·have ef:(bs.take (i+1)).filter (fun b=>decide (b.1≠nm))=(bs.take i).filter (fun b=>decide (b.1≠nm)):=by rw[et,List.filter_append]; simp[cm]
    refine walk ?_
    refine jg_drawn (q:=8) (ms:=[0,1,0,7,15,31,0,127]) (hl:=[[152,156],[152,156],[150,151,156],[156],[156],[156],[150,151,152,153,154,155],[]]) kN rfl (by kernel_rfl) (by kernel_rfl) rfl ?_
    refine walk ?_
    refine next (i+1) (by omega) (by rw[ef]; exact hsub) ⟨by omega,by exact hext⟩
   ·have fa:=flt_at (P:=fun b=>decide (b.1≠nm)) hb0 (decide_eq_true cm)
    rw[← hfs] at fa
    have ef:(((bs.take (i+1)).filter (fun b=>decide (b.1≠nm))).length:Int)=(((bs.take i).filter (fun b=>decide (b.1≠nm))).length:Int)+1:=by rw[et,List.filter_append]; simp[cm]
    obtain⟨m,hm⟩:∃ m,m=((bs.take i).filter (fun b=>decide (b.1≠nm))).length:=⟨_,rfl⟩
    rw[← hm] at fa ef ⊢
    have lm:=(List.getElem?_eq_some_iff.1 fa).1
    obtain⟨y3,hy3⟩:∃ y,nl4[m]?=some y:=⟨_,List.getElem?_eq_getElem (by omega)⟩
    obtain⟨r1,r2⟩:=m3 m y3 bk hy3 fa
    refine walk ?_
    refine jg_drawn (q:=8) (ms:=[0,1,0,7,15,31,0,127]) (hl:=[[152,156],[152,156],[150,151,156],[156],[156],[156],[150,151,152,153,154,155],[]]) kN rfl (by kernel_rfl) (by kernel_rfl) rfl ?_
    refine walk ?_
    refine GJ.gen [(3,.ptr h.next 0),(4,.ptr (h.next+1) 0),(5,.ptr (h.next+2) 0),(6,.ptr (h.next+3) 0),(7,.ptr (h.next+4) 0),(8,.ptr (h.next+5) 0),(9,.ptr (h.next+6) 0),(10,.ptr (h.next+7) 0),(14,.str (rr.getD [])),(15,.bool rr.isSome),(16,.ptr (G.next+4) 0),(18,.bool false),(19,.int .i64 (m:Nat)),(20,.int .i64 (i:Nat))] (fun g=>Ext N g) (by exact hsub) (by exact hext) ?_
    clear a1 hbB hg hpl he
    rintro K xK
    have kK:=xK.ok kN
    have nK:=xK.nx
    have xhK:=xhN.trans xK
    obtain⟨B,p,e,all,rw',hbB,hg,hpl,he,a1⟩:=(d1.ext xhK).at Nm.len hy
    have he:(all.drop p).take 2=[.str y.1,y.2]:=he
    rw[q1] at he
    obtain⟨B2,p2,e2',all2,rw2,hb2,hg2,hpl2,he2,a2⟩:=(m1.ext (xN.trans xK)).at Nm.len hy3
    have he2:(all2.drop p2).take 2=[.str y3.1,y3.2]:=he2
    rw[r1] at he2
    have t0:=(xK.old _ (by omega)).trans w0
    have tM:=(xK.old _ (by omega)).trans wM
    have cn:bk.1=bk.1:=rfl
    have cl:¬ (fs.length:Int)≤(m:Int):=by omega
    have w5:=samePr_w (n:=n) (by omega) (by exact Heap.ok_more kK 36) ((r2.ext (xN.trans xK)).ext (Ext.more (Ext.refl _) kK 36)) ((q2.ext xhK).ext (Ext.more (Ext.refl _) kK 36)) (pb2 bk (List.mem_of_getElem? hb0))
    refine walk ?_
    refine jg_drawn (q:=36) (ms:=[0,0,2,6,15,31,63,127,63,511,1023,2047,63,4159,63,28735,61503,127039,262143,524287,1048575,2097151,4194303,2097151,16777215,33554431,67108863,2097151,136314879,2097151,941621247,2015363071,4162846719,8589934591,17179869183,34359738367]) (hl:=[[159,160,161],[158],[158],[158],[],[],[166,170,171,172,173,174,175],[166,170,171,172,173,174,175],[164,165,170,171,172,173,174,175],[170,171,172,173,174,175],[170,171,172,173,174,175],[170,171,172,173,174,175],[164,165,166,167,168,169,172],[164,165,166,167,168,169,172],[164,165,166,167,168,169,170,171],[164,165,166,167,168,169],[164,165,166,167,168,169],[164,165,166,167,168,169],[],[],[],[181,185,186,187,188,189,190],[181,185,186,187,188,189,190],[179,180,185,186,187,188,189,190],[185,186,187,188,189,190],[185,186,187,188,189,190],[185,186,187,188,189,190],[179,180,181,182,183,184,187],[179,180,181,182,183,184,187],[179,180,181,182,183,184,185,186],[179,180,181,182,183,184],[179,180,181,182,183,184],[179,180,181,182,183,184],[],[],[]]) kK rfl (by kernel_rfl) (by kernel_rfl) rfl ?_
    refine walk ?_
    refine jd_w w5 rfl rfl rfl rfl rfl rfl ?_
    refine walk ?_
    refine next (i+1) (by omega) (by rw[ef]; exact hsub) ⟨by omega,(xN.trans xK).trans (Ext.more (Ext.refl _) kK 36)⟩
  have ei2:bs.take i=bs:=List.take_of_length_le (by omega)
  rw[ei2,← hfs]
  clear next
  have w3':=(xN.old _ (by omega)).trans u3
  have w4':=(xN.old _ (by omega)).trans u4
  have w6':=(xN.old _ (by omega)).trans u6
  have w7':=(xN.old _ (by omega)).trans u7
  have wd:=(xN.old _ (by omega)).trans ud
  have cl:(bs.length:Int)=(bs.length:Int):=rfl
  have cf:(fs.length:Int)=(fs.length:Int):=rfl
  have cr:rr.getD []=rr.getD []:=rfl
  have uo:=oM.keep (h':=N) nN (fun c _ hc=>xN.old c hc)
  refine walk ?_
  refine jg_drawn (q:=34) (ms:=[0,0,2,6,15,31,63,63,255,511,1023,2047,2047,8191,16383,32767,65535,131071,262143,524287,1048575,1048575,3145727,7340031,16777215,33554431,67108863,134217727,134217727,134217727,939524095,2147483647,4294967295,8589934591]) (hl:=[[197,198,199],[196],[196],[196],[],[],[203],[202],[],[],[],[208],[207],[],[],[],[],[],[],[],[217,218,219],[216],[216],[216],[],[],[],[224,225,226],[223,225],[223,224],[223],[],[],[]]) kN rfl (by kernel_rfl) (by kernel_rfl) rfl ?_
  refine walk ?_
  rw[show(rr.isSome==rr.isSome)=true by cases rr<;>rfl]
  refine walk ?_
  refine jd_call (without_g (n:=n) (nm:=nm) (by exact hok) (uo.den.ext (Ext.more (Ext.refl _) kN 34)) (by omega) pf2) rfl rfl rfl rfl rfl rfl ?_
  rintro _ h7 ⟨dv7,Sd7,Sp7,nl7,rfl,x7,o7⟩
  have n7:N.next+34≤h7.next:=x7.nx
  have k7:=x7.ok (by exact hok)
  have wd7:=OwnS.one o7.od
  have w5:=dsame_w (n:=n) (by omega) k7 ((uo.den.ext (Ext.more (Ext.refl _) kN 34)).ext x7) o7.den (by omega) (by have:=List.length_filter_le (fun b:List UInt8×List Pr=>decide (b.1≠nm)) fs; omega) pf (fun b hb=>pf b (List.mem_filter.1 hb).1)
  rw[show decide (fs=fs.filter fun b=>decide (b.1≠nm))=true from decide_eq_true (by rw[hfs]; exact(flt_two bs nm).symm)] at w5
  refine walk ?_
  refine jd_w w5 rfl rfl rfl rfl rfl rfl ?_
  refine walk ?_
  refine jg_fin fun tm hs=>?_
  have xh7:Ext h h7:=xhN.trans ((Ext.more (Ext.refl _) kN 34).trans x7)
  have gd7:h7.get (h1.next+1)=some (.dfr (some [])):=(x7.old _ (by show h1.next+1<N.next+34; omega)).trans wd
  refine leave_collected (by exact(Heap.gn _ _ _ _ (by omega)).trans gd7) ?_
  exact leave_ret (vs:=[.bool true]) hs rfl (results_cell rfl (cell_one rfl rfl (by exact(Heap.gn _ _ _ _ (by omega)).trans (Heap.gs _ _ _))) rfl) ⟨_,_,rfl,rfl,Ext.st (Ext.st xh7 _ _ (by omega) (by omega)) _ _ (by omega) (by show h1.next+1<h7.next; omega)⟩
end Go.Proofs.YtmnhbehmjaibgaaGreat
