/- What the functions of this part answer at any input, told by the rules over the evaluator. Conditions: those that each theorem states. -/
import Derived.Test.YtmnhbehmjaibgaaGreatDnb
import Derived.Test.YtmnhbehmjaibgaaGreatRst
import Derived.Test.YtmnhbehmjaibgaaGreatDea
set_option linter.unusedVariables false
set_option linter.unusedSimpArgs false
open Go Ev
namespace Go.Proofs.YtmnhbehmjaibgaaGreat
set_option maxRecDepth 10000
set_option maxHeartbeats 4000000
theorem b7f {α:Type}{l r:List α}{i:Nat}{x y:α}(hx:l[i]?=some x) (hy:r[i]?=some y) (e:l.take i=r.take i) (q:x=y):l.take (i+1)=r.take (i+1):=by
 rw[List.take_add_one,List.take_add_one,hx,hy,e,q]
theorem d1c {α:Type}{l r:List α}{i:Nat}{x y:α}(hx:l[i]?=some x) (hy:r[i]?=some y) (q:x≠y):l≠r:=fun e=>by
 rw[e,hy] at hx
 exact q (Option.some.inj hx).symm
theorem b6w {α:Type}{l r:List α}(hl:l.length=r.length){i:Nat}(hi:l.length≤i) (e:l.take i=r.take i):l=r:=by
 rwa [List.take_of_length_le hi,List.take_of_length_le (by omega)] at e
theorem e8u {n:Nat}{h:a0a}{u v:AV}{l r:List Pr}(hk:h.ok) (lu:Ls Pr.cs 2 h u l) (lv:Ls Pr.cs 2 h v r) (hl:l.length≤1000000) (hr:r.length≤1000000):a0l (TV n) 54 [u,v] h (fun w h'=>w=.bool (decide (l=r))∧Ext h h'):=by
 refine a0r (a1x rfl rfl) rfl rfl ?_
 have e1:=lu.len
 have e2:=lv.len
 have n1:=lu.ns
 have n2:=lv.ns
 by_cases c0:(l.length:Int)=(r.length:Int)
 case neg =>
  rw[decide_eq_false (fun e=>c0 (by rw[e]))]
  refine walk ?_
  exact a0d (by exact hres) ⟨rfl,by exact a0g⟩
 refine walk ?_
 refine a0k (ι:=Nat) (fun i=>l.length-i) (fun i=>[(0,u),(1,v),(12,.int .i64 (l.length:Nat)),(13,.int .i64 (i:Nat))]) (fun i h2=>i≤l.length∧Ext h h2∧l.take i=r.take i) 0 (by exact hsub) ⟨Nat.zero_le _,by exact a0g,rfl⟩ ?_
 rintro i h2 ⟨hi,x2,st⟩ next
 have k2:=x2.ok hk
 by_cases c:i<l.length
 case neg =>
  have e:l=r:=b6w (by omega) (by omega) st
  rw[decide_eq_true e]
  refine walk ?_
  exact a0d (by exact hres) ⟨rfl,by exact a0g⟩
 obtain⟨x,hx⟩:∃ y,l[i]?=some y:=⟨_,List.getElem?_eq_getElem c⟩
 obtain⟨y,hy⟩:∃ y,r[i]?=some y:=⟨_,List.getElem?_eq_getElem (by omega)⟩
 obtain⟨B,p,e,all,rw',hb,hg,hpl,he,a1⟩:=(lu.ext x2).at Pr.csl hx
 obtain⟨B2,p2,e2',all2,rw2,hb2,hg2,hpl2,he2,a2⟩:=(lv.ext x2).at Pr.csl hy
 refine walk ?_
 refine a0b (q:=9) (ms:=[0,0,3,7,0,0,48,112,255]) (hl:=[[17,20,21,22,23],[16,20,21,22,23],[20,21,22,23],[20,21,22,23],[16,17,18,19,21],[16,17,18,19,20],[16,17,18,19],[16,17,18,19],[]]) hok rfl (by kernel_rfl) (by kernel_rfl) rfl ?_
 refine walk ?_
 refine a2z rfl rfl rfl rfl (a3k rfl rfl rfl (a8u (d4s x y) rfl) rfl) ?_
 by_cases d:x=y
 ·rw[show decide (¬ x=y)=false from decide_eq_false (fun c=>c d)]
  refine walk ?_
  exact next (i+1) (by omega) (by exact hsub) ⟨by omega,by exact a0g,b7f hx hy st d⟩
 ·rw[show decide (¬ x=y)=true from decide_eq_true d,decide_eq_false (d1c hx hy d)]
  refine walk ?_
  exact a0d (by exact hres) ⟨rfl,by exact a0g⟩
theorem e5a {n:Nat}{h:a0a}{a b:List UInt8}{u v:AV}{l r:List Pr}(hk:h.ok) (lu:Ls Pr.cs 2 h u l) (lv:Ls Pr.cs 2 h v r) (hl:l.length≤1000000) (hr:r.length≤1000000):a0l (TV n) 53 [.agg [.str a,u],.agg [.str b,v]] h (fun w h'=>w=.bool (decide ((a,l)=(b,r)))∧Ext h h'):=by
 refine a0r (a1x rfl rfl) rfl rfl ?_
 have uo:=Sl.one lu
 have uc:=Sl.cells lu
 have vo:=Sl.one lv
 have vc:=Sl.cells lv
 by_cases c:a=b
 case neg =>
  rw[decide_eq_false (fun e=>c (congrArg Prod.fst e))]
  refine walk ?_
  exact a0d (by exact hres) ⟨rfl,by exact a0g⟩
 have x2:Ext h ((h.alloc (.cells 35 [.str a,u] true)).alloc (.cells 35 [.str b,v] true)):=(Ext.alloc _ _).trans (.alloc _ _)
 refine walk ?_
 refine a0c (e8u (n:=n) (x2.ok hk) (lu.ext x2) (lv.ext x2) hl hr) rfl rfl rfl rfl ?_
 rintro _ h3 ⟨rfl,x3⟩
 rw[show decide ((a,l)=(b,r))=decide (l=r) by rw[decide_eq_decide]; simp[c]]
 refine walk ?_
 exact a0d (by exact hres) ⟨rfl,x2.trans x3⟩
theorem f4q {n:Nat}{h:a0a}{u v:AV}{bs cs:List (List UInt8×List Pr)}(hk:h.ok) (du:a6c h u bs) (dv:a6c h v cs) (hb:bs.length≤1000000) (hc:cs.length≤1000000) (pb:∀ b∈bs,b.2.length≤1000000) (pc:∀ b∈cs,b.2.length≤1000000):a0l (TV n) 52 [u,v,.func (.func 53) [] []] h (fun w h'=>w=.bool (decide (bs=cs))∧Ext h h'):=by
 obtain⟨lu,du1,du2,du3⟩:=du
 obtain⟨lv,dv1,dv2,dv3⟩:=dv
 refine a0r (a1x rfl rfl) rfl rfl ?_
 have e1:=du1.len
 have e2:=dv1.len
 have n1:=du1.ns
 have n2:=dv1.ns
 rw[du2] at e1
 rw[dv2] at e2
 by_cases c0:(bs.length:Int)=(cs.length:Int)
 case neg =>
  rw[decide_eq_false (fun e=>c0 (by rw[e]))]
  refine walk ?_
  exact a0d (by exact hres) ⟨rfl,by exact a0g⟩
 refine walk ?_
 refine a0k (ι:=Nat) (fun i=>bs.length-i) (fun i=>[(1,v),(2,.func (.func 53) [] []),(15,u),(16,.int .i64 (bs.length:Nat)),(17,.int .i64 (i:Nat))]) (fun i h2=>i≤bs.length∧Ext h h2∧bs.take i=cs.take i) 0 (by exact hsub) ⟨Nat.zero_le _,by exact a0g,rfl⟩ ?_
 rintro i h2 ⟨hi,x2,st⟩ next
 have k2:=x2.ok hk
 by_cases c:i<bs.length
 case neg =>
  have e:bs=cs:=b6w (by omega) (by omega) st
  rw[decide_eq_true e]
  refine walk ?_
  exact a0d (by exact hres) ⟨rfl,by exact a0g⟩
 obtain⟨y,hy⟩:∃ y,lu[i]?=some y:=⟨_,List.getElem?_eq_getElem (by omega)⟩
 obtain⟨y',hy'⟩:∃ y',lv[i]?=some y':=⟨_,List.getElem?_eq_getElem (by omega)⟩
 obtain⟨b,hb0⟩:∃ b,bs[i]?=some b:=⟨_,List.getElem?_eq_getElem c⟩
 obtain⟨b',hb0'⟩:∃ b,cs[i]?=some b:=⟨_,List.getElem?_eq_getElem (by omega)⟩
 obtain⟨q1,q2⟩:=du3 i y b hy hb0
 obtain⟨q1',q2'⟩:=dv3 i y' b' hy' hb0'
 obtain⟨B,p,e,all,rw',hbB,hg,hpl,he,a1⟩:=(du1.ext x2).at Nm.len hy
 have he:(all.drop p).take 2=[.str y.1,y.2]:=he
 have yo:=Sl.one q2
 have yc:=Sl.cells q2
 have yo':=Sl.one q2'
 have yc':=Sl.cells q2'
 refine walk ?_
 refine a5h rfl rfl (a5b (n:=2) (cs:=[.str [],.nilslice]) (vs:=[.str y.1,y.2]) rfl rfl rfl rfl rfl (by simp[yo]; rfl) (a0s _ _) (by decide)) ?_
 refine OJ.gen [(1,v),(2,.func (.func 53) [] []),(7,.int .i64 (i:Nat)),(8,.ptr h2.next 0),(15,u),(16,.int .i64 (bs.length:Nat)),(17,.int .i64 (i:Nat))] (fun g=>Ext h2 g∧h2.next<g.next∧g.get h2.next=some (.cells 35 [.str y.1,y.2] true)) (by exact hsub) ⟨by exact a0g,Nat.lt_succ_self _,a0a.gs _ _ _⟩ ?_
 clear a1 hbB hg hpl he
 rintro g ⟨xg,lg,gg⟩
 have x2g:=x2.trans xg
 have kg:=x2g.ok hk
 obtain⟨B2,p2,e2',all2,rw2,hb2,hg2,hpl2,he2,a2⟩:=(dv1.ext x2g).at Nm.len hy'
 have he2:(all2.drop p2).take 2=[.str y'.1,y'.2]:=he2
 refine walk ?_
 refine a5h rfl rfl (a5b (n:=2) (cs:=[.str [],.nilslice]) (vs:=[.str y'.1,y'.2]) rfl rfl rfl rfl rfl (by simp[yo']; rfl) (a0s _ _) (by decide)) ?_
 refine OJ.gen [(1,v),(2,.func (.func 53) [] []),(7,.int .i64 (i:Nat)),(8,.ptr h2.next 0),(9,.ptr g.next 0),(15,u),(16,.int .i64 (bs.length:Nat)),(17,.int .i64 (i:Nat))] (fun f=>Ext g f∧f.get g.next=some (.cells 35 [.str y'.1,y'.2] true)) (by exact hsub) ⟨by exact a0g,a0a.gs _ _ _⟩ ?_
 clear a2 hb2 hg2 hpl2 he2
 rintro f ⟨xf,gf⟩
 have x2f:=x2g.trans xf
 have kf:=x2f.ok hk
 have gg2:=(xf.old _ lg).trans gg
 refine walk ?_
 refine a0c (e5a (n:=n) kf (q2.ext x2f) (q2'.ext x2f) (pb b (List.mem_of_getElem? hb0)) (pc b' (List.mem_of_getElem? hb0'))) rfl rfl rfl (d0x rfl rfl rfl rfl rfl rfl) ?_
 rintro _ h3 ⟨rfl,x3⟩
 have eb:((y.1,b.2)=(y'.1,b'.2))↔b=b':=by rw[q1,q1']
 by_cases d:b=b'
 ·rw[decide_eq_true (eb.2 d)]
  refine walk ?_
  exact next (i+1) (by omega) (by exact hsub) ⟨by omega,x2f.trans x3,b7f hb0 hb0' st d⟩
 ·rw[decide_eq_false (fun q=>d (eb.1 q)),decide_eq_false (d1c hb0 hb0' d)]
  refine walk ?_
  exact a0d (by exact hres) ⟨rfl,x2f.trans x3⟩
theorem d6n {n:Nat}(hn:0<n){h:a0a}{u v:AV}{bs cs:List (List UInt8×List Pr)}(hk:h.ok) (du:a6c h u bs) (dv:a6c h v cs) (hb:bs.length≤1000000) (hc:cs.length≤1000000) (pb:∀ b∈bs,b.2.length≤1000000) (pc:∀ b∈cs,b.2.length≤1000000):(TV n).sm 27 [.agg [u],.agg [v]] h=some (.bool (decide (bs=cs)),h):=by
 refine a6l hn (fun h=>a6c h u bs∧a6c h v cs∧h.ok) rfl rfl ⟨du,dv,hk⟩ (fun hp=>⟨du.any (by simp[AV.a0z,AV.plain] at hp; exact hp.1),dv.any (by simp[AV.a0z,AV.plain] at hp; exact hp.2),a2e⟩) ?_
 clear du dv hk h
 rintro n hn h ⟨du,dv,hk⟩
 have uc:u.cells=[u]∧u.one=true:=by
  obtain⟨l,a,_⟩:=du
  exact⟨Sl.cells a,Sl.one a⟩
 have vc:v.cells=[v]∧v.one=true:=by
  obtain⟨l,a,_⟩:=dv
  exact⟨Sl.cells a,Sl.one a⟩
 obtain⟨uc,uo⟩:=uc
 obtain⟨vc,vo⟩:=vc
 refine a0u rfl rfl ?_
 have x2:Ext h ((h.alloc (.cells 27 [u] true)).alloc (.cells 27 [v] true)):=(Ext.alloc _ _).trans (.alloc _ _)
 refine walk ?_
 refine a0c (f4q (n:=n) (x2.ok hk) (du.ext x2) (dv.ext x2) hb hc pb pc) rfl rfl rfl rfl ?_
 rintro _ h3 ⟨rfl,x3⟩
 refine walk ?_
 exact a0d (by exact hres) ⟨rfl,x2.trans x3⟩
theorem d7s {n:Nat}{h:a0a}{u v:AV}{l r:List Pr}(hk:h.ok) (lu:Ls Pr.cs 2 h u l) (lv:Ls Pr.cs 2 h v r) (hl:l.length≤1000000) (hr:r.length≤1000000):a0l (TV n) 55 [u,v] h (fun w h'=>w=.bool (decide (l=r))∧Ext h h'):=by
 refine a0r (a1x rfl rfl) rfl rfl ?_
 have e1:=lu.len
 have e2:=lv.len
 have n1:=lu.ns
 have n2:=lv.ns
 by_cases c0:(l.length:Int)=(r.length:Int)
 case neg =>
  rw[decide_eq_false (fun e=>c0 (by rw[e]))]
  refine walk ?_
  exact a0d (by exact hres) ⟨rfl,by exact a0g⟩
 refine walk ?_
 refine a0k (ι:=Nat) (fun i=>l.length-i) (fun i=>[(0,u),(1,v),(5,.int .i64 (i:Nat))]) (fun i h2=>i≤l.length∧Ext h h2∧l.take i=r.take i) 0 (by exact hsub) ⟨Nat.zero_le _,by exact a0g,rfl⟩ ?_
 rintro i h2 ⟨hi,x2,st⟩ next
 have k2:=x2.ok hk
 by_cases c:i<l.length
 case neg =>
  have e:l=r:=b6w (by omega) (by omega) st
  rw[decide_eq_true e]
  refine walk ?_
  exact a0d (by exact hres) ⟨rfl,by exact a0g⟩
 obtain⟨x,hx⟩:∃ y,l[i]?=some y:=⟨_,List.getElem?_eq_getElem c⟩
 obtain⟨y,hy⟩:∃ y,r[i]?=some y:=⟨_,List.getElem?_eq_getElem (by omega)⟩
 obtain⟨B,p,e,all,rw',hb,hg,hpl,he,a1⟩:=(lu.ext x2).at Pr.csl hx
 obtain⟨B2,p2,e2',all2,rw2,hb2,hg2,hpl2,he2,a2⟩:=(lv.ext x2).at Pr.csl hy
 refine walk ?_
 refine a0b (q:=9) (ms:=[0,0,3,7,0,0,48,112,255]) (hl:=[[18,21,22,23,24],[17,21,22,23,24],[21,22,23,24],[21,22,23,24],[17,18,19,20,22],[17,18,19,20,21],[17,18,19,20],[17,18,19,20],[]]) hok rfl (by kernel_rfl) (by kernel_rfl) rfl ?_
 refine walk ?_
 refine a2z rfl rfl rfl rfl (a3k rfl rfl rfl (a8u (d4s x y) rfl) rfl) ?_
 by_cases d:x=y
 ·rw[show decide (¬ x=y)=false from decide_eq_false (fun c=>c d)]
  refine walk ?_
  exact next (i+1) (by omega) (by exact hsub) ⟨by omega,by exact a0g,b7f hx hy st d⟩
 ·rw[show decide (¬ x=y)=true from decide_eq_true d,decide_eq_false (d1c hx hy d)]
  refine walk ?_
  exact a0d (by exact hres) ⟨rfl,by exact a0g⟩
theorem e7z {n:Nat}(hn:0<n){h:a0a}{u v:AV}{bs cs:List (List UInt8×List Pr)}(hk:h.ok) (du:a6c h u bs) (dv:a6c h v cs) (hb:bs.length≤1000000) (hc:cs.length≤1000000) (pb:∀ b∈bs,b.2.length≤1000000) (pc:∀ b∈cs,b.2.length≤1000000):(TV n).sm 28 [.agg [u],.agg [v]] h=some (.bool (decide (bs=cs)),h):=by
 refine a6l hn (fun h=>a6c h u bs∧a6c h v cs∧h.ok) rfl rfl ⟨du,dv,hk⟩ (fun hp=>⟨du.any (by simp[AV.a0z,AV.plain] at hp; exact hp.1),dv.any (by simp[AV.a0z,AV.plain] at hp; exact hp.2),a2e⟩) ?_
 clear du dv hk h
 rintro n hn h ⟨du,dv,hk⟩
 obtain⟨lu,du1,du2,du3⟩:=du
 obtain⟨lv,dv1,dv2,dv3⟩:=dv
 refine a0u rfl rfl ?_
 have e1:=du1.len
 have e2:=dv1.len
 have n1:=du1.ns
 have n2:=dv1.ns
 rw[du2] at e1
 rw[dv2] at e2
 by_cases c0:(bs.length:Int)=(cs.length:Int)
 case neg =>
  rw[decide_eq_false (fun e=>c0 (by rw[e]))]
  refine walk ?_
  exact a0d (by exact hres) ⟨rfl,by exact a0g⟩
 refine walk ?_
 refine a0k (ι:=Nat) (fun i=>bs.length-i) (fun i=>[(2,.ptr h.next 0),(3,.ptr (h.next+1) 0),(5,.int .i64 (i:Nat))]) (fun i h2=>i≤bs.length∧Ext h h2∧h.next+2≤h2.next∧h2.get h.next=some (.cells 27 [u] true)∧h2.get (h.next+1)=some (.cells 27 [v] true)∧bs.take i=cs.take i) 0 (by exact hsub) ⟨Nat.zero_le _,by exact a0g,Nat.le_refl _,by exact a0j,by exact a0j,rfl⟩ ?_
 rintro i h2 ⟨hi,x2,nx2,g1,g2,st⟩ next
 have k2:=x2.ok hk
 by_cases c:i<bs.length
 case neg =>
  have e:bs=cs:=b6w (by omega) (by omega) st
  rw[decide_eq_true e]
  refine walk ?_
  exact a0d (by exact hres) ⟨rfl,by exact a0g⟩
 obtain⟨y,hy⟩:∃ y,lu[i]?=some y:=⟨_,List.getElem?_eq_getElem (by omega)⟩
 obtain⟨y',hy'⟩:∃ y',lv[i]?=some y':=⟨_,List.getElem?_eq_getElem (by omega)⟩
 obtain⟨b,hb0⟩:∃ b,bs[i]?=some b:=⟨_,List.getElem?_eq_getElem c⟩
 obtain⟨b',hb0'⟩:∃ b,cs[i]?=some b:=⟨_,List.getElem?_eq_getElem (by omega)⟩
 obtain⟨q1,q2⟩:=du3 i y b hy hb0
 obtain⟨q1',q2'⟩:=dv3 i y' b' hy' hb0'
 obtain⟨B,p,e,all,rw',hbB,hg,hpl,he,a1⟩:=(du1.ext x2).at Nm.len hy
 obtain⟨B2,p2,e2',all2,rw2,hb2,hg2,hpl2,he2,a2⟩:=(dv1.ext x2).at Nm.len hy'
 have he:(all.drop p).take 2=[.str y.1,y.2]:=he
 have he2:(all2.drop p2).take 2=[.str y'.1,y'.2]:=he2
 rw[q1] at he
 rw[q1'] at he2
 by_cases cn:b.1=b'.1
 case neg =>
  rw[decide_eq_false (d1c hb0 hb0' (fun e=>cn (by rw[e])))]
  refine walk ?_
  refine a0b (q:=29) (ms:=[0,1,0,7,15,31,0,64,0,448,960,1984,4095,8191,16383,32767,16383,131071,262143,524287,16383,1064959,16383,7356415,15745023,32522239,67108863,134217727,268435455]) (hl:=[[22,26,27,28,29,30,31],[22,26,27,28,29,30,31],[20,21,26,27,28,29,30,31],[26,27,28,29,30,31],[26,27,28,29,30,31],[26,27,28,29,30,31],[20,21,22,23,24,25,28],[20,21,22,23,24,25,28],[20,21,22,23,24,25,26,27],[20,21,22,23,24,25],[20,21,22,23,24,25],[20,21,22,23,24,25],[],[],[36,40,41,42,43,44,45],[36,40,41,42,43,44,45],[34,35,40,41,42,43,44,45],[40,41,42,43,44,45],[40,41,42,43,44,45],[40,41,42,43,44,45],[34,35,36,37,38,39,42],[34,35,36,37,38,39,42],[34,35,36,37,38,39,40,41],[34,35,36,37,38,39],[34,35,36,37,38,39],[34,35,36,37,38,39],[],[],[]]) k2 rfl (by kernel_rfl) (by kernel_rfl) rfl ?_
  refine walk ?_
  exact a0d (by exact hres) ⟨rfl,by exact a0g⟩
 refine walk ?_
 refine a0b (q:=29) (ms:=[0,1,0,7,15,31,0,64,0,448,960,1984,4095,8191,16383,32767,16383,131071,262143,524287,16383,1064959,16383,7356415,15745023,32522239,67108863,134217727,268435455]) (hl:=[[22,26,27,28,29,30,31],[22,26,27,28,29,30,31],[20,21,26,27,28,29,30,31],[26,27,28,29,30,31],[26,27,28,29,30,31],[26,27,28,29,30,31],[20,21,22,23,24,25,28],[20,21,22,23,24,25,28],[20,21,22,23,24,25,26,27],[20,21,22,23,24,25],[20,21,22,23,24,25],[20,21,22,23,24,25],[],[],[36,40,41,42,43,44,45],[36,40,41,42,43,44,45],[34,35,40,41,42,43,44,45],[40,41,42,43,44,45],[40,41,42,43,44,45],[40,41,42,43,44,45],[34,35,36,37,38,39,42],[34,35,36,37,38,39,42],[34,35,36,37,38,39,40,41],[34,35,36,37,38,39],[34,35,36,37,38,39],[34,35,36,37,38,39],[],[],[]]) k2 rfl (by kernel_rfl) (by kernel_rfl) rfl ?_
 refine walk ?_
 refine a2c (d7s (n:=n) (by exact hok) ((q2.ext x2).ext (Ext.more (Ext.refl _) k2 29)) ((q2'.ext x2).ext (Ext.more (Ext.refl _) k2 29)) (pb b (List.mem_of_getElem? hb0)) (pc b' (List.mem_of_getElem? hb0'))) rfl rfl rfl rfl rfl rfl ?_
 rintro _ h3 ⟨rfl,x3⟩
 have n3:h2.next+29≤h3.next:=x3.nx
 have x23:Ext h2 h3:=(Ext.more (Ext.refl _) k2 29).trans x3
 by_cases d:b.2=b'.2
 ·rw[decide_eq_true d]
  have eb:b=b':=Prod.ext cn d
  refine walk ?_
  exact next (i+1) (by omega) (by exact hsub) ⟨by omega,x2.trans x23,by omega,(x23.old _ (by omega)).trans g1,(x23.old _ (by omega)).trans g2,b7f hb0 hb0' st eb⟩
 ·rw[decide_eq_false d,decide_eq_false (d1c hb0 hb0' (fun e=>d (by rw[e])))]
  refine walk ?_
  exact a0d (by exact hres) ⟨rfl,x2.trans x23⟩
set_option maxRecDepth 10000
set_option maxHeartbeats 4000000
theorem e7t {n:Nat}(hn:8<n){z:Int}{img:List UInt8}{m:Nat}{h:a0a}(hk:h.ok) (hi:img.length≤20000) (hm:m<4294967296):a0l (TV n) 21 [.int .i64 z,.str img,.int .u32 m] h (fun v h'=>Ext h h'∧match a2t z img m [] with
  |none=>v=.tuple [.nilslice,.nilslice,.int .i64 4]
  |some t=>∃ w pv out,v=.tuple [w,pv,.int .i64 0]∧Ls Pr.cs 2 h' w t.out∧LsN h' pv out∧b3z t.pg out):=by
 refine a0r (a1x rfl rfl) rfl rfl ?_
 have f0:a4d (pages z img) ([]:List Nat):=⟨.nil,fun q hq=>by cases hq⟩
 obtain⟨A,eA⟩:∃ A,A=h.alloc (.cells 97 [.int .i64 z,.str img,.nilslice,.int .i64 (0:Nat),.bool false,.nilslice] true):=⟨_,rfl⟩
 have nA:A.next=h.next+1:=by rw[eA]; rfl
 have xA:Ext h A:=by rw[eA]; exact .alloc _ _
 have kA:=xA.ok hk
 have iA:RdW z img h.next (fun _=>False) (fun _=>False) (fun _=>False) .nilslice .nilslice ⟨[],0,[]⟩ false A:=⟨by rw[eA]; exact a0s _ _,by omega,fun q=>q,fun c q=>q.elim,fun c q=>q,fun c q=>q,fun c q=>q.elim,.nil,.nil⟩
 refine walk ?_
 refine GJ.gen [(1,.str img),(2,.int .u32 m),(9,.ptr h.next 0),(14,.int .u32 m),(15,.bool (decide ((m:Int)≠0)))] (fun g=>A=g) (by exact hsub) eA ?_
 rintro _ rfl
 clear eA
 refine a5j (ι:=(Nat→Prop)×Rs×Bool) (fun _=>[(9,.ptr h.next 0)]) (fun x g=>g.ok∧RdI z img h.next x.1 x.2.1 x.2.2 g∧RdT h.next (fun _=>False) x.1 A g∧match a2t z img m [] with
   |some t=>x.2.2=false∧x.2.1=t
   |none=>x.2.2=true) ?_ ?_
 ·intro k' join
  by_cases r0:(m:Int)=0
  ·have et:a2t z img m []=some ⟨[],0,[]⟩:=by unfold a2t; rw[if_pos (by omega)]
   refine walk ?_
   refine join ((fun _=>False),⟨[],0,[]⟩,false) (by exact hsub) ⟨kA,⟨_,_,_,_,iA⟩,.refl _,?_⟩
   rw[et]
   exact⟨rfl,rfl⟩
  ·have et:a2t z img m []=a6x z img 16 m .all ⟨[],0,[]⟩:=by unfold a2t; rw[if_neg (by omega)]
   refine walk ?_
   refine a0c (d6p (n:=n) (by omega) hi 16 (m:=m) (d:=1) (b:=.all) kA ⟨_,_,_,_,iA⟩ (fun _=>⟨f0,Nat.zero_le _⟩) (Nat.zero_le _) rfl hm) rfl rfl rfl rfl ?_
   rintro _ h5 ⟨rfl,S5,s5,b5,i5,t5,q5⟩
   refine walk ?_
   refine join (S5,s5,b5) (by exact hsub) ⟨t5.ok kA,i5,t5,?_⟩
   rw[et]
   exact q5
 rintro⟨S5,s5,b5⟩ h5 ⟨k5,⟨Su5,Sw5,u5,w5,i5⟩,t5,q5⟩
 dsimp only at i5 t5 q5 ⊢
 have n5:=t5.nx
 have g5R:=i5.g
 have rl5:=i5.rl
 have x5:Ext h h5:=⟨by omega,fun c hc=>(t5.old c (by omega) (by omega) (fun q=>q)).trans (xA.old c hc),fun _=>k5⟩
 cases b5 with
 |true =>
  have et:a2t z img m []=none:=by
   cases e:a2t z img m [] with
   |none=>rfl
   |some t=>rw[e] at q5; cases q5.1
  rw[et]
  refine walk ?_
  exact a0e (by exact hres) ⟨by exact a0g,rfl⟩
 |false =>
 obtain⟨t,et,es5⟩:∃ t,a2t z img m []=some t∧s5=t:=by
  cases e:a2t z img m [] with
  |none=>rw[e] at q5; cases q5
  |some t=>rw[e] at q5; exact⟨t,rfl,q5.2⟩
 subst es5
 rw[et]
 obtain⟨f5,-,-⟩:=a7u f0 et
 have fl:=f5.len
 have pn:=a6w (z:=z) hi
 have lw5:=i5.ow.ls.len
 refine walk ?_
 refine a0b (q:=12) (ms:=[0,1,3,7,0,16,48,112,240,511,1023,2047]) (hl:=[[28,29,30,31,32],[28,29,30,31,32],[28,29,30,31,32],[28,29,30,31,32],[24,25,26,27],[24,25,26,27],[24,25,26,27],[24,25,26,27],[24,25,26,27],[],[],[]]) hok rfl (by kernel_rfl) (by kernel_rfl) rfl ?_
 refine walk ?_
 refine a2c (c5q (pg:=s5.pg) (by exact hok) (i5.ou.ls.ext (by exact a0g)) (by omega)) rfl rfl rfl rfl rfl rfl ?_
 rintro pv h6 ⟨x6,out,oo,so⟩
 have x56:Ext h5 h6:=Ext.trans (Ext.more (Ext.refl h5) k5 12) x6
 refine walk ?_
 exact a0e (by exact hres) ⟨by exact x5.trans x56,w5,pv,out,rfl,i5.ow.ls.ext x56,oo.sl',so⟩
theorem c6o {bs:List (List UInt8×List Pr)}{nm key:List UInt8}{i:Nat}{b:List UInt8×List Pr}(hb:bs[i]?=some b) (hn:∀ x∈a4p (bs.take i),b1t nm key x=false) (hb2:∀ p∈b.2,b1t nm key (b.1,p)=false):∀ x∈a4p (bs.take (i+1)),b1t nm key x=false:=by
 intro x hx
 rw[List.take_add_one,hb] at hx
 have hx:x∈a4p (bs.take i++[b]):=hx
 rw[c5w] at hx
 rcases List.mem_append.1 hx with q|q
 ·exact hn x q
 ·obtain⟨p,hp,rfl⟩:=List.mem_map.1 q
  exact hb2 p hp
theorem e0c {n:Nat}(hn:0<n){nm key:List UInt8}{v:AV}{bs:List (List UInt8×List Pr)}{h:a0a}(hk:h.ok) (dl:a6c h v bs) (hb:bs.length≤1000) (hp:∀ b∈bs,b.2.length≤1000000):(TV n).sm 23 [.agg [v],.str nm,.str key] h=some (e1p (getD bs nm key),h):=by
 refine a6l hn (fun h=>a6c h v bs∧h.ok) rfl (by unfold e1p; split<;>rfl) ⟨dl,hk⟩ (fun hp=>⟨dl.any (by simp[AV.a0z,AV.plain] at hp; exact hp),a2e⟩) ?_
 clear dl hk h
 rintro n hn h ⟨dl,hk⟩
 obtain⟨ol,d1,d2,d3⟩:=dl
 have e1:=d1.len
 have n1:=d1.ns
 rw[d2] at e1
 refine a0u rfl rfl ?_
 refine walk ?_
 refine a0k (ι:=Nat) (fun i=>bs.length-i) (fun i=>[(1,.str nm),(2,.str key),(3,.ptr h.next 0),(8,.int .i64 (i:Nat))]) (fun i h2=>i≤bs.length∧Ext h h2∧h2.get h.next=some (.cells 27 [v] true)∧∀ x∈a4p (bs.take i),b1t nm key x=false) 0 (by exact hsub) ⟨Nat.zero_le _,by exact a0g,by exact a0j,fun x hx=>by simp[a4p] at hx⟩ ?_
 rintro i h2 ⟨hi,x2,g2,st⟩ next
 have k2:=x2.ok hk
 by_cases c:i<bs.length
 case neg =>
  rw[List.take_of_length_le (by omega)] at st
  rw[d6s st]
  refine walk ?_
  exact a0e (by exact hres) ⟨rfl,by exact a0g⟩
 obtain⟨y,hy⟩:∃ y,ol[i]?=some y:=⟨_,List.getElem?_eq_getElem (by omega)⟩
 obtain⟨bk,hb0⟩:∃ b,bs[i]?=some b:=⟨_,List.getElem?_eq_getElem c⟩
 obtain⟨q1,q2⟩:=d3 i y bk hy hb0
 obtain⟨B,p,e,all,rw',hbB,hg,hpl,he,a1⟩:=(d1.ext x2).at Nm.len hy
 have he:(all.drop p).take 2=[.str y.1,y.2]:=he
 rw[q1] at he
 by_cases cm:bk.1=nm
 case neg =>
  refine walk ?_
  refine next (i+1) (by omega) (by exact hsub) ⟨by omega,by exact a0g,by exact a0j,c6o hb0 st fun p _=>by simp[b1t,cm]⟩
 have lw2:=q2.len
 have nw2:=q2.ns
 have bm:=hp bk (List.mem_of_getElem? hb0)
 refine walk ?_
 refine a0k (ι:=Nat) (fun j=>bk.2.length-j) (fun j=>[(1,.str nm),(2,.str key),(3,.ptr h.next 0),(8,.int .i64 (i:Nat)),(9,.int .i64 (j:Nat))]) (fun j h4=>j≤bk.2.length∧Ext h2 h4∧∀ p∈bk.2.take j,b1t nm key (bk.1,p)=false) 0 (by exact hsub) ⟨Nat.zero_le _,by exact a0g,fun p hp=>by simp at hp⟩ ?_
 clear a1 hbB hg hpl he
 rintro j h4 ⟨hj,x4,sj⟩ next4
 have x24:=x2.trans x4
 have k4:=x4.ok k2
 obtain⟨B,p,e,all,rw',hbB,hg,hpl,he,a1⟩:=(d1.ext x24).at Nm.len hy
 have he:(all.drop p).take 2=[.str y.1,y.2]:=he
 have g4:=(x4.old h.next (by have:=x2.nx; exact Nat.lt_of_lt_of_le (k2.lt g2) (Nat.le_refl _))).trans g2
 by_cases c4:j<bk.2.length
 case neg =>
  rw[List.take_of_length_le (by omega)] at sj
  refine walk ?_
  refine next (i+1) (by omega) (by exact hsub) ⟨by omega,by exact a0g,by exact a0j,c6o hb0 st sj⟩
 obtain⟨u,hu⟩:∃ u,bk.2[j]?=some u:=⟨_,List.getElem?_eq_getElem c4⟩
 obtain⟨B2,p2,e2',all2,rw2,hb2,hg2,hpl2,he2,a2⟩:=(q2.ext x24).at Pr.csl hu
 have he2:(all2.drop p2).take 2=[.str u.key,.str u.val]:=he2
 have et:bk.2.take (j+1)=bk.2.take j++[u]:=by rw[List.take_add_one,hu]; rfl
 by_cases cq:u.key=key
 ·have pre:=d1a hb0 (j+1)
  rw[et,List.map_append,← List.append_assoc] at pre
  have hg':getD bs nm key=some u.val:=d5v (acc:=a4p (bs.take i)++(bk.2.take j).map (bk.1,·)) (x:=(bk.1,u)) pre (by simp[b1t,cm,cq]) (fun y hy=>by
   rcases List.mem_append.1 hy with q|q
   ·exact st y q
   ·obtain⟨p,hp,rfl⟩:=List.mem_map.1 q
    exact sj p hp)
  rw[hg']
  refine walk ?_
  exact a0e (by exact hres) ⟨rfl,by exact a0g⟩
 ·refine walk ?_
  refine next4 (j+1) (by omega) (by exact hsub) ⟨by omega,by exact a0g,fun p hp=>?_⟩
  rw[et] at hp
  rcases List.mem_append.1 hp with q|q
  ·exact sj p q
  ·obtain rfl:=List.mem_singleton.1 q
   simp[b1t,cq]
end Go.Proofs.YtmnhbehmjaibgaaGreat
