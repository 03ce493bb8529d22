/- What the functions of this part answer at any input, told by the rules over the evaluator. Conditions: those that each theorem states. -/
import Derived.Test.YtmnhbehmjaibgaaGreatDsm
import Derived.Test.YtmnhbehmjaibgaaGreatGof
import Derived.Test.YtmnhbehmjaibgaaGreatRf1
set_option linter.unusedVariables false
set_option linter.unusedSimpArgs false
open Go Ev
namespace Go.Proofs.YtmnhbehmjaibgaaGreat
set_option maxRecDepth 10000
set_option maxHeartbeats 4000000
theorem c0r {z:Int}{img:List UInt8}:∀ (l:List Bk) (pg:List Nat) (out:List (List UInt8×List Pr)) (pg2:List Nat) (bs:List (List UInt8×List Pr)),a3s z img pg out l=some (pg2,bs)→a4d (pages z img) pg→(∀ b∈out,b.2.length≤1400*pages z img)→a4d (pages z img) pg2∧bs.length=out.length+l.length∧∀ b∈bs,b.2.length≤1400*pages z img
 |[],pg,out,pg2,bs,e,f,h=>by cases e; exact⟨f,by simp,h⟩
 |b::l,pg,out,pg2,bs,e,f,h=>by
  unfold a3s at e
  cases e1:a2t z img b.root pg with
  |none=>rw[e1] at e; cases e
  |some s =>
   rw[e1] at e
   have e:(if(s.out.length:Int)=b.keys then a3s z img s.pg (out++[(b.name,s.out)]) l else none)=some (pg2,bs):=e
   split at e
   ·obtain⟨g,-,o⟩:=a7u f e1
    have gl:=g.len
    obtain⟨a,c,d⟩:=c0r l s.pg _ pg2 bs e g fun x hx=>by
     rcases List.mem_append.1 hx with q|q
     ·exact h x q
     ·obtain rfl:=List.mem_singleton.1 q
      have:=Nat.mul_le_mul_left 1400 gl
      dsimp only
      omega
    exact⟨a,by rw[c]; simp; omega,d⟩
   ·cases e
theorem e6u {z:Int}{img:List UInt8}{n:Nat}{pg:List Nat}{bs:List (List UInt8×List Pr)}(e:b0g z img n=some (pg,bs)):a4d (pages z img) pg∧bs.length≤1000∧∀ b∈bs,b.2.length≤1400*pages z img:=by
 unfold b0g at e
 split at e
 ·cases e; exact⟨⟨.nil,fun q hq=>by cases hq⟩,by simp,by simp⟩
 ·split at e
  ·cases e
  ·rename_i c2
   cases el:ofC (a2l z img n 2).1 with
   |none=>rw[el] at e; cases e
   |some l =>
    rw[el] at e
    have r1:(a1a z img n).2=0:=by
     have c3:(a2l z img n 2).2≠false:=fun q=>c2 (.inr q)
     unfold a2l at c3
     by_cases q:(a1a z img n).2=0∧(a1a z img n).1.kind=2∧a2f (a1a z img n).1
     ·exact q.1
     ·rw[if_neg q] at c3; exact absurd rfl c3
    have lt:=(a6e r1).2
    have f0:a4d (pages z img) [n]:=⟨by simp,fun q hq=>by obtain rfl:=List.mem_singleton.1 hq; exact lt⟩
    obtain⟨a,b,c⟩:=c0r l [n] [] pg bs e f0 (by simp)
    have:=(c6v el).1
    simp at b
    exact⟨a,by omega,c⟩
theorem d0s {l a b:List Nat}(ha:a8t l a) (hb:a8t l b):a=b:=(ha.1.trans hb.1.symm).eq_of_pairwise (le:=(· ≤ ·)) (fun a b _ _ h1 h2=>Nat.le_antisymm h1 h2) ha.2 hb.2
noncomputable def b3f (z:Int) (img:List UInt8) (m:Nat):List Pr×List Nat×Int:=match a2t z img m [] with
 |none=>([],[],4)
 |some t=>(t.out,t.pg,0)
noncomputable def c0y (z:Int) (img:List UInt8) (m:Nat):List (List UInt8×List Pr)×List Nat×Int:=match b0g z img m with
 |none=>([],[],4)
 |some (pg,bs)=>(bs,pg,0)
def f0a (t:List Pr×List Nat×Int) (h:a0a) (v:AV) (h':a0a):Prop:=Ext h h'∧∃ w pv out,v=.tuple [w,pv,.int .i64 t.2.2]∧Ls Pr.cs 2 h' w t.1∧Ls a2k 1 h' pv out∧a8t t.2.1 out
def f3b (t:List (List UInt8×List Pr)×List Nat×Int) (h:a0a) (v:AV) (h':a0a):Prop:=Ext h h'∧∃ w pv out,v=.tuple [.agg [w],pv,.int .i64 t.2.2]∧a6c h' w t.1∧Ls a2k 1 h' pv out∧a8t t.2.1 out
theorem b8n:a8t ([]:List Nat) []:=⟨.nil,.nil⟩
theorem d7d {h:a0a}:a6c h .nilslice []:=⟨[],⟨rfl,rfl⟩,rfl,fun j x b q=>by simp at q⟩
section
variable {n:Nat}(hn:8<n){z:Int}{img:List UInt8}{m:Nat}{h:a0a}(hk:h.ok) (hi:img.length≤5000) (hm:m<4294967296)
include hn hk hi hm
theorem f0s:a0l (TV n) 20 [.int .i64 z,.str img,.int .u32 m] h (f0a (b3f z img m) h):=by
 refine a0l.mono (e6e (n:=n) hn hk hi hm) ?_
 rintro v h' ⟨x,c⟩
 refine⟨x,?_⟩
 unfold b3f
 cases e:a2t z img m [] with
 |none=>rw[e] at c; subst c; exact⟨_,_,[],rfl,⟨rfl,rfl⟩,⟨rfl,rfl⟩,b8n⟩
 |some t=>rw[e] at c; obtain⟨w,pv,out,rfl,a,b,s⟩:=c; exact⟨w,pv,out,rfl,a.ls,b.ls,s⟩
theorem e5l:a0l (TV n) 21 [.int .i64 z,.str img,.int .u32 m] h (f0a (b3f z img m) h):=by
 refine a0l.mono (e7t (n:=n) hn hk (by omega) hm) ?_
 rintro v h' ⟨x,c⟩
 refine⟨x,?_⟩
 unfold b3f
 cases e:a2t z img m [] with
 |none=>rw[e] at c; subst c; exact⟨_,_,[],rfl,⟨rfl,rfl⟩,⟨rfl,rfl⟩,b8n⟩
 |some t=>rw[e] at c; obtain⟨w,pv,out,rfl,a,b,s⟩:=c; exact⟨w,pv,out,rfl,a,b,s⟩
theorem f6c:a0l (TV n) 9 [.int .i64 z,.str img,.int .u32 m] h (f3b (c0y z img m) h):=by
 refine a0l.mono (f5u (n:=n) hn hk hi hm) ?_
 rintro v h' ⟨x,c⟩
 refine⟨x,?_⟩
 unfold c0y
 cases e:b0g z img m with
 |none=>rw[e] at c; subst c; exact⟨_,_,[],rfl,d7d,⟨rfl,rfl⟩,b8n⟩
 |some t=>obtain⟨pg,bs⟩:=t; rw[e] at c; obtain⟨w,pv,out,rfl,a,b,s⟩:=c; exact⟨w,pv,out,rfl,a.den,b.ls,s⟩
theorem f4d:a0l (TV n) 22 [.int .i64 z,.str img,.int .u32 m] h (f3b (c0y z img m) h):=by
 refine a0l.mono (f5c (n:=n) hn hk (by omega) hm) ?_
 rintro v h' ⟨x,c⟩
 refine⟨x,?_⟩
 unfold c0y
 cases e:b0g z img m with
 |none=>rw[e] at c; subst c; exact⟨_,_,[],rfl,d7d,⟨rfl,rfl⟩,b8n⟩
 |some t=>obtain⟨pg,bs⟩:=t; rw[e] at c; obtain⟨w,pv,out,rfl,a,b,s⟩:=c; exact⟨w,pv,out,rfl,a,b,s⟩
end
theorem e0h {z:Int}{img:List UInt8}{m:Nat}(hi:img.length≤5000):(b3f z img m).1.length≤1000000∧(b3f z img m).2.1.length≤1000000:=by
 have p157:=a6w (z:=z) (img:=img) (by omega)
 unfold b3f
 cases e:a2t z img m [] with
 |none=>simp
 |some t =>
  obtain⟨f,-,o⟩:=a7u ⟨.nil,fun q hq=>by cases hq⟩ e
  have:=f.len
  dsimp only
  omega
theorem e2m {z:Int}{img:List UInt8}{m:Nat}(hi:img.length≤5000):(c0y z img m).1.length≤1000∧(c0y z img m).2.1.length≤1000000∧∀ b∈(c0y z img m).1,b.2.length≤1000000:=by
 have p157:=a6w (z:=z) (img:=img) (by omega)
 unfold c0y
 cases e:b0g z img m with
 |none=>simp
 |some t =>
  obtain⟨pg,bs⟩:=t
  obtain⟨f,a,b⟩:=e6u e
  have:=f.len
  exact⟨a,by dsimp only; omega,fun x hx=>by have:=b x hx; omega⟩
set_option maxRecDepth 10000
set_option maxHeartbeats 4000000
theorem d5f {n:Nat}(hn:9<n){z:Int}{img:List UInt8}{m:Nat}{kd:Int}{v:AV}{bs:List (List UInt8×List Pr)}{nm key:List UInt8}{h:a0a}(hk:h.ok) (hi:img.length<9223372036854775808) (hm:m<4294967296) (dl:a6c h v bs) (fl:bs.length<9223372036854775808) (fb:∀ b∈bs,b.1.length<9223372036854775808∧b.2.length<9223372036854775808∧∀ p∈b.2,p.key.length<9223372036854775808∧p.val.length<9223372036854775808) (hnm:nm.length<9223372036854775808) (hkey:key.length<9223372036854775808):a0l (TV n) 5 [.int .i64 z,.str img,.int .u32 m,.int .i64 kd,.agg [v],.str nm,.str key] h (fun r h'=>r=.bool true∧Ext h h'):=by
 refine a0r (a1x rfl rfl) rfl rfl ?_
 have w1:∀ h,(TV n).sm 7 [] h=some (.bool true,h):=fun h=>b_w rfl rfl
 have w2:=e4w (n:=n) (by omega) img hi
 have vo:v.cells=[v]∧v.one=true:=by
  obtain⟨l,a,_⟩:=dl
  exact⟨Sl.cells a,Sl.one a⟩
 obtain⟨vc,vo⟩:=vo
 by_cases c1:img.length≤5000
 case neg =>
  rw[decide_eq_false c1] at w2
  refine walk ?_
  exact a0d (by exact hres) ⟨rfl,by exact a0g⟩
 rw[decide_eq_true c1] at w2
 have xX:Ext h (h.alloc (.cells 27 [v] true)):=.alloc _ _
 have wl:=d2v (n:=n) (by omega) (xX.ok hk) (dl.ext xX) fl fb
 cases cl:c2w bs
 case false =>
  rw[cl] at wl
  refine walk ?_
  refine a2y wl rfl rfl rfl rfl ?_
  refine walk ?_
  exact a0d (by exact hres) ⟨rfl,by exact a0g⟩
 have lt:=d9v cl
 rw[cl] at wl
 refine walk ?_
 refine a2y wl rfl rfl rfl rfl ?_
 refine OJ.gen [(0,.int .i64 z),(1,.str img),(2,.int .u32 m),(3,.int .i64 kd),(5,.str nm),(6,.str key),(11,.ptr h.next 0),(40,.bool false),(42,.bool true)] (fun g=>Ext h g∧h.next<g.next∧g.get h.next=some (.cells 27 [v] true)) (by exact hsub) ⟨xX,Nat.lt_succ_self _,a0s _ _⟩ ?_
 clear wl xX
 rintro A ⟨xA,lA,gA⟩
 by_cases c2:(nm.length:Int)>100
 ·refine walk ?_
  exact a0d (by exact hres) ⟨rfl,by exact a0g⟩
 by_cases c3:(key.length:Int)>100
 ·refine walk ?_
  exact a0d (by exact hres) ⟨rfl,by exact a0g⟩
 have kA:=xA.ok hk
 have w3:=d5t (n:=n) (by omega) z img m kd (by omega) hm
 have w4:=d1v (n:=n) (by omega) z img m kd (by omega) hm
 generalize a2l z img m kd=r at w3 w4
 obtain⟨p,rb⟩:=r
 dsimp only at w3 w4
 refine walk ?_
 refine OJ.gen [(0,.int .i64 z),(1,.str img),(2,.int .u32 m),(5,.str nm),(6,.str key),(11,.ptr h.next 0),(15,.ptr A.next 0),(16,.bool rb),(17,.ptr (A.next+1) 0),(18,.bool rb),(72,.int .i64 z),(73,.str img),(74,.int .u32 m)] (fun g=>Ext A g∧A.next+2≤g.next∧g.get A.next=some (.cells 52 p.cs true)∧g.get (A.next+1)=some (.cells 52 p.cs true)) (by exact hsub) ⟨by exact a0g,Nat.le_refl _,by exact a0j,by exact a0j⟩ ?_
 clear w1 w2 w3 w4
 rintro B ⟨xB,lB,b1,b2⟩
 have kB:=xB.ok kA
 have gB:=(xB.old _ lA).trans gA
 refine a0c (f0s (n:=n) (by omega) kB c1 hm) rfl rfl rfl rfl ?_
 rintro _ h1 ⟨x1,t1,pv1,out1,rfl,lt1,lp1,s1⟩
 have k1:=x1.ok kB
 refine walk ?_
 refine a0c (e5l (n:=n) (by omega) k1 c1 hm) rfl rfl rfl rfl ?_
 rintro _ h2 ⟨x2,t2,pv2,out2,rfl,lt2,lp2,s2⟩
 have k2:=x2.ok k1
 refine walk ?_
 refine a0c (f6c (n:=n) (by omega) k2 c1 hm) rfl rfl rfl rfl ?_
 rintro _ h3 ⟨x3,d3,pv3,out3,rfl,dl3,lp3,s3⟩
 have k3:=x3.ok k2
 have o3:d3.cells=[d3]∧d3.one=true:=by
  obtain⟨l,a,_⟩:=dl3
  exact⟨Sl.cells a,Sl.one a⟩
 obtain⟨vc3,vo3⟩:=o3
 refine walk ?_
 refine a5h rfl rfl (a5b (n:=1) (cs:=[.nilslice]) (vs:=[d3]) rfl rfl rfl rfl rfl (by simp[vo3]) (a0s _ _) (by decide)) ?_
 refine OJ.gen [(0,.int .i64 z),(1,.str img),(2,.int .u32 m),(5,.str nm),(6,.str key),(11,.ptr h.next 0),(15,.ptr A.next 0),(16,.bool rb),(17,.ptr (A.next+1) 0),(18,.bool rb),(19,t1),(20,pv1),(21,.int .i64 (b3f z img m).2.2),(22,t2),(23,pv2),(24,.int .i64 (b3f z img m).2.2),(25,.ptr h3.next 0),(93,pv3),(94,.int .i64 (c0y z img m).2.2)] (fun g=>Ext h3 g∧h3.next<g.next∧g.get h3.next=some (.cells 27 [d3] true)) (by exact hsub) ⟨by exact a0g,Nat.lt_succ_self _,a0a.gs _ _ _⟩ ?_
 rintro Y ⟨xY,lY,gY⟩
 have kY:=xY.ok k3
 refine walk ?_
 refine a0c (f4d (n:=n) (by omega) kY c1 hm) rfl rfl rfl rfl ?_
 rintro _ h4 ⟨x4,d4,pv4,out4,rfl,dl4,lp4,s4⟩
 have k4:=x4.ok kY
 have o4:d4.cells=[d4]∧d4.one=true:=by
  obtain⟨l,a,_⟩:=dl4
  exact⟨Sl.cells a,Sl.one a⟩
 obtain⟨vc4,vo4⟩:=o4
 refine walk ?_
 refine a5h rfl rfl (a5b (n:=1) (cs:=[.nilslice]) (vs:=[d4]) rfl rfl rfl rfl rfl (by simp[vo4]) (a0s _ _) (by decide)) ?_
 refine OJ.gen [(5,.str nm),(6,.str key),(11,.ptr h.next 0),(15,.ptr A.next 0),(16,.bool rb),(17,.ptr (A.next+1) 0),(18,.bool rb),(19,t1),(20,pv1),(21,.int .i64 (b3f z img m).2.2),(22,t2),(23,pv2),(24,.int .i64 (b3f z img m).2.2),(25,.ptr h3.next 0),(26,pv3),(27,.int .i64 (c0y z img m).2.2),(28,.ptr h4.next 0),(101,pv4),(102,.int .i64 (c0y z img m).2.2)] (fun g=>Ext h4 g∧h4.next<g.next∧g.get h4.next=some (.cells 27 [d4] true)) (by exact hsub) ⟨by exact a0g,Nat.lt_succ_self _,a0a.gs _ _ _⟩ ?_
 rintro G ⟨xG,lG,gG⟩
 have kG:=xG.ok k4
 have e3:Ext h3 G:=xY.trans (x4.trans xG)
 have e2:Ext h2 G:=x3.trans e3
 have e1:Ext h1 G:=x2.trans e2
 have eB:Ext B G:=x1.trans e1
 have eh:Ext h G:=xA.trans (xB.trans eB)
 have nB:=eB.nx
 have u1:=(eB.old A.next (by omega)).trans b1
 have u2:=(eB.old (A.next+1) (by omega)).trans b2
 have u0:=(eB.old h.next (by have:=xB.nx; omega)).trans gB
 have u3:G.get h3.next=some (.cells 27 [d3] true):=((x4.trans xG).old _ lY).trans gY
 have l0:h.next<G.next:=by have:=xB.nx; omega
 have l3:h3.next<G.next:=by have:=(x4.trans xG).nx; omega
 obtain⟨tf1,tf2⟩:=e0h (z:=z) (m:=m) c1
 obtain⟨df1,df2,df3⟩:=e2m (z:=z) (m:=m) c1
 generalize b3f z img m=TT at lt1 lp1 s1 lt2 lp2 s2 tf1 tf2
 generalize c0y z img m=DD at dl3 lp3 s3 dl4 lp4 s4 df1 df2 df3
 obtain rfl:=d0s s1 s2
 obtain rfl:=d0s s3 s4
 have lo1:out1.length≤1000000:=by have:=s1.1.length_eq; omega
 have lo3:out3.length≤1000000:=by have:=s3.1.length_eq; omega
 replace lt1:=lt1.ext e1
 replace lp1:=lp1.ext e1
 replace lt2:=lt2.ext e2
 replace lp2:=lp2.ext e2
 replace dl3:=dl3.ext e3
 replace lp3:=lp3.ext e3
 replace dl4:=dl4.ext xG
 replace lp4:=lp4.ext xG
 replace dl:=dl.ext eh
 clear s1 s2 s3 s4 e1 e2 e3 eB x1 x2 x3 x4 xY kY k1 k2 k3 k4 kB gB gY b1 b2 gA
 have lbs:bs.length≤10:=lt.len
 have lps:∀ b∈bs,b.2.length≤80:=fun b hb=>(lt.nm b hb).2.1
 have pb:∀ b∈bs,b.2.length≤1000000:=fun b hb=>by have:=lps b hb; omega
 have pb2:∀ b∈bs,b.2.length≤100000:=fun b hb=>by have:=lps b hb; omega
 have laD:(a4p bs).length≤400000:=by
  have:(a4p bs).length=(bs.map (·.2.length)).sum:=by
   clear lps lbs pb pb2 dl lt fb fl cl
   induction bs with
   |nil=>rfl
   |cons b bs ih =>
    show(a4p ([b]++bs)).length=_
    unfold a4p at ih ⊢
    rw[List.flatMap_append,List.length_append,ih]
    simp
  have:=lt.all
  omega
 obtain⟨rr,hrr⟩:∃ rr,rr=getD bs nm key:=⟨_,rfl⟩
 have gv:e1p rr=.tuple [.str (rr.getD []),.bool rr.isSome]:=by cases rr<;>rfl
 have wg:(TV n).sm 12 [.agg [v],.str nm,.str key] G=some (.tuple [.str (rr.getD []),.bool rr.isSome],G):=by
  obtain⟨ol,d1,d2,d3⟩:=dl
  rw[f1u (n:=n) (by omega) kG ⟨d1,d2,d3⟩ laD (by omega) pb,← hrr,gv]
 have wr:(TV n).sm 23 [.agg [v],.str nm,.str key] G=some (.tuple [.str (rr.getD []),.bool rr.isSome],G):=by
  rw[e0c (n:=n) (by omega) kG dl (by omega) pb,← hrr,gv]
 refine walk ?_
 refine a2y wg rfl rfl rfl rfl ?_
 refine walk ?_
 refine a2y wr rfl rfl rfl rfl ?_
 clear wg wr gv hrr
 refine walk ?_
 have xM:Ext G (a0a.mk G.t (G.next+72)):=Ext.more (Ext.refl _) kG 72
 have kM:(a0a.mk G.t (G.next+72)).ok:=a0a.a2g kG 72
 have a1:=d0l (n:=n) (by omega) kM (lt1.ext xM) (lt2.ext xM) tf1
 have a2:=c8z (n:=n) (by omega) (lp1.ext xM) (lp2.ext xM) kM lo1
 have a3:=c5f (n:=n) (by omega) kM (dl3.ext xM) (dl4.ext xM) df1 df3
 have a4:=c8z (n:=n) (by omega) (lp3.ext xM) (lp4.ext xM) kM lo3
 have ce:TT.2.2=TT.2.2:=rfl
 have cd:DD.2.2=DD.2.2:=rfl
 have cr:rr.getD []=rr.getD []:=rfl
 have bb:∀ b:Bool,(b==b)=true:=fun b=>by cases b<;>rfl
 refine a0b (q:=72) (ms:=[0,0,3,7,15,15,63,127,255,511,511,2047,4095,8191,16383,16383,65535,131071,262143,524287,524287,2097151,4194303,8388607,16777215,16777215,67108863,134217727,268435455,536870911,536870911,2147483647,4294967295,8589934591,17179869183,17179869183,68719476735,137438953471,274877906943,549755813887,549755813887,2199023255551,4398046511103,8796093022207,17592186044415,17592186044415,70368744177663,140737488355327,281474976710655,562949953421311,562949953421311,2251799813685247,562949953421311,562949953421311,18014398509481983,36028797018963967,72057594037927935,144115188075855871,288230376151711743,288230376151711743,1152921504606846975,288230376151711743,288230376151711743,9223372036854775807,18446744073709551615,36893488147419103231,73786976294838206463,147573952589676412927,147573952589676412927,590295810358705651711,1180591620717411303423,2361183241434822606847]) (hl:=[[118],[117],[],[],[122],[121],[],[],[],[127],[126],[],[],[],[132],[131],[],[],[],[137],[136],[],[],[],[142],[141],[],[],[],[147],[146],[],[],[],[152],[151],[],[],[],[157],[156],[],[],[],[162],[161],[],[],[],[167,169,170],[166,169,170],[169,170],[166,167,168,170],[166,167,168,169],[],[],[],[],[176,178,179],[175,178,179],[178,179],[175,176,177,179],[175,176,177,178],[],[],[],[],[185],[184],[],[],[]]) kG rfl (by kernel_rfl) (by kernel_rfl) rfl ?_
 refine walk ?_
 refine a2z rfl rfl rfl rfl (a3k rfl rfl rfl (e4a (a5o p p) rfl) rfl) ?_
 rw[show decide (p=p)=true from decide_eq_true rfl]
 refine walk ?_
 rw[bb rb]
 refine walk ?_
 refine c4n a1 rfl rfl rfl rfl rfl rfl ?_
 refine walk ?_
 refine c4n a2 rfl rfl rfl rfl rfl rfl ?_
 refine walk ?_
 refine c4n a3 rfl rfl rfl rfl rfl rfl ?_
 refine walk ?_
 refine c4n a4 rfl rfl rfl rfl rfl rfl ?_
 refine walk ?_
 rw[bb rr.isSome]
 refine walk ?_
 clear a1 a2 a3 a4
 refine a2c (d9b (n:=n) (nm:=nm) (by exact hok) (dl.ext xM) (by omega) pb2) rfl rfl rfl rfl rfl rfl ?_
 rintro _ h5 ⟨dv5,Sd5,Sp5,nl5,rfl,x5,o5⟩
 have k5:=x5.ok kM
 refine walk ?_
 refine a2c (d4z (n:=n) (nm:=nm) k5 ((dl.ext xM).ext x5) (by omega) pb2) rfl rfl rfl rfl rfl rfl ?_
 rintro _ h6 ⟨dv6,Sd6,Sp6,nl6,rfl,x6,o6⟩
 have k6:=x6.ok k5
 have xG6:Ext G h6:=xM.trans (x5.trans x6)
 have lfl:=List.length_filter_le (fun b:List UInt8×List Pr=>decide (b.1≠nm)) bs
 have pf:∀ b∈bs.filter (fun b=>decide (b.1≠nm)),b.2.length≤1000000:=fun b hb=>pb b (List.mem_filter.1 hb).1
 have a5:=c5f (n:=n) (by omega) k6 (o5.den.ext x6) o6.den (by omega) pf
 have a6:=d6n (n:=n) (by omega) k6 (dl.ext xG6) (dl3.ext xG6) (by omega) (by omega) pb df3
 have a7:=e7z (n:=n) (by omega) k6 (dl.ext xG6) (dl3.ext xG6) (by omega) (by omega) pb df3
 have a8:=d6n (n:=n) (by omega) k6 (dl.ext xG6) (dl.ext xG6) (by omega) (by omega) pb pb
 rw[show decide (bs=bs)=true from decide_eq_true rfl] at a8
 refine walk ?_
 refine c4n a5 rfl rfl rfl rfl rfl rfl ?_
 refine walk ?_
 refine c4n a6 rfl rfl rfl rfl rfl rfl ?_
 refine walk ?_
 refine c4n a7 rfl rfl rfl rfl rfl rfl ?_
 refine walk ?_
 rw[bb (decide (bs=DD.1))]
 refine walk ?_
 refine c4n a8 rfl rfl rfl rfl rfl rfl ?_
 refine walk ?_
 exact a0d (by exact hres) ⟨rfl,eh.trans xG6⟩
end Go.Proofs.YtmnhbehmjaibgaaGreat
