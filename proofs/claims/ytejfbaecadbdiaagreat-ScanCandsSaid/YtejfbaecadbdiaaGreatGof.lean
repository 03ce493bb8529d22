/- What the functions of this part answer at any input, told by the rules over the evaluator. Conditions: those that each theorem states. -/
import Derived.Test.YtejfbaecadbdiaaGreatGon
set_option linter.unusedVariables false
set_option linter.unusedSimpArgs false
open Go Ev
namespace Go.Proofs.YtejfbaecadbdiaaGreat
set_option maxRecDepth 10000
set_option maxHeartbeats 4000000
theorem d4s {q f e:Nat}{tm:Tr AV}{L:List (Nat×AV)}{h:a0a}{F:Func}{vs:List AV}(hs:a0m tm L) (hF:(TV q).fn f=some F) (hr:a2c (TV q) L h F.results.toList=some vs){Q:Res→Prop}(c:Q (.ret (oneOf vs) h)):Wp (TV q) (.leave f tm [.fn (.func 79) [] [.ptr e 0]] none h) Q:=by
 refine b4y rfl rfl rfl rfl ?_
 refine b0d ?_
 refine a7z ?_
 refine b4c rfl rfl rfl rfl rfl ?_
 refine walk ?_
 refine b5f ?_
 exact a1z hs hF hr c
theorem c8q {q f e:Nat}{tm:Tr AV}{L:List (Nat×AV)}{h:a0a}{F:Func}{y:AV}(hs:a0m tm L) (hF:(TV q).fn f=some F) (ge:h.get e=some (.cells 43 [y] true)) (le:e<h.next){Q:Res→Prop}
  (c:∀ h',h.next≤h'.next→(∀ c,c<h.next→c≠e→h'.get c=h.get c)→h'.get e=some (.cells 43 [.int .i64 4] true)→(h.ok→h'.ok)→∃ vs,a2c (TV q) L h' F.results.toList=some vs∧Q (.ret (oneOf vs) h')) :
  Wp (TV q) (.leave f tm [.fn (.func 79) [] [.ptr e 0]] (some (c9f,false)) h) Q:=by
 refine b4y rfl rfl rfl rfl ?_
 refine b0d ?_
 refine a7z ?_
 refine b6r rfl rfl rfl rfl rfl ?_
 refine walk ?_
 refine b5f ?_
 obtain⟨vs,h1,h2⟩:=c (((h.alloc (.cells 183 [] true)).set h.next (.cells 183 [] true)).set e (.cells 43 [.int .i64 4] true)) (by show h.next≤h.next+1; omega) (fun c hc ne=>by have gc:h.get c=h.get c:=rfl; exact a0g) (a0a.gs _ _ _) (fun k=>by exact hok)
 exact a1z hs hF h1 h2
def e2p (lo:Nat) (h:a0a) (v:AV) (bs:List (List UInt8×List Pr)):Prop:=∃ l,a1a Nm.cs 93 2 (lo ≤ ·) h v l∧l.length=bs.length∧∀ (j:Nat) (x:List UInt8×AV) (b:List UInt8×List Pr),l[j]?=some x→bs[j]?=some b→x.1=b.1∧a1a Pr.cs 108 2 (lo ≤ ·) h x.2 b.2
theorem e2p.keep {lo:Nat}{h h':a0a}{v:AV}{bs:List (List UInt8×List Pr)}(d:e2p lo h v bs) (k:∀ c,lo≤c→c<h.next→h'.get c=h.get c) (hn:h.next≤h'.next):e2p lo h' v bs:=by
 obtain⟨l,a,b,c⟩:=d
 exact⟨l,a1u.keep a k hn,b,fun j x y h1 h2=>⟨(c j x y h1 h2).1,a1u.keep (c j x y h1 h2).2 k hn⟩⟩
structure f1f (z:Int) (img:List UInt8) (R M D:Nat) (hB:a0a) (pg:List Nat) (bs:List (List UInt8×List Pr)) (S Sw Sd Sp:Nat→Prop) (w dv:AV) (s:Rs) (nl:List (List UInt8×AV)) (h:a0a):Prop where
 rd:GoW z img R M S Sw w s h
 pg:s.pg=pg
 gD:h.get D=some (.cells 41 [dv] true)
 lD:D<h.next
 od:a1a Nm.cs 93 2 Sd h dv nl
 len:nl.length=bs.length
 at_:∀ (j:Nat) (x:List UInt8×AV) (b:List UInt8×List Pr),nl[j]?=some x→bs[j]?=some b→x.1=b.1∧a1a Pr.cs 108 2 Sp h x.2 b.2
 low:∀ c,Sd c∨Sp c→c<h.next
 sd:∀ c,Sd c→D<c∧¬ Sp c
 sp:∀ c,Sp c→D<c
 old:∀ c,c<D→c≠R→c≠M→h.get c=hB.get c
theorem f5m {n:Nat}(hn:8<n){z:Int}{img:List UInt8}{m:Nat}{h:a0a}(hk:h.ok) (hi:img.length≤5000) (hm:m<4294967296):a0l (TV n) 44 [.int .i64 z,.str img,.int .u32 m] h (fun v h'=>Ext h h'∧match b0l z img m with
  |none=>v=.tuple [.agg [.nilslice],.nilslice,.int .i64 4]
  |some (pg,bs)=>∃ dv pv out,v=.tuple [.agg [dv],pv,.int .i64 0]∧e2p h.next h' dv bs∧a1a a3a 29 1 (h.next ≤ ·) h' pv out∧b9g pg out):=by
 refine a4k (a1x rfl rfl) rfl rfl ?_
 by_cases c0:(m:Int)=0
 ·have e:b0l z img m=some ([],[]):=by unfold b0l; rw[if_pos (by omega)]
  rw[e]
  refine walk ?_
  refine a2x fun tm hs=>?_
  exact a1z (vs:=[.agg [.nilslice],.nilslice,.int .i64 0]) hs rfl (a0x rfl (b0c rfl rfl a0g rfl) (Ev.results_tmp rfl (a0x rfl (a2p rfl rfl a0g) rfl))) ⟨_,_,rfl,by exact a0j,.nilslice,.nilslice,[],rfl,⟨[],.nil,rfl,fun j x b q=>by simp at q⟩,.nil,.refl _,.nil⟩
 have w1:=d5n (n:=n) (by omega) z img m 2 (by omega) hm
 refine walk ?_
 refine c2j rfl rfl rfl rfl ?_
 refine walk ?_
 have ed:b0l z img m=if m<2∨(a1v z img m 2).2=false then none else match ofC (a1v z img m 2).1 with
   |none=>none
   |some l=>a5h z img [m] [] l:=by unfold b0l; rw[if_neg (by omega)]; rfl
 have pr:=a4t z img m
 have rp:(a1v z img m 2).2=true→(a0u z img m).2=0∧(a1v z img m 2).1=(a0u z img m).1∧(a0u z img m).1.kind=2∧a2g (a0u z img m).1:=fun q=>by
  unfold a1v at q ⊢
  by_cases c:(a0u z img m).2=0∧(a0u z img m).1.kind=2∧a2g (a0u z img m).1
  ·rw[if_pos c]; exact⟨c.1,rfl,c.2.1,c.2.2⟩
  ·rw[if_neg c] at q; cases q
 refine OJ.gen [(0,.int .i64 z),(1,.str img),(2,.int .u32 m),(6,.ptr h.next 0),(7,.nilslice),(8,.ptr (h.next+1) 0),(9,.ptr (h.next+3) 0),(10,.ptr (h.next+4) 0),(33,.bool (a1v z img m 2).2)] (fun g=>g.ok∧Ext h g∧g.next=h.next+5∧g.get h.next=some (.cells 41 [.nilslice] true)∧g.get (h.next+1)=some (.cells 43 [.int .i64 0] true)∧g.get (h.next+2)=some (.map [] 0)∧g.get (h.next+3)=some (.cells 152 [.int .i64 z,.str img,.map (h.next+2),.nilslice,.int .i64 (0:Nat)] true)∧g.get (h.next+4)=some (.cells 64 (a1v z img m 2).1.cs true)) (by exact hsub) ⟨by exact hok,by exact a0j,rfl,by exact a0g,by exact a0g,by exact a0g,by exact a0g,by exact a0g⟩ ?_
 rintro hA ⟨kA,xA,nA,qd,qe,qm,qr,qp⟩
 show OJ _ _ _ _ _ _ [.fn (.func 79) [] [.ptr (h.next+1) 0]] _ _ _
 have fault:b0l z img m=none→∀ {g:a0a},hA.next≤g.next→(∀ c,c<hA.next→c≠h.next+3→c≠h.next+2→g.get c=hA.get c)→g.ok→∀ {tm:Tr AV},a0m tm [(6,.ptr h.next 0),(7,.nilslice),(8,.ptr (h.next+1) 0)]→c9h (TV n) 44 (fun r=>∃ v h',r=Res.ret v h'∧(Ext h h'∧match b0l z img m with
  |none=>v=.tuple [.agg [.nilslice],.nilslice,.int .i64 4]
  |some (pg,bs)=>∃ dv pv out,v=.tuple [.agg [dv],pv,.int .i64 0]∧e2p h.next h' dv bs∧a1a a3a 29 1 (h.next ≤ ·) h' pv out∧b9g pg out)) (.pan c9f ⟨tm,[.fn (.func 79) [] [.ptr (h.next+1) 0]],none,g⟩):=by
  intro en g ng og kg tm hs
  refine c8q hs rfl ((og (h.next+1) (by omega) (by omega) (by omega)).trans qe) (by omega) fun g2 n2 o2 e2 k2=>?_
  have gd:g2.get h.next=some (.cells 41 [.nilslice] true):=(o2 _ (by omega) (by omega)).trans ((og h.next (by omega) (by omega) (by omega)).trans qd)
  refine⟨[.agg [.nilslice],.nilslice,.int .i64 4],a0x rfl (b0c rfl rfl gd rfl) (Ev.results_tmp rfl (a0x rfl (a2p rfl rfl e2) rfl)),_,_,rfl,⟨by omega,fun c hc=>(o2 c (by omega) (by omega)).trans ((og c (by omega) (by omega) (by omega)).trans (xA.old c hc)),fun _=>k2 kg⟩,?_⟩
  rw[en]
  rfl
 refine a1p (a4s (a1v z img m 2).2 _) rfl rfl rfl rfl ?_ ?_
 rotate_left
 ·rintro _ _ ⟨c3,rfl,rfl⟩ tm hs
  exact fault (by rw[ed,if_pos (.inr c3)]) (Nat.le_refl _) (fun _ _ _ _=>rfl) kA (hs.sub hsub)
 rintro _ _ ⟨c3,rfl,rfl⟩
 obtain⟨rp1,rp2,rp3,rp4⟩:=rp c3
 have mf:=pr rp1
 rw[← rp2] at mf rp3 rp4
 have lt:=(a5l rp1).2
 rw[c3] at ed
 generalize (a1v z img m 2).1=p at mf ed rp3 rp4 qp
 have rz:=room_le z
 have bl:p.body.length≤100000:=by unfold a7a at mf; omega
 have bc:p.count<1000000000:=by unfold a7a at mf; omega
 have i0:GoW z img (h.next+3) (h.next+2) (fun c=>c=h.next+2) (fun _=>False) .nilslice ⟨[],0,[]⟩ hA :=
  ⟨qr,by omega,by omega,⟨by omega,qm⟩,rfl,fun q=>q,fun c q=>by omega,fun c q=>q.elim,.nil⟩
 refine walk ?_
 refine a1p (d4f (m:=m) kA ⟨_,_,i0⟩) rfl rfl rfl rfl ?_ ?_
 rotate_left
 ·rintro _ h1 ⟨et,rfl,S1,t1⟩ tm hs
  refine fault ?_ t1.nx t1.old (t1.ok kA) (hs.sub hsub)
  by_cases c2:m<2
  ·rw[ed,if_pos (.inl c2)]
  ·rw[if_neg c2] at et
   cases et
 rintro _ h1 ⟨t,S1,et,rfl,i1,t1⟩
 have c2:¬ m<2:=fun c=>by rw[if_pos c] at et; cases et
 rw[if_neg c2] at et
 have et:some (⟨[m],0,[]⟩:Rs)=some t:=et
 cases et
 rw[if_neg (fun q=>by rcases q with q|q; exact c2 q; cases q)] at ed
 obtain⟨Sw1,w1',i1⟩:=i1
 have n1:=t1.nx
 have k1:=t1.ok kA
 have g1p:=(t1.old (h.next+4) (by omega) (by omega) (by omega)).trans qp
 refine walk ?_
 refine a0b (d5h (n:=n) (by omega) (p:=p) (by exact hok) bl bc) rfl rfl rfl rfl ?_
 rintro v h2 ⟨x2,c5⟩
 have n2:=x2.nx
 have k2:=x2.ok k1
 have i2:=i1.ext x2
 cases el:ofC p with
 |none =>
  unfold a2g at rp4
  simp[rp3,el] at rp4
 |some l =>
 rw[el] at c5 ed
 obtain⟨u11,rfl,lo⟩:=c5
 dsimp only at ed
 obtain⟨ll,lok⟩:=d5v el
 have ls2:a1a Bk.cs 88 3 (fun c=>h1.next≤c∧c<h2.next) h2 u11 l:=(Own.d2d lo).mono fun c q r=>⟨q,r⟩
 have lu:=ls2.ls.len
 have nu:=ls2.ls.ns
 have low1:=i1.low
 have i2':GoI z img (h.next+3) (h.next+2) S1 ⟨[m],0,[]⟩ h2:=⟨_,_,i2⟩
 have t2:RdT (h.next+3) (fun c=>c=h.next+2) S1 hA h2:=t1.trans (.ext x2)
 refine walk ?_
 have xD:Ext h2 (h2.alloc (.cells 41 [.nilslice] true)):=.alloc _ _
 have o0:f1f z img (h.next+3) (h.next+2) h2.next h2 [m] [] S1 Sw1 (fun _=>False) (fun _=>False) w1' .nilslice ⟨[m],0,[]⟩ [] (h2.alloc (.cells 41 [.nilslice] true)) :=
  ⟨i2.ext xD,rfl,a0t _ _,Nat.lt_succ_self _,.nil,rfl,fun j x b q=>by simp at q,fun c q=>by rcases q with q|q<;>exact q.elim,fun c q=>q.elim,fun c q=>q.elim,fun c hc _ _=>a0a.ga _ _ _ (by omega)⟩
 have f0:a5n (pages z img) [m]:=⟨by simp,fun q hq=>by obtain rfl:=List.mem_singleton.1 hq; exact lt⟩
 have p39:pages z img<50:=by
  unfold pages
  split
  ·rename_i gz
   have:=gz.1
   refine Nat.lt_succ_of_le (Nat.div_le_of_le_mul ?_)
   have:128≤z.toNat:=by omega
   have:=Nat.mul_le_mul_right 49 this
   omega
  ·omega
 refine a0n (ι:=Nat×List Nat×List (List UInt8×List Pr)) (fun a=>l.length-a.1) (fun a=>[(0,.int .i64 z),(1,.str img),(6,.ptr h.next 0),(7,.nilslice),(8,.ptr (h.next+1) 0),(9,.ptr (h.next+3) 0),(14,.ptr h2.next 0),(43,u11),(44,.int .i64 (l.length:Nat)),(45,.int .i64 (a.1:Nat))]) (fun a h3=>a.1≤l.length∧h3.ok∧a5n (pages z img) a.2.1∧a.2.2.length=a.1∧b0l z img m=a5h z img a.2.1 a.2.2 (l.drop a.1)∧∃ S Sw Sd Sp w dv s nl,f1f z img (h.next+3) (h.next+2) h2.next h2 a.2.1 a.2.2 S Sw Sd Sp w dv s nl h3∧h3.next ≥ h2.next+1) (0,[m],[]) (by exact hsub) ⟨Nat.zero_le _,by exact hok,f0,rfl,by simpa using ed,_,_,_,_,_,_,_,_,o0,Nat.le_refl _⟩ ?_
 rintro⟨i,pg,bs⟩ h3 ⟨hi3,k3,f3,lb3,st,S,Sw,Sd,Sp,w,dv,s,nl,o3,n3⟩ next
 dsimp only at hi3 f3 lb3 st o3 next ⊢
 have n3:h2.next+1≤h3.next:=n3
 have rd:=o3.rd
 have pgs:=o3.pg
 have old3:=o3.old
 have gD:=o3.gD
 have lD:=o3.lD
 have t3:RdT (h.next+3) (fun c=>c=h.next+2) (fun c=>c=h.next+2∨h2.next≤c) hA h3:=⟨by omega,fun c hc hr hs=>(old3 c (by omega) hr hs).trans (t2.old c hc hr hs),fun _=>k3,fun c q=>by rcases q with q|q; exact .inl q; exact .inr (by omega)⟩
 have ls3:a1a Bk.cs 88 3 (fun c=>h1.next≤c∧c<h2.next) h3 u11 l:=ls2.keep (fun c q hl=>old3 c hl (by omega) (by omega)) (by omega)
 by_cases ci:i<l.length
 case neg =>
  have est:b0l z img m=some (pg,bs):=by rw[st,List.drop_of_length_le (by omega)]; rfl
  have gR:=rd.g
  rw[est]
  refine walk ?_
  refine a0c (q:=6) (ms:=[0,0,2,7,15,31]) (hl:=[[70,71],[69],[69],[],[],[]]) k3 rfl (by kernel_rfl) (by kernel_rfl) rfl ?_
  refine walk ?_
  have xm:Ext h3 ⟨h3.t,h3.next+6⟩:=Ext.more (Ext.refl h3) k3 6
  have fl:=f3.len
  refine a2i (d8w (n:=n) (by exact a0a.a2o k3 6) (rd.ext xm) (by rw[pgs]; omega)) rfl rfl rfl rfl rfl rfl ?_
  rintro pv h4 ⟨x4,op⟩
  have n4:h3.next+6≤h4.next:=x4.nx
  have x34:Ext h3 h4:=xm.trans x4
  have k4:=x34.ok k3
  have q4:∀ c,c<h2.next→c≠h.next+3→c≠h.next+2→h4.get c=h2.get c:=fun c hc r s=>(x34.old c (by omega)).trans (old3 c hc r s)
  have g4d:h4.get h.next=some (.cells 41 [.nilslice] true):=(q4 _ (by omega) (by omega) (by omega)).trans ((t2.old _ (by omega) (by omega) (by omega)).trans qd)
  have g4e:h4.get (h.next+1)=some (.cells 43 [.int .i64 0] true):=(q4 _ (by omega) (by omega) (by omega)).trans ((t2.old _ (by omega) (by omega) (by omega)).trans qe)
  have g4D:h4.get h2.next=some (.cells 41 [dv] true):=(x34.old _ lD).trans gD
  obtain⟨vd,wd⟩:=a1u.one o3.od
  refine walk ?_
  refine b8k rfl rfl rfl (b1v (n:=1) (cs:=[.nilslice]) (vs:=[dv]) rfl rfl rfl rfl rfl (by simp[wd]) g4d (by decide)) ?_
  refine walk ?_
  refine a2x fun tm hs=>?_
  have lowd:=o3.low
  have q6:∀ c,c≠h.next→c≠h.next+1→((h4.set h.next (.cells 41 (over [.nilslice] 0 [dv]) true)).set (h.next+1) (.cells 43 [.int .i64 0] true)).get c=h4.get c:=fun c r s=>(a0a.gn _ _ _ _ s).trans (a0a.gn _ _ _ _ r)
  have gd6:((h4.set h.next (.cells 41 (over [.nilslice] 0 [dv]) true)).set (h.next+1) (.cells 43 [.int .i64 0] true)).get h.next=some (.cells 41 [dv] true):=(a0a.gn _ _ _ _ (by omega)).trans (a0a.gs _ _ _)
  refine d4s (vs:=[.agg [dv],pv,.int .i64 0]) hs rfl (a0x rfl (b0c rfl rfl gd6 rfl) (Ev.results_tmp rfl (a0x rfl (a2p rfl rfl (a0a.gs _ _ _)) rfl))) ⟨_,_,rfl,?_,dv,pv,c6l pg,rfl,?_,?_,c1s pg⟩
  ·exact⟨by show h.next≤h4.next; omega,fun c hc=>(q6 c (by omega) (by omega)).trans ((q4 c (by omega) (by omega) (by omega)).trans ((t2.old c (by omega) (by omega) (by omega)).trans (xA.old c hc))),fun _=>a0w (a0w k4 _ _ (by omega)) _ _ (by show h.next+1<h4.next; omega)⟩
  ·refine⟨nl,a1u.mono (a1u.keep o3.od (fun c q hl=>(q6 c (by have:=(o3.sd c q).1; omega) (by have:=(o3.sd c q).1; omega)).trans (x34.old c hl)) (by show h3.next≤h4.next; omega)) fun c q _=>by have:=(o3.sd c q).1; omega,o3.len,fun j x b hx hb=>?_⟩
   obtain⟨p1,p2⟩:=o3.at_ j x b hx hb
   exact⟨p1,a1u.mono (a1u.keep p2 (fun c q hl=>(q6 c (by have:=o3.sp c q; omega) (by have:=o3.sp c q; omega)).trans (x34.old c hl)) (by show h3.next≤h4.next; omega)) fun c q _=>by have:=o3.sp c q; omega⟩
  ·rw[pgs] at op
   exact a1u.mono (a1u.keep op (fun c q hl=>q6 c (by have q:h3.next+6≤c:=q; omega) (by have q:h3.next+6≤c:=q; omega)) (Nat.le_refl _)) fun c q _=>by have q:h3.next+6≤c:=q; omega
 obtain⟨y,hy⟩:∃ y,l[i]?=some y:=⟨l[i],List.getElem?_eq_getElem ci⟩
 obtain⟨B,q,e',all,rw',hb,hg,hpl,he,a1⟩:=ls3.ls.at Bk.len hy
 have edr:l.drop i=y::l.drop (i+1):=by
  rw[List.drop_eq_getElem_cons ci]
  congr 1
  rw[List.getElem?_eq_getElem ci] at hy
  exact Option.some.inj hy
 have est:b0l z img m=match a6x z img y.root pg with
  |none=>none
  |some s=>if(s.out.length:Int)=y.keys then a5h z img s.pg (bs++[(y.name,s.out)]) (l.drop (i+1)) else none:=by rw[st,edr]; rfl
 have yr:y.root<4294967296:=by
  have:=(lok i y hy).1.2
  rcases this with r|r
  ·omega
  ·have:=r.1.2; omega
 refine walk ?_
 have xB:Ext h3 ((h3.alloc (.cells 88 [.str [],.int .u32 0,.int .i64 0] true)).set h3.next (.cells 88 y.cs true)):=Ext.st (Ext.alloc _ _) _ _ (Nat.le_refl _) (by show h3.next<h3.next+1; omega)
 have gB:((h3.alloc (.cells 88 [.str [],.int .u32 0,.int .i64 0] true)).set h3.next (.cells 88 y.cs true)).get h3.next=some (.cells 88 y.cs true):=a0a.gs _ _ _
 refine OJ.gen [(0,.int .i64 z),(1,.str img),(6,.ptr h.next 0),(7,.nilslice),(8,.ptr (h.next+1) 0),(9,.ptr (h.next+3) 0),(14,.ptr h2.next 0),(16,.ptr h3.next 0),(43,u11),(44,.int .i64 (l.length:Nat)),(45,.int .i64 (i:Nat)),(49,.ptr (h.next+3) 0),(51,.int .u32 y.root)] (fun g=>Ext h3 g∧g.next=h3.next+1∧g.get h3.next=some (.cells 88 y.cs true)) (by exact hsub) ⟨xB,rfl,gB⟩ ?_
 clear xB gB a1 hg hb hpl he
 rintro h4 ⟨x4,n4,gB⟩
 have k4:=x4.ok k3
 refine a1p (e2h (n:=n) (by omega) (root:=y.root) (by omega) k4 (rd.ext x4) (by rw[pgs]; exact f3) yr) rfl rfl rfl rfl ?_ ?_
 rotate_left
 ·rintro _ h5 ⟨et,rfl,S5,t5⟩ tm hs
  rw[pgs] at et
  exact fault (by rw[est,et]) (by have:=t5.nx; omega) (fun c hc hr hs=>(t5.old c (by omega) hr hs).trans ((x4.old c (by omega)).trans (t3.old c hc hr hs))) (t5.ok k4) (hs.sub hsub)
 rintro v5 h5 ⟨t,S5,Sw5,et,i5,t5⟩
 rw[pgs] at et
 rw[et] at est
 dsimp only at est
 have n5:=t5.nx
 have k5:=t5.ok k4
 have gB5:=(t5.old h3.next (by omega) (by omega) (by omega)).trans gB
 have lv5:=i5.ow.ls.len
 have nv5:=i5.ow.ls.ns
 obtain⟨f5,-,ob5⟩:=c3t f3 et
 refine walk ?_
 refine a1p (a4s (decide ((t.out.length:Int)=y.keys)) _) rfl rfl rfl rfl ?_ ?_
 rotate_left
 ·rintro _ _ ⟨ce,rfl,rfl⟩ tm hs
  rw[if_neg (of_decide_eq_false ce)] at est
  exact fault est (by omega) (fun c hc hr hs=>(t5.old c (by omega) hr hs).trans ((x4.old c (by omega)).trans (t3.old c hc hr hs))) k5 (hs.sub hsub)
 rintro _ _ ⟨ce,rfl,rfl⟩
 rw[if_pos (of_decide_eq_true ce)] at est
 have g5D:=(t5.old h2.next (by omega) (by omega) (by omega)).trans ((x4.old _ lD).trans gD)
 have fv5:=a1u.form i5.ow
 obtain⟨vv5,wv5⟩:=a1u.one i5.ow
 obtain⟨vdv,wdv⟩:=a1u.one o3.od
 have k35:∀ c,c<h3.next→c≠h.next+3→c≠h.next+2→h5.get c=h3.get c:=fun c hc r s=>(t5.old c (by omega) r s).trans (x4.old c hc)
 have Sdl:∀ c,Sd c→h2.next<c∧c<h3.next:=fun c q=>⟨(o3.sd c q).1,o3.low c (.inl q)⟩
 have Spl:∀ c,Sp c→h2.next<c∧c<h3.next:=fun c q=>⟨o3.sp c q,o3.low c (.inr q)⟩
 have Swl:∀ c,Sw5 c→h4.next≤c∧c<h5.next:=fun c q=>⟨by
  rcases t5.grow c (i5.sw c q) with r|r
  ·exact absurd (r ▸ q) i5.nM
  ·exact r,i5.low c (i5.sw c q)⟩
 obtain⟨X,hX⟩:∃ X,X=h5.alloc (.cells 93 (Nm.cs (y.name,v5)) true):=⟨_,rfl⟩
 have nX:X.next=h5.next+1:=by rw[hX]; rfl
 have xX:Ext h5 X:=by rw[hX]; exact .alloc _ _
 have gX:X.get h5.next=some (.cells 93 (Nm.cs (y.name,v5)) true):=by rw[hX]; exact a0t _ _
 have ho:(Nm.cs (y.name,v5)).all AV.one=true:=by simp[Nm.cs,wv5]; try rfl
 have fl3:=f3.len
 obtain⟨v9,h9,e9,o9,t9⟩:=a4e (T:=TV n) (st:=39) (rest:=[39]) (h:=X) (x:=(y.name,v5)) (o3.od.keep (h':=X) (fun c q hl=>(xX.old c (by omega)).trans (k35 c hl (by have:=Sdl c q; omega) (by have:=Sdl c q; omega))) (by omega)) gX (by omega) (by rw[o3.len,lb3]; omega) rfl ho rfl rfl rfl (by exact Nat.le_of_ble_eq_true rfl) rfl (by decide) rfl
 have n9:=t9.nx
 obtain⟨vc9,vo9⟩:=a1u.one o9
 have y9:∀ c,c<h5.next→¬ Sd c→h9.get c=h5.get c:=fun c hc q=>(t9.old c (by omega) q).trans (xX.old c hc)
 have g9D:=(y9 h2.next (by omega) (fun q=>by have:=Sdl _ q; omega)).trans g5D
 rw[hX] at e9
 refine walk ?_
 refine a1k (v:=.agg [.str y.name,v5]) rfl rfl rfl (by rcases fv5 with e|⟨_,_,_,e⟩|⟨_,_,_,e⟩<;>subst e<;>rfl) ?_
 refine walk ?_
 obtain⟨H,hH⟩:∃ H,H=h9.set h2.next (.cells 41 [v9] true):=⟨_,rfl⟩
 have nH:H.next=h9.next:=by rw[hH]; rfl
 have oH:∀ c,c≠h2.next→H.get c=h9.get c:=fun c q=>by rw[hH]; exact a0a.gn _ _ _ _ q
 have kH:H.ok:=by rw[hH]; exact a0w (t9.ok (by rw[hX]; exact a4n k5 _)) _ _ (by omega)
 have gH:H.get h2.next=some (.cells 41 [v9] true):=by rw[hH]; exact a0a.gs _ _ _
 have S5l:∀ c,S5 c→c=h.next+2∨(h4.next≤c∧c<h5.next):=fun c q=>by
  rcases t5.grow c q with r|r
  ·exact .inl r
  ·exact .inr ⟨r,i5.low c q⟩
 have k5H:∀ c,c<h5.next→c≠h2.next→¬ Sd c→H.get c=h5.get c:=fun c hc r q=>(oH c r).trans (y9 c hc q)
 refine next (i+1,t.pg,bs++[(y.name,t.out)]) (by simp only; omega) (by exact hsub) ⟨by simp only; omega,by rw[hH] at kH; exact kH,f5,by simp only[List.length_append,List.length_cons,List.length_nil]; omega,est,S5,Sw5,(fun c=>Sd c∨(X.next≤c∧c<h9.next)),(fun c=>Sp c∨Sw5 c),v5,v9,t,nl++[(y.name,v5)],?_,by show h2.next+1≤h9.next; omega⟩
 show f1f z img (h.next+3) (h.next+2) h2.next h2 t.pg (bs++[(y.name,t.out)]) S5 Sw5 (fun c=>Sd c∨(X.next≤c∧c<h9.next)) (fun c=>Sp c∨Sw5 c) v5 v9 t (nl++[(y.name,v5)]) (h9.set h2.next (.cells 41 [v9] true))
 rw[← hH]
 have iH:GoW z img (h.next+3) (h.next+2) S5 Sw5 v5 t H:=i5.keep (by omega) (fun c q=>by
  rcases q with q|q
  ·exact k5H c (by omega) (by omega) (fun r=>by have:=Sdl c r; omega)
  ·have:=S5l c q
   exact k5H c (by omega) (by omega) (fun r=>by have:=Sdl c r; omega))
 refine⟨iH,rfl,gH,by omega,?_,by simp[o3.len],?_,?_,?_,?_,?_⟩
 ·exact(o9.mono fun c q r=>by
   rcases q with q|q
   ·exact .inl q
   ·exact .inr ⟨q,r⟩).keep (fun c q hc=>oH c (by
    rcases q with q|q
    ·have:=Sdl c q; omega
    ·omega)) (by omega)
 ·intro j x b hx hb2
  by_cases cj:j<nl.length
  ·rw[List.getElem?_append_left cj] at hx
   rw[List.getElem?_append_left (by rw[← o3.len]; exact cj)] at hb2
   obtain⟨p1,p2⟩:=o3.at_ j x b hx hb2
   refine⟨p1,(p2.keep (h':=H) (fun c q hc=>?_) (by omega)).mono fun c q r=>.inl q⟩
   have:=Spl c q
   exact(k5H c (by omega) (by omega) (fun r=>(o3.sd c r).2 q)).trans (k35 c hc (by omega) (by omega))
  ·have ej:j=nl.length:=by
    have:=(List.getElem?_eq_some_iff.1 hx).1
    simp at this
    omega
   rw[ej,List.getElem?_append_right (Nat.le_refl _),Nat.sub_self] at hx
   rw[ej,List.getElem?_append_right (by rw[o3.len]; exact Nat.le_refl _),o3.len,Nat.sub_self] at hb2
   cases hx
   cases hb2
   exact⟨rfl,iH.ow.mono fun c q r=>.inr q⟩
 ·intro c q
  rw[nH]
  rcases q with (q|q)|q|q
  ·have:=Sdl c q; omega
  ·exact q.2
  ·have:=Spl c q; omega
  ·have:=Swl c q; omega
 ·intro c q
  rcases q with q|q
  ·have:=Sdl c q
   refine⟨this.1,fun r=>?_⟩
   rcases r with r|r
   ·exact(o3.sd c q).2 r
   ·have:=Swl c r; omega
  ·refine⟨by omega,fun r=>?_⟩
   rcases r with r|r
   ·have:=Spl c r; omega
   ·have:=Swl c r; omega
 ·intro c q
  rcases q with q|q
  ·exact(Spl c q).1
  ·have:=Swl c q; omega
 ·intro c hc hr hs
  exact(k5H c (by omega) (by omega) (fun q=>by have:=Sdl c q; omega)).trans ((k35 c (by omega) hr hs).trans (old3 c hc hr hs))
end Go.Proofs.YtejfbaecadbdiaaGreat
