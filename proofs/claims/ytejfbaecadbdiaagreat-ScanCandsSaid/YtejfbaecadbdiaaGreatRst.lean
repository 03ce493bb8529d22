/- What the functions of this part answer at any input, told by the rules over the evaluator. Conditions: those that each theorem states. -/
import Derived.Test.YtejfbaecadbdiaaGreatGar
import Derived.Test.YtejfbaecadbdiaaGreatRnd
set_option linter.unusedVariables false
set_option linter.unusedSimpArgs false
open Go Ev
namespace Go.Proofs.YtejfbaecadbdiaaGreat
set_option maxRecDepth 10000
set_option maxHeartbeats 4000000
def b6w (l l':List Nat):Prop:=l'.Perm l∧l'.Pairwise (· ≤ ·)
theorem e0h {l out:List Nat}{x k:Nat}(s:b6w l out) (hk:k≤out.length) (h1:∀ j,k≤j→∀ a,out[j]?=some a→x<a) (h2:0<k→∀ a,out[k-1]?=some a→a≤x):b6w (l++[x]) (out.take k++[x]++out.drop k):=by
 obtain⟨pm,pw⟩:=s
 have e:out.take k++out.drop k=out:=List.take_append_drop k out
 have pw2:(out.take k++out.drop k).Pairwise (· ≤ ·):=by rw[e]; exact pw
 obtain⟨p1,p2,p3⟩:=List.pairwise_append.1 pw2
 constructor
 ·have:(out.take k++[x]++out.drop k).Perm (out.take k++out.drop k++[x]):=by
   rw[List.append_assoc,List.append_assoc]
   exact List.Perm.append_left _ List.perm_append_comm
  rw[e] at this
  exact this.trans (pm.append_right _)
 ·rw[List.append_assoc]
  refine List.pairwise_append.2 ⟨p1,?_,?_⟩
  ·refine List.pairwise_cons.2 ⟨fun a ha=>?_,p2⟩
   obtain⟨j,hj⟩:=List.getElem?_of_mem ha
   have hj:(out.drop k)[j]?=some a:=hj
   rw[List.getElem?_drop] at hj
   exact Nat.le_of_lt (h1 _ (by omega) a hj)
  ·intro a ha b hb
   rcases List.mem_cons.1 hb with rfl|hb
   ·have k0:0<k:=by
     rcases Nat.eq_zero_or_pos k with q|q
     ·subst q; simp at ha
     ·exact q
    obtain⟨y,hy⟩:∃ y,out[k-1]?=some y:=⟨out[k-1]'(by omega),List.getElem?_eq_getElem (by omega)⟩
    have hyx:=h2 k0 y hy
    refine Nat.le_trans ?_ hyx
    obtain⟨j,hj⟩:=List.getElem?_of_mem ha
    have jk:j<k:=by
     have:=(List.getElem?_eq_some_iff.1 hj).1
     rw[List.length_take] at this; omega
    rw[List.getElem?_take_of_lt jk] at hj
    rcases Nat.lt_or_ge j (k-1) with q|q
    ·obtain⟨hj1,hj2⟩:=List.getElem?_eq_some_iff.1 hj
     obtain⟨hk1,hk2⟩:=List.getElem?_eq_some_iff.1 hy
     rw[← hj2,← hk2]
     exact List.pairwise_iff_getElem.1 pw j (k-1) hj1 hk1 q
    ·have:j=k-1:=by omega
     subst this
     rw[hy] at hj; cases hj; exact Nat.le_refl _
   ·exact p3 a ha b hb
theorem d9a {n:Nat}{u:AV}{pg:List Nat}{h:a0a}(hk:h.ok) (ls:LsN h u pg) (hl:pg.length≤10000):a0l (TV n) 39 [u] h (fun v h'=>Ext h h'∧∃ out,a1a a3a 29 1 (h.next ≤ ·) h' v out∧b6w pg out):=by
 refine a0r (a1x rfl rfl) rfl rfl ?_
 have lu:=ls.len
 have nu:=ls.ns
 refine walk ?_
 refine a0n (ι:=Nat×List Nat×(Nat→Prop)×AV) (fun a=>pg.length-a.1) (fun a=>[(0,u),(3,a.2.2.2),(4,.int .i64 (a.1:Nat))]) (fun a h2=>a.1≤pg.length∧Ext h h2∧a1a a3a 29 1 a.2.2.1 h2 a.2.2.2 a.2.1∧(∀ c,a.2.2.1 c→h.next≤c)∧b6w (pg.take a.1) a.2.1) (0,[],(fun _=>False),.nilslice) hsub ⟨Nat.zero_le _,.refl _,.nil,fun c q=>q.elim,by simp[b6w]⟩ ?_
 rintro⟨i,out,S,v⟩ h2 ⟨hi,x2,ow,kc,so⟩ next
 dsimp only at hi ow kc so next ⊢
 have k2:=x2.ok hk
 have nx2:=x2.nx
 have lo:=ow.ls.len
 have no:=ow.ls.ns
 have ol:out.length=i:=by rw[so.1.length_eq,List.length_take]; omega
 by_cases c:i<pg.length
 case neg =>
  have ei:pg.take i=pg:=List.take_of_length_le (by omega)
  rw[ei] at so
  refine walk ?_
  exact a0e (by exact hres) ⟨x2,out,ow.mono fun c q _=>kc c q,so⟩
 obtain⟨y,hy⟩:∃ y,pg[i]?=some y:=⟨pg[i],List.getElem?_eq_getElem c⟩
 have et:pg.take (i+1)=pg.take i++[y]:=by rw[List.take_add_one,hy]; rfl
 refine walk ?_
 refine a8h (ι:=Nat) (fun k=>[(0,u),(3,v),(4,.int .i64 (i:Nat)),(5,.int .i64 (k:Nat))]) (fun k g=>Ext h2 g∧k≤out.length∧(∀ j,k≤j→∀ a,out[j]?=some a→y<a)∧(0<k→∀ a,out[k-1]?=some a→a≤y)) ?_ ?_
 intro k' join
 refine a0n (ι:=Nat) (fun k=>k) (fun k=>[(0,u),(3,v),(4,.int .i64 (i:Nat)),(5,.int .i64 (k:Nat))]) (fun k h3=>k≤out.length∧Ext h2 h3∧∀ j,k≤j→∀ a,out[j]?=some a→y<a) out.length (by exact hsub) ⟨Nat.le_refl _,.refl _,fun j hj a ha=>by rw[List.getElem?_eq_none hj] at ha; cases ha⟩ ?_
 rintro k h3 ⟨hk3,x3,gt⟩ next'
 have k3:=x3.ok k2
 have nx3:=x3.nx
 obtain⟨B2,q2,e2,all2,rw2,hb2,hg2,hpl2,he2,a2⟩:=(ls.ext (x2.trans x3)).at a2k hy
 have he2:(all2.drop q2).take 1=[.int .u32 y]:=he2
 have ow3:a1a a3a 29 1 S h3 v out:=ow.keep (fun c _ hl=>x3.old c hl) nx3
 by_cases c0:0<(k:Int)
 ·obtain⟨x,hx⟩:∃ x,out[k-1]?=some x:=⟨out[k-1]'(by omega),List.getElem?_eq_getElem (by omega)⟩
  obtain⟨B1,q1,e1,all1,rw1,hb1,hg1,hpl1,he1,a1⟩:=ow3.ls.at a2k hx
  have he1:(all1.drop q1).take 1=[.int .u32 x]:=he1
  by_cases c1:(y:Int)<(x:Int)
  ·refine walk ?_
   refine a0c (q:=14) (ms:=[0,1,3,7,7,23,63,127,7,7,775,1799,4095,8191]) (hl:=[[],[],[],[18,19,22,23,24,25],[17,22,23,24,25],[17,22,23,24,25],[22,23,24,25],[22,23,24,25],[17,18,19,20,21,23],[17,18,19,20,21,22],[17,18,19,20,21],[17,18,19,20,21],[],[]]) hok rfl (by kernel_rfl) (by kernel_rfl) rfl ?_
   refine walk ?_
   refine next' (k-1) (by omega) ?_ ⟨by omega,by exact a0j,fun j hj a ha=>?_⟩
   ·rw[show(((k-1:Nat)):Int)=(k:Int)-1 by omega]
    exact hsub
   ·rcases Nat.lt_or_ge j k with q|q
    ·have:j=k-1:=by omega
     subst this
     rw[hx] at ha; cases ha; omega
    ·exact gt j q a ha
  ·have h2':0<k→∀ a,out[k-1]?=some a→a≤y:=fun _ a ha=>by rw[hx] at ha; cases ha; omega
   refine walk ?_
   refine a0c (q:=14) (ms:=[0,1,3,7,7,23,63,127,7,7,775,1799,4095,8191]) (hl:=[[],[],[],[18,19,22,23,24,25],[17,22,23,24,25],[17,22,23,24,25],[22,23,24,25],[22,23,24,25],[17,18,19,20,21,23],[17,18,19,20,21,22],[17,18,19,20,21],[17,18,19,20,21],[],[]]) hok rfl (by kernel_rfl) (by kernel_rfl) rfl ?_
   refine walk ?_
   exact join k (by exact hsub) ⟨by exact a0j,hk3,gt,h2'⟩
 ·have h2':0<k→∀ a,out[k-1]?=some a→a≤y:=fun q=>by omega
  refine walk ?_
  refine a0c (q:=14) (ms:=[0,1,3,7,7,23,63,127,7,7,775,1799,4095,8191]) (hl:=[[],[],[],[18,19,22,23,24,25],[17,22,23,24,25],[17,22,23,24,25],[22,23,24,25],[22,23,24,25],[17,18,19,20,21,23],[17,18,19,20,21,22],[17,18,19,20,21],[17,18,19,20,21],[],[]]) hok rfl (by kernel_rfl) (by kernel_rfl) rfl ?_
  refine walk ?_
  exact join k (by exact hsub) ⟨by exact a0j,hk3,gt,h2'⟩
 rintro k g ⟨xg,hkg,gt,le⟩
 have kg:=xg.ok k2
 have nxg:=xg.nx
 have og:a1a a3a 29 1 S g v out:=ow.keep (fun c _ hl=>xg.old c hl) nxg
 have lowS:∀ c,S c→c<h2.next→c<g.next:=fun c _ q=>by omega
 obtain⟨vf,ef,off⟩:=a1u.front (kd:=.i64) og hkg (by decide)
 obtain⟨vb,eb,ofb⟩:=a1u.back (kd:=.i64) og hkg (by decide)
 have offl:Ls a3a 1 g vf (out.take k):=by
  have:=off.sl'
  show Sl g 1 vf (out.take k).length ((out.take k).flatMap a3a)
  rw[List.length_take,Nat.min_eq_left hkg,← b9d a2k]
  exact this
 have ofbl:Ls a3a 1 g vb (out.drop k):=by
  show Sl g 1 vb (out.drop k).length ((out.drop k).flatMap a3a)
  rw[List.length_drop,← b8q a2k]
  exact ofb
 refine walk ?_
 refine a0c (q:=16) (ms:=[0,0,0,6,15,0,0,96,224,480,1023,0,0,6144,16383,32767]) (hl:=[[31,32,33,35,36,37,38,39,41,42,43],[30,32,35,36,37,38,39,41,42,43],[30,31,35,36,37,38,39,41,42,43],[30,35,36,37,38,39,41,42,43],[35,36,37,38,39,41,42,43],[30,31,32,33,34,36,41,42,43],[30,31,32,33,34,35,41,42,43],[30,31,32,33,34,41,42,43],[30,31,32,33,34,41,42,43],[30,31,32,33,34,41,42,43],[41,42,43],[30,31,32,33,34,35,36,37,38,39,40,42],[30,31,32,33,34,35,36,37,38,39,40,41],[30,31,32,33,34,35,36,37,38,39,40],[],[]]) hok rfl (by kernel_rfl) (by kernel_rfl) rfl ?_
 refine walk ?_
 have eF:∀ H:a0a,(∀ c,c<g.next→H.get c=g.get c)→a3j 1 H v none (some (.int .i64 (k:Nat))) none=some vf:=fun H q=>(a1u.d0w og (fun c _ hl=>q c hl) _ _ _).trans ef
 have eB:∀ H:a0a,(∀ c,c<g.next→H.get c=g.get c)→a3j 1 H v (some (.int .i64 (k:Nat))) none none=some vb:=fun H q=>(a1u.d0w og (fun c _ hl=>q c hl) _ _ _).trans eb
 obtain⟨X,hX⟩:∃ X,X=(a0a.mk g.t (g.next+16)).set (g.next+0) (.cells 29 [] true):=⟨_,rfl⟩
 have nX:X.next=g.next+16:=by rw[hX]; rfl
 have qX:∀ c,c<g.next→X.get c=g.get c:=fun c hc=>by rw[hX]; exact a0a.gn _ _ _ _ (by omega)
 have kX:X.ok:=by rw[hX]; exact a0w (a0a.a2o kg 16) _ _ (by show g.next+0<g.next+16; omega)
 have xX:Ext g X:=⟨by omega,qX,fun _=>kX⟩
 have gX:X.get (g.next+0)=some (.cells 29 [] true):=by rw[hX]; exact a0a.gs _ _ _
 have o0:a1a a3a 29 1 (fun c=>c=g.next) X (.slice (g.next+0) 0 0 0) []:=a1u.sl (all:=[]) rfl (by omega) gX (Nat.le_refl _) rfl rfl
 have tl:(out.take k).length≤10000:=by rw[List.length_take]; omega
 have dl:(out.drop k).length≤10000:=by rw[List.length_drop]; omega
 obtain⟨v34,h34,e34,o34,t34⟩:=c3m (T:=TV n) (st:=42) (rest:=[42]) o0 (offl.ext xX) (by simp; omega) (fun _=>rfl) rfl rfl rfl (by exact Nat.le_of_ble_eq_true rfl) rfl (by decide) rfl
 have n34:g.next+16≤h34.next:=by have:=t34.nx; omega
 have q34:∀ c,c<g.next→h34.get c=g.get c:=fun c hc=>(t34.old c (by omega) (by omega)).trans (qX c hc)
 obtain⟨Y,hY⟩:∃ Y,Y=h34.set (g.next+9) (.cells 29 (a3a y) true):=⟨_,rfl⟩
 have nY:Y.next=h34.next:=by rw[hY]; rfl
 have qY:∀ c,c<g.next→Y.get c=g.get c:=fun c hc=>by rw[hY]; exact(a0a.gn _ _ _ _ (by omega)).trans (q34 c hc)
 have gY:Y.get (g.next+9)=some (.cells 29 (a3a y) true):=by rw[hY]; exact a0a.gs _ _ _
 have kY:Y.ok:=by rw[hY]; exact a0w (t34.ok kX) _ _ (by omega)
 obtain⟨v40,h40,e40,o40,t40⟩:=a4e (T:=TV n) (st:=42) (rest:=[42]) (h:=Y) (x:=y) (o34.keep (h':=Y) (fun c q _=>by rw[hY]; exact a0a.gn _ _ _ _ (by rcases q with q|q<;>omega)) (by omega)) gY (by omega) (by simp; omega) rfl rfl rfl rfl rfl (by exact Nat.le_of_ble_eq_true rfl) rfl (by decide) rfl
 have n40:=t40.nx
 have q40:∀ c,c<g.next→h40.get c=g.get c:=fun c hc=>(t40.old c (by omega) (by omega)).trans (qY c hc)
 have x40:Ext g h40:=⟨by omega,q40,fun _=>t40.ok kY⟩
 obtain⟨v44,h44,e44,o44,t44⟩:=c3m (T:=TV n) (st:=42) (rest:=[42]) o40 (ofbl.ext x40) (by simp; omega) (fun _=>rfl) rfl rfl rfl (by exact Nat.le_of_ble_eq_true rfl) rfl (by decide) rfl
 have n44:=t44.nx
 have q44:∀ c,c<g.next→h44.get c=g.get c:=fun c hc=>(t44.old c (by omega) (by omega)).trans (q40 c hc)
 have x44:Ext g h44:=⟨by omega,q44,fun _=>t44.ok (t40.ok kY)⟩
 have so2:=e0h so hkg gt le
 rw[← et] at so2
 rw[List.nil_append] at o44
 rw[hX] at e34 qX
 rw[hY] at e40 qY
 have e40:a1h (TV n) [v34,.slice (g.next+9) 0 1 1] [42,42] (h34.set (g.next+9) (.cells 29 [.int .u32 y] true))=.val v40 h40:=e40
 have qY:∀ c,c<g.next→(h34.set (g.next+9) (.cells 29 [.int .u32 y] true)).get c=g.get c:=qY
 obtain⟨B,q,e,all,rw',hb,hg,hpl,he,a1⟩:=(ls.ext (x2.trans xg)).at a2k hy
 have he:(all.drop q).take 1=[.int .u32 y]:=he
 have hgX:=(qX B hb).trans hg
 have hg34:=(q34 B hb).trans hg
 have hgY:=(qY B hb).trans hg
 have hg40:=(q40 B hb).trans hg
 have hg44:=(q44 B hb).trans hg
 refine a4l rfl rfl rfl rfl (d2c rfl rfl rfl rfl rfl rfl (eF _ qX)) ?_
 refine walk ?_
 refine a4l rfl rfl rfl rfl (d2c rfl rfl rfl rfl rfl rfl (eB _ q40)) ?_
 refine b6o rfl rfl rfl rfl opa ?_
 refine a4l rfl rfl rfl rfl opa ?_
 refine c2q hms rfl (by repeat (first|exact trivial|refine And.intro ⟨_,opa⟩ ?_|refine And.intro ⟨_,d2c rfl rfl rfl rfl rfl rfl (eF _ (by assumption))⟩ ?_|refine And.intro ⟨_,d2c rfl rfl rfl rfl rfl rfl (eB _ (by assumption))⟩ ?_)) ?_
 refine walk ?_
 refine next (i+1,out.take k++[y]++out.drop k,(fun c=>g.next≤c),v44) (by simp only; omega) (by exact hsub) ⟨by simp only; omega,x2.trans (xg.trans x44),?_,?_,so2⟩
 ·exact o44.mono fun c p r=>by
   rcases p with (((p|p)|p)|p)
   ·omega
   ·omega
   ·omega
   ·omega
 ·intro c p
  have p:g.next≤c:=p
  omega
set_option maxRecDepth 10000
set_option maxHeartbeats 4000000
theorem RdW.reset {z:Int}{img:List UInt8}{R:Nat}{S Su Sw:Nat→Prop}{u w:AV}{s:Rs}{bad:Bool}{h h':a0a}(i:RdW z img R S Su Sw u w s bad h) (hn:h'.next=h.next) (g:h'.get R=some (.cells 85 [.int .i64 z,.str img,u,.int .i64 (0:Nat),.bool bad,.nilslice] true)) (o:∀ c,c≠R→h'.get c=h.get c):RdW z img R Su Su (fun _=>False) u .nilslice ⟨s.pg,0,[]⟩ bad h' :=
 ⟨g,by rw[hn]; exact i.rl,fun q=>i.nR (i.su _ q),fun c q=>by rw[hn]; exact i.low c (i.su c q),fun c q=>q,fun c q=>q.elim,fun c q r=>r,i.ou.keep (fun c q _=>o c (fun e=>i.nR (by rw[← e]; exact i.su c q))) (by omega),.nil⟩
structure OfI (z:Int) (img:List UInt8) (R D:Nat) (S0:Nat→Prop) (hB:a0a) (pg:List Nat) (bs:List (List UInt8×List Pr)) (S Su Sw Sd Sp:Nat→Prop) (u w dv:AV) (s:Rs) (nl:List (List UInt8×AV)) (h:a0a):Prop where
 rd:RdW z img R S Su Sw u w s false h
 pg:s.pg=pg
 su:∀ c,Su c→S0 c∨D<c
 gD:h.get D=some (.cells 41 [dv] true)
 lD:D<h.next
 od:a1a Nm.cs 93 2 Sd h dv nl
 len:nl.length=bs.length
 at_:∀ (j:Nat) (x:List UInt8×AV) (b:List UInt8×List Pr),nl[j]?=some x→bs[j]?=some b→x.1=b.1∧a1a Pr.cs 108 2 Sp h x.2 b.2
 low:∀ c,Sd c∨Sp c→c<h.next
 sd:∀ c,Sd c→D<c∧¬ Su c∧¬ Sp c
 sp:∀ c,Sp c→(S0 c∨D<c)∧¬ Su c
 old:∀ c,c<D→c≠R→¬ S0 c→h.get c=hB.get c
theorem f4k {n:Nat}(hn:8<n){z:Int}{img:List UInt8}{m:Nat}{h:a0a}(hk:h.ok) (hi:img.length≤20000) (hm:m<4294967296):a0l (TV n) 12 [.int .i64 z,.str img,.int .u32 m] h (fun v h'=>Ext h h'∧match b0l z img m with
  |none=>v=.tuple [.agg [.nilslice],.nilslice,.int .i64 4]
  |some (pg,bs)=>∃ dv pv out,v=.tuple [.agg [dv],pv,.int .i64 0]∧e9c h' dv bs∧LsN h' pv out∧b6w pg out):=by
 refine a0r (a1x rfl rfl) rfl rfl ?_
 by_cases c0:(m:Int)=0
 ·have e:b0l z img m=some ([],[]):=by unfold b0l; rw[if_pos (by omega)]
  rw[e]
  refine walk ?_
  exact a0d (by exact hres) ⟨by exact a0j,.nilslice,.nilslice,[],rfl,⟨[],⟨rfl,rfl⟩,rfl,fun j x b q=>by simp at q⟩,⟨rfl,rfl⟩,by simp[b6w]⟩
 have w1:=e1h (n:=n) (by omega) z img m 2 (by omega) hm
 by_cases c1:m<2∨(a1v z img m 2).2=false
 ·have e:b0l z img m=none:=by unfold b0l; rw[if_neg (by omega),if_pos c1]
  rw[e]
  by_cases c2:(m:Int)<2
  ·refine walk ?_
   exact a0d (by exact hres) ⟨by exact a0j,rfl⟩
  ·have c3:(a1v z img m 2).2=false:=by rcases c1 with q|q; omega; exact q
   rw[c3] at w1
   refine walk ?_
   exact a0d (by exact hres) ⟨by exact a0j,rfl⟩
 have c2:¬ (m:Int)<2:=fun q=>c1 (.inl (by omega))
 have c3:(a1v z img m 2).2=true:=by cases q:(a1v z img m 2).2; exact absurd (.inr q) c1; rfl
 have ed:b0l z img m=match ofC (a1v z img m 2).1 with
   |none=>none
   |some l=>a5h z img [m] [] l:=by unfold b0l; rw[if_neg (by omega),if_neg c1]; rfl
 have er:a1v z img m 2=((a1v z img m 2).1,true):=Prod.ext rfl c3
 have pr:=a4t z img m
 have rp:(a0u z img m).2=0∧(a1v z img m 2).1=(a0u z img m).1∧(a0u z img m).1.kind=2∧a2g (a0u z img m).1:=by
  unfold a1v at c3 ⊢
  split at c3
  ·rename_i q; rw[if_pos q]; exact⟨q.1,rfl,q.2.1,q.2.2⟩
  ·cases c3
 have mf:=pr rp.1
 obtain⟨rp1,rp2,rp3,rp4⟩:=rp
 rw[← rp2] at mf rp3 rp4
 have lt:=(a5l rp1).2
 generalize a1v z img m 2=r at w1 er mf ed rp3 rp4
 obtain⟨p,b0⟩:=r
 obtain rfl:b0=true:=congrArg Prod.snd er
 dsimp only at mf ed rp3 rp4
 rw[ed]
 have rz:=room_le z
 have bl:p.body.length≤100000:=by unfold a7a at mf; omega
 have bc:p.count<1000000000:=by unfold a7a at mf; omega
 refine walk ?_
 refine a0b (c9q (n:=n) (by omega) (p:=p) (by exact hok) bl bc) rfl rfl rfl rfl ?_
 rintro v h1 ⟨x1,c4⟩
 have n1:h.next+2≤h1.next:=x1.nx
 have g6:h1.get h.next=some (.cells 41 [.nilslice] true):=by exact a0g
 have x01:Ext h h1:=Ext.trans (by exact a0j) x1
 have k1:=x01.ok hk
 clear x1
 cases el:ofC p with
 |none =>
  unfold a2g at rp4
  simp[rp3,el] at rp4
 |some l =>
 rw[el] at c4
 obtain⟨u11,rfl,lo⟩:=c4
 dsimp only
 have ls1:a1a Bk.cs 88 3 (fun c=>h.next+2≤c∧c<h1.next) h1 u11 l:=(Own.d2d lo).mono fun c q r=>⟨q,r⟩
 refine walk ?_
 have iR:RdW z img h1.next (fun _=>False) (fun _=>False) (fun _=>False) .nilslice .nilslice ⟨[],0,[]⟩ false (h1.alloc (.cells 85 [.int .i64 z,.str img,.nilslice,.int .i64 (0:Nat),.bool false,.nilslice] true)):=⟨a0t _ _,by show h1.next<h1.next+1; omega,fun q=>q,fun c q=>q.elim,fun c q=>q,fun c q=>q,fun c q=>q.elim,.nil,.nil⟩
 refine a0b (c7j (m:=m) (by exact hok) ⟨_,_,_,_,iR⟩ (Nat.zero_le _)) rfl rfl rfl rfl ?_
 rintro _ h2 ⟨rfl,S0,i2,t2⟩
 have i2:RdI z img h1.next S0 ⟨[m],0,[]⟩ false h2:=i2
 have n2:h1.next+1≤h2.next:=t2.nx
 have x12:Ext h1 h2:=⟨by omega,fun c hc=>(t2.old c (by show c<h1.next+1; omega) (by omega) (fun q=>q)).trans (a0a.ga _ _ _ (by omega)),fun _=>t2.ok (by exact hok)⟩
 have s0:∀ c,S0 c→h1.next<c:=fun c q=>by
  rcases t2.grow c q with r|r
  ·exact r.elim
  ·have r:h1.next+1≤c:=r; omega
 have ls2:a1a Bk.cs 88 3 (fun c=>h.next+2≤c∧c<h1.next) h2 u11 l:=ls1.keep (fun c _ hl=>x12.old c hl) x12.nx
 have g62:=(x12.old _ (by omega)).trans g6
 have k2:=x12.ok k1
 have x02:=x01.trans x12
 have lu:=ls2.ls.len
 have nu:=ls2.ls.ns
 obtain⟨Su,Sw,u,w,i2⟩:∃ Su Sw u w,RdW z img h1.next S0 Su Sw u w ⟨[m],0,[]⟩ false h2:=i2
 clear t2 iR
 obtain⟨ll,lok⟩:=d5v el
 have low0:=i2.low
 have rl2:=i2.rl
 refine walk ?_
 refine a0n (ι:=Nat×List Nat×List (List UInt8×List Pr)) (fun a=>l.length-a.1) (fun a=>[(0,.int .i64 z),(1,.str img),(6,.ptr h.next 0),(11,u11),(13,.ptr h1.next 0),(14,.ptr h2.next 0),(15,.int .i64 (a.1:Nat))]) (fun a h3=>a.1≤l.length∧h3.ok∧a5n (pages z img) a.2.1∧a.2.2.length=a.1∧a5h z img [m] [] l=a5h z img a.2.1 a.2.2 (l.drop a.1)∧∃ (S Su Sw Sd Sp:Nat→Prop) (u w dv:AV) (s:Rs) (nl:List (List UInt8×AV)),OfI z img h1.next h2.next S0 h2 a.2.1 a.2.2 S Su Sw Sd Sp u w dv s nl h3) (0,[m],[]) (by exact hsub) ⟨Nat.zero_le _,by exact hok,⟨by simp,fun q hq=>by obtain rfl:=List.mem_singleton.1 hq; exact lt⟩,rfl,rfl,S0,Su,Sw,(fun _=>False),(fun _=>False),u,w,.nilslice,⟨[m],0,[]⟩,[],?_⟩ ?_
 ·exact⟨i2.ext (Ext.alloc _ _),rfl,fun c q=>.inl (i2.su c q),by exact a0g,by show h2.next<h2.next+1; omega,.nil,rfl,fun j x b q=>by simp at q,fun c q=>by rcases q with q|q<;>exact q.elim,fun c q=>q.elim,fun c q=>q.elim,fun c hc _ _=>a0a.ga _ _ _ (by omega)⟩
 rintro⟨i,pg,bs⟩ h3 ⟨hi3,k3,f3,lb3,eq3,S,Su3,Sw3,Sd,Sp,u3,w3,dv,s,nl,o3⟩ next
 dsimp only at hi3 f3 lb3 eq3 o3 next ⊢
 have n3:=o3.lD
 have ls3:a1a Bk.cs 88 3 (fun c=>h.next+2≤c∧c<h1.next) h3 u11 l:=ls2.keep (fun c q _=>o3.old c (by omega) (by omega) (fun r=>by have:=s0 c r; omega)) (by omega)
 have g63:h3.get h.next=some (.cells 41 [.nilslice] true):=(o3.old _ (by omega) (by omega) (fun r=>by have:=s0 _ r; omega)).trans g62
 have xf:∀ h',h3.next≤h'.next→(∀ c,c<h2.next→c≠h1.next→¬ S0 c→h'.get c=h2.get c)→h'.ok→Ext h h':=fun h' nx q kk=>⟨by have:=x02.nx; omega,fun c hc=>(q c (by omega) (by omega) (fun r=>by have:=s0 c r; omega)).trans (x02.old c hc),fun _=>kk⟩
 have gR:=o3.rd.g
 have rl3:=o3.rd.rl
 have lu3:=ls3.ls.len
 by_cases c:i<l.length
 case neg =>
  have ei:i=l.length:=by omega
  rw[eq3,ei,List.drop_length,show a5h z img pg bs []=some (pg,bs) from rfl]
  dsimp only
  obtain⟨vd,vo⟩:=a1u.one o3.od
  have gD:=o3.gD
  have fl:=f3.len
  have pn:=b1u (z:=z) hi
  refine walk ?_
  refine a0c (q:=9) (ms:=[0,0,2,6,14,30,63,127,255]) (hl:=[[105,106,107,108,109],[104],[104],[104],[104],[104],[],[],[]]) hok rfl (by kernel_rfl) (by kernel_rfl) rfl ?_
  refine walk ?_
  refine a2i (d9a (pg:=s.pg) (by exact hok) (o3.rd.ou.ls.ext (by exact a0j)) (by rw[o3.pg]; omega)) rfl rfl rfl rfl rfl rfl ?_
  rintro pv h4 ⟨x4,out,oo,so⟩
  have x34:Ext h3 h4:=Ext.trans (Ext.more (Ext.refl h3) k3 9) x4
  have n34:=x34.nx
  have ps:=a1u.one oo
  rw[o3.pg] at so
  have g64:=(x34.old _ (by omega)).trans g63
  have yF:∀ c,c<h3.next→c≠h.next→(h4.set h.next (.cells 41 [dv] true)).get c=h3.get c:=fun c hc hn=>(a0a.gn _ _ _ _ hn).trans (x34.old c hc)
  clear x4
  have ho1:[dv].all AV.one=true:=by simp[vo]
  refine b8k rfl rfl rfl (b1v (n:=1) (vs:=[dv]) rfl rfl rfl rfl rfl ho1 (by exact g64) (by exact Nat.le_refl _)) ?_
  refine walk ?_
  refine a0d (by exact hres) ⟨?_,dv,pv,out,rfl,⟨nl,?_,o3.len,fun j x b hx hb=>⟨(o3.at_ j x b hx hb).1,?_⟩⟩,?_,so⟩
  ·refine⟨by show h.next≤h4.next; have:=x02.nx; omega,fun c hc=>?_,fun _=>a0w (x34.ok k3) _ _ (by omega)⟩
   exact(yF c (by have:=x02.nx; omega) (by omega)).trans ((xf h3 (Nat.le_refl _) o3.old k3).old c hc)
  ·exact(o3.od.keep (h':=h4.set h.next (.cells 41 [dv] true)) (fun c q hl=>yF c hl (by have:=(o3.sd c q).1; omega)) n34).sl'
  ·exact((o3.at_ j x b hx hb).2.keep (h':=h4.set h.next (.cells 41 [dv] true)) (fun c q hl=>yF c hl (by rcases(o3.sp c q).1 with r|r; have:=s0 c r; omega; omega)) n34).sl'
  ·exact(oo.keep (h':=h4.set h.next (.cells 41 [dv] true)) (fun c q hl=>a0a.gn _ _ _ _ (by have q:h3.next+9≤c:=q; omega)) (Nat.le_refl _)).sl'
 obtain⟨y,hy⟩:∃ y,l[i]?=some y:=⟨l[i],List.getElem?_eq_getElem c⟩
 have edr:l.drop i=y::l.drop (i+1):=by
  rw[List.drop_eq_getElem_cons c]
  congr 1
  rw[List.getElem?_eq_getElem c] at hy
  exact Option.some.inj hy
 have est:a5h z img [m] [] l=match a6x z img y.root pg with
   |none=>none
   |some s=>if(s.out.length:Int)=y.keys then a5h z img s.pg (bs++[(y.name,s.out)]) (l.drop (i+1)) else none:=by rw[eq3,edr]; rfl
 obtain⟨A2,eA2⟩:∃ A2,A2=(h3.set h1.next (.cells 85 [.int .i64 z,.str img,u3,.int .i64 s.deep,.bool false,.nilslice] true)).set h1.next (.cells 85 [.int .i64 z,.str img,u3,.int .i64 (0:Nat),.bool false,.nilslice] true):=⟨_,rfl⟩
 have nA:A2.next=h3.next:=by rw[eA2]; rfl
 have oA:∀ c,c≠h1.next→A2.get c=h3.get c:=fun c hc=>by rw[eA2]; exact(a0a.gn _ _ _ _ hc).trans (a0a.gn _ _ _ _ hc)
 have gA:A2.get h1.next=some (.cells 85 [.int .i64 z,.str img,u3,.int .i64 (0:Nat),.bool false,.nilslice] true):=by rw[eA2]; exact a0a.gs _ _ _
 have kA:A2.ok:=by rw[eA2]; exact a0w (a0w k3 _ _ rl3) _ _ rl3
 have iA:=o3.rd.reset nA gA oA
 rw[o3.pg] at iA
 have lsA:a1a Bk.cs 88 3 (fun c=>h.next+2≤c∧c<h1.next) A2 u11 l:=ls3.keep (fun c q _=>oA c (by omega)) (by omega)
 refine walk ?_
 refine OJ.gen [(0,.int .i64 z),(1,.str img),(6,.ptr h.next 0),(11,u11),(13,.ptr h1.next 0),(14,.ptr h2.next 0),(15,.int .i64 (i:Nat)),(57,u11),(58,.int .i64 (i:Nat))] (fun g=>A2=g) (by exact hsub) eA2 ?_
 rintro _ rfl
 clear eA2
 obtain⟨B,q,e',all,rw',hb,hg,hpl,he,a1⟩:=lsA.ls.at Bk.len hy
 have root_lt:y.root<4294967296:=by
  have:=(lok i y hy).1.2
  rcases this with r|r
  ·omega
  ·have:=r.1.2; omega
 refine walk ?_
 refine a5f (ι:=(Nat→Prop)×Rs×Bool) (fun _=>[(0,.int .i64 z),(1,.str img),(6,.ptr h.next 0),(11,u11),(13,.ptr h1.next 0),(14,.ptr h2.next 0),(15,.int .i64 (i:Nat))]) (fun x g=>g.ok∧RdI z img h1.next x.1 x.2.1 x.2.2 g∧RdT h1.next Su3 x.1 A2 g∧match a6x z img y.root pg with
   |some t=>x.2.2=false∧x.2.1=t
   |none=>x.2.2=true) ?_ ?_
 ·intro k' join
  by_cases r0:(y.root:Int)=0
  ·have et:a6x z img y.root pg=some ⟨pg,0,[]⟩:=by unfold a6x; rw[if_pos (by omega)]
   refine walk ?_
   refine join (Su3,⟨pg,0,[]⟩,false) (by exact hsub) ⟨kA,⟨_,_,_,_,iA⟩,.refl _,?_⟩
   rw[et]
   exact⟨rfl,rfl⟩
  ·have et:a6x z img y.root pg=a7h z img 16 y.root .all ⟨pg,0,[]⟩:=by unfold a6x; rw[if_neg (by omega)]
   have fl:=f3.len
   have pn:=b1u (z:=z) hi
   refine walk ?_
   refine a0b (e5e (n:=n) (by omega) hi 16 (m:=y.root) (d:=1) (b:=.all) kA ⟨_,_,_,_,iA⟩ (fun _=>⟨f3,Nat.zero_le _⟩) (by simp only; omega) rfl root_lt) rfl rfl rfl rfl ?_
   rintro _ h5 ⟨rfl,S5,s5,b5,i5,t5,q5⟩
   refine walk ?_
   refine join (S5,s5,b5) (by exact hsub) ⟨t5.ok kA,i5,t5,?_⟩
   rw[et]
   exact q5
 rintro⟨S5,s5,b5⟩ h5 ⟨k5,⟨Su5,Sw5,u5,w5,i5⟩,t5,q5⟩
 dsimp only at i5 t5 q5 ⊢
 have n5:h3.next≤h5.next:=by have:=t5.nx; omega
 have y5:∀ c,c<h3.next→c≠h1.next→¬ Su3 c→h5.get c=h3.get c:=fun c hc hr hs=>(t5.old c (by omega) hr hs).trans (oA c hr)
 have g5R:=i5.g
 have rl5:=i5.rl
 have suS:∀ c,Su3 c→S0 c∨h2.next<c:=o3.su
 have ls5:a1a Bk.cs 88 3 (fun c=>h.next+2≤c∧c<h1.next) h5 u11 l:=ls3.keep (fun c q _=>y5 c (by omega) (by omega) (fun r=>by rcases suS c r with p|p; have:=s0 c p; omega; omega)) n5
 have g65:h5.get h.next=some (.cells 41 [.nilslice] true):=(y5 _ (by omega) (by omega) (fun r=>by rcases suS _ r with p|p; have:=s0 _ p; omega; omega)).trans g63
 have old5:∀ c,c<h2.next→c≠h1.next→¬ S0 c→h5.get c=h2.get c:=fun c hc hr hs=>(y5 c (by omega) hr (fun r=>by rcases suS c r with p|p; exact hs p; omega)).trans (o3.old c hc hr hs)
 have gD5:h5.get h2.next=some (.cells 41 [dv] true):=(y5 _ n3 (by omega) (fun r=>by rcases suS _ r with p|p; have:=low0 _ p; omega; omega)).trans o3.gD
 have x5:=xf h5 n5 old5 k5
 have lw5:=i5.ow.ls.len
 have nw5:=i5.ow.ls.ns
 clear a1 hg hb hpl he
 obtain⟨B,q,e',all,rw',hb,hg,hpl,he,a1⟩:=ls5.ls.at Bk.len hy
 have lth:h.next<h5.next:=by omega
 cases b5 with
 |true =>
  have et:a6x z img y.root pg=none:=by
   cases e:a6x z img y.root pg with
   |none=>rfl
   |some t=>rw[e] at q5; cases q5.1
  have eb:a5h z img [m] [] l=none:=by rw[est,et]
  rw[eb]
  refine walk ?_
  refine a0c (q:=17) (ms:=[0,1,3,7,15,31,63,127,255,511,31,31,3103,7199,15391,32767,65535]) (hl:=[[],[],[],[],[],[81,82,83,84,85],[81,82,83,84,85],[81,82,83,84,85],[81,82,83,84,85],[81,82,83,84,85],[76,77,78,79,80,82],[76,77,78,79,80,81],[76,77,78,79,80],[76,77,78,79,80],[76,77,78,79,80],[],[]]) hok rfl (by kernel_rfl) (by kernel_rfl) rfl ?_
  refine walk ?_
  exact a0d (by exact hres) ⟨by exact a0j,rfl⟩
 |false =>
 obtain⟨t,et,es5⟩:∃ t,a6x z img y.root pg=some t∧s5=t:=by
  cases e:a6x z img y.root pg with
  |none=>rw[e] at q5; cases q5
  |some t=>rw[e] at q5; exact⟨t,rfl,q5.2⟩
 subst es5
 rw[et] at est
 dsimp only at est
 obtain⟨f5,-,ob5⟩:=c3t f3 et
 by_cases cl:(s5.out.length:Int)=y.keys
 case neg =>
  rw[if_neg cl] at est
  rw[est]
  refine walk ?_
  refine a0c (q:=17) (ms:=[0,1,3,7,15,31,63,127,255,511,31,31,3103,7199,15391,32767,65535]) (hl:=[[],[],[],[],[],[81,82,83,84,85],[81,82,83,84,85],[81,82,83,84,85],[81,82,83,84,85],[81,82,83,84,85],[76,77,78,79,80,82],[76,77,78,79,80,81],[76,77,78,79,80],[76,77,78,79,80],[76,77,78,79,80],[],[]]) hok rfl (by kernel_rfl) (by kernel_rfl) rfl ?_
  refine walk ?_
  exact a0d (by exact hres) ⟨by exact a0j,rfl⟩
 rw[if_pos cl] at est
 refine walk ?_
 refine a0c (q:=17) (ms:=[0,1,3,7,15,31,63,127,255,511,31,31,3103,7199,15391,32767,65535]) (hl:=[[],[],[],[],[],[81,82,83,84,85],[81,82,83,84,85],[81,82,83,84,85],[81,82,83,84,85],[81,82,83,84,85],[76,77,78,79,80,82],[76,77,78,79,80,81],[76,77,78,79,80],[76,77,78,79,80],[76,77,78,79,80],[],[]]) hok rfl (by kernel_rfl) (by kernel_rfl) rfl ?_
 refine walk ?_
 refine GJ.gen [(0,.int .i64 z),(1,.str img),(6,.ptr h.next 0),(11,u11),(13,.ptr h1.next 0),(14,.ptr h2.next 0),(15,.int .i64 (i:Nat))] (fun g=>a0a.mk h5.t (h5.next+17)=g) (by exact hsub) rfl ?_
 rintro _ rfl
 have xG:Ext h5 (a0a.mk h5.t (h5.next+17)):=Ext.more (Ext.refl _) k5 17
 have kG:=xG.ok k5
 have iG:=i5.ext xG
 have gRG:=iG.g
 have gDG:(a0a.mk h5.t (h5.next+17)).get h2.next=some (.cells 41 [dv] true):=gD5
 have hgG:(a0a.mk h5.t (h5.next+17)).get B=some (.cells e' all rw'):=hg
 have g6G:(a0a.mk h5.t (h5.next+17)).get h.next=some (.cells 41 [.nilslice] true):=g65
 have yG:∀ c,c<h3.next→c≠h1.next→¬ Su3 c→(a0a.mk h5.t (h5.next+17)).get c=h3.get c:=y5
 obtain⟨hG,ehG⟩:∃ hG,hG=a0a.mk h5.t (h5.next+17):=⟨_,rfl⟩
 have nG:hG.next=h5.next+17:=by rw[ehG]
 rw[← ehG] at iG gRG gDG hgG g6G yG kG xG ⊢
 obtain⟨vw,wo⟩:=a1u.one i5.ow
 obtain⟨vdv,wdv⟩:=a1u.one o3.od
 have odG:a1a Nm.cs 93 2 Sd hG dv nl:=o3.od.keep (fun c q hl=>yG c hl (by have:=(o3.sd c q).1; omega) (o3.sd c q).2.1) (by omega)
 clear ehG
 refine walk ?_
 refine a0c (q:=16) (ms:=[0,1,0,0,12,28,60,0,128,384,896,2044,4092,8191,16383,32767]) (hl:=[[91,92,93,94,95,96,97,98,99,100,101],[91,92,93,94,95,96,97,98,99,100,101],[89,90,92,96,97,98,99],[89,90,91,96,97,98,99],[89,90,96,97,98,99],[89,90,96,97,98,99],[89,90,96,97,98,99],[89,90,91,92,93,94,95],[89,90,91,92,93,94,95],[89,90,91,92,93,94,95],[89,90,91,92,93,94,95],[89,90],[89,90],[],[],[]]) hok rfl (by kernel_rfl) (by kernel_rfl) rfl ?_
 have f5w:w5=.nilslice∨(∃ B n c,w5=.slice B 0 n c)∨∃ B n c,w5=.oslice B 0 n c:=a1u.form i5.ow
 refine walk ?_
 refine a4l (v:=.agg [.str y.name,w5]) rfl rfl rfl rfl (by rcases f5w with e|⟨_,_,_,e⟩|⟨_,_,_,e⟩<;>subst e<;>rfl) ?_
 refine b4o rfl rfl rfl rfl rfl ?_
 obtain⟨X,hX⟩:∃ X,X=(a0a.mk hG.t (hG.next+16)).set (hG.next+12) (.cells 93 (Nm.cs (y.name,w5)) true):=⟨_,rfl⟩
 have nX:X.next=hG.next+16:=by rw[hX]; rfl
 have kX:X.ok:=by rw[hX]; exact a0w (a0a.a2o kG 16) _ _ (by show hG.next+12<hG.next+16; omega)
 have xX:Ext hG X:=by rw[hX]; exact Ext.st (Ext.more (Ext.refl hG) kG 16) _ _ (by omega) (by show hG.next+12<hG.next+16; omega)
 have gX:X.get (hG.next+12)=some (.cells 93 (Nm.cs (y.name,w5)) true):=by rw[hX]; exact a0a.gs _ _ _
 have odX:a1a Nm.cs 93 2 Sd X dv nl:=odG.keep (fun c _ hl=>xX.old c hl) (by omega)
 have ho:(Nm.cs (y.name,w5)).all AV.one=true:=by simp[Nm.cs,wo]; try rfl
 have fl5:=f5.len
 have pn:=b1u (z:=z) hi
 obtain⟨v9,h9,e9,o9,t9⟩:=a4e (T:=TV n) (st:=39) (rest:=[39]) (h:=X) (x:=(y.name,w5)) odX gX (by omega) (by rw[o3.len,lb3]; omega) rfl ho rfl rfl rfl (by exact Nat.le_of_ble_eq_true rfl) rfl (by decide) rfl
 have n9:=t9.nx
 obtain⟨vc9,vo9⟩:=a1u.one o9
 have yX:∀ c,c<hG.next→¬ Sd c→h9.get c=hG.get c:=fun c hc q=>(t9.old c (by omega) q).trans (xX.old c hc)
 have dD:¬ Sd h2.next:=fun q=>by have:=(o3.sd _ q).1; omega
 have dR:¬ Sd h1.next:=fun q=>by have:=(o3.sd _ q).1; omega
 have g9R:=(yX h1.next (by omega) dR).trans gRG
 have g9D:=(yX h2.next (by omega) dD).trans gDG
 have S5g:∀ c,S5 c→Su3 c∨h3.next≤c:=fun c q=>by
  rcases t5.grow c q with r|r
  ·exact .inl r
  ·exact .inr (by omega)
 have S5l:∀ c,S5 c→c<hG.next:=fun c q=>by have:=iG.low c q; exact this
 have S5d:∀ c,S5 c→¬ Sd c:=fun c q r=>by
  rcases S5g c q with p|p
  ·exact(o3.sd c r).2.1 p
  ·have:=o3.low c (.inl r); omega
 have S5D:∀ c,S5 c→c≠h2.next∧(S0 c∨h2.next<c):=fun c q=>by
  rcases S5g c q with p|p
  ·rcases suS c p with r|r
   ·have:=low0 c r; exact⟨by omega,.inl r⟩
   ·exact⟨by omega,.inr r⟩
  ·exact⟨by omega,.inr (by omega)⟩
 rw[hX] at e9
 refine walk ?_
 obtain⟨H,hH⟩:∃ H,H=h9.set h2.next (.cells 41 [v9] true):=⟨_,rfl⟩
 have nH:H.next=h9.next:=by rw[hH]; rfl
 have oH:∀ c,c≠h2.next→H.get c=h9.get c:=fun c q=>by rw[hH]; exact a0a.gn _ _ _ _ q
 have k9:h9.ok:=t9.ok kX
 have kH:H.ok:=by rw[hH]; exact a0w k9 _ _ (by omega)
 have gH:H.get h2.next=some (.cells 41 [v9] true):=by rw[hH]; exact a0a.gs _ _ _
 have keep5:∀ c,S5 c→c<hG.next→H.get c=hG.get c:=fun c q hc=>(oH c (S5D c q).1).trans (yX c hc (S5d c q))
 refine next (i+1,s5.pg,bs++[(y.name,s5.out)]) (by simp only; omega) (by exact hsub) ⟨by simp only; omega,?_,f5,?_,by exact est,S5,Su5,Sw5,(fun c=>Sd c∨(X.next≤c∧c<h9.next)),(fun c=>Sp c∨Sw5 c),u5,w5,v9,s5,nl++[(y.name,w5)],?_⟩
 ·rw[hH] at kH; exact kH
 ·simp only[List.length_append,List.length_cons,List.length_nil]; omega
 show OfI z img h1.next h2.next S0 h2 s5.pg (bs++[(y.name,s5.out)]) S5 Su5 Sw5 (fun c=>Sd c∨(X.next≤c∧c<h9.next)) (fun c=>Sp c∨Sw5 c) u5 w5 v9 s5 (nl++[(y.name,w5)]) (h9.set h2.next (.cells 41 [v9] true))
 rw[← hH]
 have iH:RdW z img h1.next S5 Su5 Sw5 u5 w5 s5 false H:=iG.keep (by omega) (fun c q=>by
  rcases q with q|q
  ·rw[q]; exact(oH _ (by omega)).trans (yX _ (by omega) dR)
  ·exact keep5 c q (S5l c q))
 refine⟨iH,rfl,fun c q=>(S5D c (i5.su c q)).2,gH,by omega,?_,by simp[o3.len],?_,?_,?_,?_,?_⟩
 ·exact(o9.mono fun c q r=>by
   rcases q with q|q
   ·exact .inl q
   ·exact .inr ⟨q,r⟩).keep (fun c q hc=>oH c (by
    rcases q with q|q
    ·have:=(o3.sd c q).1; omega
    ·omega)) (by omega)
 ·intro j x b hx hb2
  by_cases cj:j<nl.length
  ·rw[List.getElem?_append_left cj] at hx
   rw[List.getElem?_append_left (by rw[← o3.len]; exact cj)] at hb2
   obtain⟨p1,p2⟩:=o3.at_ j x b hx hb2
   refine⟨p1,(p2.keep (h':=H) (fun c q hc=>?_) (by omega)).mono fun c q r=>.inl q⟩
   have nd:c≠h2.next:=by
    rcases(o3.sp c q).1 with r|r
    ·have:=low0 c r; omega
    ·omega
   have nr:c≠h1.next:=by
    rcases(o3.sp c q).1 with r|r
    ·have:=s0 c r; omega
    ·omega
   exact(oH c nd).trans ((yX c (by omega) (fun r=>(o3.sd c r).2.2 q)).trans (yG c hc nr (o3.sp c q).2))
  ·have ej:j=nl.length:=by
    have:=(List.getElem?_eq_some_iff.1 hx).1
    simp at this
    omega
   rw[ej,List.getElem?_append_right (Nat.le_refl _),Nat.sub_self] at hx
   rw[ej,List.getElem?_append_right (by rw[o3.len]; exact Nat.le_refl _),o3.len,Nat.sub_self] at hb2
   cases hx
   cases hb2
   exact⟨rfl,iH.ow.mono fun c q r=>.inr q⟩
 ·intro c q
  rw[nH]
  rcases q with (q|q)|q|q
  ·have:=o3.low c (.inl q); omega
  ·exact q.2
  ·have:=o3.low c (.inr q); omega
  ·have:=S5l c (i5.sw c q); omega
 ·intro c q
  have l5:∀ d,S5 d→d<h5.next:=i5.low
  rcases q with q|q
  ·refine⟨(o3.sd c q).1,fun r=>S5d c (i5.su c r) q,fun r=>?_⟩
   rcases r with r|r
   ·exact(o3.sd c q).2.2 r
   ·exact S5d c (i5.sw c r) q
  ·refine⟨by omega,fun r=>by have:=l5 c (i5.su c r); omega,fun r=>?_⟩
   rcases r with r|r
   ·have:=o3.low c (.inr r); omega
   ·have:=l5 c (i5.sw c r); omega
 ·intro c q
  rcases q with q|q
  ·refine⟨(o3.sp c q).1,fun r=>?_⟩
   rcases S5g c (i5.su c r) with p|p
   ·exact(o3.sp c q).2 p
   ·have:=o3.low c (.inr q); omega
  ·exact⟨(S5D c (i5.sw c q)).2,fun r=>i5.dis c r q⟩
 ·intro c hc hr hs
  exact(oH c (by omega)).trans ((yX c (by omega) (fun q=>by have:=(o3.sd c q).1; omega)).trans ((xG.old c (by omega)).trans (old5 c hc hr hs)))
end Go.Proofs.YtejfbaecadbdiaaGreat
