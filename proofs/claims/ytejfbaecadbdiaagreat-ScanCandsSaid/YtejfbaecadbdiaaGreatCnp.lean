/- What the functions of this part answer at any input, told by the rules over the evaluator. Conditions: those that each theorem states. -/
import Derived.Test.YtejfbaecadbdiaaGreatGrt
import Derived.Test.YtejfbaecadbdiaaGreatRf5
import Derived.Test.YtejfbaecadbdiaaGreatRst
import Derived.Test.YtejfbaecadbdiaaGreatRf1
set_option linter.unusedVariables false
set_option linter.unusedSimpArgs false
open Go Ev
namespace Go.Proofs.YtejfbaecadbdiaaGreat
set_option maxRecDepth 10000
set_option maxHeartbeats 4000000
theorem e4e {z:Int}{img:List UInt8}{p:Nat}{k:Int}(e:(a1v z img p k).2=true):(a1v z img p k).1=(a0u z img p).1∧(a0u z img p).1.page=p∧p<pages z img∧(a0u z img p).1.kind=k:=by
 unfold a1v at e ⊢
 split at e
 ·rename_i q
  rw[if_pos q]
  exact⟨rfl,(a5l q.1).1,(a5l q.1).2,q.2.1⟩
 ·cases e
theorem c3k {z:Int}{img:List UInt8}{p:Nat}{k:Int}{r:Rt}(h:r∈c9g z img p k):r.page=p∧p<pages z img∧r.kind=k∧k=(a0u z img p).1.kind:=by
 unfold c9g at h
 split at h
 ·rename_i e
  obtain⟨a,b,c,d⟩:=e4e e
  obtain rfl:=List.mem_singleton.1 h
  rw[a]
  exact⟨b,c,d,d.symm⟩
 ·cases h
theorem d8j (z:Int) (img:List UInt8):(a3c z img).Pairwise fun a b=>a.page<b.page:=by
 unfold a3c a8u
 rw[List.pairwise_flatMap]
 refine⟨fun q _=>?_,(List.pairwise_lt_range).imp fun {a b} hab x hx y hy=>?_⟩
 ·unfold b3m
  rw[List.pairwise_flatMap]
  refine⟨fun i _=>?_,(List.pairwise_lt_range).imp fun {a b} hab x hx y hy=>?_⟩
  ·have:=d1t z img (2+q) (2+i:Nat)
   match c9g z img (2+q) (2+i:Nat),this with
   |[],_=>exact .nil
   |[x],_=>exact List.pairwise_singleton ..
  ·have h1:=(c3k hx).2.2.2
   have h2:=(c3k hy).2.2.2
   omega
 ·unfold b3m at hx hy
  obtain⟨i,_,hx⟩:=List.mem_flatMap.1 hx
  obtain⟨j,_,hy⟩:=List.mem_flatMap.1 hy
  have:=(c3k hx).1
  have:=(c3k hy).1
  omega
theorem e3m {z:Int}{img:List UInt8}{r:Rt}(h:r∈a3c z img):2≤r.page∧r.page<pages z img:=by
 unfold a3c a8u at h
 obtain⟨q,_,h⟩:=List.mem_flatMap.1 h
 unfold b3m at h
 obtain⟨i,_,h⟩:=List.mem_flatMap.1 h
 obtain⟨a,b,_⟩:=c3k h
 omega
theorem e5z {l:List Rt}{r:Rt}(h:r∈l):r.tx≤c4s l:=by
 unfold c4s
 suffices H:∀ (l:List Rt) (m:Nat),m≤l.foldl (fun m r=>max m r.tx) m∧∀ r∈l,r.tx≤l.foldl (fun m r=>max m r.tx) m from(H l 0).2 r h
 clear h
 intro l
 induction l with
 |nil=>intro m; exact⟨Nat.le_refl _,fun r h=>by cases h⟩
 |cons x l ih =>
  intro m
  obtain⟨a,b⟩:=ih (max m x.tx)
  refine⟨by simp only[List.foldl_cons]; omega,fun r h=>?_⟩
  simp only[List.foldl_cons]
  rcases List.mem_cons.1 h with q|q
  ·subst q; omega
  ·exact b r q
theorem e2d {z:Int}{img:List UInt8}{r:Rt}(h:r∈a3c z img):r.tx≤c4a z img:=by
 have a:=e5z h
 have up:∀ (m:Nat) (x:Mt×Bool),m≤upM m x:=fun m x=>by unfold upM; split<;>omega
 unfold c4a
 exact Nat.le_trans a (Nat.le_trans (up _ _) (up _ _))
theorem f4u {α β:Type}{f:α→Option β}{l:List α}{i:Nat}{a:α}{b:β}(ha:l[i]?=some a) (hb:f a=some b):(l.filterMap f)[((l.take i).filterMap f).length]?=some b:=by
 obtain⟨hi,e⟩:=List.getElem?_eq_some_iff.1 ha
 have:l=l.take i++a::l.drop (i+1):=by
  conv=>lhs; rw[← List.take_append_drop i l,List.drop_eq_getElem_cons hi,e]
 conv=>lhs; rw[this]
 have e2:(List.take i (List.take i l++a::List.drop (i+1) l))=l.take i:=by rw[← this]
 rw[List.filterMap_append,List.filterMap_cons_some hb,e2,List.getElem?_append_right (Nat.le_refl _),Nat.sub_self]
 rfl
set_option maxRecDepth 10000
set_option maxHeartbeats 4000000
theorem f2g {q:Nat}(p r:Cd):eqv (TV q) 100 47 (.agg p.cs) (.agg r.cs)=some (decide (p=r)):=by
 refine(d5t rfl rfl (a7g rfl rfl rfl (b2x rfl) (a7g rfl rfl rfl (b2x rfl) (a7g rfl rfl rfl (e1f rfl) d5p)))).trans ?_
 congr 1
 rw[decide_eq_decide]
 cases p; cases r
 simp only[Cd.mk.injEq]
 constructor
 ·rintro⟨a,b,c,_⟩
  exact⟨by omega,by omega,c⟩
 ·rintro⟨a,b,c⟩
  exact⟨by omega,by omega,c,trivial⟩
theorem e8g {n:Nat}(h:a0a):(TV n).sm 6 [] h=some (.bool true,h):=b_w rfl rfl
theorem d7v {n:Nat}(hn:9<n){z:Int}{img:List UInt8}{h:a0a}(hk:h.ok) (hi:img.length<9223372036854775808):a0l (TV n) 3 [.int .i64 z,.str img] h (fun v h'=>v=.bool true∧Ext h h'):=by
 refine a0r (a1x rfl rfl) rfl rfl ?_
 have w1:=e8g (n:=n)
 have w2:=e8c (n:=n) (by omega) img hi
 by_cases c1:img.length≤5000
 case neg =>
  rw[decide_eq_false c1] at w2
  exact auto
 rw[decide_eq_true c1] at w2
 have w3:=d4n (n:=n) (by omega) z img (by omega)
 have et:∀ p,a7f z img p=((a1r z img 0).2&&decide ((a1r z img 0).1.root=p)||(a1r z img 1).2&&decide ((a1r z img 1).1.root=p)):=fun p=>rfl
 unfold c3x at w3
 generalize a1r z img 0=m0 at w3 et
 generalize a1r z img 1=m1 at w3 et
 obtain⟨m0,r0⟩:=m0
 obtain⟨m1,r1⟩:=m1
 dsimp only at w3 et
 refine walk ?_
 refine a0b (f1t (n:=n) (by omega) (z:=z) (img:=img) (by exact hok) (by omega)) rfl rfl rfl rfl ?_
 rintro w h1 ⟨x1,o1⟩
 have k1:=x1.ok hk
 refine walk ?_
 refine a0b (d2y (n:=n) (by omega) (z:=z) (img:=img) (by exact hok) (by omega)) rfl rfl rfl rfl ?_
 rintro u h2 ⟨x2,o2⟩
 have k2:=x2.ok k1
 have lw:=o1.ls.ext x2
 have lu:=o2.ls
 have ew:=lw.len
 have nw:=lw.ns
 have eu:=lu.len
 have nu:=lu.ns
 have x12:=x1.trans x2
 have sll:=b2p z img (pages z img-2)
 have es:a3c z img=a8u z img (pages z img-2):=rfl
 rw[← es] at sll
 have pl:=b3s z img
 have cl:(a9u z img).length≤(a3c z img).length:=List.length_filterMap_le ..
 clear x1 o1 o2
 refine walk ?_
 refine GJ.gen [(0,.int .i64 z),(1,.str img),(5,w),(6,u),(7,.ptr h2.next 0),(8,.ptr (h2.next+1) 0),(9,.int .i64 (0:Nat)),(10,.int .i64 (0:Nat))] (fun g=>Ext h2 g∧g.ok∧h2.next+2≤g.next∧g.get h2.next=some (.cells 32 (m0.cs++m1.cs) true)∧g.get (h2.next+1)=some (.cells 33 [.bool r0,.bool r1] true)) (by exact hsub) ⟨by exact a0j,by exact hok,by show h2.next+2≤h2.next+1+1; omega,by exact a0g,by exact a0g⟩ ?_
 rintro g ⟨xg,kg,ng,gm,gr⟩
 refine a0n (ι:=Nat) (fun i=>(a3c z img).length-i) (fun i=>[(0,.int .i64 z),(1,.str img),(5,w),(6,u),(7,.ptr h2.next 0),(8,.ptr (h2.next+1) 0),(9,.int .i64 (((a3c z img).take i).filterMap (a4c z img)).length),(10,.int .i64 i)]) (fun i h3=>i≤(a3c z img).length∧Ext g h3) 0 (by exact hsub) ⟨Nat.zero_le _,.refl _⟩ ?_
 rintro i h3 ⟨hi3,x3⟩ next
 have k3:=x3.ok kg
 have n3:=x3.nx
 have gm3:=(x3.old h2.next (by omega)).trans gm
 have gr3:=(x3.old (h2.next+1) (by omega)).trans gr
 have x23:=xg.trans x3
 by_cases c:i<(a3c z img).length
 case neg =>
  obtain rfl:i=(a3c z img).length:=by omega
  rw[List.take_length]
  have ek:(a3c z img).filterMap (a4c z img)=a9u z img:=rfl
  rw[ek]
  refine walk ?_
  rw[show decide (((a9u z img).length:Int)=((a9u z img).length:Int))=true from decide_eq_true rfl]
  exact a0e (by exact hres) ⟨rfl,Ext.trans x12 x23⟩
 obtain⟨y,hy⟩:∃ y,(a3c z img)[i]?=some y:=⟨_,List.getElem?_eq_getElem c⟩
 have hym:=List.mem_of_getElem? hy
 have py:=e3m hym
 have gy:=e2d hym
 have gt:¬ ((y.tx:Int)>(c4a z img:Int)):=by omega
 have p2:¬ ((y.page:Int)<2):=by omega
 obtain⟨B,p,e,all,rw',hb,hg,hpl,he,a1⟩:=(lw.ext x23).at (fun _=>rfl) hy
 refine walk ?_
 refine a5f (ι:=Unit) (fun _=>[(0,.int .i64 z),(1,.str img),(5,w),(6,u),(7,.ptr h2.next 0),(8,.ptr (h2.next+1) 0),(9,.int .i64 (((a3c z img).take i).filterMap (a4c z img)).length),(10,.int .i64 i),(72,.bool false)]) (fun _ g4=>Ext h3 g4) ?_ ?_
 ·intro k' join
  rcases Nat.eq_zero_or_pos i with rfl|i0
  ·have c0:¬ (0:Int)<((0:Nat):Int):=by omega
   refine a0c (q:=35) (ms:=[0,1,3,7,7,23,63,127,255,7,7,1543,3591,7687,16383,32767,65535,131071,131071,524287,1048575,2097151,131071,131071,12713983,33554431,67108863,134217727,268435455,268435455,1073741823,2147483647,4294967295,8589934591,17179869183]) (hl:=[[],[],[],[42,43,47,48,49,50,51],[41,47,48,49,50,51],[41,47,48,49,50,51],[47,48,49,50,51],[47,48,49,50,51],[47,48,49,50,51],[41,42,43,44,45,46,48],[41,42,43,44,45,46,47],[41,42,43,44,45,46],[41,42,43,44,45,46],[41,42,43,44,45,46],[],[],[],[56,60,61,62],[55,60,61,62],[60,61,62],[60,61,62],[60,61,62],[55,56,57,58,59,61],[55,56,57,58,59,60],[55,56,57,58,59],[],[],[],[67],[66],[],[],[],[],[]]) hok rfl (by kernel_rfl) (by kernel_rfl) rfl ?_
   refine walk ?_
   refine a2i (d5s (n:=n) (by omega) (z:=z) (img:=img) (by exact hok) (by omega)) rfl rfl rfl rfl rfl rfl ?_
   rintro _ h4 ⟨rfl,x4⟩
   refine walk ?_
   exact join () (by exact hsub) (by exact a0j)
  ·have c0:(0:Int)<(i:Int):=by omega
   obtain⟨y3,hy3⟩:∃ y,(a3c z img)[i-1]?=some y:=⟨_,List.getElem?_eq_getElem (by omega)⟩
   obtain⟨B3,p3,e3',all3,rw3,hbB3,hg3,hpl3,he3,a2⟩:=(lw.ext x23).at (fun _=>rfl) hy3
   have lt:=(List.pairwise_iff_getElem.1 (d8j z img)) (i-1) i (by omega) c (by omega)
   have e1:(a3c z img)[i-1]=y3:=by rw[List.getElem?_eq_getElem (by omega)] at hy3; exact Option.some.inj hy3
   have e2:(a3c z img)[i]=y:=by rw[List.getElem?_eq_getElem c] at hy; exact Option.some.inj hy
   rw[e1,e2] at lt
   have ge:¬ ((y3.page:Int) ≥ (y.page:Int)):=by omega
   refine a0c (q:=35) (ms:=[0,1,3,7,7,23,63,127,255,7,7,1543,3591,7687,16383,32767,65535,131071,131071,524287,1048575,2097151,131071,131071,12713983,33554431,67108863,134217727,268435455,268435455,1073741823,2147483647,4294967295,8589934591,17179869183]) (hl:=[[],[],[],[42,43,47,48,49,50,51],[41,47,48,49,50,51],[41,47,48,49,50,51],[47,48,49,50,51],[47,48,49,50,51],[47,48,49,50,51],[41,42,43,44,45,46,48],[41,42,43,44,45,46,47],[41,42,43,44,45,46],[41,42,43,44,45,46],[41,42,43,44,45,46],[],[],[],[56,60,61,62],[55,60,61,62],[60,61,62],[60,61,62],[60,61,62],[55,56,57,58,59,61],[55,56,57,58,59,60],[55,56,57,58,59],[],[],[],[67],[66],[],[],[],[],[]]) hok rfl (by kernel_rfl) (by kernel_rfl) rfl ?_
   refine walk ?_
   refine a2i (d5s (n:=n) (by omega) (z:=z) (img:=img) (by exact hok) (by omega)) rfl rfl rfl rfl rfl rfl ?_
   rintro _ h4 ⟨rfl,x4⟩
   refine walk ?_
   exact join () (by exact hsub) (by exact a0j)
 rintro⟨⟩ g4 x4
 clear a1
 have k4:=x4.ok k3
 have n4:=x4.nx
 have gm4:=(x4.old h2.next (by omega)).trans gm3
 have gr4:=(x4.old (h2.next+1) (by omega)).trans gr3
 have x24:=x23.trans x4
 have x34:=x3.trans x4
 have et1:(a3c z img).take (i+1)=(a3c z img).take i++[y]:=by rw[List.take_add_one,hy]; rfl
 have cd:a4c z img y=if y.kind≠2 then none else match b0l z img y.page with
  |none=>none
  |some _=>some ⟨y.page,y.tx,a7f z img y.page⟩:=rfl
 have e9n:a4c z img y=none→((a3c z img).take (i+1)).filterMap (a4c z img)=((a3c z img).take i).filterMap (a4c z img):=fun e=>by
  rw[et1,List.filterMap_append]
  simp only[List.filterMap_cons,e,List.filterMap_nil,List.append_nil]
 have e9s:∀ d,a4c z img y=some d→(((a3c z img).take (i+1)).filterMap (a4c z img)).length=(((a3c z img).take i).filterMap (a4c z img)).length+1:=fun d e=>by
  rw[et1,List.filterMap_append]
  simp only[List.filterMap_cons,e,List.filterMap_nil,List.length_append,List.length_cons,List.length_nil]
 obtain⟨B,p,e,all,rw',hb,hg,hpl,he,a1⟩:=(lw.ext x24).at (fun _=>rfl) hy
 by_cases ck:y.kind=2
 case neg =>
  rw[if_pos ck] at cd
  refine walk ?_
  exact next (i+1) (by omega) (by rw[e9n cd]; exact hsub) ⟨by omega,by exact a0j⟩
 rw[if_neg (by simpa using ck)] at cd
 refine walk ?_
 refine a0b (f4k (n:=n) (by omega) (z:=z) (img:=img) (m:=y.page) (by exact hok) (by omega) (by omega)) rfl rfl rfl rfl ?_
 rintro v h5 ⟨x5,ov⟩
 have x45:Ext g4 h5:=Ext.trans (by exact a0j) x5
 have k5:=x45.ok k4
 have n5:=x45.nx
 have gm5:=(x45.old h2.next (by omega)).trans gm4
 have gr5:=(x45.old (h2.next+1) (by omega)).trans gr4
 have x25:=x24.trans x45
 have x35:=x34.trans x45
 clear a1
 obtain⟨B,p,e,all,rw',hb,hg,hpl,he,a1⟩:=(lw.ext x25).at (fun _=>rfl) hy
 cases ed:b0l z img y.page with
 |none =>
  rw[ed] at ov cd
  dsimp only at ov cd
  subst ov
  refine walk ?_
  exact next (i+1) (by omega) (by rw[e9n cd]; exact hsub) ⟨by omega,by exact a0j⟩
 |some dn =>
 obtain⟨pg,bs⟩:=dn
 rw[ed] at ov cd
 dsimp only at ov cd
 obtain⟨dv,pv,out,rfl,od,op,_⟩:=ov
 obtain⟨nl,ol,_,_⟩:=od
 have wdo:=Sl.one ol
 have wdc:=Sl.cells ol
 have np:=Sl.one op
 clear ol op
 refine walk ?_
 refine b0q rfl rfl (b1v (n:=1) (cs:=[.nilslice]) (vs:=[dv]) rfl rfl rfl rfl rfl (by simp[wdo]) (a0t _ _) (by decide)) ?_
 refine walk ?_
 refine a5f (ι:=Unit) (fun _=>[(0,.int .i64 z),(1,.str img),(5,w),(6,u),(7,.ptr h2.next 0),(8,.ptr (h2.next+1) 0),(9,.int .i64 (((a3c z img).take i).filterMap (a4c z img)).length),(10,.int .i64 i),(14,.bool (a7f z img y.page))]) (fun _ g6=>Ext h5 g6) ?_ ?_
 ·intro k' join
  have tp:=et y.page
  rcases r0 with _|_
  ·rcases r1 with _|_
   ·have tl:a7f z img y.page=false:=by rw[tp]; simp
    refine a0c (q:=29) (ms:=[0,1,3,7,15,31,7,7,199,455,967,2047,4095,8191,16383,32767,65535,131071,262143,524287,131071,131071,3276799,7471103,15859711,33554431,67108863,134217727,268435455]) (hl:=[[],[],[],[99,100,101,102,103],[99,100,101,102,103],[99,100,101,102,103],[96,97,98,100],[96,97,98,99],[96,97,98],[96,97,98],[96,97,98],[],[],[],[],[],[],[113,114,115,116,117],[113,114,115,116,117],[113,114,115,116,117],[110,111,112,114],[110,111,112,113],[110,111,112],[110,111,112],[110,111,112],[],[],[],[]]) hok rfl (by kernel_rfl) (by kernel_rfl) rfl ?_
    refine walk ?_
    exact join () (by rw[tl]; exact hsub) (by exact a0j)
   ·by_cases d1:(m1.root:Int)=(y.page:Int)
    ·have tl:a7f z img y.page=true:=by rw[tp]; simp; omega
     refine a0c (q:=29) (ms:=[0,1,3,7,15,31,7,7,199,455,967,2047,4095,8191,16383,32767,65535,131071,262143,524287,131071,131071,3276799,7471103,15859711,33554431,67108863,134217727,268435455]) (hl:=[[],[],[],[99,100,101,102,103],[99,100,101,102,103],[99,100,101,102,103],[96,97,98,100],[96,97,98,99],[96,97,98],[96,97,98],[96,97,98],[],[],[],[],[],[],[113,114,115,116,117],[113,114,115,116,117],[113,114,115,116,117],[110,111,112,114],[110,111,112,113],[110,111,112],[110,111,112],[110,111,112],[],[],[],[]]) hok rfl (by kernel_rfl) (by kernel_rfl) rfl ?_
     refine walk ?_
     exact join () (by rw[tl]; exact hsub) (by exact a0j)
    ·have tl:a7f z img y.page=false:=by rw[tp]; simp; omega
     refine a0c (q:=29) (ms:=[0,1,3,7,15,31,7,7,199,455,967,2047,4095,8191,16383,32767,65535,131071,262143,524287,131071,131071,3276799,7471103,15859711,33554431,67108863,134217727,268435455]) (hl:=[[],[],[],[99,100,101,102,103],[99,100,101,102,103],[99,100,101,102,103],[96,97,98,100],[96,97,98,99],[96,97,98],[96,97,98],[96,97,98],[],[],[],[],[],[],[113,114,115,116,117],[113,114,115,116,117],[113,114,115,116,117],[110,111,112,114],[110,111,112,113],[110,111,112],[110,111,112],[110,111,112],[],[],[],[]]) hok rfl (by kernel_rfl) (by kernel_rfl) rfl ?_
     refine walk ?_
     exact join () (by rw[tl]; exact hsub) (by exact a0j)
  ·by_cases d0:(m0.root:Int)=(y.page:Int)
   ·have tl:a7f z img y.page=true:=by rw[tp]; simp[show m0.root=y.page by omega]
    refine a0c (q:=29) (ms:=[0,1,3,7,15,31,7,7,199,455,967,2047,4095,8191,16383,32767,65535,131071,262143,524287,131071,131071,3276799,7471103,15859711,33554431,67108863,134217727,268435455]) (hl:=[[],[],[],[99,100,101,102,103],[99,100,101,102,103],[99,100,101,102,103],[96,97,98,100],[96,97,98,99],[96,97,98],[96,97,98],[96,97,98],[],[],[],[],[],[],[113,114,115,116,117],[113,114,115,116,117],[113,114,115,116,117],[110,111,112,114],[110,111,112,113],[110,111,112],[110,111,112],[110,111,112],[],[],[],[]]) hok rfl (by kernel_rfl) (by kernel_rfl) rfl ?_
    refine walk ?_
    exact join () (by rw[tl]; exact hsub) (by exact a0j)
   rcases r1 with _|_
   ·have tl:a7f z img y.page=false:=by rw[tp]; simp; omega
    refine a0c (q:=29) (ms:=[0,1,3,7,15,31,7,7,199,455,967,2047,4095,8191,16383,32767,65535,131071,262143,524287,131071,131071,3276799,7471103,15859711,33554431,67108863,134217727,268435455]) (hl:=[[],[],[],[99,100,101,102,103],[99,100,101,102,103],[99,100,101,102,103],[96,97,98,100],[96,97,98,99],[96,97,98],[96,97,98],[96,97,98],[],[],[],[],[],[],[113,114,115,116,117],[113,114,115,116,117],[113,114,115,116,117],[110,111,112,114],[110,111,112,113],[110,111,112],[110,111,112],[110,111,112],[],[],[],[]]) hok rfl (by kernel_rfl) (by kernel_rfl) rfl ?_
    refine walk ?_
    exact join () (by rw[tl]; exact hsub) (by exact a0j)
   ·by_cases d1:(m1.root:Int)=(y.page:Int)
    ·have tl:a7f z img y.page=true:=by rw[tp]; simp[show m1.root=y.page by omega]
     refine a0c (q:=29) (ms:=[0,1,3,7,15,31,7,7,199,455,967,2047,4095,8191,16383,32767,65535,131071,262143,524287,131071,131071,3276799,7471103,15859711,33554431,67108863,134217727,268435455]) (hl:=[[],[],[],[99,100,101,102,103],[99,100,101,102,103],[99,100,101,102,103],[96,97,98,100],[96,97,98,99],[96,97,98],[96,97,98],[96,97,98],[],[],[],[],[],[],[113,114,115,116,117],[113,114,115,116,117],[113,114,115,116,117],[110,111,112,114],[110,111,112,113],[110,111,112],[110,111,112],[110,111,112],[],[],[],[]]) hok rfl (by kernel_rfl) (by kernel_rfl) rfl ?_
     refine walk ?_
     exact join () (by rw[tl]; exact hsub) (by exact a0j)
    ·have tl:a7f z img y.page=false:=by rw[tp]; simp; omega
     refine a0c (q:=29) (ms:=[0,1,3,7,15,31,7,7,199,455,967,2047,4095,8191,16383,32767,65535,131071,262143,524287,131071,131071,3276799,7471103,15859711,33554431,67108863,134217727,268435455]) (hl:=[[],[],[],[99,100,101,102,103],[99,100,101,102,103],[99,100,101,102,103],[96,97,98,100],[96,97,98,99],[96,97,98],[96,97,98],[96,97,98],[],[],[],[],[],[],[113,114,115,116,117],[113,114,115,116,117],[113,114,115,116,117],[110,111,112,114],[110,111,112,113],[110,111,112],[110,111,112],[110,111,112],[],[],[],[]]) hok rfl (by kernel_rfl) (by kernel_rfl) rfl ?_
     refine walk ?_
     exact join () (by rw[tl]; exact hsub) (by exact a0j)
 rintro⟨⟩ g6 x6
 have k6:=x6.ok k5
 have hkk:=f4u hy cd
 have x26:=x25.trans x6
 have x36:=x35.trans x6
 have ek:(a3c z img).filterMap (a4c z img)=a9u z img:=rfl
 rw[ek] at hkk
 have e9:=e9s _ cd
 generalize hK:(((a3c z img).take i).filterMap (a4c z img)).length=K at hkk e9
 have cK:K<(a9u z img).length:=(List.getElem?_eq_some_iff.1 hkk).1
 have ck2:¬ ((K:Int) ≥ ((a9u z img).length:Int)):=by omega
 clear a1
 obtain⟨B,p,e,all,rw',hb,hg,hpl,he,a1⟩:=(lw.ext x26).at (fun _=>rfl) hy
 obtain⟨B2,p2',e2,all2,rw2,hb2,hg2,hpl2,he2,a2⟩:=(lu.ext x26).at (fun _=>rfl) hkk
 refine walk ?_
 refine a0c (q:=23) (ms:=[0,0,2,7,15,31,31,127,255,31,31,1567,3615,7711,31,31,49183,114719,245791,31,1048095,2097151,4194303]) (hl:=[[122,123],[121],[121],[],[],[127,130,131,132,133,134,135,136,137,138,139,140,141],[126,130,131,132,133,134,135,136,137,138,139,140,141],[130,131,132,133,134,135,136,137,138,139,140,141],[130,131,132,133,134,135,136,137,138,139,140,141],[126,127,128,129,131,135,136,137,138,139,140],[126,127,128,129,130,135,136,137,138,139,140],[126,127,128,129,135,136,137,138,139,140],[126,127,128,129,135,136,137,138,139,140],[126,127,128,129,135,136,137,138,139,140],[126,127,128,129,130,131,132,133,134,136,140],[126,127,128,129,130,131,132,133,134,135,140],[126,127,128,129,130,131,132,133,134,140],[126,127,128,129,130,131,132,133,134,140],[126,127,128,129,130,131,132,133,134,140],[126,127,128,129,130,131,132,133,134,135,136,137,138,139],[126,127,128,129],[],[]]) hok rfl (by kernel_rfl) (by kernel_rfl) rfl ?_
 refine walk ?_
 refine a4l rfl rfl rfl rfl (a3n rfl rfl rfl (a8s (f2g ⟨y.page,y.tx,a7f z img y.page⟩ ⟨y.page,y.tx,a7f z img y.page⟩) rfl) rfl) ?_
 rw[show decide (¬ (⟨y.page,y.tx,a7f z img y.page⟩:Cd)=⟨y.page,y.tx,a7f z img y.page⟩)=false from decide_eq_false (fun c=>c rfl)]
 refine walk ?_
 refine next (i+1) (by omega) (by dsimp only; rw[e9]; exact hsub) ⟨by omega,by exact a0j⟩
end Go.Proofs.YtejfbaecadbdiaaGreat
