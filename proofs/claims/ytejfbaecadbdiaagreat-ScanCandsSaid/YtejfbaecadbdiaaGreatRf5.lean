/- What the functions of this part answer at any input, told by the rules over the evaluator. Conditions: those that each theorem states. -/
import Derived.Test.YtejfbaecadbdiaaGreatMet
set_option linter.unusedVariables false
set_option linter.unusedSimpArgs false
open Go Ev
namespace Go.Proofs.YtejfbaecadbdiaaGreat
set_option maxRecDepth 10000
set_option maxHeartbeats 4000000
theorem d8t {n:Nat}(hn:1<n) (m:Mt) (h:a0a):(TV n).sm 93 [m.av] h=some (.bool (decide (b1c m)),h):=by
 refine a3b hn rfl rfl rfl fun n hn=>a0s rfl rfl ?_
 have ok0:a0a.ok ⟨.nil,0⟩:=a2f
 generalize (⟨.nil,0⟩:a0a)=h at ok0 ⊢
 have w1:=a6p (n:=n) (by omega) m.size
 by_cases c1:m.tx≤4611686018427387904
 case neg =>
  have bad:¬ b1c m:=fun c=>c1 c.1
  refine walk ?_
  exact a0e (by exact hres) (a3w bad)
 by_cases c2:Good m.size
 case neg =>
  have bad:¬ b1c m:=fun c=>c2 c.2.1
  refine walk ?_
  exact a0e (by exact hres) (a3w bad)
 by_cases c3:2≤m.pages
 case neg =>
  have bad:¬ b1c m:=fun c=>c3 c.2.2.1
  refine walk ?_
  exact a0e (by exact hres) (a3w bad)
 by_cases c4:m.pages≤2147483647
 case neg =>
  have bad:¬ b1c m:=fun c=>c4 c.2.2.2.1
  refine walk ?_
  exact a0e (by exact hres) (a3w bad)
 by_cases c5:m.root<m.pages
 case neg =>
  have bad:¬ b1c m:=fun c=>c5 c.2.2.2.2.1.1
  refine walk ?_
  exact a0e (by exact hres) (a3w bad)
 by_cases c6:m.root=1
 case pos =>
  have bad:¬ b1c m:=fun c=>c.2.2.2.2.1.2 c6
  refine walk ?_
  exact a0e (by exact hres) (a3w bad)
 by_cases c7:m.free<m.pages
 case neg =>
  have bad:¬ b1c m:=fun c=>c7 c.2.2.2.2.2.1
  refine walk ?_
  exact a0e (by exact hres) (a3w bad)
 by_cases c8:m.free=1
 case pos =>
  have bad:¬ b1c m:=fun c=>c.2.2.2.2.2.2 c8
  refine walk ?_
  exact a0e (by exact hres) (a3w bad)
 have good:b1c m:=⟨c1,c2,c3,c4,⟨c5,c6⟩,c7,c8⟩
 refine walk ?_
 exact a0e (by exact hres) (b5l good)
theorem d3t {n:Nat}(hn:0<n) (x:Nat) (hx:x<2 ^ 64) (h:a0a):(TV n).sm 95 [.int .u64 x] h=some (.int .u32 (x % 2:Nat),h):=by
 refine a3b hn rfl rfl rfl fun n hn=>a0s rfl rfl ?_
 have e:((x % 2:Nat):Int)=(x:Int).tmod 2:=by rw[Int.tmod_eq_emod_of_nonneg (by omega)]; omega
 have e1:0≤(x:Int).tmod 2:=by rw[← e]; omega
 have e2:(x:Int).tmod 2<2:=by rw[← e]; omega
 rw[e]
 exact auto
theorem d3k {n:Nat}(hn:4<n) (m:Mt) (h:a0a):(TV n).sm 66 [m.av] h=some (.tuple [(b1z m).1.av,.int .i64 (b1z m).2],h):=by
 refine a3b hn rfl rfl rfl fun n hn=>a0s rfl rfl ?_
 have ok0:a0a.ok ⟨.nil,0⟩:=a2f
 generalize (⟨.nil,0⟩:a0a)=h at ok0 ⊢
 have w1:=d8t (n:=n) (by omega) m
 unfold b1z
 by_cases c:b1c m
 case neg =>
  rw[if_neg c]
  exact auto
 rw[if_pos c]
 obtain⟨c1,c2,c3,c4,c5,c6⟩:=id c
 have g1:=c2.1
 have g2:=c2.2.1
 obtain⟨k,hk'⟩:=Int.eq_ofNat_of_zero_le (show 0≤m.size by omega)
 have kb:k≤4096:=by omega
 have r1:=c5.1
 have r2:=c6.1
 have ek:m.size.toNat=k:=by omega
 have w2:=d3t (n:=n) (by omega) m.tx (by omega)
 have mcs:m.av.cells=[.int .u64 m.tx,.int .i64 (k:Nat),.int .u32 m.root,.int .u32 m.free,.int .u32 m.pages]:=by show m.cs=_; unfold Mt.cs; rw[hk']
 refine walk ?_
 rw[mcs]
 obtain⟨v1,g1,e1,o1,k1⟩:=ast (q:=n) (h:=((h.alloc (.cells 31 [.int .u64 m.tx,.int .i64 (k:Nat),.int .u32 m.root,.int .u32 m.free,.int .u32 m.pages] true)).alloc (.cells 64 Pg.zero.cs true)).alloc (.cells 5 [] true)) (u:=.slice (h.next+1+1) 0 0 0) (lo:=h.next+1+1) (s:=[]) (r:=a6a) (c2e (h:=(h.alloc (.cells 31 [.int .u64 m.tx,.int .i64 (k:Nat),.int .u32 m.root,.int .u32 m.free,.int .u32 m.pages] true)).alloc (.cells 64 Pg.zero.cs true)) (e:=5) (n:=0) (cs:=[]) (Nat.le_refl _) rfl) (by decide)
 have n1:h.next+3≤g1.next:=k1.nx
 have ga:g1.get h.next=some (.cells 31 [.int .u64 m.tx,.int .i64 (k:Nat),.int .u32 m.root,.int .u32 m.free,.int .u32 m.pages] true):=by exact a0g
 have gb:g1.get (h.next+1)=some (.cells 64 Pg.zero.cs true):=by exact a0g
 have okg:g1.ok:=by exact hok
 rw[List.nil_append] at o1
 refine walk ?_
 refine a0b (a9p o1.by (by omega) (by decide) (by decide) (by decide) o1.by.ns) rfl rfl rfl rfl ?_
 rintro v2 g2 ⟨o2,x2⟩
 have n2:=x2.nx
 refine walk ?_
 refine a0b (a9p o2.by (by omega) (by decide) (by decide) (by simp[a1c,a6a]) o2.by.ns) rfl rfl rfl rfl ?_
 rintro v3 g3 ⟨o3,x3⟩
 have n3:=x3.nx
 refine walk ?_
 refine a0b (a9p o3.by (by omega) (by decide) (by decide) (by simp[a1c,a6a]) o3.by.ns) rfl rfl rfl rfl ?_
 rintro v4 g4 ⟨o4,x4⟩
 have n4:=x4.nx
 refine walk ?_
 refine a0b (a9p o4.by (by omega) (by decide) (by decide) (by simp[a1c,a6a]) o4.by.ns) rfl rfl rfl rfl ?_
 rintro v5 g5 ⟨o5,x5⟩
 have n5:=x5.nx
 have ok5:g5.ok:=by exact hok
 have enc:a6a++leb k 2++leb m.root 4++leb m.free 4++leb m.pages 4=a4h m:=by unfold a4h; rw[ek]
 have w4:=b2m (n:=n) (by omega) (z:=(k:Int)) o5.by ok5 o5.by.ns
 rw[enc,a4j] at w4
 have hx:m.tx<2 ^ 64:=by omega
 have ga5:g5.get h.next=some (.cells 31 [.int .u64 m.tx,.int .i64 (k:Nat),.int .u32 m.root,.int .u32 m.free,.int .u32 m.pages] true):=by exact a0g
 have gb5:g5.get (h.next+1)=some (.cells 64 Pg.zero.cs true):=by exact a0g
 refine walk ?_
 refine a3e w4 rfl rfl rfl rfl ?_
 refine walk ?_
 refine a0c (q:=9) (ms:=[0,1,3,0,8,0,63,127,255]) (hl:=[[43,44,45],[43,44,45],[43,44,45],[40,41,42,45],[40,41,42,45],[40,41,42,43,44],[],[],[]]) hok rfl (by kernel_rfl) (by kernel_rfl) rfl ?_
 refine walk ?_
 rw[hk']
 exact a0d (by exact hres) rfl
theorem c9v {n:Nat}(hn:5<n) (z:Int) (p:Pg) (hl:p.body.length≤1000000) (h:a0a):(TV n).sm 33 [.int .i64 z,p.av] h=some (.tuple [(ofM z p).1.av,.int .i64 (ofM z p).2],h):=by
 refine a3b hn rfl rfl rfl fun n hn=>a0s rfl rfl ?_
 have ok0:a0a.ok ⟨.nil,0⟩:=a2f
 generalize (⟨.nil,0⟩:a0a)=h at ok0 ⊢
 by_cases d:22≤p.body.length
 case neg =>
  have bad:ofM z p=(Mt.zero,4):=by unfold ofM; rw[if_neg fun q=>d q.1]
  rw[bad]
  refine walk ?_
  exact a0d (by exact hres) rfl
 obtain⟨s,hs⟩:∃ s,s=p.body.drop 8:=⟨_,rfl⟩
 have sl:s.length≤1000000:=by rw[hs,List.length_drop]; omega
 refine walk ?_
 refine a0b (d7o (p.body.drop 8) _) rfl rfl rfl rfl ?_
 rintro _ _ ⟨rfl,rfl⟩
 rw[← hs]
 have l1:=a1b 2 s
 have l2:=a1b 4 (a0h 2 s)
 have l3:=a1b 4 (a0h 4 (a0h 2 s))
 have b1:=a1s 2 s
 have b2:=a1s 4 (a0h 2 s)
 have b3:=a1s 4 (a0h 4 (a0h 2 s))
 have b4:=a1s 4 (a0h 4 (a0h 4 (a0h 2 s)))
 refine walk ?_
 refine a0b (b0j (n:=2) (s:=s) (b:=h.next+2) (e:=166) (by exact a0g) (by show h.next+2<h.next+3; omega) (by omega) (by decide) (by decide)) rfl rfl rfl rfl ?_
 rintro _ h3 ⟨rfl,u3⟩
 have n3:h3.next=h.next+3:=u3.nx
 have ga3:h3.get h.next=some (.cells 64 p.cs true):=by exact a0g
 have gb3:h3.get (h.next+1)=some (.cells 31 Mt.zero.cs true):=by exact a0g
 have ok3:h3.ok:=by exact hok
 have gr3:=u3.got
 clear u3
 refine walk ?_
 refine a0b (b0j (n:=4) gr3 (by omega) (by omega) (by decide) (by decide)) rfl rfl rfl rfl ?_
 rintro _ h4 ⟨rfl,u4⟩
 have n4:=u4.nx
 refine walk ?_
 refine a0b (b0j (n:=4) u4.got (by omega) (by omega) (by decide) (by decide)) rfl rfl rfl rfl ?_
 rintro _ h5 ⟨rfl,u5⟩
 have n5:=u5.nx
 refine walk ?_
 refine a0b (b0j (n:=4) u5.got (by omega) (by omega) (by decide) (by decide)) rfl rfl rfl rfl ?_
 rintro _ h6 ⟨rfl,u6⟩
 have n6:=u6.nx
 have ga:h6.get h.next=some (.cells 64 p.cs true):=by rw[u6.old _ (by omega),u5.old _ (by omega),u4.old _ (by omega)]; exact ga3
 have gb:h6.get (h.next+1)=some (.cells 31 Mt.zero.cs true):=by rw[u6.old _ (by omega),u5.old _ (by omega),u4.old _ (by omega)]; exact gb3
 have ok6:h6.ok:=u6.ok (u5.ok (u4.ok ok3))
 clear u4 u5 u6 gr3 ga3 gb3 ok3
 refine walk ?_
 refine a3e (d3k (n:=n) (by omega) (b4j p.tx s) _) rfl rfl rfl rfl ?_
 have em:b4j p.tx s=b6j p:=by unfold b6j; rw[hs]
 have key:okM z p↔b1z (b4j p.tx s)=(p,0)∧(b4j p.tx s).size=z:=by rw[em]; exact⟨fun q=>q.2,fun q=>⟨d,q⟩⟩
 unfold ofM
 rw[← em]
 generalize b1z (b4j p.tx s)=r at key ⊢
 obtain⟨r1,r2⟩:=r
 by_cases d2:r2=0
 case neg =>
  rw[if_neg fun q=>d2 (congrArg Prod.snd (key.1 q).1)]
  refine walk ?_
  exact a0d (by exact hres) rfl
 subst d2
 refine walk ?_
 refine a1k rfl rfl rfl (a3n rfl rfl rfl (a8s (a5j r1 p) rfl) rfl) ?_
 by_cases d3:r1=p
 case neg =>
  rw[if_neg fun q=>d3 (congrArg Prod.fst (key.1 q).1)]
  refine walk ?_
  exact a0d (by exact hres) rfl
 by_cases d4:(a0o 2 s:Int)=z
 ·rw[if_pos (key.2 ⟨by rw[d3],d4⟩)]
  refine walk ?_
  exact a0d (by exact hres) rfl
 ·rw[if_neg fun q=>d4 (key.1 q).2]
  refine walk ?_
  exact a0d (by exact hres) rfl
set_option maxRecDepth 10000
set_option maxHeartbeats 4000000
theorem d4n {n:Nat}(hn:6<n) (z:Int) (img:List UInt8) (hi:img.length<1000000) (h:a0a):(TV n).sm 10 [.int .i64 z,.str img] h=some (c3x z img,h):=by
 refine a3b hn rfl rfl rfl fun n hn=>a0s rfl rfl ?_
 have ok0:a0a.ok ⟨.nil,0⟩:=a2f
 generalize (⟨.nil,0⟩:a0a)=h at ok0 ⊢
 unfold c3x
 refine walk ?_
 refine a0n (ι:=Nat×(Mt×Bool)×(Mt×Bool)) (fun a=>2-a.1) (fun a=>[(0,.int .i64 z),(1,.str img),(4,.ptr h.next 0),(5,.ptr (h.next+1) 0),(6,.ptr (h.next+2) 0),(7,.ptr (h.next+3) 0),(8,.int .i64 (a.1:Nat))]) (fun a h2=>a.1≤2∧Ext h h2∧h.next+4≤h2.next∧(h2.get h.next=some (.cells 32 (Mt.zero.cs++Mt.zero.cs) true)∧h2.get (h.next+1)=some (.cells 33 [.bool false,.bool false] true)∧h2.get (h.next+2)=some (.cells 32 (a.2.1.1.cs++a.2.2.1.cs) true))∧h2.get (h.next+3)=some (.cells 33 [.bool a.2.1.2,.bool a.2.2.2] true)∧(0<a.1→a.2.1=a1r z img 0)∧(1<a.1→a.2.2=a1r z img 1)∧(a.1<2→a.2.2=(Mt.zero,false))∧(a.1=0→a.2.1=(Mt.zero,false))) (0,(Mt.zero,false),(Mt.zero,false)) (by exact hsub) ⟨by decide,by exact a0j,by show h.next+4≤h.next+1+1+1+1; omega,⟨by exact a0g,by exact a0g,by exact a0g⟩,by exact a0g,by simp,by simp,by simp,by simp⟩ ?_
 rintro⟨i,m0,m1⟩ h2 ⟨hi2,x2,n2,⟨ga,gb,g0⟩,g1,p0,p1,q1,q0⟩ next
 dsimp only at hi2 x2 n2 g0 g1 p0 p1 q1 q0 next ⊢
 have ok2:=x2.ok ok0
 by_cases c:i<2
 case neg =>
  obtain rfl:=p0 (by omega)
  obtain rfl:=p1 (by omega)
  refine walk ?_
  refine a0c (q:=4) (ms:=[0,0,1,7]) (hl:=[[41],[40],[41],[]]) hok rfl (by kernel_rfl) (by kernel_rfl) rfl ?_
  refine walk ?_
  exact a0d (by exact hres) rfl
 have w1:=c0w (n:=n) (by omega) z img i hi (by omega)
 have hm:=a4t z img i
 have ei:((i:Nat):Int)=(i:Int):=rfl
 rcases(by omega:i=0∨i=1) with rfl|rfl
 ·obtain rfl:=q0 rfl
  obtain rfl:=q1 (by decide)
  by_cases c1:(a0u z img 0).2=0
  case neg =>
   have e:a1r z img 0=(Mt.zero,false):=by unfold a1r; rw[if_neg fun d=>c1 d.1]
   have c1':((a0u z img 0).2:Int)≠0:=c1
   refine walk ?_
   refine next (1,(Mt.zero,false),(Mt.zero,false)) (by simp only; omega) (by exact hsub) ⟨by simp only; omega,by exact a0j,by simp only[a0a.na,a0a.ns]; omega,⟨by exact a0g,by exact a0g,by exact a0g⟩,by exact a0g,fun _=>e.symm,by simp,by simp,by simp⟩
  have bl:(a0u z img 0).1.body.length≤1000000:=by
   have m:=hm c1
   have:=room_le z
   unfold a7a at m; omega
  have w2:=c9v (n:=n) (by omega) z (a0u z img 0).1 bl
  by_cases c2:(ofM z (a0u z img 0).1).2=0
  case neg =>
   have e:a1r z img 0=(Mt.zero,false):=by unfold a1r; rw[if_neg fun d=>c2 d.2]
   refine walk ?_
   refine next (1,(Mt.zero,false),(Mt.zero,false)) (by simp only; omega) (by exact hsub) ⟨by simp only; omega,by exact a0j,by simp only[a0a.na,a0a.ns]; omega,⟨by exact a0g,by exact a0g,by exact a0g⟩,by exact a0g,fun _=>e.symm,by simp,by simp,by simp⟩
  have e:a1r z img 0=((ofM z (a0u z img 0).1).1,true):=by unfold a1r; rw[if_pos ⟨c1,c2⟩]
  refine walk ?_
  refine next (1,((ofM z (a0u z img 0).1).1,true),(Mt.zero,false)) (by simp only; omega) (by exact hsub) ⟨by simp only; omega,by exact a0j,by simp only[a0a.na,a0a.ns]; omega,⟨by exact a0g,by exact a0g,by exact a0g⟩,by exact a0g,fun _=>e.symm,by simp,by simp,by simp⟩
 ·obtain rfl:=p0 (by decide)
  obtain rfl:=q1 (by decide)
  by_cases c1:(a0u z img 1).2=0
  case neg =>
   have e:a1r z img 1=(Mt.zero,false):=by unfold a1r; rw[if_neg fun d=>c1 d.1]
   have c1':((a0u z img 1).2:Int)≠0:=c1
   refine walk ?_
   refine next (2,a1r z img 0,(Mt.zero,false)) (by simp only; omega) (by exact hsub) ⟨by simp only; omega,by exact a0j,by simp only[a0a.na,a0a.ns]; omega,⟨by exact a0g,by exact a0g,by exact a0g⟩,by exact a0g,fun _=>rfl,fun _=>e.symm,by simp,by simp⟩
  have bl:(a0u z img 1).1.body.length≤1000000:=by
   have m:=hm c1
   have:=room_le z
   unfold a7a at m; omega
  have w2:=c9v (n:=n) (by omega) z (a0u z img 1).1 bl
  by_cases c2:(ofM z (a0u z img 1).1).2=0
  case neg =>
   have e:a1r z img 1=(Mt.zero,false):=by unfold a1r; rw[if_neg fun d=>c2 d.2]
   refine walk ?_
   refine next (2,a1r z img 0,(Mt.zero,false)) (by simp only; omega) (by exact hsub) ⟨by simp only; omega,by exact a0j,by simp only[a0a.na,a0a.ns]; omega,⟨by exact a0g,by exact a0g,by exact a0g⟩,by exact a0g,fun _=>rfl,fun _=>e.symm,by simp,by simp⟩
  have e:a1r z img 1=((ofM z (a0u z img 1).1).1,true):=by unfold a1r; rw[if_pos ⟨c1,c2⟩]
  refine walk ?_
  refine next (2,a1r z img 0,((ofM z (a0u z img 1).1).1,true)) (by simp only; omega) (by exact hsub) ⟨by simp only; omega,by exact a0j,by simp only[a0a.na,a0a.ns]; omega,⟨by exact a0g,by exact a0g,by exact a0g⟩,by exact a0g,fun _=>rfl,fun _=>e.symm,by simp,by simp⟩
end Go.Proofs.YtejfbaecadbdiaaGreat
