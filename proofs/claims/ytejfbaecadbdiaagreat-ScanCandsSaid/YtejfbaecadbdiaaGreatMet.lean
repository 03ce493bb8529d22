/- What the functions of this part answer at any input, told by the rules over the evaluator. Conditions: those that each theorem states. -/
import Derived.Test.YtejfbaecadbdiaaGreatGaq
import Derived.Test.YtejfbaecadbdiaaGreatDen
set_option linter.unusedVariables false
set_option linter.unusedSimpArgs false
open Go Ev
namespace Go.Proofs.YtejfbaecadbdiaaGreat
set_option maxRecDepth 10000
set_option maxHeartbeats 4000000
structure Mt where
 tx:Nat
 size:Int
 root:Nat
 free:Nat
 pages:Nat
 deriving DecidableEq
def Mt.cs (m:Mt):List AV:=[.int .u64 m.tx,.int .i64 m.size,.int .u32 m.root,.int .u32 m.free,.int .u32 m.pages]
def Mt.av (m:Mt):AV:=.agg m.cs
def Mt.zero:Mt:=⟨0,0,0,0,0⟩
def inM (n p:Nat):Prop:=n<p∧¬ n=1
instance (n p:Nat):Decidable (inM n p):=inferInstanceAs (Decidable (_∧_))
def b1c (m:Mt):Prop:=m.tx≤4611686018427387904∧Good m.size∧2≤m.pages∧m.pages≤2147483647∧inM m.root m.pages∧inM m.free m.pages
instance (m:Mt):Decidable (b1c m):=inferInstanceAs (Decidable (_∧_))
theorem c8y {q b:Nat}{e:TypeId}{m:Mt}{n:Nat}{h:a0a}(g:h.get b=some (.cells e m.cs true)) (hb:b<h.next):a0l (TV q) 153 [.int .u32 n,.ptr b 0] h (fun v h'=>v=.bool (decide (inM n m.pages))∧h'=h):=by
 refine a0r (a1x rfl rfl) rfl rfl ?_
 unfold inM
 by_cases c1:n<m.pages
 ·by_cases c2:n=1
  ·refine walk ?_
   exact a0e (by exact hres) ⟨a3w (by omega),rfl⟩
  ·refine walk ?_
   exact a0e (by exact hres) ⟨b5l (by omega),rfl⟩
 ·refine walk ?_
  exact a0e (by exact hres) ⟨a3w (by omega),rfl⟩
theorem e0r {n:Nat}(hn:1<n) (m:Mt) (h:a0a):(TV n).sm 124 [m.av] h=some (.bool (decide (b1c m)),h):=by
 refine a3b hn rfl rfl rfl fun n hn=>a0s rfl rfl ?_
 have ok0:a0a.ok ⟨.nil,0⟩:=a2f
 generalize (⟨.nil,0⟩:a0a)=h at ok0 ⊢
 have w1:=b2h (n:=n) (by omega) m.size
 by_cases c1:m.tx≤4611686018427387904
 case neg =>
  have bad:¬ b1c m:=fun c=>c1 c.1
  refine walk ?_
  exact a0e (by exact hres) (a3w bad)
 by_cases c2:Good m.size
 case neg =>
  have bad:¬ b1c m:=fun c=>c2 c.2.1
  refine walk ?_
  exact a0e (by exact hres) (a3w bad)
 by_cases c3:2≤m.pages
 case neg =>
  have bad:¬ b1c m:=fun c=>c3 c.2.2.1
  refine walk ?_
  exact a0e (by exact hres) (a3w bad)
 by_cases c4:m.pages≤2147483647
 case neg =>
  have bad:¬ b1c m:=fun c=>c4 c.2.2.2.1
  refine walk ?_
  exact a0e (by exact hres) (a3w bad)
 refine walk ?_
 refine a0b (c8y (m:=m) (by exact a0g) (by exact hlt)) rfl rfl rfl rfl ?_
 rintro _ _ ⟨rfl,rfl⟩
 by_cases c5:inM m.root m.pages
 case neg =>
  have bad:¬ b1c m:=fun c=>c5 c.2.2.2.2.1
  refine walk ?_
  exact a0e (by exact hres) (a3w bad)
 refine walk ?_
 refine a0b (c8y (m:=m) (by exact a0g) (by exact hlt)) rfl rfl rfl rfl ?_
 rintro _ _ ⟨rfl,rfl⟩
 have e:b1c m↔inM m.free m.pages:=⟨fun c=>c.2.2.2.2.2,fun c=>⟨c1,c2,c3,c4,c5,c⟩⟩
 refine walk ?_
 exact a0e (by exact hres) (d1n e.symm)
theorem d9t {n:Nat}(hn:0<n) (x:Nat) (hx:x<2 ^ 64) (h:a0a):(TV n).sm 127 [.int .u64 x] h=some (.int .u32 (x % 2:Nat),h):=by
 refine a3b hn rfl rfl rfl fun n hn=>a0s rfl rfl ?_
 have e:x &&& 1=x % 2:=Nat.and_one_is_mod x
 refine walk ?_
 refine a1k rfl rfl rfl (a3n rfl rfl rfl (d0p (k:=.u64) (y:=1) rfl hx (by decide)) rfl) ?_
 rw[e]
 refine walk ?_
 exact a0e (by exact hres) rfl
def a6a:List UInt8:=[99,97,114,101,101,110,48,49]
def a4h (m:Mt):List UInt8:=a6a++leb m.size.toNat 2++leb m.root 4++leb m.free 4++leb m.pages 4
theorem d1d (m:Mt):(a4h m).length=22:=by simp[a4h,a1c,a6a]
def b1z (m:Mt):Pg×Int:=if b1c m then(⟨1,0,m.tx % 2,0,m.tx,b8i m.size (a4h m)⟩,0) else(Pg.zero,2)
theorem d9y {n:Nat}(hn:4<n) (m:Mt) (h:a0a):(TV n).sm 101 [m.av] h=some (.tuple [(b1z m).1.av,.int .i64 (b1z m).2],h):=by
 refine a3b hn rfl rfl rfl fun n hn=>a0s rfl rfl ?_
 have ok0:a0a.ok ⟨.nil,0⟩:=a2f
 generalize (⟨.nil,0⟩:a0a)=h at ok0 ⊢
 have w1:=e0r (n:=n) (by omega) m
 unfold b1z
 by_cases c:b1c m
 case neg =>
  rw[if_neg c]
  exact auto
 rw[if_pos c]
 obtain⟨c1,c2,c3,c4,c5,c6⟩:=id c
 have g1:=c2.1
 have g2:=c2.2.1
 obtain⟨k,hk'⟩:=Int.eq_ofNat_of_zero_le (show 0≤m.size by omega)
 have kb:k≤4096:=by omega
 have r1:=c5.1
 have r2:=c6.1
 have ek:m.size.toNat=k:=by omega
 have w2:=d9t (n:=n) (by omega) m.tx (by omega)
 refine walk ?_
 refine a1k rfl rfl rfl (e7z rfl rfl rfl rfl rfl (by exact a0g) rfl) ?_
 have mcs:m.cs=[.int .u64 m.tx,.int .i64 (k:Nat),.int .u32 m.root,.int .u32 m.free,.int .u32 m.pages]:=by unfold Mt.cs; rw[hk']
 have mav:m.av.cells=[.int .u64 m.tx,.int .i64 (k:Nat),.int .u32 m.root,.int .u32 m.free,.int .u32 m.pages]:=mcs
 rw[mav]
 refine walk ?_
 refine a0b (a2m (v:=.slice (h.next+2) 0 8 8) (s:=a6a) (x:=k) ⟨rfl,by exact hlt,_,_,_,by exact a0t _ _,by decide,by rfl⟩ (by omega) (by decide) (by decide) (by decide) rfl) rfl rfl rfl rfl ?_
 rintro v1 g1 ⟨o1,x1⟩
 have n1:h.next+3≤g1.next:=x1.nx
 have ga:g1.get h.next=some (.cells 31 [.int .u64 m.tx,.int .i64 (k:Nat),.int .u32 m.root,.int .u32 m.free,.int .u32 m.pages] true):=by exact a0g
 have gb:g1.get (h.next+1)=some (.cells 64 Pg.zero.cs true):=by exact a0g
 have okg:g1.ok:=by exact hok
 clear x1
 refine walk ?_
 refine a7m ?_
 refine walk ?_
 refine a0b (a2m (o1.by.ext (by exact a0j)) (by omega) (by decide) (by decide) (by simp[a1c,a6a]) o1.by.ns) rfl rfl rfl rfl ?_
 rintro v2 g2 ⟨o2,x2⟩
 have n2:g1.next+1≤g2.next:=x2.nx
 have q2:g2.get g1.next=some (.cells 29 [.int .u32 m.root,.int .u32 m.free,.int .u32 m.pages] true):=by exact a0g
 have qa2:g2.get h.next=some (.cells 31 [.int .u64 m.tx,.int .i64 (k:Nat),.int .u32 m.root,.int .u32 m.free,.int .u32 m.pages] true):=by exact a0g
 have qb2:g2.get (h.next+1)=some (.cells 64 Pg.zero.cs true):=by exact a0g
 have ok2:g2.ok:=by exact hok
 clear x2
 refine walk ?_
 refine a7m ?_
 refine walk ?_
 refine a0b (a2m o2.by (by omega) (by decide) (by decide) (by simp[a1c,a6a]) o2.by.ns) rfl rfl rfl rfl ?_
 rintro v3 g3 ⟨o3,x3⟩
 have n3:=x3.nx
 refine walk ?_
 refine a7m ?_
 refine walk ?_
 refine a0b (a2m o3.by (by omega) (by decide) (by decide) (by simp[a1c,a6a]) o3.by.ns) rfl rfl rfl rfl ?_
 rintro v4 g4 ⟨o4,x4⟩
 have n4:=x4.nx
 have ok4:g4.ok:=by exact hok
 refine walk ?_
 refine a7m ?_
 have enc:a6a++leb k 2++leb m.root 4++leb m.free 4++leb m.pages 4=a4h m:=by unfold a4h; rw[ek]
 have w4:=b6p (n:=n) (by omega) (z:=(k:Int)) o4.by ok4 o4.by.ns
 rw[enc,a4j] at w4
 have hx:m.tx<2 ^ 64:=by omega
 refine walk ?_
 refine a3e w4 rfl rfl rfl rfl ?_
 refine walk ?_
 refine a0c (q:=9) (ms:=[0,1,3,0,8,0,63,127,255]) (hl:=[[46,47,48],[46,47,48],[46,47,48],[43,44,45,48],[43,44,45,48],[43,44,45,46,47],[],[],[]]) hok rfl (by kernel_rfl) (by kernel_rfl) rfl ?_
 refine walk ?_
 rw[hk']
 exact a0d (by exact hres) rfl
set_option maxRecDepth 10000
set_option maxHeartbeats 4000000
def pfx (a s:List UInt8):Prop:=a.length≤s.length∧s.take a.length=a
instance (a s:List UInt8):Decidable (pfx a s):=inferInstanceAs (Decidable (_∧_))
theorem f4m {q:Nat}{s a:List UInt8}{h:a0a}(hl:s.length<1000000000) (ha:a.length<1000000000):a0l (TV q) 152 [.str s,.str a] h (fun v h'=>v=.bool (decide (pfx a s))∧h'=h):=by
 refine a0r (a1x rfl rfl) rfl rfl ?_
 unfold pfx
 by_cases c1:a.length≤s.length
 ·by_cases c2:s.take a.length=a
  ·refine walk ?_
   exact a0e (by exact hres) ⟨b5l ⟨c1,c2⟩,rfl⟩
  ·refine walk ?_
   exact a0e (by exact hres) ⟨a3w fun c=>c2 c.2,rfl⟩
 ·refine walk ?_
  exact a0e (by exact hres) ⟨a3w fun c=>c1 c.1,rfl⟩
def d8k (a s:List UInt8):List UInt8:=if pfx a s then s.drop a.length else s
theorem f1i {q:Nat}{s a:List UInt8}{h:a0a}(hl:s.length<1000000000) (ha:a.length<1000000000):a0l (TV q) 122 [.str s,.str a] h (fun v h'=>v=.tuple [.str (d8k a s),.bool (decide (pfx a s))]∧h'=h):=by
 refine a0r (a1x rfl rfl) rfl rfl ?_
 unfold d8k
 refine walk ?_
 refine a0b (f4m hl ha) rfl rfl rfl rfl ?_
 rintro _ _ ⟨rfl,rfl⟩
 by_cases c:pfx a s
 ·rw[if_pos c,decide_eq_true c]
  have:=c.1
  refine walk ?_
  exact a0d (by exact hres) ⟨rfl,rfl⟩
 ·rw[if_neg c,decide_eq_false c]
  refine walk ?_
  exact a0d (by exact hres) ⟨rfl,rfl⟩
theorem f4e {q:Nat}{s a:List UInt8}{h:a0a}(hl:s.length<1000000000) (ha:a.length<1000000000):a0l (TV q) 98 [.str s,.str a] h (fun v h'=>v=.tuple [.str (d8k a s),.bool (decide (pfx a s))]∧h'=h):=by
 refine a0r (a1x rfl rfl) rfl rfl ?_
 refine walk ?_
 refine a0b (f1i hl ha) rfl rfl rfl rfl ?_
 rintro _ _ ⟨rfl,rfl⟩
 refine walk ?_
 exact a0d (by exact hres) ⟨rfl,rfl⟩
def b4j (x:Nat) (s:List UInt8):Mt:=⟨x,a0o 2 s,a0o 4 (a0h 2 s),a0o 4 (a0h 4 (a0h 2 s)),a0o 4 (a0h 4 (a0h 4 (a0h 2 s)))⟩
def b6j (p:Pg):Mt:=b4j p.tx (p.body.drop 8)
def okM (z:Int) (p:Pg):Prop:=22≤p.body.length∧b1z (b6j p)=(p,0)∧(b6j p).size=z
instance (z:Int) (p:Pg):Decidable (okM z p):=inferInstanceAs (Decidable (_∧_))
def ofM (z:Int) (p:Pg):Mt×Int:=if okM z p then(b6j p,0) else(Mt.zero,4)
theorem d3n {m:Mt}{p:Pg}(e:b1z m=(p,0)):p.body=a4h m++List.replicate (m.size.toNat-24-22) 0:=by
 unfold b1z at e
 split at e
 ·rename_i c
  have e1:=congrArg (fun r=>r.1.body) e
  have g:=c.2.1
  have g1:=g.1
  simp only at e1
  rw[← e1]
  unfold b8i
  rw[if_pos ⟨g,by rw[d1d]; omega⟩,d1d]
 ·cases congrArg Prod.snd e
theorem e5h {z:Int}{p:Pg}(c:okM z p):pfx a6a p.body:=by
 have e:=d3n c.2.1
 rw[e]
 refine⟨by simp[a4h,a6a],?_⟩
 unfold a4h
 simp only[List.append_assoc]
 exact List.take_left
theorem d5l {n:Nat}(hn:5<n) (z:Int) (p:Pg) (hl:p.body.length≤1000000) (h:a0a):(TV n).sm 68 [.int .i64 z,p.av] h=some (.tuple [(ofM z p).1.av,.int .i64 (ofM z p).2],h):=by
 refine a3b hn rfl rfl rfl fun n hn=>a0s rfl rfl ?_
 have ok0:a0a.ok ⟨.nil,0⟩:=a2f
 generalize (⟨.nil,0⟩:a0a)=h at ok0 ⊢
 refine walk ?_
 refine a0b (f4e (s:=p.body) (a:=a6a) (by omega) (by decide)) rfl rfl rfl rfl ?_
 rintro _ _ ⟨rfl,rfl⟩
 obtain⟨s,hs⟩:∃ s,s=d8k a6a p.body:=⟨_,rfl⟩
 have sl:s.length≤1000000:=by
  rw[hs]; unfold d8k
  split
  ·rw[List.length_drop]; omega
  ·exact hl
 rw[← hs]
 refine walk ?_
 refine a0b (a9j s _) rfl rfl rfl rfl ?_
 rintro _ _ ⟨rfl,rfl⟩
 have l1:=a1b 2 s
 have l2:=a1b 4 (a0h 2 s)
 have l3:=a1b 4 (a0h 4 (a0h 2 s))
 have b1:=a1s 2 s
 have b2:=a1s 4 (a0h 2 s)
 have b3:=a1s 4 (a0h 4 (a0h 2 s))
 have b4:=a1s 4 (a0h 4 (a0h 4 (a0h 2 s)))
 refine walk ?_
 refine a0b (a8p (n:=2) (s:=s) (b:=h.next+2) (e:=201) (by exact a0g) (by show h.next+2<h.next+3; omega) (by omega) (by decide) (by decide)) rfl rfl rfl rfl ?_
 rintro _ h3 ⟨rfl,u3⟩
 have n3:h3.next=h.next+3:=u3.nx
 have ga3:h3.get h.next=some (.cells 64 p.cs true):=by exact a0g
 have gb3:h3.get (h.next+1)=some (.cells 31 Mt.zero.cs true):=by exact a0g
 have ok3:h3.ok:=by exact hok
 have gr3:=u3.got
 clear u3
 refine walk ?_
 refine a0b (a8p (n:=4) gr3 (by omega) (by omega) (by decide) (by decide)) rfl rfl rfl rfl ?_
 rintro _ h4 ⟨rfl,u4⟩
 have n4:=u4.nx
 refine walk ?_
 refine a0b (a8p (n:=4) u4.got (by omega) (by omega) (by decide) (by decide)) rfl rfl rfl rfl ?_
 rintro _ h5 ⟨rfl,u5⟩
 have n5:=u5.nx
 refine walk ?_
 refine a0b (a8p (n:=4) u5.got (by omega) (by omega) (by decide) (by decide)) rfl rfl rfl rfl ?_
 rintro _ h6 ⟨rfl,u6⟩
 have n6:=u6.nx
 have ga:h6.get h.next=some (.cells 64 p.cs true):=by rw[u6.old _ (by omega),u5.old _ (by omega),u4.old _ (by omega)]; exact ga3
 have gb:h6.get (h.next+1)=some (.cells 31 Mt.zero.cs true):=by rw[u6.old _ (by omega),u5.old _ (by omega),u4.old _ (by omega)]; exact gb3
 have ok6:h6.ok:=u6.ok (u5.ok (u4.ok ok3))
 clear u4 u5 u6 gr3 ga3 gb3 ok3
 refine walk ?_
 refine a3e (d9y (n:=n) (by omega) (b4j p.tx s) _) rfl rfl rfl rfl ?_
 by_cases c:pfx a6a p.body
 case neg =>
  have bad:ofM z p=(Mt.zero,4):=by unfold ofM; rw[if_neg fun d=>c (e5h d)]
  rw[bad,decide_eq_false c]
  refine walk ?_
  exact a0d (by exact hres) rfl
 rw[decide_eq_true c]
 have es:s=p.body.drop 8:=by rw[hs]; unfold d8k; rw[if_pos c]; rfl
 have c8:8≤p.body.length:=c.1
 have el:s.length=p.body.length-8:=by rw[es,List.length_drop]
 have em:b4j p.tx s=b6j p:=by unfold b6j; rw[es]
 by_cases d:22≤p.body.length
 case neg =>
  have bad:ofM z p=(Mt.zero,4):=by unfold ofM; rw[if_neg fun q=>d q.1]
  have e7:b3n 4 (a0h 4 (a0h 4 (a0h 2 s)))=7:=a5k fun q=>by
   by_cases q1:2≤s.length
   ·have:=a2q q1
    by_cases q2:4≤(a0h 2 s).length
    ·have:=a2q q2
     by_cases q3:4≤(a0h 4 (a0h 2 s)).length
     ·have:=a2q q3; omega
     ·omega
    ·omega
   ·omega
  rw[bad,e7]
  refine walk ?_
  exact a0d (by exact hres) rfl
 have e0:b3n 4 (a0h 4 (a0h 4 (a0h 2 s)))=0:=a4b (by
  have q1:2≤s.length:=by omega
  have:=a2q q1
  have q2:4≤(a0h 2 s).length:=by omega
  have:=a2q q2
  have q3:4≤(a0h 4 (a0h 2 s)).length:=by omega
  have:=a2q q3
  omega)
 rw[e0]
 have key:okM z p↔b1z (b4j p.tx s)=(p,0)∧(b4j p.tx s).size=z:=by rw[em]; exact⟨fun q=>q.2,fun q=>⟨d,q⟩⟩
 unfold ofM
 rw[← em]
 generalize b1z (b4j p.tx s)=r at key ⊢
 obtain⟨r1,r2⟩:=r
 by_cases d2:r2=0
 case neg =>
  rw[if_neg fun q=>d2 (congrArg Prod.snd (key.1 q).1)]
  refine walk ?_
  exact a0d (by exact hres) rfl
 subst d2
 refine walk ?_
 refine a1k rfl rfl rfl (a3n rfl rfl rfl (a8s (a5j r1 p) rfl) rfl) ?_
 by_cases d3:r1=p
 case neg =>
  rw[if_neg fun q=>d3 (congrArg Prod.fst (key.1 q).1)]
  refine walk ?_
  exact a0d (by exact hres) rfl
 by_cases d4:(a0o 2 s:Int)=z
 ·rw[if_pos (key.2 ⟨by rw[d3],d4⟩)]
  refine walk ?_
  exact a0d (by exact hres) rfl
 ·rw[if_neg fun q=>d4 (key.1 q).2]
  refine walk ?_
  exact a0d (by exact hres) rfl
def a1r (z:Int) (img:List UInt8) (i:Nat):Mt×Bool:=if(a0u z img i).2=0∧(ofM z (a0u z img i).1).2=0 then((ofM z (a0u z img i).1).1,true) else(Mt.zero,false)
def c3x (z:Int) (img:List UInt8):AV:=.tuple [.agg ((a1r z img 0).1.cs++(a1r z img 1).1.cs),.agg [.bool (a1r z img 0).2,.bool (a1r z img 1).2]]
theorem c4w {n:Nat}(hn:6<n) (z:Int) (img:List UInt8) (hi:img.length<1000000) (h:a0a):(TV n).sm 34 [.int .i64 z,.str img] h=some (c3x z img,h):=by
 refine a3b hn rfl rfl rfl fun n hn=>a0s rfl rfl ?_
 have ok0:a0a.ok ⟨.nil,0⟩:=a2f
 generalize (⟨.nil,0⟩:a0a)=h at ok0 ⊢
 unfold c3x
 refine walk ?_
 refine a0n (ι:=Nat×(Mt×Bool)×(Mt×Bool)) (fun a=>2-a.1) (fun a=>[(0,.int .i64 z),(1,.str img),(4,.ptr h.next 0),(5,.ptr (h.next+1) 0),(11,.int .i64 (a.1:Nat))]) (fun a h2=>a.1≤2∧Ext h h2∧h.next+2≤h2.next∧h2.get h.next=some (.cells 32 (a.2.1.1.cs++a.2.2.1.cs) true)∧h2.get (h.next+1)=some (.cells 33 [.bool a.2.1.2,.bool a.2.2.2] true)∧(0<a.1→a.2.1=a1r z img 0)∧(1<a.1→a.2.2=a1r z img 1)∧(a.1<2→a.2.2=(Mt.zero,false))∧(a.1=0→a.2.1=(Mt.zero,false))) (0,(Mt.zero,false),(Mt.zero,false)) (by exact hsub) ⟨by decide,by exact a0j,by show h.next+2≤h.next+1+1; omega,by exact a0g,by exact a0g,by simp,by simp,by simp,by simp⟩ ?_
 rintro⟨i,m0,m1⟩ h2 ⟨hi2,x2,n2,g0,g1,p0,p1,q1,q0⟩ next
 dsimp only at hi2 x2 n2 g0 g1 p0 p1 q1 q0 next ⊢
 have ok2:=x2.ok ok0
 by_cases c:i<2
 case neg =>
  obtain rfl:=p0 (by omega)
  obtain rfl:=p1 (by omega)
  refine walk ?_
  exact a0d (by exact hres) rfl
 have w1:=c8b (n:=n) (by omega) z img i hi (by omega)
 have hm:=a4t z img i
 have ei:((i:Nat):Int)=(i:Int):=rfl
 rcases(by omega:i=0∨i=1) with rfl|rfl
 ·obtain rfl:=q0 rfl
  obtain rfl:=q1 (by decide)
  by_cases c1:(a0u z img 0).2=0
  case neg =>
   have e:a1r z img 0=(Mt.zero,false):=by unfold a1r; rw[if_neg fun d=>c1 d.1]
   have c1':((a0u z img 0).2:Int)≠0:=c1
   refine walk ?_
   refine next (1,(Mt.zero,false),(Mt.zero,false)) (by simp only; omega) (by exact hsub) ⟨by simp only; omega,by exact a0j,by simp only[a0a.na,a0a.ns]; omega,by exact a0g,by exact a0g,fun _=>e.symm,by simp,by simp,by simp⟩
  have bl:(a0u z img 0).1.body.length≤1000000:=by
   have m:=hm c1
   have:=room_le z
   unfold a7a at m; omega
  have w2:=d5l (n:=n) (by omega) z (a0u z img 0).1 bl
  by_cases c2:(ofM z (a0u z img 0).1).2=0
  case neg =>
   have e:a1r z img 0=(Mt.zero,false):=by unfold a1r; rw[if_neg fun d=>c2 d.2]
   refine walk ?_
   refine next (1,(Mt.zero,false),(Mt.zero,false)) (by simp only; omega) (by exact hsub) ⟨by simp only; omega,by exact a0j,by simp only[a0a.na,a0a.ns]; omega,by exact a0g,by exact a0g,fun _=>e.symm,by simp,by simp,by simp⟩
  have e:a1r z img 0=((ofM z (a0u z img 0).1).1,true):=by unfold a1r; rw[if_pos ⟨c1,c2⟩]
  refine walk ?_
  refine next (1,((ofM z (a0u z img 0).1).1,true),(Mt.zero,false)) (by simp only; omega) (by exact hsub) ⟨by simp only; omega,by exact a0j,by simp only[a0a.na,a0a.ns]; omega,by exact a0g,by exact a0g,fun _=>e.symm,by simp,by simp,by simp⟩
 ·obtain rfl:=p0 (by decide)
  obtain rfl:=q1 (by decide)
  by_cases c1:(a0u z img 1).2=0
  case neg =>
   have e:a1r z img 1=(Mt.zero,false):=by unfold a1r; rw[if_neg fun d=>c1 d.1]
   have c1':((a0u z img 1).2:Int)≠0:=c1
   refine walk ?_
   refine next (2,a1r z img 0,(Mt.zero,false)) (by simp only; omega) (by exact hsub) ⟨by simp only; omega,by exact a0j,by simp only[a0a.na,a0a.ns]; omega,by exact a0g,by exact a0g,fun _=>rfl,fun _=>e.symm,by simp,by simp⟩
  have bl:(a0u z img 1).1.body.length≤1000000:=by
   have m:=hm c1
   have:=room_le z
   unfold a7a at m; omega
  have w2:=d5l (n:=n) (by omega) z (a0u z img 1).1 bl
  by_cases c2:(ofM z (a0u z img 1).1).2=0
  case neg =>
   have e:a1r z img 1=(Mt.zero,false):=by unfold a1r; rw[if_neg fun d=>c2 d.2]
   refine walk ?_
   refine next (2,a1r z img 0,(Mt.zero,false)) (by simp only; omega) (by exact hsub) ⟨by simp only; omega,by exact a0j,by simp only[a0a.na,a0a.ns]; omega,by exact a0g,by exact a0g,fun _=>rfl,fun _=>e.symm,by simp,by simp⟩
  have e:a1r z img 1=((ofM z (a0u z img 1).1).1,true):=by unfold a1r; rw[if_pos ⟨c1,c2⟩]
  refine walk ?_
  refine next (2,a1r z img 0,((ofM z (a0u z img 1).1).1,true)) (by simp only; omega) (by exact hsub) ⟨by simp only; omega,by exact a0j,by simp only[a0a.na,a0a.ns]; omega,by exact a0g,by exact a0g,fun _=>rfl,fun _=>e.symm,by simp,by simp⟩
end Go.Proofs.YtejfbaecadbdiaaGreat
