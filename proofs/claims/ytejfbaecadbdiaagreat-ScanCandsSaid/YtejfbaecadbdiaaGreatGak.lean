/- A part of an evaluator of the program's form in Lean, of the proof that what it says of a call is what the machine does, and of the rules by which proofs walk over it. Conditions: those that each theorem states. -/
import Derived.Test.YtejfbaecadbdiaaGreatGai
set_option linter.unusedVariables false
set_option linter.unusedSimpArgs false
section
namespace Ev
open Go Go.RowKit
variable {P:Program}{T:a0k}{base:Nat}{w0:World}
theorem FnR.back {E E':En}(le:E.Le E'){f g g':Fn}(h:FnR E f g) (h':FnR E' f g'):FnR E f g':=by
 cases h with
 |yield l d =>
  cases h' with
  |yield _ d'=>rw[le.blk l d]; exact .yield l d
  |same _ hn=>exact absurd rfl (hn l)
 |same _ hn =>
  cases h' with
  |yield l _=>exact absurd rfl (hn l)
  |same _ _=>exact .same _ hn
mutual
theorem VR.back {E E':En}(le:E.Le E'):∀ {a:AV}{v v':Value},VR E a v→VR E' a v'→VR E a v'
 |_,_,_,.bool b,.bool _=>.bool b
 |_,_,_,.int k n,.int _ _=>.int k n
 |_,_,_,.str s,.str _=>.str s
 |_,_,_,.ptr b o h,.ptr _ _ _=>by rw[le.at_ h]; exact .ptr b o h
 |_,_,_,.nilptr,.nilptr=>.nilptr
 |_,_,_,.slice b o n c h,.slice _ _ _ _ _=>by rw[le.at_ h]; exact .slice b o n c h
 |_,_,_,.oslice b o n sz k h hk,.oslice _ _ _ _ k' _ hk'=>by rw[le.at_ h]; exact .oslice b o n sz k' h (by rw[hk',le.ext b h])
 |_,_,_,.eslice a k,.eslice a' k'=>.eslice a' k'
 |_,_,_,.nilslice,.nilslice=>.nilslice
 |_,_,_,.map b h,.map _ _=>by rw[le.blk b h]; exact .map b h
 |_,_,_,.nilmap,.nilmap=>.nilmap
 |_,_,_,.func f f' hf l m l' m' hl hm,.func _ _ hf2 _ _ _ _ hl2 hm2=>.func f _ (hf.back le hf2) l m _ _ (VRs.back le hl hl2) (VRs.back le hm hm2)
 |_,_,_,.nilfunc,.nilfunc=>.nilfunc
 |_,_,_,.iface t v v' h,.iface _ _ _ h2=>.iface t v _ (VR.back le h h2)
 |_,_,_,.niliface,.niliface=>.niliface
 |_,_,_,.agg l l' h,.agg _ _ h2=>.agg l _ (VRs.back le h h2)
 |_,_,_,.tuple l l' h,.tuple _ _ h2=>.tuple l _ (VRs.back le h h2)
 |_,_,_,.raw b o,.raw _ _=>.raw b o
 |_,_,_,.own b n h h0 hk,.own _ _ _ _ _=>by rw[le.at_ h]; exact .own b n h h0 hk
theorem VRs.back {E E':En}(le:E.Le E'):∀ {a:List AV}{v v':List Value},VRs E a v→VRs E' a v'→VRs E a v'
 |_,_,_,.nil,.nil=>.nil
 |_,_,_,.cons v v' l l' h hl,.cons _ _ _ _ h2 hl2=>.cons _ _ _ _ (VR.back le h h2) (VRs.back le hl hl2)
end
theorem ER.back {E E':En}(le:E.Le E'):∀ {d:List (AV×AV×Nat)}{e e':List MapEntry},ER E d e→ER E' d e'→ER E d e'
 |_,_,_,.nil,.nil=>.nil
 |_,_,_,.cons k v k' v' n l l' hk hv hl,.cons _ _ _ _ _ _ _ hk2 hv2 hl2=>.cons _ _ _ _ _ _ _ (hk.back le hk2) (hv.back le hv2) (hl.back le hl2)
theorem DR.back {E E':En}(le:E.Le E'){d:ADef}{e e':Deferred}(h:DR E d e) (h':DR E' d e'):DR E d e':=by
 cases h with
 |fn f f' hf l m l' m' hl hm=>cases h' with|fn _ _ hf2 _ _ _ _ hl2 hm2=>exact .fn _ _ (hf.back le hf2) _ _ _ _ (hl.back le hl2) (hm.back le hm2)
 |collected b h=>cases h' with|collected _ h2=>rw[le.blk b h]; exact .collected b h
theorem DRs.back {E E':En}(le:E.Le E'):∀ {d:List ADef}{e e':List Deferred},DRs E d e→DRs E' d e'→DRs E d e'
 |_,_,_,.nil,.nil=>.nil
 |_,_,_,.cons _ _ _ _ h hl,.cons _ _ _ _ h2 hl2=>.cons _ _ _ _ (h.back le h2) (hl.back le hl2)
theorem OR'.back {E E':En}(le:E.Le E'){b:Nat}(d:E.dom b){w w':World}{o:a1t}(h:OR' P base E b w o) (h':OR' P base E' b w' o):OR' P base E b w' o:=by
 cases o with
 |cells e cs rw =>
  obtain⟨c,z,p1,p2,p3,p4,p5,p6⟩:=h
  obtain⟨c',z',q1,q2,q3,q4,q5,q6⟩:=h'
  rw[le.blk b d] at q1 q5 q6
  rw[le.off b d,le.ext b d] at q2
  rw[le.ext b d] at q3
  refine⟨c',z',q1,q2,q3,fun i v hv=>?_,q5,q6⟩
  obtain⟨v0,_,r2⟩:=p4 i v hv
  obtain⟨v1,s1,s2⟩:=q4 i v hv
  rw[le.off b d] at s1
  exact⟨v1,s1,r2.back le s2⟩
 |map es clock =>
  obtain⟨p0,es1,p1,p2⟩:=h
  obtain⟨q0,es2,q1,q2⟩:=h'
  rw[le.blk b d] at q1
  exact⟨p0,es2,q1,p2.back le q2⟩
 |loop st pend fn tm nt ps as bd dd =>
  obtain⟨p0,pd,t1,p1,p2,p3⟩:=h
  obtain⟨q0,qd,t2,q1,q2,q3⟩:=h'
  rw[le.blk b d,le.blk dd pd] at q1
  refine⟨p0,pd,t2,q1,q2,fun t v hv=>?_⟩
  obtain⟨v0,_,r2⟩:=p3 t v hv
  obtain⟨v1,s1,s2⟩:=q3 t v hv
  exact⟨v1,s1,r2.back le s2⟩
 |dfr ds =>
  obtain⟨p0,d1,p1,p2⟩:=h
  obtain⟨q0,d2,q1,q2⟩:=h'
  rw[le.blk b d] at q1
  refine⟨p0,d2,q1,?_⟩
  cases ds with
  |none=>exact q2
  |some l =>
   obtain⟨l1,_,r1⟩:=p2
   obtain⟨l2,e2,r2⟩:=q2
   exact⟨l2,e2,r1.back le r2⟩
 |iter m since seen last =>
  obtain⟨p0,po,pd,p1⟩:=h
  obtain⟨q0,qo,qd,q1⟩:=h'
  rw[le.blk b d] at q1
  refine⟨p0,po,pd,?_⟩
  have:m.map E'.blk=m.map E.blk:=by
   cases m with
   |none=>rfl
   |some x=>simp[le.blk x (pd x rfl)]
  rw[this] at q1
  exact q1
 |dead=>trivial
mutual
def AV.plain:AV→Bool
 |.bool _=>true
 |.int _ _=>true
 |.str _=>true
 |.nilptr=>true
 |.nilslice=>true
 |.nilmap=>true
 |.nilfunc=>true
 |.niliface=>true
 |.iface _ v=>AV.plain v
 |.agg l=>AV.a1q l
 |.tuple l=>AV.a1q l
 |.raw _ _=>true
 |_=>false
def AV.a1q:List AV→Bool
 |[]=>true
 |v::l=>AV.plain v&&AV.a1q l
end
mutual
theorem VR.plain {E E':En}:∀ {a:AV}{v:Value},VR E a v→a.plain=true→VR E' a v
 |_,_,.bool b,_=>.bool b
 |_,_,.int k n,_=>.int k n
 |_,_,.str s,_=>.str s
 |_,_,.nilptr,_=>.nilptr
 |_,_,.nilslice,_=>.nilslice
 |_,_,.nilmap,_=>.nilmap
 |_,_,.nilfunc,_=>.nilfunc
 |_,_,.niliface,_=>.niliface
 |_,_,.iface t v v' h,hp=>.iface t v v' (VR.plain h (by simpa [AV.plain] using hp))
 |_,_,.agg l l' h,hp=>.agg l l' (VRs.plain h (by simpa [AV.plain] using hp))
 |_,_,.tuple l l' h,hp=>.tuple l l' (VRs.plain h (by simpa [AV.plain] using hp))
 |_,_,.raw b o,_=>.raw b o
 |_,_,.ptr ..,hp=>by simp[AV.plain] at hp
 |_,_,.own ..,hp=>by simp[AV.plain] at hp
 |_,_,.slice ..,hp=>by simp[AV.plain] at hp
 |_,_,.oslice ..,hp=>by simp[AV.plain] at hp
 |_,_,.eslice ..,hp=>by simp[AV.plain] at hp
 |_,_,.map ..,hp=>by simp[AV.plain] at hp
 |_,_,.func ..,hp=>by simp[AV.plain] at hp
theorem VRs.plain {E E':En}:∀ {a:List AV}{v:List Value},VRs E a v→AV.a1q a=true→VRs E' a v
 |_,_,.nil,_=>.nil
 |_,_,.cons v v' l l' h hl,hp=>by
  simp only[AV.a1q,Bool.and_eq_true] at hp
  exact .cons _ _ _ _ (VR.plain h hp.1) (VRs.plain hl hp.2)
end
theorem c6f {E E':En}{f:FuncId}{args:List AV}{args':List Value}{h h2:a0a}{w w':World}{v:AV}{v':Value}{fr:Frame}{m:Machine}{cs:List Frame}(ha:VRs E args args') (H:HR P base w0 E h w)
  (p1:HR P base w0 E' h2 w') (p2:Ste E h w E' h2 w') (p3:VR E v v') (he:Ext h h2) (p4:Steps P m (lone fr cs w')) (p5:fr.fn=f∧fr.leaving P w' (.returned v')):a4x P base w0 m f cs E h w (.ret v h):=by
 refine⟨E,w',v',fr,⟨H.dlt,fun b o hd hg=>?_,H.inj,p1.wd,p1.drawn,p1.bsz,fun b hd=>?_⟩,⟨.refl E,fun _ h=>.inl h,Nat.le_refl _,fun _ _ _=>rfl,p2.sz,p2.fr,fun _ h=>.inl h⟩,p3,p4,p5⟩
 ·refine OR'.back p2.le hd (H.obj b o hd hg) (p1.obj b o (p2.le.dom b hd) ?_)
  rw[he.old b (H.dlt b hd)]; exact hg
 ·exact Nat.lt_of_lt_of_le (H.blt b hd) p2.sz
theorem b0r (ok:a0v P T) (hsm:∀ f a h,T.sm f a h=none){f:FuncId}{args:List AV}{h:a0a}{v:AV}(g:a0l T f args h fun v' h'=>v'=v∧Ext h h') (hp:v.plain=true):a1j P base w0 (.call f args h) (.ret v h):=by
 obtain⟨r,hs,hl⟩:=g
 obtain⟨n,hn⟩:=hs.ev
 have K:=a7c (base:=base) (w0:=w0) ok (fun f a h v h' hh=>by rw[hsm] at hh; cases hh) n (.call f args h)
 rw[hn] at K
 intro E args' w cs ha H
 obtain⟨q,hq,hc⟩:=K E args' w cs ha H
 obtain⟨v',h2,rfl,rfl,he⟩:=hl.get hq
 obtain⟨E',w',v'',fr,p1,p2,p3,p4,p5⟩:=hc
 exact⟨_,rfl,c6f ha H p1 p2 (p3.plain hp) he p4 p5⟩
def a0k.a2s (T:a0k) (sm:FuncId→List AV→a0a→Option (AV×a0a)):a0k:={ T with sm:=sm }
theorem a0v.a2s (ok:a0v P T) (sm:FuncId→List AV→a0a→Option (AV×a0a)):a0v P (T.a2s sm):=⟨ok.ti,ok.und,ok.fn,ok.eqg,ok.stood,ok.mix,ok.ext,ok.rt,ok.kd⟩
theorem d0k (ok:a0v P T) (hsm:∀ (base:Nat) (w0:World) f args h v h',T.sm f args h=some (v,h')→a1j P base w0 (.call f args h) (.ret v h')){n:Nat}{f:FuncId}(hg:good (ev T n (.call f [] ⟨.nil,0⟩))=true) (w:World) :
  Calls P f #[] w fun e w'=>e=.returned (.bool true)∧Below w.heap.size w w':=by
 intro cs
 have h:=a7c (base:=w.heap.size) (w0:=w) ok (hsm _ _) n (.call f [] ⟨.nil,0⟩) En.none [] w cs .nil (HR.start w)
 obtain⟨q,hq,h⟩:=h
 obtain⟨h',rfl⟩:=b9h hg hq
 obtain⟨E',w',v',fr,p1,p2,p3,p4,p5,p6⟩:=h
 cases p3
 exact⟨_,w',fr,⟨rfl,p1.wd⟩,p4,p5,p6⟩
end Ev
end
section
namespace Ev
def pt (n:Nat):Nat:=n
def c7u {α:Type}(p:Nat) (t:Tr α):Option α:=t.get p
theorem e7a {α:Type}(n:Nat) (t:Tr α):c7u (pt n) t=t.get n:=rfl
end Ev
end
section
namespace Ev
open Go
noncomputable def evR (T:a0k) (n:Nat) (t:Task):Res:=ev T n t
theorem c3d (T:a0k) (n:Nat) (t:Task):evR T n t=ev T n t:=rfl
end Ev
end
section
namespace Ev
open Go Go.RowKit
variable {P:Program}{T:a0k}
def a7n (v:AV):Res→Bool
 |.alt a b=>a7n v a&&a7n v b
 |.ret u _=>a5d u v
 |_=>false
theorem b4g {v:AV}:∀ {r q:Res},a7n v r=true→Lf r q→∃ h,q=.ret v h
 |.alt a b,q,g,h=>by
  unfold a7n at g
  simp only[Bool.and_eq_true] at g
  exact h.elim (b4g g.1) (b4g g.2)
 |.ret u h',q,g,h=>by
  cases h
  have:=b2g _ _ g
  subst this
  exact⟨_,rfl⟩
 |.fin ..,_,g,_=>by simp[a7n] at g
 |.pan ..,_,g,_=>by simp[a7n] at g
 |.thrown ..,_,g,_=>by simp[a7n] at g
 |.dret ..,_,g,_=>by simp[a7n] at g
 |.no ..,_,g,_=>by simp[a7n] at g
theorem c5q (ok:a0v P T) (hsm:∀ (base:Nat) (w0:World) f args h v h',T.sm f args h=some (v,h')→a1j P base w0 (.call f args h) (.ret v h')){f:FuncId}{args:List AV}{v:AV}{n:Nat}
  (hp:AV.a1q args=true) (hv:v.plain=true) (he:a7n v (ev T n (.call f args ⟨.nil,0⟩))=true) (base:Nat) (w0:World) (h:a0a):a1j P base w0 (.call f args h) (.ret v h):=by
 intro E args' w cs ha H
 have H0:HR P base w0 En.none ⟨.nil,0⟩ w:=⟨fun _ h=>h.elim,fun _ _ h=>h.elim,fun _ _ _ _ h=>h.elim,H.wd,H.drawn,H.bsz,fun _ h=>h.elim⟩
 obtain⟨q,hq,K⟩:=a7c (base:=base) (w0:=w0) ok (hsm base w0) n (.call f args ⟨.nil,0⟩) En.none args' w cs (ha.plain hp) H0
 obtain⟨h2,rfl⟩:=b4g he hq
 obtain⟨E',w',v',fr,p1,p2,p3,p4,p5⟩:=K
 have old:∀ k,k<w.heap.size→w'.heap[k]?=w.heap[k]?:=fun k hk=>p2.fr k hk (fun _ hd=>hd.elim)
 exact⟨_,rfl,E,w',v',fr,⟨H.dlt,fun b o hd hg=>OR'.same (old _ (H.blt b hd)) (H.obj b o hd hg),H.inj,p1.wd,p1.drawn,p1.bsz,fun b hd=>Nat.lt_of_lt_of_le (H.blt b hd) p2.sz⟩,
  ⟨.refl E,fun _ h=>.inl h,Nat.le_refl _,fun _ _ _=>rfl,p2.sz,fun k hk _=>old k hk,fun _ h=>.inl h⟩,p3.plain hv,p4,p5⟩
def near:AV→AV→Bool
 |.int _ a,.int _ b=>(match a,b with
  |.ofNat m,.ofNat n=>Nat.beq m n
  |.negSucc m,.negSucc n=>Nat.beq m n
  |_,_=>false)
 |_,_=>true
def e9p:List AV→List AV→Bool
 |a::l,b::m=>(match near a b with
  |true=>e9p l m
  |false=>false)
 |_,_=>true
def d0y (args:List AV):List (List AV×AV)→Option AV
 |[]=>none
 |(a,v)::l=>match e9p args a with
  |false=>d0y args l
  |true=>match b3k args a with
   |true=>some v
   |false=>d0y args l
abbrev b7a:=Tr (List (List AV×AV))
def b4n (M:b7a) (sm:FuncId→List AV→a0a→Option (AV×a0a)) (f:FuncId) (args:List AV) (h:a0a):Option (AV×a0a):=match c7u (pt f) M with
 |none=>sm f args h
 |some es=>match d0y args es with
  |some v=>some (v,h)
  |none=>sm f args h
def b7a.add (M:b7a) (f:FuncId) (args:List AV) (v:AV):b7a:=M.set f ((args,v)::(M.get f).getD [])
def a9s (P:Program) (M:b7a):Prop:=∀ f es,M.get f=some es→∀ a v,(a,v)∈es→∀ base w0 h,a1j P base w0 (.call f a h) (.ret v h)
theorem a9s.nil:a9s P (.nil:b7a):=fun f es h=>by rw[Tr.get_nil] at h; cases h
theorem b9e (args:List AV):∀ (l:List (List AV×AV)) (v:AV),d0y args l=some v→(args,v)∈l
 |[],_,h=>by cases h
 |(a,u)::l,v,h=>by
  unfold d0y at h
  split at h
  ·exact List.mem_cons_of_mem _ (b9e args l v h)
  ·split at h
   ·rename_i he
    cases h
    rw[a9t _ _ he]
    exact List.mem_cons_self ..
   ·exact List.mem_cons_of_mem _ (b9e args l v h)
theorem a9m {M:b7a}(hM:a9s P M){sm:FuncId→List AV→a0a→Option (AV×a0a)}(hsm:∀ (base:Nat) (w0:World) f args h v h',sm f args h=some (v,h')→a1j P base w0 (.call f args h) (.ret v h'))
  (base:Nat) (w0:World) (f:FuncId) (args:List AV) (h:a0a) (v:AV) (h':a0a) (e:b4n M sm f args h=some (v,h')):a1j P base w0 (.call f args h) (.ret v h'):=by
 unfold b4n at e
 rw[e7a] at e
 split at e
 ·exact hsm base w0 f args h v h' e
 ·rename_i es hes
  split at e
  ·rename_i u hu
   simp only[Option.some.injEq,Prod.mk.injEq] at e
   obtain⟨rfl,rfl⟩:=e
   exact hM f es hes args _ (b9e _ _ _ hu) base w0 _
  ·exact hsm base w0 f args h v h' e
noncomputable def a7o (T:a0k) (f:FuncId) (args:List AV) (v:AV):Bool:=match AV.a1q args,v.plain with
 |true,true=>a7n v (evR T 1000000 (.call f args ⟨.nil,0⟩))
 |_,_=>false
theorem a9s.add (ok:a0v P T) (hT:∀ (base:Nat) (w0:World) f args h v h',T.sm f args h=some (v,h')→a1j P base w0 (.call f args h) (.ret v h'))
  {M:b7a} (hM:a9s P M) {f:FuncId} {args:List AV} {v:AV} (hc:a7o T f args v=true):a9s P (M.add f args v):=by
 have key:∀ base w0 h,a1j P base w0 (.call f args h) (.ret v h):=by
  unfold a7o at hc
  split at hc
  ·rename_i hp hv
   rw[c3d] at hc
   exact c5q ok hT hp hv hc
  ·cases hc
 intro g es hg a u hm
 unfold b7a.add at hg
 rw[Tr.a1d] at hg
 by_cases e:g=f
 ·rw[if_pos e] at hg
  simp only[Option.some.injEq] at hg
  subst hg
  rcases List.mem_cons.1 hm with h1|h1
  ·simp only[Prod.mk.injEq] at h1
   obtain⟨rfl,rfl⟩:=h1
   subst e
   exact key
  ·cases hq:M.get f with
   |none=>rw[hq] at h1; simp at h1
   |some es0 =>
    rw[hq] at h1
    subst e
    exact hM g es0 hq a u (by simpa using h1)
 ·rw[if_neg e] at hg
  exact hM g es hg a u hm
def e2s:Nat→Nat→List UInt8→List UInt8
 |0,_,acc=>acc
 |n+1,x,acc=>match x with
  |0=>e2s n 0 (UInt8.ofNat 0::acc)
  |k+1=>e2s n (Nat.div (k+1) 256) (UInt8.ofNat (Nat.mod (k+1) 256)::acc)
def bs (n x:Nat):AV:=.str (e2s n x [])
theorem c4j (ok:a0v P T) (hsm:∀ (base:Nat) (w0:World) f args h v h',T.sm f args h=some (v,h')→a1j P base w0 (.call f args h) (.ret v h')){n:Nat}{f:FuncId}(hg:good (evR T n (.call f [] ⟨.nil,0⟩))=true) (w:World) :
  Calls P f #[] w fun e w'=>e=.returned (.bool true)∧Below w.heap.size w w':=by
 rw[c3d] at hg
 exact d0k ok hsm hg w
end Ev
namespace Ev
open Go Go.RowKit
theorem c8n {P:Program}{T:a0k}(ok:a0v P T) (hsm:∀ (base:Nat) (w0:World) f args h v h',T.sm f args h=some (v,h')→a1j P base w0 (.call f args h) (.ret v h')){f:FuncId}(hc:a7o T f [] (.bool true)=true) (w:World) :
  Calls P f #[] w fun e w'=>e=.returned (.bool true)∧Below w.heap.size w w':=by
 refine c4j ok hsm (n:=1000000) ?_ w
 unfold a7o at hc
 split at hc
 ·have key:∀ r:Res,a7n (.bool true) r=true→good r=true:=by
   intro r
   induction r with
   |alt a b iha ihb =>
    intro h
    unfold a7n at h
    simp only[Bool.and_eq_true] at h
    unfold good
    rw[iha h.1,ihb h.2]; rfl
   |ret u h' =>
    intro h
    have:=b2g _ _ h
    subst this
    rfl
   |_=>intro h; simp[a7n] at h
  exact key _ hc
 ·cases hc
end Ev
end
