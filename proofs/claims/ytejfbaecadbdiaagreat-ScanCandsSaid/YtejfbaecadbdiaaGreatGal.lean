/- A part of an evaluator of the program's form in Lean, of the proof that what it says of a call is what the machine does, and of the rules by which proofs walk over it. Conditions: those that each theorem states. -/
import Derived.Test.YtejfbaecadbdiaaGreatGak
import Derived.Test.YtejfbaecadbdiaaGreatGai
set_option linter.unusedVariables false
set_option linter.unusedSimpArgs false
section
namespace Ev
open Go Go.RowKit
variable {P:Program}{T:a0k}{base:Nat}{w0:World}
inductive NF where
 |nil
 |row (len sz:Nat) (e:TypeId) (cs:List AV)
def b0o:List (AV×AV×Nat)→Bool
 |[]=>true
 |(k,v,_)::l=>AV.plain k&&(AV.plain v&&b0o l)
def c9y:List (AV×AV×Nat)→List (AV×AV×Nat)→Bool
 |[],[]=>true
 |(k,v,n)::l,(k',v',n')::l'=>a5d k k'&&(a5d v v'&&(Nat.beq n n'&&c9y l l'))
 |_,_=>false
theorem d6r:∀ {a b:List (AV×AV×Nat)},c9y a b=true→a=b
 |[],[],_=>rfl
 |[],_::_,h=>by simp[c9y] at h
 |_::_,[],h=>by simp[c9y] at h
 |(k,v,n)::l,(k',v',n')::l',h=>by
  simp only[c9y,Bool.and_eq_true] at h
  obtain⟨h1,h2,h3,h4⟩:=h
  rw[b2g _ _ h1,b2g _ _ h2,Nat.eq_of_beq_eq_true h3,d6r h4]
theorem ER.plain {E E':En}:∀ {d:List (AV×AV×Nat)}{e:List MapEntry},ER E d e→b0o d=true→ER E' d e
 |_,_,.nil,_=>.nil
 |_,_,.cons k v k' v' n l l' hk hv hl,h=>by
  simp only[b0o,Bool.and_eq_true] at h
  exact .cons _ _ _ _ _ _ _ (hk.plain h.1) (hv.plain h.2.1) (ER.plain hl h.2.2)
def c5n (b m:Nat) (e:TypeId) (es:List (AV×AV×Nat)) (clock:Nat) (h:a0a):Bool:=match h.get b,h.get m with
 |some (.cells e' [.map m'] true),some (.map es' clock')=>Nat.beq e' e&&(Nat.beq m' m&&(c9y es' es&&Nat.beq clock' clock))
 |_,_=>false
theorem e1b {b m:Nat}{e:TypeId}{es:List (AV×AV×Nat)}{clock:Nat}{h:a0a}(k:c5n b m e es clock h=true):h.get b=some (.cells e [.map m] true)∧h.get m=some (.map es clock):=by
 unfold c5n at k
 split at k
 ·rename_i e' m' es' clock' h1 h2
  simp only[Bool.and_eq_true] at k
  obtain⟨k1,k2,k3,k4⟩:=k
  rw[h1,h2,Nat.eq_of_beq_eq_true k1,Nat.eq_of_beq_eq_true k2,d6r k3,Nat.eq_of_beq_eq_true k4]
  exact⟨rfl,rfl⟩
 ·cases k
def nf1 (nx b m:Nat) (e:TypeId) (es:List (AV×AV×Nat)) (clock:Nat) (v:AV) (h:a0a):Option NF:=match c5n b m e es clock h with
 |true=>match v with
  |.nilslice=>some .nil
  |.oslice b1 0 len sz=>match h.get b1 with
   |some (.cells e1 cs true)=>match Nat.ble nx b1&&AV.a1q cs with
    |true=>some (.row len sz e1 cs)
    |false=>none
   |_=>none
  |_=>none
 |false=>none
def c9l:NF→NF→Bool
 |.nil,.nil=>true
 |.row a b c d,.row a' b' c' d'=>Nat.beq a a'&&(Nat.beq b b'&&(Nat.beq c c'&&b3k d d'))
 |_,_=>false
theorem e7i:∀ {a b:NF},c9l a b=true→a=b
 |.nil,.nil,_=>rfl
 |.nil,.row ..,h=>by simp[c9l] at h
 |.row ..,.nil,h=>by simp[c9l] at h
 |.row a b c d,.row a' b' c' d',h=>by
  simp only[c9l,Bool.and_eq_true] at h
  obtain⟨h1,h2,h3,h4⟩:=h
  rw[Nat.eq_of_beq_eq_true h1,Nat.eq_of_beq_eq_true h2,Nat.eq_of_beq_eq_true h3,a9t _ _ h4]
def b8v (nx b m:Nat) (e:TypeId) (es:List (AV×AV×Nat)) (clock:Nat):Res→Option NF
 |.alt x y=>match b8v nx b m e es clock x,b8v nx b m e es clock y with
  |some p,some q=>match c9l p q with
   |true=>some p
   |false=>none
  |_,_=>none
 |.ret v h=>nf1 nx b m e es clock v h
 |_=>none
theorem b8y {nx b m:Nat}{e:TypeId}{es:List (AV×AV×Nat)}{clock:Nat}:∀ {r q:Res}{f:NF},b8v nx b m e es clock r=some f→Lf r q→∃ v h,q=.ret v h∧nf1 nx b m e es clock v h=some f
 |.alt x y,q,f,g,h=>by
  unfold b8v at g
  split at g
  ·rename_i p p' hp hp'
   split at g
   ·rename_i he
    cases g
    have:=e7i he
    subst this
    exact h.elim (b8y hp) (b8y hp')
   ·cases g
  ·cases g
 |.ret v h',q,f,g,h=>by cases h; exact⟨_,_,rfl,g⟩
 |.fin ..,_,_,g,_=>by simp[b8v] at g
 |.pan ..,_,_,g,_=>by simp[b8v] at g
 |.thrown ..,_,_,g,_=>by simp[b8v] at g
 |.dret ..,_,_,g,_=>by simp[b8v] at g
 |.no ..,_,_,g,_=>by simp[b8v] at g
def c0t (nx b m:Nat) (o1 o2:a1t):a0a:=⟨Tr.set (Tr.set .nil b o1) m o2,nx⟩
theorem c1g {nx b m:Nat}{o1 o2:a1t}(hbm:b≠m){x:Nat}{o:a1t}(h:(c0t nx b m o1 o2).get x=some o):(x=b∧o=o1)∨(x=m∧o=o2):=by
 have h:(Tr.set (Tr.set .nil b o1) m o2).get x=some o:=h
 rw[Tr.a1d,Tr.a1d] at h
 by_cases h1:x=m
 ·rw[if_pos h1] at h; cases h; exact .inr ⟨h1,rfl⟩
 ·rw[if_neg h1] at h
  by_cases h2:x=b
  ·rw[if_pos h2] at h; cases h; exact .inl ⟨h2,rfl⟩
  ·rw[if_neg h2,Tr.get_nil] at h; cases h
noncomputable def b1o (T:a0k) (n:Nat) (f:FuncId) (args:List AV) (h:a0a):Option (AV×a0a):=match args with
 |[.func (.func g) [] [.ptr b 0]]=>match h.get b with
  |some (.cells e [.map m] true)=>match h.get m with
   |some (.map es clock)=>match b0o es,Nat.beq b m with
    |true,false=>match b8v h.next b m e es clock (evR T n (.call f [.func (.func g) [] [.ptr b 0]] (c0t h.next b m (.cells e [.map m] true) (.map es clock)))) with
     |some .nil=>some (.nilslice,h)
     |some (.row len sz e1 cs)=>some (.oslice h.next 0 len sz,h.alloc (.cells e1 cs true))
     |none=>none
    |_,_=>none
   |_=>none
  |_=>none
 |_=>none
theorem d1q (ok:a0v P T) (hsm:∀ (base:Nat) (w0:World) f a h v h',T.sm f a h=some (v,h')→a1j P base w0 (.call f a h) (.ret v h')){n:Nat}{f:FuncId}{args:List AV}{h h':a0a}{v:AV}(hw:b1o T n f args h=some (v,h')):a1j P base w0 (.call f args h) (.ret v h'):=by
 unfold b1o at hw
 split at hw
 case h_2=>cases hw
 rename_i g b
 split at hw
 case h_2=>cases hw
 rename_i e m hb
 split at hw
 case h_2=>cases hw
 rename_i es clock hm
 split at hw
 case h_2=>cases hw
 rename_i hpl hbm
 have hbm:b≠m:=fun e=>by subst e; simp at hbm
 rw[c3d] at hw
 intro E args' w cs ha H
 have hdb:E.dom b∧∃ m',args'=[.func (.func g) #[] m']∧m' = #[.pointer (some (E.at b 0))]:=by
  cases ha with
  |cons _ _ _ _ p q =>
   cases q
   cases p with
   |func _ _ hf _ _ _ _ hl hm =>
    cases hl
    cases hf
    cases hm with
    |cons _ _ _ _ p2 q2 =>
     cases q2
     cases p2 with
     |ptr _ _ hd=>exact⟨hd,_,rfl,rfl⟩
 obtain⟨hdb,_,rfl,rfl⟩:=hdb
 have ob:=H.obj b _ hdb hb
 have hdm:E.dom m:=by
  obtain⟨c',z,q1,q2,q3,q4,q5,q6⟩:=ob
  obtain⟨v',_,hv⟩:=q4 0 _ rfl
  cases hv with
  |map _ hd=>exact hd
 have om:=H.obj m _ hdm hm
 have bb:base≤E.blk b:=ob.base rfl
 have bm:base≤E.blk m:=om.1
 -- the part of it
 let E0:En:=⟨E.blk,E.off,E.ext,fun x=>E.dom x∧(x=b∨x=m)⟩
 have H0:HR P base w0 E0 (c0t h.next b m (.cells e [.map m] true) (.map es clock)) w:=by
  refine⟨fun x hx=>H.dlt x hx.1,fun x o hx ho=>?_,fun x x' o o' hx hx' ho ho' w1 w2 he=>?_,H.wd,H.drawn,H.bsz,fun x hx=>H.blt x hx.1⟩
  ·rcases c1g hbm ho with ⟨rfl,rfl⟩|⟨rfl,rfl⟩
   ·obtain⟨c',z,q1,q2,q3,q4,q5,q6⟩:=ob
    refine⟨c',z,q1,q2,q3,fun i v hv=>?_,q5,q6⟩
    obtain⟨v',k1,k2⟩:=q4 i v hv
    refine⟨v',k1,?_⟩
    match i,hv with
    |0,hv =>
     cases hv
     cases k2
     exact .map (E:=E0) m ⟨hdm,.inr rfl⟩
   ·obtain⟨p0,es',p1,p2⟩:=om
    exact⟨p0,es',p1,p2.plain hpl⟩
  ·have key:∀ {y o},(c0t h.next b m (.cells e [.map m] true) (.map es clock)).get y=some o→h.get y=some o:=by
    intro y o hy
    rcases c1g hbm hy with ⟨rfl,rfl⟩|⟨rfl,rfl⟩
    ·exact hb
    ·exact hm
   exact H.inj x x' o o' hx.1 hx'.1 (key ho) (key ho') w1 w2 he
 have ha0:VRs E0 [.func (.func g) [] [.ptr b 0]] [.func (.func g) #[] #[.pointer (some (E.at b 0))]] :=
  .cons _ _ _ _ (.func (.func g) (.func g) (.same _ (by simp)) [] [.ptr b 0] [] [_] .nil (.cons _ _ _ _ (.ptr (E:=E0) b 0 ⟨hdb,.inl rfl⟩) .nil)) .nil
 obtain⟨q,hq,K⟩:=a7c (base:=base) (w0:=w0) ok (hsm base w0) n (.call f [.func (.func g) [] [.ptr b 0]] (c0t h.next b m (.cells e [.map m] true) (.map es clock))) E0 _ w cs ha0 H0
 -- what lies where it lay
 have main:∀ {nf:NF},b8v h.next b m e es clock (ev T n (.call f [.func (.func g) [] [.ptr b 0]] (c0t h.next b m (.cells e [.map m] true) (.map es clock))))=some nf→∃ v1 h1 E' w' v' fr,nf1 h.next b m e es clock v1 h1=some nf∧HR P base w0 E' h1 w'∧Ste E0 (c0t h.next b m (.cells e [.map m] true) (.map es clock)) w E' h1 w'∧VR E' v1 v'∧Steps P (lone (Frame.enter P f [.func (.func g) #[] #[.pointer (some (E.at b 0))]].toArray .normal) cs w) (lone fr cs w')∧fr.fn=f∧fr.leaving P w' (.returned v') ∧
   (∀ x o,E.dom x→h.get x=some o→OR' P base E x w' o)∧h1.get b=some (.cells e [.map m] true)∧h1.get m=some (.map es clock):=by
  intro nf hnf
  obtain⟨v1,h1,rfl,hn1⟩:=b8y hnf hq
  obtain⟨E',w',v',fr,p1,p2,p3,p4,p5,p6⟩:=K
  have hk:c5n b m e es clock h1=true:=by
   unfold nf1 at hn1
   split at hn1
   ·assumption
   ·cases hn1
  obtain⟨k1,k2⟩:=e1b hk
  refine⟨v1,h1,E',w',v',fr,hn1,p1,p2,p3,p4,p5,p6,fun x o hx ho=>?_,k1,k2⟩
  by_cases xb:x=b
  ·subst xb
   rw[hb] at ho
   cases ho
   have d0:E0.dom x:=⟨hdb,.inl rfl⟩
   obtain⟨c',z,q1,q2,q3,q4,q5,q6⟩:=p1.obj x _ (p2.le.dom x d0) k1
   rw[p2.le.blk x d0] at q1 q5 q6
   rw[p2.le.off x d0] at q2 q4
   rw[p2.le.ext x d0] at q2 q3
   refine⟨c',z,q1,q2,q3,fun i v hv=>?_,q5,q6⟩
   obtain⟨v',j1,j2⟩:=q4 i v hv
   refine⟨v',j1,?_⟩
   match i,hv with
   |0,hv =>
    cases hv
    cases j2
    rw[p2.le.blk m ⟨hdm,.inr rfl⟩]
    exact .map m hdm
  ·by_cases xm:x=m
   ·subst xm
    rw[hm] at ho
    cases ho
    have d0:E0.dom x:=⟨hdm,.inr rfl⟩
    obtain⟨q0,es',q1,q2⟩:=p1.obj x _ (p2.le.dom x d0) k2
    rw[p2.le.blk x d0] at q0 q1
    exact⟨q0,es',q1,q2.plain hpl⟩
   ·have ox:=H.obj x o hx ho
    by_cases hdead:o=.dead
    ·subst hdead; trivial
    ·refine OR'.same (p2.fr _ (ox.lt hdead) (fun y hy he=>?_)) ox
     have he:E.blk y=E.blk x:=he
     have own_y:∃ oy,h.get y=some oy∧oy.own∧y≠x:=by
      rcases hy.2 with rfl|rfl
      ·exact⟨_,hb,rfl,fun k=>xb k.symm⟩
      ·exact⟨_,hm,trivial,fun k=>xm k.symm⟩
     obtain⟨oy,g1,g2,g3⟩:=own_y
     by_cases hown:o.own
     ·exact g3 (H.inj y x oy o hy.1 hx g1 ho g2 hown he)
     ·cases o with
      |cells e' cs' rw' =>
       cases rw' with
       |true=>exact hown rfl
       |false =>
        obtain⟨_,_,_,_,_,_,_,r6⟩:=ox
        have:=r6 rfl
        have hby:=(H.obj y oy hy.1 g1).base g2
        omega
      |dead=>exact hdead rfl
      |map=>exact hown trivial
      |loop=>exact hown trivial
      |dfr=>exact hown trivial
      |iter=>exact hown trivial
 split at hw
 ·rename_i hnf
  cases hw
  obtain⟨v1,h1,E',w',v',fr,hn1,p1,p2,p3,p4,p5,p6,keep,k1,k2⟩:=main hnf
  have hv1:v1=.nilslice:=by
   unfold nf1 at hn1
   split at hn1
   ·split at hn1
    ·rfl
    ·split at hn1
     ·split at hn1<;>cases hn1
     ·cases hn1
    ·cases hn1
   ·cases hn1
  subst hv1
  cases p3
  exact⟨_,rfl,E,w',_,fr,⟨H.dlt,keep,H.inj,p1.wd,p1.drawn,p1.bsz,fun x hx=>Nat.lt_of_lt_of_le (H.blt x hx) p2.sz⟩,
   ⟨.refl E,fun _ h=>.inl h,Nat.le_refl _,fun _ _ _=>rfl,p2.sz,fun k hk hn=>p2.fr k hk (fun y hy=>hn y hy.1),fun _ h=>.inl h⟩,.nilslice,p4,p5,p6⟩
 ·rename_i len sz e1 cs1 hnf
  cases hw
  obtain⟨v1,h1,E',w',v',fr,hn1,p1,p2,p3,p4,p5,p6,keep,k1,k2⟩:=main hnf
  obtain⟨b1,rfl,hg1,hb1,hpc⟩:∃ b1,v1=.oslice b1 0 len sz∧h1.get b1=some (.cells e1 cs1 true)∧h.next≤b1∧AV.a1q cs1=true:=by
   unfold nf1 at hn1
   split at hn1
   ·split at hn1
    ·cases hn1
    ·split at hn1
     ·rename_i hg
      split at hn1
      ·rename_i hc
       cases hn1
       rw[Bool.and_eq_true,Nat.ble_eq] at hc
       exact⟨_,rfl,hg,hc.1,hc.2⟩
      ·cases hn1
     ·cases hn1
    ·cases hn1
   ·cases hn1
  cases p3 with
  |oslice _ _ _ _ k hd hk =>
  have lt:∀ x,E.dom x→x<h.next:=H.dlt
  let E2:En:=⟨fun x=>if x=h.next then E'.blk b1 else E.blk x,fun x=>if x=h.next then E'.off b1 else E.off x,fun x=>if x=h.next then E'.ext b1 else E.ext x,fun x=>x=h.next∨E.dom x⟩
  have n2:∀ x,E.dom x→x≠h.next:=fun x hx=>by have:=lt x hx; omega
  have le2:E.Le E2:=⟨fun x hx=>.inr hx,fun x hx=>if_neg (n2 x hx),fun x hx=>if_neg (n2 x hx),fun x hx=>if_neg (n2 x hx)⟩
  have eb:E2.blk h.next=E'.blk b1:=if_pos rfl
  have eo:E2.off h.next=E'.off b1:=if_pos rfl
  have ee:E2.ext h.next=E'.ext b1:=if_pos rfl
  have o1:=p1.obj b1 _ hd hg1
  have hfresh:w.heap.size≤E'.blk b1:=by
   rcases p2.img b1 hd with h1'|h1'|⟨b0,d0,e0⟩
   ·have:=lt b1 h1'.1; omega
   ·exact h1'
   ·exfalso
    have d1:=p2.le.dom b0 d0
    have e1':E'.blk b0=E'.blk b1:=(p2.le.blk b0 d0).trans e0
    have hb0:=lt b0 d0.1
    rcases d0.2 with rfl|rfl
    ·have:=p1.inj b0 b1 _ _ d1 hd k1 hg1 rfl rfl e1'; omega
    ·have:=p1.inj b0 b1 _ _ d1 hd k2 hg1 trivial rfl e1'; omega
  refine⟨_,rfl,E2,w',_,fr,⟨?_,?_,?_,p1.wd,p1.drawn,p1.bsz,?_⟩,⟨le2,?_,?_,?_,p2.sz,?_,?_⟩,?_,p4,p5,p6⟩
  ·rintro x (rfl|hx)
   ·show h.next<h.next+1; omega
   ·have:=lt x hx; show x<h.next+1; omega
  ·intro x o hx ho
   rw[a0a.a4f] at ho
   by_cases hn:x=h.next
   ·subst hn
    rw[if_pos rfl] at ho
    cases ho
    obtain⟨c',z,q1,q2,q3,q4,q5,q6⟩:=o1
    refine⟨c',z,by rw[eb]; exact q1,by rw[eo,ee]; exact q2,by rw[ee]; exact q3,fun i v hv=>?_,fun hr=>by rw[eb]; exact q5 hr,fun hr=>by cases hr⟩
    obtain⟨v',j1,j2⟩:=q4 i v hv
    have pv:v.plain=true:=by
     have hall:∀ {l:List AV} {i:Nat} {v:AV},AV.a1q l=true→l[i]?=some v→v.plain=true:=by
      intro l
      induction l with
      |nil=>intro i v _ h; simp at h
      |cons a l ih =>
       intro i v hp h
       simp only[AV.a1q,Bool.and_eq_true] at hp
       cases i with
       |zero=>simp at h; subst h; exact hp.1
       |succ i=>exact ih hp.2 (by simpa using h)
     exact hall hpc hv
    exact⟨v',by rw[eo]; exact j1,j2.plain pv⟩
   ·rw[if_neg hn] at ho
    rcases hx with hx|hx
    ·exact absurd hx hn
    ·exact(keep x o hx ho).mono le2 hx
  ·intro x x' o o' hx hx' ho ho' w1 w2 he
   rw[a0a.a4f] at ho ho'
   by_cases hn:x=h.next<;>by_cases hn':x'=h.next
   ·rw[hn,hn']
   ·exfalso
    have hx':E.dom x':=hx'.resolve_left hn'
    subst hn
    rw[eb,le2.blk x' hx'] at he
    have:=H.blt x' hx'
    omega
   ·exfalso
    have hx:E.dom x:=hx.resolve_left hn
    subst hn'
    rw[eb,le2.blk x hx] at he
    have:=H.blt x hx
    omega
   ·rw[if_neg hn] at ho
    rw[if_neg hn'] at ho'
    have hx:=hx.resolve_left hn
    have hx':=hx'.resolve_left hn'
    rw[le2.blk x hx,le2.blk x' hx'] at he
    exact H.inj x x' o o' hx hx' ho ho' w1 w2 he
  ·rintro x (rfl|hx)
   ·rw[eb]; exact p1.blt b1 hd
   ·rw[le2.blk x hx]; exact Nat.lt_of_lt_of_le (H.blt x hx) p2.sz
  ·rintro x (rfl|hx)
   ·exact .inr (Nat.le_refl _)
   ·exact .inl hx
  ·show h.next≤h.next+1; omega
  ·intro x hx hn
   rw[a0a.a4f,if_neg (by omega)]
  ·exact fun k hk hn=>p2.fr k hk (fun y hy=>hn y hy.1)
  ·rintro x (rfl|hx)
   ·exact .inr (.inl (by rw[eb]; exact hfresh))
   ·exact .inl hx
  ·have:=VR.oslice (E:=E2) h.next 0 len sz k (.inl rfl) (by rw[ee]; exact hk)
   have ea:E2.at h.next 0=E'.at b1 0:=by simp only[En.at,eb,eo]
   rw[ea] at this
   exact this
 ·cases hw
end Ev
end
section
namespace Ev
open Go
variable {P:Program}{T:a0k}
open Classical in
noncomputable def c5d (T:a0k) (f:FuncId) (args:List AV) (h:a0a):Option (AV×a0a):=if hx:∃ x,∃ N,∀ n,N≤n→b1o T n f args h=some x then some hx.choose else none
theorem e3v (ok:a0v P T) (hsm:∀ (base:Nat) (w0:World) f a h v h',T.sm f a h=some (v,h')→a1j P base w0 (.call f a h) (.ret v h')){base:Nat}{w0:World}{f:FuncId}{args:List AV}{h h':a0a}{v:AV}(e:c5d T f args h=some (v,h')):a1j P base w0 (.call f args h) (.ret v h'):=by
 unfold c5d at e
 split at e
 ·rename_i hx
  obtain⟨N,hN⟩:=hx.choose_spec
  have h1:=hN N (Nat.le_refl _)
  have e:=Option.some.inj e
  rw[e] at h1
  exact d1q ok hsm h1
 ·cases e
theorem c4g {nx b m:Nat}{e:TypeId}{es:List (AV×AV×Nat)}{clock:Nat}{nf:NF}(hq:c9l nf nf=true):∀ {r:Res},Leaves (fun r=>∃ v h',r=.ret v h'∧nf1 nx b m e es clock v h'=some nf) r→b8v nx b m e es clock r=some nf
 |.alt x y,l=>by
  unfold b8v
  rw[c4g hq (r:=x) l.1,c4g hq (r:=y) l.2]
  simp only[hq]
 |.ret v h,l=>by
  obtain⟨v',h',e,p⟩:=l
  cases e
  exact p
 |.fin ..,l=>by obtain⟨_,_,e,_⟩:=l; cases e
 |.pan ..,l=>by obtain⟨_,_,e,_⟩:=l; cases e
 |.thrown ..,l=>by obtain⟨_,_,e,_⟩:=l; cases e
 |.dret ..,l=>by obtain⟨_,_,e,_⟩:=l; cases e
 |.no ..,l=>by obtain⟨_,_,e,_⟩:=l; cases e
def c5y (nf:NF) (h:a0a):AV×a0a:=match nf with
 |.nil=>(.nilslice,h)
 |.row len sz e1 cs=>(.oslice h.next 0 len sz,h.alloc (.cells e1 cs true))
theorem e0x {f:FuncId}{g:FuncId}{h:a0a}{b m:Nat}{e:TypeId}{es:List (AV×AV×Nat)}{clock:Nat}{nf:NF}(hb:h.get b=some (.cells e [.map m] true)) (hm:h.get m=some (.map es clock)) (hp:b0o es=true) (hbm:b≠m) (hq:c9l nf nf=true)
  (w:Wp T (.call f [.func (.func g) [] [.ptr b 0]] (c0t h.next b m (.cells e [.map m] true) (.map es clock))) fun r=>∃ v h',r=.ret v h'∧nf1 h.next b m e es clock v h'=some nf) :
  c5d T f [.func (.func g) [] [.ptr b 0]] h=some (c5y nf h):=by
 obtain⟨r,⟨N,hN⟩,hl⟩:=w
 have key:∀ n,N≤n→b1o T n f [.func (.func g) [] [.ptr b 0]] h=some (c5y nf h):=fun n hn=>by
  have hb2:Nat.beq b m=false:=by
   cases c:Nat.beq b m with
   |false=>rfl
   |true=>exact absurd (Nat.eq_of_beq_eq_true c) hbm
  unfold b1o
  simp only[hb,hm,hp,hb2,c3d,hN n hn,c4g hq hl]
  cases nf<;>rfl
 have hx:∃ x,∃ N,∀ n,N≤n→b1o T n f [.func (.func g) [] [.ptr b 0]] h=some x:=⟨_,N,key⟩
 unfold c5d
 rw[dif_pos hx]
 obtain⟨M,hM⟩:=hx.choose_spec
 have a:=hM (N+M) (by omega)
 rw[key (N+M) (by omega)] at a
 exact a.symm
end Ev
end
