/- A part of an evaluator of the program's form in Lean, of the proof that what it says of a call is what the machine does, and of the rules by which proofs walk over it. Conditions: those that each theorem states. -/
import Derived.Test.YtmnhbehmjaibgaaGreatGam
import Derived.Test.YtmnhbehmjaibgaaGreatGak
set_option linter.unusedVariables false
set_option linter.unusedSimpArgs false
section
namespace Ev
open Go Go.RowKit
variable {P:Program}{T:a0n}{base:Nat}{w0:World}
def a0n.bare (T:a0n):a0n:={ T with sm:=fun _ _ _=>none }
def Body (T:a0n) (f:FuncId) (args:List AV) (h:a0a) (Q:Res→Prop):Prop:=∃ r,(∃ N,∀ n,N≤n→step T.bare (ev T n) (.call f args h)=r)∧Leaves Q r
def a5n (T:a0n) (f:FuncId) (args:List AV) (h:a0a) (P:AV→a0a→Prop):Prop:=Body T f args h fun r=>∃ v h',r=.ret v h'∧P v h'
theorem a5n.mono {f:FuncId}{args:List AV}{h:a0a}{P P':AV→a0a→Prop}(g:a5n T f args h P) (k:∀ v h',P v h'→P' v h'):a5n T f args h P':=by
 obtain⟨r,hs,hl⟩:=g
 exact⟨r,hs,hl.mono fun r _ ⟨v,h',e,p⟩=>⟨v,h',e,k v h' p⟩⟩
theorem c9e {f:FuncId}{args:List AV}{h:a0a}{F:Func}{c:Code}{Q:Res→Prop}(hF:T.fn f=some F) (hb:F.body=some c)
  (g:∀ tm,a0m tm (b3a args 0 [])→GI T { fn:=f,nt:=Nat.max F.ntmps args.length,round:=none } [.code c] ⟨tm,[],none,h⟩ (d2a T f Q)):Body T f args h Q:=by
 obtain⟨r,⟨N,hr⟩,q⟩:=(g (a5p args 0 .nil) (a0m.args args 0 _ _ (a0m.nil _))).out
 let fk:Nat→Res→Res:=fun n r=>match r with
  |.fin .normal s=>ev T n (.leave f s.tm s.df none s.h)
  |.fin .ret s=>ev T n (.leave f s.tm s.df none s.h)
  |.pan v s=>ev T n (.leave f s.tm s.df (some (v,false)) s.h)
  | .fin _ _ => .no "jump out of a function" []
  |r=>r
 obtain⟨r',⟨N',hr'⟩,q'⟩:=a8i (Q:=Q) fk r (Leaves.mono (fun r hl he=>by
  cases r with
  |fin e s=>cases e with
   |normal=>exact he
   |ret=>exact he
   |exit _=>exact he.elim
   |goto _=>exact he.elim
  |pan v s=>exact he
  |ret _ _=>exact he.elim
  |thrown _ _=>exact he.elim
  |dret _ _=>exact he.elim
  |no _ _=>exact he.elim
  |alt _ _=>exact he.elim) q)
 refine⟨r',⟨N+N',fun n hn=>?_⟩,q'⟩
 have e:step T.bare (ev T n) (.call f args h)=a5i (ev T n (.code { fn:=f,nt:=Nat.max F.ntmps args.length,round:=none } c { tm:=a5p args 0 .nil,df:=[],pan:=none,h:=h })) (fk n):=by
  have h1:T.bare.sm f args h=none:=rfl
  have h2:T.bare.fn f=some F:=hF
  simp only[step,h1,h2,hb]
  congr 1
 rw[e,hr n (by omega)]
 exact hr' n (by omega)
theorem e2f {f:FuncId}{F:Func}{P:AV→a0a→Prop}(hF:T.fn f=some F){r:Res}(e:Ends T F.results.toList P r):d2a T f (fun r=>∃ v h',r=.ret v h'∧P v h') r:=by
 obtain⟨e,tm,h1,rfl,he,vs,hvs,p⟩:=e
 have:Wp T (.leave f tm [] none h1) fun r=>∃ v h',r=.ret v h'∧P v h':=Wp.now (r:=.ret (oneOf vs) h1) (fun _=>by simp only[step,hF,hvs]) ⟨_,_,rfl,p⟩
 rcases he with rfl|rfl<;>exact this
theorem GI.mono {cx:Cx}{k:List K}{s:St}{Q Q':Res→Prop}(g:GI T cx k s Q) (m:∀ r,Q r→Q' r):GI T cx k s Q':=by
 have key:∀ (k:List K) (r:Res),after T cx k Q r→after T cx k Q' r:=by
  intro k
  induction k with
  |nil=>exact m
  |cons x k ih =>
   intro r h
   cases x with
   |code c =>
    cases r with
    |fin e s=>cases e with
     |normal=>exact Wp.mono h ih
     |ret=>exact ih _ h
     |exit _=>exact ih _ h
     |goto _=>exact ih _ h
    |_=>exact ih _ h
   |blk id =>
    cases r with
    |fin e s=>cases e with
     |exit id' =>
      simp only[after] at h ⊢
      split<;>rename_i hh
      ·rw[if_pos hh] at h; exact ih _ h
      ·rw[if_neg hh] at h; exact ih _ h
     |normal=>exact ih _ h
     |ret=>exact ih _ h
     |goto _=>exact ih _ h
    |_=>exact ih _ h
   |scope=>exact ih _ h
 exact⟨key k _ g.out⟩
theorem e5b {f:FuncId}{args:List AV}{h:a0a}{F:Func}{c:Code}{P:AV→a0a→Prop}(hF:T.fn f=some F) (hb:F.body=some c)
  (g:∀ tm,a0m tm (b3a args 0 [])→GI T { fn:=f,nt:=Nat.max F.ntmps args.length,round:=none } [.code c] ⟨tm,[],none,h⟩ (Ends T F.results.toList P)):a5n T f args h P :=
 c9e hF hb fun tm hs=>(g tm hs).mono fun _ e=>e2f hF e
theorem a5n.f4u {f:FuncId}{args:List AV}{h:a0a}{P:AV→a0a→Prop}(hsm:T.sm f args h=none) (g:a5n T f args h P):a0l T f args h P:=by
 obtain⟨r,⟨N,hr⟩,hl⟩:=g
 refine⟨r,.b0m ⟨N,fun n hn=>?_⟩,hl⟩
 rw[← hr n hn]
 have h1:T.bare.sm f args h=none:=rfl
 simp only[step,hsm,h1]
 rfl
theorem Body.wp {f:FuncId}{args:List AV}{h:a0a}{Q:Res→Prop}(hsm:T.sm f args h=none) (g:Body T f args h Q):Wp T (.call f args h) Q:=by
 obtain⟨r,⟨N,hr⟩,hl⟩:=g
 refine⟨r,.b0m ⟨N,fun n hn=>?_⟩,hl⟩
 rw[← hr n hn]
 have h1:T.bare.sm f args h=none:=rfl
 simp only[step,hsm,h1]
 rfl
theorem a5n.one (hT:T.alts=false){f:FuncId}{args:List AV}{h:a0a}{P:AV→a0a→Prop}(g:a5n T f args h P):∃ v h',(∃ N,∀ n,N≤n→step T.bare (ev T n) (.call f args h)=.ret v h')∧P v h':=by
 obtain⟨r,⟨N,hN⟩,hl⟩:=g
 have h1:=c5p (T:=T.bare) hT (ev T N) (c1c hT N) (.call f args h)
 rw[hN N (Nat.le_refl _)] at h1
 have:∃ v h',r=.ret v h'∧P v h':=by cases r<;>first|exact hl|cases h1
 obtain⟨v,h',rfl,p⟩:=this
 exact⟨v,h',⟨N,hN⟩,p⟩
def a9u (T:a0n) (f:FuncId) (args:List AV) (h:a0a) (v:AV):Prop:=match AV.a0z args with
 |true=>a5n T f args ⟨.nil,0⟩ (fun v' _=>v'=v)
 |false=>a5n T f args h (fun v' h'=>v'=v∧Ext h h')
open Classical in
noncomputable def smB (T:a0n) (wf:FuncId→Bool):Nat→FuncId→List AV→a0a→Option (AV×a0a)
 |0=>T.sm
 |n+1=>fun f args h=>match wf f with
  |false=>T.sm f args h
  |true=>if hx:∃ v,AV.plain v=true∧a9u (T.a2o (smB T wf n)) f args h v then some (hx.choose,h) else none
noncomputable def lev (T:a0n) (wf:FuncId→Bool) (n:Nat):a0n:=T.a2o (smB T wf n)
theorem Leaves.both {Q Q':Res→Prop}:∀ {r:Res},Leaves Q r→Leaves Q' r→∃ q,Q q∧Q' q
 |.alt a b,x,y=>Leaves.both (r:=a) x.1 y.1
 |.fin ..,x,y=>⟨_,x,y⟩
 |.pan ..,x,y=>⟨_,x,y⟩
 |.ret ..,x,y=>⟨_,x,y⟩
 |.thrown ..,x,y=>⟨_,x,y⟩
 |.dret ..,x,y=>⟨_,x,y⟩
 |.no ..,x,y=>⟨_,x,y⟩
theorem a9u.one {f:FuncId}{args:List AV}{h:a0a}{v u:AV}(a:a9u T f args h v) (b:a9u T f args h u):v=u:=by
 unfold a9u at a b
 split at a<;>rename_i hp
 all_goals
  rw[hp] at b
  obtain⟨r1,⟨N,hN⟩,l1⟩:=a
  obtain⟨r2,⟨M,hM⟩,l2⟩:=b
  have a:=hN (N+M) (by omega)
  have b:=hM (N+M) (by omega)
  rw[a] at b
  subst b
  obtain⟨_,⟨v1,h1',rfl,e1⟩,v2,h2',e,e2⟩:=l1.both l2
  cases e
  first
   |exact e1.symm.trans e2
   |exact e1.1.symm.trans e2.1
theorem word {wf:FuncId→Bool}{n:Nat}{f:FuncId}{args:List AV}{h:a0a}{v:AV}(hw:wf f=true) (hp:v.plain=true) (g:a9u (lev T wf n) f args h v) :
  (lev T wf (n+1)).sm f args h=some (v,h):=by
 show smB T wf (n+1) f args h=_
 unfold smB
 rw[hw]
 have hx:∃ v,AV.plain v=true∧a9u (T.a2o (smB T wf n)) f args h v:=⟨v,hp,g⟩
 simp only[dif_pos hx]
 rw[a9u.one (T:=T.a2o (smB T wf n)) hx.choose_spec.2 g]
theorem c7m {wf:FuncId→Bool}(ok:a0v P T) (hsm:∀ f args h v h',T.sm f args h=some (v,h')→a1i P base w0 (.call f args h) (.ret v h')):∀ (n:Nat) (f:FuncId) (args:List AV) (h:a0a) (v:AV) (h':a0a),(lev T wf n).sm f args h=some (v,h')→a1i P base w0 (.call f args h) (.ret v h')
 |0,f,args,h,v,h',e=>hsm f args h v h' e
 |n+1,f,args,h,v,h',e=>by
  replace e:smB T wf (n+1) f args h=_:=e
  unfold smB at e
  split at e
  ·exact hsm _ _ _ _ _ e
  ·split at e
   ·rename_i hx
    simp only[Option.some.injEq,Prod.mk.injEq] at e
    obtain⟨rfl,rfl⟩:=e
    have hv:=hx.choose_spec.1
    have hsays:=hx.choose_spec.2
    have ok':a0v P (T.a2o (smB T wf n)):=ok.a2o _
    have okb:a0v P (T.a2o (smB T wf n)).bare:=ok.a2o _
    obtain⟨u,hu⟩:∃ u,hx.choose=u:=⟨_,rfl⟩
    rw[hu] at hv hsays ⊢
    unfold a9u at hsays
    split at hsays
    ·rename_i hpl
     obtain⟨r,⟨N,hN⟩,hl⟩:=hsays
     have ih:∀ t,a1i P base w0 t (ev (T.a2o (smB T wf n)) N t):=fun t=>a7l ok' (c7m (wf:=wf) ok hsm n) N t
     have K:=b6j (T:=(T.a2o (smB T wf n)).bare) okb (fun f a h v h' hh=>by cases hh) _ ih f args ⟨.nil,0⟩
     rw[hN N (Nat.le_refl _)] at K
     intro E args' w cs ha H
     have H0:HR P base w0 En.none ⟨.nil,0⟩ w:=⟨fun _ h=>h.elim,fun _ _ h=>h.elim,fun _ _ _ _ h=>h.elim,H.wd,H.drawn,H.bsz,fun _ h=>h.elim⟩
     obtain⟨q,hq,hc⟩:=K En.none args' w cs (ha.plain hpl) H0
     obtain⟨v',h2,rfl,he⟩:=hl.get hq
     obtain⟨E',w',v'',fr,p1,p2,p3,p4,p5⟩:=hc
     have old:∀ k,k<w.heap.size→w'.heap[k]?=w.heap[k]?:=fun k hk=>p2.fr k hk (fun _ hd=>hd.elim)
     rw[he] at p3
     exact⟨_,rfl,E,w',v'',fr,⟨H.dlt,fun b o hd hg=>OR'.same (old _ (H.blt b hd)) (H.obj b o hd hg),H.inj,p1.wd,p1.drawn,p1.bsz,fun b hd=>Nat.lt_of_lt_of_le (H.blt b hd) p2.sz⟩,
      ⟨.refl E,fun _ h=>.inl h,Nat.le_refl _,fun _ _ _=>rfl,p2.sz,fun k hk _=>old k hk,fun _ h=>.inl h⟩,p3.plain hv,p4,p5⟩
    ·obtain⟨r,⟨N,hN⟩,hl⟩:=hsays
     have ih:∀ t,a1i P base w0 t (ev (T.a2o (smB T wf n)) N t):=fun t=>a7l ok' (c7m (wf:=wf) ok hsm n) N t
     have K:=b6j (T:=(T.a2o (smB T wf n)).bare) okb (fun f a h v h' hh=>by cases hh) _ ih f args h
     rw[hN N (Nat.le_refl _)] at K
     intro E args' w cs ha H
     obtain⟨q,hq,hc⟩:=K E args' w cs ha H
     obtain⟨v',h2,rfl,he',he⟩:=hl.get hq
     obtain⟨E',w',v'',fr,p1,p2,p3,p4,p5⟩:=hc
     rw[he'] at p3
     exact⟨_,rfl,c6c ha H p1 p2 (p3.plain hv) he p4 p5⟩
   ·cases e
theorem a9u.plain {f:FuncId}{args:List AV}{h:a0a}{v:AV}(hp:AV.a0z args=true) (g:a5n T f args ⟨.nil,0⟩ (fun v' _=>v'=v)):a9u T f args h v:=by
 unfold a9u; rw[hp]; exact g
theorem a9u.other {f:FuncId}{args:List AV}{h:a0a}{v:AV}(g:a5n T f args h (fun v' h'=>v'=v∧Ext h h')) (g0:AV.a0z args=true→a5n T f args ⟨.nil,0⟩ (fun v' h'=>v'=v∧Ext ⟨.nil,0⟩ h')):a9u T f args h v:=by
 unfold a9u
 split
 ·rename_i hp; exact(g0 hp).mono fun _ _ e=>e.1
 ·exact g
end Ev
end
section
namespace Ev
open Go
variable {T:a0n}{cx:Cx}{k:List K}{Q:Res→Prop}{all rest:List Oper}{o:Oper}{df:List ADef}{pan:Option (AV×Bool)}{h h' h2:a0a}{L L':List (Nat×AV)}{v:AV}{d:Nat}
def Sub (A B:List (Nat×AV)):Prop:=∀ j v,look A j=some v→look B j=some v
theorem Sub.nil (B:List (Nat×AV)):Sub [] B:=fun _ _ h=>by cases h
theorem Sub.cons {A B:List (Nat×AV)}{j:Nat}{v:AV}(h:look B j=some v) (t:Sub A B):Sub ((j,v)::A) B:=by
 intro i x hx
 unfold look at hx
 split at hx
 ·rename_i hb
  have:=Nat.eq_of_beq_eq_true hb
  subst this
  rw[← hx]; exact h
 ·exact t i x hx
theorem Sub.refl (A:List (Nat×AV)):Sub A A:=fun _ _ h=>h
theorem a0m.sub {tm:Tr AV}{A B:List (Nat×AV)}(s:a0m tm B) (h:Sub A B):a0m tm A:=fun j v hv=>s j v (h j v hv)
structure GJ (T:a0n) (cx:Cx) (k:List K) (L:List (Nat×AV)) (df:List ADef) (pan:Option (AV×Bool)) (h:a0a) (Q:Res→Prop):Prop where
 out:∀ tm,a0m tm L→GI T cx k ⟨tm,df,pan,h⟩ Q
structure OJ (T:a0n) (cx:Cx) (all rest:List Oper) (k:List K) (L:List (Nat×AV)) (df:List ADef) (pan:Option (AV×Bool)) (h:a0a) (Q:Res→Prop):Prop where
 out:∀ tm,a0m tm L→OI T cx all rest k ⟨tm,df,pan,h⟩ Q
theorem GJ.sub (g:GJ T cx k L' df pan h Q) (s:Sub L' L):GJ T cx k L df pan h Q:=⟨fun tm hs=>g.out tm (hs.sub s)⟩
theorem OJ.sub (g:OJ T cx all rest k L' df pan h Q) (s:Sub L' L):OJ T cx all rest k L df pan h Q:=⟨fun tm hs=>g.out tm (hs.sub s)⟩
theorem GJ.gen (Lf:List (Nat×AV)) (C:a0a→Prop) (hs:Sub Lf L) (hc:C h) (g:∀ h,C h→GJ T cx k Lf df pan h Q):GJ T cx k L df pan h Q:=(g h hc).sub hs
theorem a2v (q:∀ tm,a0m tm L→Q (.fin .normal ⟨tm,df,pan,h⟩)):GJ T cx [] L df pan h Q:=⟨fun tm hs=>f4p (q tm hs)⟩
theorem c8l (g:GJ T cx k L df pan h Q):GJ T cx (.code .skip::k) L df pan h Q:=⟨fun tm hs=>f2q (g.out tm hs)⟩
theorem c3j {l:Nat}(g:GJ T cx k L df pan h Q):GJ T cx (.code (.label l)::k) L df pan h Q:=⟨fun tm hs=>e9c (g.out tm hs)⟩
theorem d4q {id:Nat}(g:GJ T cx k L df pan h Q):GJ T cx (.blk id::k) L df pan h Q:=⟨fun tm hs=>f4h (g.out tm hs)⟩
theorem d3f (g:GJ T cx k L df pan h Q):GJ T cx (.scope::k) L df pan h Q:=⟨fun tm hs=>f3o (g.out tm hs)⟩
theorem b0c {a b:Code}(g:GJ T cx (.code a::.code b::k) L df pan h Q):GJ T cx (.code (.seq a b)::k) L df pan h Q:=⟨fun tm hs=>f3s (g.out tm hs)⟩
theorem c3h {id:Nat}{b:Code}(g:GJ T cx (.code b::.blk id::k) L df pan h Q):GJ T cx (.code (.block id b)::k) L df pan h Q:=⟨fun tm hs=>e5x (g.out tm hs)⟩
theorem c2g {b:Code}(g:GJ T cx (.code b::.scope::k) L df pan h Q):GJ T cx (.code (.scope b)::k) L df pan h Q:=⟨fun tm hs=>e4z (g.out tm hs)⟩
theorem c8g {id:Nat}{k':List K}(hu:unw id k=some k') (g:GJ T cx k' L df pan h Q):GJ T cx (.code (.exit id)::k) L df pan h Q:=⟨fun tm hs=>f2a hu (g.out tm hs)⟩
theorem a2n (q:∀ tm,a0m tm L→Q (.fin .ret ⟨tm,df,pan,h⟩)):GJ T cx (.code .ret::k) L df pan h Q:=⟨fun tm hs=>f3u (q tm hs)⟩
theorem a7v {i:Nat}{ops:Array Oper}(g:OJ T cx ops.toList ops.toList k L df pan h Q):GJ T cx (.code (.region i ops false)::k) L df pan h Q:=⟨fun tm hs=>e1l (g.out tm hs)⟩
theorem c2a {x:Operand}{a b:Code}(hx:a1u L x=some (.bool true)) (g:GJ T cx (.code a::k) L df pan h Q):GJ T cx (.code (.cond x a b)::k) L df pan h Q:=⟨fun tm hs=>f4i hs hx (g.out tm hs)⟩
theorem b8w {x:Operand}{a b:Code}(hx:a1u L x=some (.bool false)) (g:GJ T cx (.code b::k) L df pan h Q):GJ T cx (.code (.cond x a b)::k) L df pan h Q:=⟨fun tm hs=>f3v hs hx (g.out tm hs)⟩
theorem b4z {x:Operand}{a b:Code}{c:Bool}(hx:a1u L x=some (.bool c)) (ht:c=true→GJ T cx (.code a::k) L df pan h Q) (hf:c=false→GJ T cx (.code b::k) L df pan h Q):GJ T cx (.code (.cond x a b)::k) L df pan h Q :=
 ⟨fun tm hs=>f5y hs hx (fun e=>(ht e).out tm hs) (fun e=>(hf e).out tm hs)⟩
theorem d4u {x:Operand}{a b:Code}{c:Prop} [Decidable c] (hx:a1u L x=some (.bool (decide c))) (ht:c→GJ T cx (.code a::k) L df pan h Q) (hf:¬ c→GJ T cx (.code b::k) L df pan h Q):GJ T cx (.code (.cond x a b)::k) L df pan h Q :=
 b4z hx (fun e=>ht (of_decide_eq_true e)) (fun e=>hf (of_decide_eq_false e))
theorem c7o {x:Operand}{a b:Code}{c:Prop} [Decidable c] (hx:a1u L x=some (.bool (decide c))) (hc:c) (g:GJ T cx (.code a::k) L df pan h Q):GJ T cx (.code (.cond x a b)::k) L df pan h Q :=
 c2a (by rw[hx,decide_eq_true hc]) g
theorem c7q {x:Operand}{a b:Code}{c:Prop} [Decidable c] (hx:a1u L x=some (.bool (decide c))) (hc:¬ c) (g:GJ T cx (.code b::k) L df pan h Q):GJ T cx (.code (.cond x a b)::k) L df pan h Q :=
 b8w (by rw[hx,decide_eq_false hc]) g
theorem c8u {x:Operand}{a b:Code}{c:Prop} [Decidable c] (hx:a1u L x=some (.bool (decide (¬ c)))) (hc:c) (g:GJ T cx (.code b::k) L df pan h Q):GJ T cx (.code (.cond x a b)::k) L df pan h Q :=
 b8w (by rw[hx,decide_eq_false (fun n=>n hc)]) g
theorem c3b {x:Operand}{a b:Code}{c:Bool}(hx:a1u L x=some (.bool c)) (hc:c=true) (g:GJ T cx (.code a::k) L df pan h Q):GJ T cx (.code (.cond x a b)::k) L df pan h Q :=
 c2a (by rw[hx,hc]) g
theorem c2k {x:Operand}{a b:Code}{c:Bool}(hx:a1u L x=some (.bool c)) (hc:c=false) (g:GJ T cx (.code b::k) L df pan h Q):GJ T cx (.code (.cond x a b)::k) L df pan h Q :=
 b8w (by rw[hx,hc]) g
theorem a0k {ι:Type}{b:Code}(μ:ι→Nat) (Lf:ι→List (Nat×AV)) (I:ι→a0a→Prop) (x:ι) (hL:Sub (Lf x) L) (h0:I x h)
  (round:∀ x h,I x h→(∀ x' {L' h'},μ x'<μ x→Sub (Lf x') L'→I x' h'→GJ T cx (.code (.loop b)::k) L' df pan h' Q)→GJ T cx (.code b::.code (.loop b)::k) (Lf x) df pan h Q):GJ T cx (.code (.loop b)::k) L df pan h Q:=by
 refine⟨fun tm hs=>?_⟩
 refine f1v (fun m st=>∃ x tm h,m=μ x∧st=⟨tm,df,pan,h⟩∧a0m tm (Lf x)∧I x h) (m:=μ x) ⟨x,tm,h,rfl,rfl,hs.sub hL,h0⟩ ?_
 rintro m _ ⟨x,tm,h,rfl,rfl,hs,hi⟩ next
 exact(round x h hi fun x' L' h' hm hsub hi'=>⟨fun tm' hs'=>next (μ x') _ hm ⟨x',tm',h',rfl,rfl,hs'.sub hsub,hi'⟩⟩).out tm hs
theorem b3x {b:Code}(g:GJ T cx (.code b::.code (.loop b)::k) L df pan h Q):GJ T cx (.code (.loop b)::k) L df pan h Q:=⟨fun tm hs=>e8x (g.out tm hs)⟩
theorem b2c {rs:List ResultVar}{P:AV→a0a→Prop}{vs:List AV}(hr:a2a T L h rs=some vs) (p:P (oneOf vs) h):GJ T cx (.code .ret::k) L [] none h (Ends T rs P):=a2n fun _ hs=>a3a hs hr p
theorem d3h (g:GJ T cx k L df pan h Q):OJ T cx all [] k L df pan h Q:=⟨fun tm hs=>f5j (g.out tm hs)⟩
theorem a1r (hg:a0p all L o=some true) (hd:o.dst=some d) (hn:Nat.blt d cx.nt=true) (ho:opA T (a1u L) o h=.val v h')
  (c:OJ T cx all rest k ((d,v)::L) df pan h' Q):OJ T cx all (o::rest) k L df pan h Q:=⟨fun tm hs=>f4c hs hg hd hn ho fun tm' s'=>c.out tm' s'⟩
theorem c1f (hg:a0p all L o=some true) (hd:o.dst=none) (ho:opA T (a1u L) o h=.val v h')
  (c:OJ T cx all rest k L df pan h' Q):OJ T cx all (o::rest) k L df pan h Q:=⟨fun tm hs=>f1c hs hg hd ho (c.out tm hs)⟩
theorem e1z (hg:a0p all L o=some false) (hd:o.dst=some d) (hn:Nat.blt d cx.nt=true)
  (c:OJ T cx all rest k ((d,a2u)::L) df pan h Q):OJ T cx all (o::rest) k L df pan h Q:=⟨fun tm hs=>f5m hs hg hd hn fun tm' s'=>c.out tm' s'⟩
theorem d4d (hg:a0p all L o=some false) (hd:o.dst=none)
  (c:OJ T cx all rest k L df pan h Q):OJ T cx all (o::rest) k L df pan h Q:=⟨fun tm hs=>f4r hs hg hd (c.out tm hs)⟩
theorem a5h (hg:a0p all L o=some true) (hd:o.dst=none) (ho:opA T (a1u L) o h=.skip h')
  (c:OJ T cx all rest k L df pan h' Q):OJ T cx all (o::rest) k L df pan h Q:=⟨fun tm hs=>f1w hs hg hd ho (c.out tm hs)⟩
theorem a0c {f:FuncId}{args:List AV}{P:AV→a0a→Prop}(hc:a0l T f args h' P) (hg:a0p all L o=some true) (hd:o.dst=some d) (hn:Nat.blt d cx.nt=true) (ho:opA T (a1u L) o h=.enter f args h')
  (c:∀ v h2,P v h2→OJ T cx all rest k ((d,v)::L) df pan h2 Q):OJ T cx all (o::rest) k L df pan h Q:=⟨fun tm hs=>f2c hs hg hd ho hn hc fun v h2 p tm' s'=>(c v h2 p).out tm' s'⟩
theorem a2y {f:FuncId}{args:List AV}(hw:T.sm f args h'=some (v,h2)) (hg:a0p all L o=some true) (hd:o.dst=some d) (hn:Nat.blt d cx.nt=true) (ho:opA T (a1u L) o h=.enter f args h')
  (c:OJ T cx all rest k ((d,v)::L) df pan h2 Q):OJ T cx all (o::rest) k L df pan h Q:=a0c (d2e hw) hg hd hn ho fun _ _ ⟨e1,e2⟩=>by subst e1 e2; exact c
theorem a1q {f:FuncId}{args:List AV}{P R:AV→a0a→Prop}(hc:Wp T (.call f args h') fun r=>(∃ v h2,r=.ret v h2∧P v h2)∨∃ v h2,r=.thrown v h2∧R v h2) (hg:a0p all L o=some true) (hd:o.dst=some d) (hn:Nat.blt d cx.nt=true) (ho:opA T (a1u L) o h=.enter f args h')
  (c:∀ v h2,P v h2→OJ T cx all rest k ((d,v)::L) df pan h2 Q) (c2:∀ v h2,R v h2→∀ tm,a0m tm L→Q (.pan v ⟨tm,df,pan,h2⟩)):OJ T cx all (o::rest) k L df pan h Q :=
 ⟨fun tm hs=>e6y hs hg hd ho hn hc (fun v h2 p tm' s'=>(c v h2 p).out tm' s') fun v h2 r=>c2 v h2 r tm hs⟩
theorem b7l {dd:ADef}(hg:a0p all L o=some true) (hd:o.dst=none) (ho:opA T (a1u L) o h=.defer dd) (hr:cx.round=none)
  (c:OJ T cx all rest k L (dd::df) pan h Q):OJ T cx all (o::rest) k L df pan h Q:=⟨fun tm hs=>e7o hs hg hd ho hr (c.out tm hs)⟩
theorem a8l (hg:a0p all L o=some true) (ho:opA T (a1u L) o h=.panic v h') (c:∀ tm,a0m tm L→Q (.pan v ⟨tm,df,pan,h'⟩)):OJ T cx all (o::rest) k L df pan h Q:=⟨fun tm hs=>e9p hs hg ho (c tm hs)⟩
theorem b6m {p:AV}(hg:a0p all L o=some true) (hd:o.dst=some d) (ho:opA T (a1u L) o h=.recover) (hr:cx.round=none) (hn:Nat.blt d cx.nt=true)
  (c:OJ T cx all rest k ((d,p)::L) df (some (p,true)) h Q):OJ T cx all (o::rest) k L df (some (p,false)) h Q:=⟨fun tm hs=>d8j hs hg hd ho hr hn fun tm' s'=>c.out tm' s'⟩
theorem b4d (hg:a0p all L o=some true) (hd:o.dst=some d) (ho:opA T (a1u L) o h=.recover) (hr:cx.round=none) (hn:Nat.blt d cx.nt=true)
  (c:OJ T cx all rest k ((d,.niliface)::L) df none h Q):OJ T cx all (o::rest) k L df none h Q:=⟨fun tm hs=>d5r hs hg hd ho hr hn fun tm' s'=>c.out tm' s'⟩
theorem sub_self {L:List (Nat×AV)}{d:Nat}{v:AV}(hl:look L d=some v):Sub ((d,v)::L) L:=by
 intro i x hx
 unfold look at hx
 split at hx
 ·rename_i hb
  have:=Nat.eq_of_beq_eq_true hb
  subst this
  rw[← hx]; exact hl
 ·exact hx
theorem c7s {j:Nat}{w:Bool}{c:Bool}(hg:o.guard=some (j,w)) (hd:a8o all j=some d) (hl:look L d=some (.bool c)) (ht:c=true→OJ T cx all (o::rest) k ((d,.bool true)::L) df pan h Q) (hf:c=false→OJ T cx all (o::rest) k ((d,.bool false)::L) df pan h Q):OJ T cx all (o::rest) k L df pan h Q:=by
 cases c with
 |true=>exact(ht rfl).sub (sub_self hl)
 |false=>exact(hf rfl).sub (sub_self hl)
theorem d2j {j:Nat}{w:Bool}{c:Prop} [Decidable c] (hg:o.guard=some (j,w)) (hd:a8o all j=some d) (hl:look L d=some (.bool (decide c))) (ht:c→OJ T cx all (o::rest) k ((d,.bool true)::L) df pan h Q) (hf:¬ c→OJ T cx all (o::rest) k ((d,.bool false)::L) df pan h Q):OJ T cx all (o::rest) k L df pan h Q :=
 c7s hg hd hl (fun e=>ht (of_decide_eq_true e)) (fun e=>hf (of_decide_eq_false e))
theorem c6z {j:Nat}{w:Bool}{c:Prop} [Decidable c] (hg:o.guard=some (j,w)) (hd:a8o all j=some d) (hl:look L d=some (.bool (decide c))) (hc:c) (g:OJ T cx all (o::rest) k ((d,.bool true)::L) df pan h Q):OJ T cx all (o::rest) k L df pan h Q :=
 g.sub (sub_self (by rw[hl,decide_eq_true hc]))
theorem c6r {j:Nat}{w:Bool}{c:Prop} [Decidable c] (hg:o.guard=some (j,w)) (hd:a8o all j=some d) (hl:look L d=some (.bool (decide c))) (hc:¬ c) (g:OJ T cx all (o::rest) k ((d,.bool false)::L) df pan h Q):OJ T cx all (o::rest) k L df pan h Q :=
 g.sub (sub_self (by rw[hl,decide_eq_false hc]))
theorem c8s {j:Nat}{w:Bool}{c:Prop} [Decidable c] (hg:o.guard=some (j,w)) (hd:a8o all j=some d) (hl:look L d=some (.bool (decide (¬ c)))) (hc:c) (g:OJ T cx all (o::rest) k ((d,.bool false)::L) df pan h Q):OJ T cx all (o::rest) k L df pan h Q :=
 g.sub (sub_self (by rw[hl,decide_eq_false (fun n=>n hc)]))
theorem c3l {j:Nat}{w:Bool}{c:Bool}(hg:o.guard=some (j,w)) (hd:a8o all j=some d) (hl:look L d=some (.bool c)) (hc:c=true) (g:OJ T cx all (o::rest) k ((d,.bool true)::L) df pan h Q):OJ T cx all (o::rest) k L df pan h Q :=
 g.sub (sub_self (by rw[hl,hc]))
theorem c4e {j:Nat}{w:Bool}{c:Bool}(hg:o.guard=some (j,w)) (hd:a8o all j=some d) (hl:look L d=some (.bool c)) (hc:c=false) (g:OJ T cx all (o::rest) k ((d,.bool false)::L) df pan h Q):OJ T cx all (o::rest) k L df pan h Q :=
 g.sub (sub_self (by rw[hl,hc]))
def f5g:Op→Nat
 |.call c=>match c.callee with
  |.value (.func f)=>f+1
  |_=>0
 |_=>0
def d6k:Op→Bool
 |.call c=>match c.callee with
  |.builtin _=>false
  |_=>true
 |_=>false
theorem f0p {g:Nat×Bool}(_:o.guard=some g) (x:OJ T cx all (o::rest) k L df pan h Q):OJ T cx all (o::rest) k L df pan h Q:=x
theorem b5c (_:a0p all L o=some true) (x:OJ T cx all (o::rest) k L df pan h Q):OJ T cx all (o::rest) k L df pan h Q:=x
theorem f2v (_:d6k o.op=true) (x:OJ T cx all (o::rest) k L df pan h Q):OJ T cx all (o::rest) k L df pan h Q:=x
theorem a7t {f:FuncId}{args:List AV}(hw:T.sm f args h'=some (v,h2)) (_:Nat.beq (f5g o.op) (f+1)=true) (hg:a0p all L o=some true) (hd:o.dst=some d) (hn:Nat.blt d cx.nt=true) (ho:opA T (a1u L) o h=.enter f args h')
  (c:OJ T cx all rest k ((d,v)::L) df pan h2 Q):OJ T cx all (o::rest) k L df pan h Q:=a2y hw hg hd hn ho c
theorem a0u {f:FuncId}{args:List AV}{F:Func}{c:Code}{P:AV→a0a→Prop}(hF:T.fn f=some F) (hb:F.body=some c)
  (g:GJ T { fn:=f,nt:=Nat.max F.ntmps args.length,round:=none } [.code c] (b3a args 0 []) [] none h (Ends T F.results.toList P)):a5n T f args h P:=e5b hF hb fun tm hs=>g.out tm hs
theorem c8c {f:FuncId}{args:List AV}{F:Func}{c:Code}{Q:Res→Prop}(hF:T.fn f=some F) (hb:F.body=some c)
  (g:GJ T { fn:=f,nt:=Nat.max F.ntmps args.length,round:=none } [.code c] (b3a args 0 []) [] none h (d2a T f Q)):Body T f args h Q:=c9e hF hb fun tm hs=>g.out tm hs
theorem a0r {f:FuncId}{args:List AV}{F:Func}{c:Code}{P:AV→a0a→Prop}(hsm:T.sm f args h=none) (hF:T.fn f=some F) (hb:F.body=some c)
  (g:GJ T { fn:=f,nt:=Nat.max F.ntmps args.length,round:=none } [.code c] (b3a args 0 []) [] none h (Ends T F.results.toList P)):a0l T f args h P:=(a0u hF hb g).f4u hsm
theorem a5k {f:FuncId}{args:List AV}{F:Func}{c:Code}{Q:Res→Prop}(hsm:T.sm f args h=none) (hF:T.fn f=some F) (hb:F.body=some c)
  (g:GJ T { fn:=f,nt:=Nat.max F.ntmps args.length,round:=none } [.code c] (b3a args 0 []) [] none h (d2a T f Q)):Wp T (.call f args h) Q:=(c8c hF hb g).wp hsm
theorem b4v {f g:FuncId}{tm0:Tr AV}{fn:Fn}{cap args as:List AV}{ds:List ADef}{F:Func}{c:Code}{Q:Res→Prop}(hi:a4y T fn cap args h=.enter g as h') (hF:T.fn g=some F) (hr:F.results.toList=[]) (hb:F.body=some c)
  (w:GJ T { fn:=g,nt:=Nat.max F.ntmps as.length,round:=none } [.code c] (b3a as 0 []) [] pan h' fun r=>∃ e tm pan' h2,r=.fin e ⟨tm,[],pan',h2⟩∧(e=.normal∨e=.ret)∧Wp T (.leave f tm0 ds (e9x pan') h2) Q):Wp T (.leave f tm0 (.fn fn cap args::ds) pan h) Q :=
 e0x hi (e7k hF hr hb fun tm hs=>w.out tm hs)
theorem b5a {Q:Option (AV×Bool)→a0a→Prop}(q:Q pan h):GJ T cx [] L [] pan h fun r=>∃ e tm pan' h2,r=.fin e ⟨tm,[],pan',h2⟩∧(e=.normal∨e=.ret)∧Q pan' h2:=a2v fun _ _=>⟨_,_,_,_,rfl,.inl rfl,q⟩
structure EJ where
 o:Oper
 m:Nat
 kd:Kd
 want:Bool
 L:List (Nat×AV)
 h0:a0a
 v:AV
 h1:a0a
def EJ.ent (e:EJ) (tm:Tr AV):Ent:=⟨e.o,e.m,e.kd,e.want,tm,e.h0,e.v,e.h1⟩
inductive b6u:List EJ→List Ent→Prop
 |nil:b6u [] []
 |cons {e:EJ} {tm:Tr AV} {es:List EJ} {xs:List Ent} (hs:a0m tm e.L) (t:b6u es xs):b6u (e::es) (e.ent tm::xs)
theorem b6u.snoc {e:EJ}{tm:Tr AV}(hs:a0m tm e.L):∀ {es:List EJ}{xs:List Ent},b6u es xs→b6u (es++[e]) (xs++[e.ent tm])
 |_,_,.nil=>.cons hs .nil
 |_,_,.cons a t=>.cons a (t.snoc hs)
theorem b6u.rev:∀ {es:List EJ}{xs:List Ent},b6u es xs→b6u es.reverse xs.reverse
 |_,_,.nil=>.nil
 |_,_,.cons hs t=>by rw[List.reverse_cons,List.reverse_cons]; exact t.rev.snoc hs
def MsJ (ms:List Nat):List EJ→Nat→Prop
 |[],_=>True
 |e::l,k=>e.m=(nth ms k).getD 0∧MsJ ms l (k+1)
def e1w (m j:Nat) (a b:EJ):Option (List (EJ×a0a)):=match tb m j with
 |true=>some []
 |false=>match b2m a.o b.o with
  |true=>none
  |false=>match a9a a.kd,a9a b.kd with
   |true,true=>none
   |true,false=>some (match a6g b.kd&&b.want with
    |true=>[(b,a.h0)]
    |false=>[])
   |false,true=>some (match a6g a.kd&&a.want with
    |true=>[(a,b.h1)]
    |false=>[])
   |false,false=>some []
def c8j (ms:List Nat) (j:Nat) (a:EJ):List EJ→Nat→Option (List (EJ×a0a))
 |[],_=>some []
 |b::l,k=>match e1w ((nth ms k).getD 0) j a b,c8j ms j a l (k+1) with
  |some x,some y=>some (x++y)
  |_,_=>none
def d0z (ms:List Nat):List EJ→Nat→Option (List (EJ×a0a))
 |[],_=>some []
 |a::l,j=>match c8j ms j a l (j+1),d0z ms l (j+1) with
  |some x,some y=>some (x++y)
  |_,_=>none
def c0w (T:a0n):List (EJ×a0a)→Prop
 |[]=>True
 |p::l=>(∃ h',opA T (a1u p.1.L) p.1.o p.2=.val p.1.v h')∧c0w T l
theorem c0w.append {a b:List (EJ×a0a)}(h:c0w T (a++b)):c0w T a∧c0w T b:=by
 induction a with
 |nil=>exact⟨trivial,h⟩
 |cons x a ih=>exact⟨⟨h.1,(ih h.2).1⟩,(ih h.2).2⟩
theorem a3v.app {a b:List (Ent×a0a)}(x:a3v T a) (y:a3v T b):a3v T (a++b):=by
 induction a with
 |nil=>exact y
 |cons p a ih=>exact⟨x.1,ih x.2⟩
theorem MsJ.ok {ms:List Nat}:∀ {es:List EJ}{xs:List Ent}{j:Nat},b6u es xs→MsJ ms es j→d5g ms xs j
 |_,_,_,.nil,_=>trivial
 |_,_,_,.cons _ t,h=>⟨h.1,h.2.ok t⟩
theorem e1x {m j:Nat}{a b:EJ}{ta tb':Tr AV}(ha:a0m ta a.L) (hb:a0m tb' b.L){l:List (EJ×a0a)}(e:e1w m j a b=some l) (k:c0w T l):∃ l',b4c m j (a.ent ta) (b.ent tb')=some l'∧a3v T l':=by
 unfold e1w at e
 unfold b4c
 split at e<;>rename_i ht<;>rw[ht]
 ·exact⟨[],rfl,trivial⟩
 ·split at e<;>rename_i hd
  ·cases e
  ·have hd':b2m (a.ent ta).o (b.ent tb').o=false:=hd
   rw[hd']
   cases q1:a9a a.kd<;>cases q2:a9a b.kd<;>rw[q1,q2] at e<;>simp only[Option.some.injEq] at e
   all_goals
    have q1':a9a (a.ent ta).kd=_:=q1
    have q2':a9a (b.ent tb').kd=_:=q2
    rw[q1',q2']
   ·exact⟨[],rfl,trivial⟩
   ·cases q3:a6g a.kd&&a.want with
    |false=>have q3':(a6g (a.ent ta).kd&&(a.ent ta).want)=_:=q3; exact⟨_,rfl,by simp only[q3']; trivial⟩
    |true =>
     have q3':(a6g (a.ent ta).kd&&(a.ent ta).want)=_:=q3
     rw[q3] at e; subst e
     obtain⟨⟨h',k1⟩,_⟩:=k
     exact⟨_,rfl,by simp only[q3']; exact⟨d0v (e:=a.ent ta) ha k1,trivial⟩⟩
   ·cases q3:a6g b.kd&&b.want with
    |false=>have q3':(a6g (b.ent tb').kd&&(b.ent tb').want)=_:=q3; exact⟨_,rfl,by simp only[q3']; trivial⟩
    |true =>
     have q3':(a6g (b.ent tb').kd&&(b.ent tb').want)=_:=q3
     rw[q3] at e; subst e
     obtain⟨⟨h',k1⟩,_⟩:=k
     exact⟨_,rfl,by simp only[q3']; exact⟨d0v (e:=b.ent tb') hb k1,trivial⟩⟩
   ·cases e
theorem c5t {ms:List Nat}{j:Nat}{a:EJ}{ta:Tr AV}(ha:a0m ta a.L):∀ {es:List EJ}{xs:List Ent}{i:Nat}{l:List (EJ×a0a)},b6u es xs→c8j ms j a es i=some l→c0w T l→∃ l',a9k ms j (a.ent ta) xs i=some l'∧a3v T l'
 |_,_,_,_,.nil,_,_=>⟨[],rfl,trivial⟩
 |_,_,i,l,.cons hb t,e,k=>by
  unfold c8j at e
  split at e
  ·rename_i x y hx hy
   cases e
   obtain⟨k1,k2⟩:=k.append
   obtain⟨x',p1,p2⟩:=e1x ha hb hx k1
   obtain⟨y',r1,r2⟩:=c5t ha t hy k2
   exact⟨x'++y',by unfold a9k; rw[p1,r1],p2.app r2⟩
  ·cases e
theorem c4c {ms:List Nat}:∀ {es:List EJ}{xs:List Ent}{j:Nat}{l:List (EJ×a0a)},b6u es xs→d0z ms es j=some l→c0w T l→∃ l',todo ms xs j=some l'∧a3v T l'
 |_,_,_,_,.nil,_,_=>⟨[],rfl,trivial⟩
 |_,_,j,l,.cons hb t,e,k=>by
  unfold d0z at e
  split at e
  ·rename_i x y hx hy
   cases e
   obtain⟨k1,k2⟩:=k.append
   obtain⟨x',p1,p2⟩:=c5t hb t hx k1
   obtain⟨y',r1,r2⟩:=c4c t hy k2
   exact⟨x'++y',by unfold todo; rw[p1,r1],p2.app r2⟩
  ·cases e
variable {nt:Nat}{ms:List Nat}{N m:Nat}{mr:List Nat}{n:Nat}{acc:List EJ}{sl:List Tmp}{hl:List (List Tmp)}
structure DJ (T:a0n) (cx:Cx) (k:List K) (df:List ADef) (pan:Option (AV×Bool)) (Q:Res→Prop) (all:List Oper) (ms:List Nat) (N:Nat) (rest:List Oper) (mr:List Nat) (hl:List (List Tmp)) (i:Nat) (L:List (Nat×AV)) (h:a0a) (acc:List EJ):Prop where
 out:∀ tm xs,a0m tm L→b6u acc xs→DI T cx.nt all ms N rest mr hl i tm h xs (fun tm' h'=>GI T cx k ⟨tm',df,pan,h'⟩ Q)
theorem DJ.sub (g:DJ T cx k df pan Q all ms N rest mr hl n L' h acc) (s:Sub L' L):DJ T cx k df pan Q all ms N rest mr hl n L h acc:=⟨fun tm xs hs ha=>g.out tm xs (hs.sub s) ha⟩
theorem a0b {r q:Nat}{ops:Array Oper}(hk:h.ok) (hq:ops.toList.length=q) (hm:masks ops.toList=ms) (hh:a8f ops.toList ms ops.toList ms 0=hl) (he:a3h ops.toList 0=true)
  (g:DJ T cx k df pan Q ops.toList ms h.next ops.toList ms hl 0 L (a0a.mk h.t (h.next+q)) []):GJ T cx (.code (.region r ops true)::k) L df pan h Q:=by
 subst hq
 exact⟨fun tm hs=>e9o hm hh he hk (g.out tm [] hs .nil)⟩
theorem c2e {l:List (EJ×a0a)}(hm:MsJ ms acc.reverse 0) (hl':d0z ms acc.reverse 0=some l) (hk:c0w T l) (g:GJ T cx k L df pan h Q):DJ T cx k df pan Q all ms N [] mr hl n L h acc :=
 ⟨fun tm xs hs ha=>by
  obtain⟨l',p1,p2⟩:=c4c ha.rev hl' hk
  exact f4s (hm.ok ha.rev) p1 p2 (g.out tm hs)⟩
theorem e1d (hw:a0p all (a1p L sl) o=some false) (hd:o.dst=some d) (hn:Nat.blt d cx.nt=true)
  (c:DJ T cx k df pan Q all ms N rest mr hl (n+1) ((d,a2u)::L) h (⟨o,m,.pure,false,a1p L sl,h,a2u,h⟩::acc)):DJ T cx k df pan Q all ms N (o::rest) (m::mr) (sl::hl) n L h acc :=
 ⟨fun tm xs hs ha=>f5x hs hw hd hn fun tmr tm' a b=>c.out tm' _ b (.cons (e:=⟨o,m,.pure,false,a1p L sl,h,a2u,h⟩) a ha)⟩
theorem a2z (hw:a0p all (a1p L sl) o=some true) (hd:o.dst=some d) (hn:Nat.blt d cx.nt=true) (hk:b7t (a1j T o.op)=true) (ho:opA T (a1u (a1p L sl)) o h=.val v h')
  (c:DJ T cx k df pan Q all ms N rest mr hl (n+1) ((d,v)::L) h (⟨o,m,.read,true,a1p L sl,h,v,h⟩::acc)):DJ T cx k df pan Q all ms N (o::rest) (m::mr) (sl::hl) n L h acc :=
 ⟨fun tm xs hs ha=>f5a hs hw hd hn hk ho fun tmr tm' a b=>c.out tm' _ b (.cons (e:=⟨o,m,.read,true,a1p L sl,h,v,h⟩) a ha)⟩
theorem b4g {a:a1t}(hk:a1j T o.op=.alloc) (hw:a0p all (a1p L sl) o=some true) (hd:o.dst=some d) (hn:Nat.blt d cx.nt=true) (ho:a8m T (a1u (a1p L sl)) o (N+n)=some (v,a))
  (c:DJ T cx k df pan Q all ms N rest mr hl (n+1) ((d,v)::L) (h.set (N+n) a) (⟨o,m,.alloc,true,a1p L sl,h,v,h.set (N+n) a⟩::acc)):DJ T cx k df pan Q all ms N (o::rest) (m::mr) (sl::hl) n L h acc :=
 ⟨fun tm xs hs ha=>e7h hk hs hw hd hn ho fun tmr tm' a' b=>c.out tm' _ b (.cons (e:=⟨o,m,.alloc,true,a1p L sl,h,v,h.set (N+n) a⟩) a' ha)⟩
theorem b6k (hk:a1j T o.op=.act) (hw:a0p all (a1p L sl) o=some true) (hd:o.dst=some d) (hn:Nat.blt d cx.nt=true) (ho:opA T (a1u (a1p L sl)) o h=.val v h')
  (c:DJ T cx k df pan Q all ms N rest mr hl (n+1) ((d,v)::L) h' (⟨o,m,.act,true,a1p L sl,h,v,h'⟩::acc)):DJ T cx k df pan Q all ms N (o::rest) (m::mr) (sl::hl) n L h acc :=
 ⟨fun tm xs hs ha=>f4j hs hw hd hn hk ho fun tmr tm' a b=>c.out tm' _ b (.cons (e:=⟨o,m,.act,true,a1p L sl,h,v,h'⟩) a ha)⟩
theorem b7i (hk:a1j T o.op=.act) (hw:a0p all (a1p L sl) o=some true) (hd:o.dst=none) (ho:opA T (a1u (a1p L sl)) o h=.skip h')
  (c:DJ T cx k df pan Q all ms N rest mr hl (n+1) L h' (⟨o,m,.act,true,a1p L sl,h,a2u,h'⟩::acc)):DJ T cx k df pan Q all ms N (o::rest) (m::mr) (sl::hl) n L h acc :=
 ⟨fun tm xs hs ha=>f0z hs hw hd hk ho fun tmr a=>c.out tm _ hs (.cons (e:=⟨o,m,.act,true,a1p L sl,h,a2u,h'⟩) a ha)⟩
theorem a2c {f:FuncId}{args:List AV}{P:AV→a0a→Prop}(g:a0l T f args h' P) (hT:T.alts=false) (hk:a1j T o.op=.act) (hw:a0p all (a1p L sl) o=some true) (hd:o.dst=some d) (hn:Nat.blt d cx.nt=true)
  (ho:opA T (a1u (a1p L sl)) o h=.enter f args h')
  (c:∀ v h2,P v h2→DJ T cx k df pan Q all ms N rest mr hl (n+1) ((d,v)::L) h2 (⟨o,m,.act,true,a1p L sl,h,v,h2⟩::acc)):DJ T cx k df pan Q all ms N (o::rest) (m::mr) (sl::hl) n L h acc :=
 ⟨fun tm xs hs ha=>e3f hs hw hd hn hk ho (g.one hT) fun v h2 p tmr tm' a b=>(c v h2 p).out tm' _ b (.cons (e:=⟨o,m,.act,true,a1p L sl,h,v,h2⟩) a ha)⟩
theorem c4n {f:FuncId}{args:List AV}(hw':T.sm f args h'=some (v,h2)) (hT:T.sm=T.sm) (hk:a1j T o.op=.act) (hw:a0p all (a1p L sl) o=some true) (hd:o.dst=some d) (hn:Nat.blt d cx.nt=true)
  (ho:opA T (a1u (a1p L sl)) o h=.enter f args h')
  (c:DJ T cx k df pan Q all ms N rest mr hl (n+1) ((d,v)::L) h2 (⟨o,m,.act,true,a1p L sl,h,v,h2⟩::acc)):DJ T cx k df pan Q all ms N (o::rest) (m::mr) (sl::hl) n L h acc :=
 ⟨fun tm xs hs ha=>e3f (P:=fun u g=>u=v∧g=h2) hs hw hd hn hk ho ⟨v,h2,.now fun _=>by simp only[step,hw'],rfl,rfl⟩ fun v' h3 p tmr tm' a b=>(show DJ T cx k df pan Q all ms N rest mr hl (n+1) ((d,v')::L) h3 (⟨o,m,.act,true,a1p L sl,h,v',h3⟩::acc) by obtain⟨e1,e2⟩:=p; subst e1 e2; exact c).out tm' _ b (.cons (e:=⟨o,m,.act,true,a1p L sl,h,v',h3⟩) a ha)⟩
theorem f2h {g:Nat×Bool}(_:o.guard=some g) (x:DJ T cx k df pan Q all ms N (o::rest) mr hl n L h acc):DJ T cx k df pan Q all ms N (o::rest) mr hl n L h acc:=x
theorem b4o (_:a0p all L o=some true) (x:DJ T cx k df pan Q all ms N (o::rest) mr hl n L h acc):DJ T cx k df pan Q all ms N (o::rest) mr hl n L h acc:=x
theorem f2l (_:d6k o.op=true) (x:DJ T cx k df pan Q all ms N (o::rest) mr hl n L h acc):DJ T cx k df pan Q all ms N (o::rest) mr hl n L h acc:=x
theorem a7r {f:FuncId}{args:List AV}(hw':T.sm f args h'=some (v,h2)) (_:Nat.beq (f5g o.op) (f+1)=true) (hT:T.sm=T.sm) (hk:a1j T o.op=.act) (hw:a0p all (a1p L sl) o=some true) (hd:o.dst=some d) (hn:Nat.blt d cx.nt=true)
  (ho:opA T (a1u (a1p L sl)) o h=.enter f args h')
  (c:DJ T cx k df pan Q all ms N rest mr hl (n+1) ((d,v)::L) h2 (⟨o,m,.act,true,a1p L sl,h,v,h2⟩::acc)):DJ T cx k df pan Q all ms N (o::rest) (m::mr) (sl::hl) n L h acc:=c4n hw' hT hk hw hd hn ho c
theorem c7e {j:Nat}{w:Bool}{c:Bool}(hg:o.guard=some (j,w)) (hd:a8o all j=some d) (hl':look L d=some (.bool c)) (ht:c=true→DJ T cx k df pan Q all ms N (o::rest) mr hl n ((d,.bool true)::L) h acc) (hf:c=false→DJ T cx k df pan Q all ms N (o::rest) mr hl n ((d,.bool false)::L) h acc):DJ T cx k df pan Q all ms N (o::rest) mr hl n L h acc:=by
 cases c with
 |true=>exact(ht rfl).sub (sub_self hl')
 |false=>exact(hf rfl).sub (sub_self hl')
theorem e2l {j:Nat}{w:Bool}{c:Prop} [Decidable c] (hg:o.guard=some (j,w)) (hd:a8o all j=some d) (hl':look L d=some (.bool (decide c))) (ht:c→DJ T cx k df pan Q all ms N (o::rest) mr hl n ((d,.bool true)::L) h acc) (hf:¬ c→DJ T cx k df pan Q all ms N (o::rest) mr hl n ((d,.bool false)::L) h acc):DJ T cx k df pan Q all ms N (o::rest) mr hl n L h acc :=
 c7e hg hd hl' (fun e=>ht (of_decide_eq_true e)) (fun e=>hf (of_decide_eq_false e))
theorem c7p {j:Nat}{w:Bool}{c:Prop} [Decidable c] (hg:o.guard=some (j,w)) (hd:a8o all j=some d) (hl':look L d=some (.bool (decide c))) (hc:c) (g:DJ T cx k df pan Q all ms N (o::rest) mr hl n ((d,.bool true)::L) h acc):DJ T cx k df pan Q all ms N (o::rest) mr hl n L h acc :=
 g.sub (sub_self (by rw[hl',decide_eq_true hc]))
theorem c8m {j:Nat}{w:Bool}{c:Prop} [Decidable c] (hg:o.guard=some (j,w)) (hd:a8o all j=some d) (hl':look L d=some (.bool (decide c))) (hc:¬ c) (g:DJ T cx k df pan Q all ms N (o::rest) mr hl n ((d,.bool false)::L) h acc):DJ T cx k df pan Q all ms N (o::rest) mr hl n L h acc :=
 g.sub (sub_self (by rw[hl',decide_eq_false hc]))
theorem c7i {j:Nat}{w:Bool}{c:Prop} [Decidable c] (hg:o.guard=some (j,w)) (hd:a8o all j=some d) (hl':look L d=some (.bool (decide (¬ c)))) (hc:c) (g:DJ T cx k df pan Q all ms N (o::rest) mr hl n ((d,.bool false)::L) h acc):DJ T cx k df pan Q all ms N (o::rest) mr hl n L h acc :=
 g.sub (sub_self (by rw[hl',decide_eq_false (fun n=>n hc)]))
end Ev
end
