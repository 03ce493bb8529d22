/- A part of an evaluator of the program's form in Lean, of the proof that what it says of a call is what the machine does, and of the rules by which proofs walk over it. Conditions: those that each theorem states. -/
import Derived.Test.YtejfbaecadbdiaaGreatGam
import Derived.Test.YtejfbaecadbdiaaGreatGak
set_option linter.unusedVariables false
set_option linter.unusedSimpArgs false
section
namespace Ev
open Go Go.RowKit
variable {P:Program}{T:a0k}{base:Nat}{w0:World}
def a0k.bare (T:a0k):a0k:={ T with sm:=fun _ _ _=>none }
def Body (T:a0k) (f:FuncId) (args:List AV) (h:a0a) (Q:Res→Prop):Prop:=∃ r,(∃ N,∀ n,N≤n→step T.bare (ev T n) (.call f args h)=r)∧Leaves Q r
def a5s (T:a0k) (f:FuncId) (args:List AV) (h:a0a) (P:AV→a0a→Prop):Prop:=Body T f args h fun r=>∃ v h',r=.ret v h'∧P v h'
theorem a5s.mono {f:FuncId}{args:List AV}{h:a0a}{P P':AV→a0a→Prop}(g:a5s T f args h P) (k:∀ v h',P v h'→P' v h'):a5s T f args h P':=by
 obtain⟨r,hs,hl⟩:=g
 exact⟨r,hs,hl.mono fun r _ ⟨v,h',e,p⟩=>⟨v,h',e,k v h' p⟩⟩
theorem d1l {f:FuncId}{args:List AV}{h:a0a}{F:Func}{c:Code}{Q:Res→Prop}(hF:T.fn f=some F) (hb:F.body=some c)
  (g:∀ tm,a0m tm (b3g args 0 [])→GI T { fn:=f,nt:=Nat.max F.ntmps args.length,round:=none } [.code c] ⟨tm,[],none,h⟩ (c9h T f Q)):Body T f args h Q:=by
 obtain⟨r,⟨N,hr⟩,q⟩:=(g (a5u args 0 .nil) (a0m.args args 0 _ _ (a0m.nil _))).out
 let fk:Nat→Res→Res:=fun n r=>match r with
  |.fin .normal s=>ev T n (.leave f s.tm s.df none s.h)
  |.fin .ret s=>ev T n (.leave f s.tm s.df none s.h)
  |.pan v s=>ev T n (.leave f s.tm s.df (some (v,false)) s.h)
  | .fin _ _ => .no "jump out of a function" []
  |r=>r
 obtain⟨r',⟨N',hr'⟩,q'⟩:=a6v (Q:=Q) fk r (Leaves.mono (fun r hl he=>by
  cases r with
  |fin e s=>cases e with
   |normal=>exact he
   |ret=>exact he
   |exit _=>exact he.elim
   |goto _=>exact he.elim
  |pan v s=>exact he
  |ret _ _=>exact he.elim
  |thrown _ _=>exact he.elim
  |dret _ _=>exact he.elim
  |no _ _=>exact he.elim
  |alt _ _=>exact he.elim) q)
 refine⟨r',⟨N+N',fun n hn=>?_⟩,q'⟩
 have e:step T.bare (ev T n) (.call f args h)=a5c (ev T n (.code { fn:=f,nt:=Nat.max F.ntmps args.length,round:=none } c { tm:=a5u args 0 .nil,df:=[],pan:=none,h:=h })) (fk n):=by
  have h1:T.bare.sm f args h=none:=rfl
  have h2:T.bare.fn f=some F:=hF
  simp only[step,h1,h2,hb]
  congr 1
 rw[e,hr n (by omega)]
 exact hr' n (by omega)
theorem e2c {f:FuncId}{F:Func}{P:AV→a0a→Prop}(hF:T.fn f=some F){r:Res}(e:Ends T F.results.toList P r):c9h T f (fun r=>∃ v h',r=.ret v h'∧P v h') r:=by
 obtain⟨e,tm,h1,rfl,he,vs,hvs,p⟩:=e
 have:Wp T (.leave f tm [] none h1) fun r=>∃ v h',r=.ret v h'∧P v h':=Wp.now (r:=.ret (oneOf vs) h1) (fun _=>by simp only[step,hF,hvs]) ⟨_,_,rfl,p⟩
 rcases he with rfl|rfl<;>exact this
theorem GI.mono {cx:Cx}{k:List K}{s:St}{Q Q':Res→Prop}(g:GI T cx k s Q) (m:∀ r,Q r→Q' r):GI T cx k s Q':=by
 have key:∀ (k:List K) (r:Res),after T cx k Q r→after T cx k Q' r:=by
  intro k
  induction k with
  |nil=>exact m
  |cons x k ih =>
   intro r h
   cases x with
   |code c =>
    cases r with
    |fin e s=>cases e with
     |normal=>exact Wp.mono h ih
     |ret=>exact ih _ h
     |exit _=>exact ih _ h
     |goto _=>exact ih _ h
    |_=>exact ih _ h
   |blk id =>
    cases r with
    |fin e s=>cases e with
     |exit id' =>
      simp only[after] at h ⊢
      split<;>rename_i hh
      ·rw[if_pos hh] at h; exact ih _ h
      ·rw[if_neg hh] at h; exact ih _ h
     |normal=>exact ih _ h
     |ret=>exact ih _ h
     |goto _=>exact ih _ h
    |_=>exact ih _ h
   |scope=>exact ih _ h
 exact⟨key k _ g.out⟩
theorem e8z {f:FuncId}{args:List AV}{h:a0a}{F:Func}{c:Code}{P:AV→a0a→Prop}(hF:T.fn f=some F) (hb:F.body=some c)
  (g:∀ tm,a0m tm (b3g args 0 [])→GI T { fn:=f,nt:=Nat.max F.ntmps args.length,round:=none } [.code c] ⟨tm,[],none,h⟩ (Ends T F.results.toList P)):a5s T f args h P :=
 d1l hF hb fun tm hs=>(g tm hs).mono fun _ e=>e2c hF e
theorem a5s.f4t {f:FuncId}{args:List AV}{h:a0a}{P:AV→a0a→Prop}(hsm:T.sm f args h=none) (g:a5s T f args h P):a0l T f args h P:=by
 obtain⟨r,⟨N,hr⟩,hl⟩:=g
 refine⟨r,.b0n ⟨N,fun n hn=>?_⟩,hl⟩
 rw[← hr n hn]
 have h1:T.bare.sm f args h=none:=rfl
 simp only[step,hsm,h1]
 rfl
theorem Body.wp {f:FuncId}{args:List AV}{h:a0a}{Q:Res→Prop}(hsm:T.sm f args h=none) (g:Body T f args h Q):Wp T (.call f args h) Q:=by
 obtain⟨r,⟨N,hr⟩,hl⟩:=g
 refine⟨r,.b0n ⟨N,fun n hn=>?_⟩,hl⟩
 rw[← hr n hn]
 have h1:T.bare.sm f args h=none:=rfl
 simp only[step,hsm,h1]
 rfl
theorem a5s.one (hT:T.alts=false){f:FuncId}{args:List AV}{h:a0a}{P:AV→a0a→Prop}(g:a5s T f args h P):∃ v h',(∃ N,∀ n,N≤n→step T.bare (ev T n) (.call f args h)=.ret v h')∧P v h':=by
 obtain⟨r,⟨N,hN⟩,hl⟩:=g
 have h1:=c5r (T:=T.bare) hT (ev T N) (c0x hT N) (.call f args h)
 rw[hN N (Nat.le_refl _)] at h1
 have:∃ v h',r=.ret v h'∧P v h':=by cases r<;>first|exact hl|cases h1
 obtain⟨v,h',rfl,p⟩:=this
 exact⟨v,h',⟨N,hN⟩,p⟩
def a9q (T:a0k) (f:FuncId) (args:List AV) (h:a0a) (v:AV):Prop:=match AV.a1q args with
 |true=>a5s T f args ⟨.nil,0⟩ (fun v' _=>v'=v)
 |false=>a5s T f args h (fun v' h'=>v'=v∧Ext h h')
open Classical in
noncomputable def smB (T:a0k) (wf:FuncId→Bool):Nat→FuncId→List AV→a0a→Option (AV×a0a)
 |0=>T.sm
 |n+1=>fun f args h=>match wf f with
  |false=>T.sm f args h
  |true=>if hx:∃ v,AV.plain v=true∧a9q (T.a2s (smB T wf n)) f args h v then some (hx.choose,h) else none
noncomputable def lev (T:a0k) (wf:FuncId→Bool) (n:Nat):a0k:=T.a2s (smB T wf n)
theorem Leaves.both {Q Q':Res→Prop}:∀ {r:Res},Leaves Q r→Leaves Q' r→∃ q,Q q∧Q' q
 |.alt a b,x,y=>Leaves.both (r:=a) x.1 y.1
 |.fin ..,x,y=>⟨_,x,y⟩
 |.pan ..,x,y=>⟨_,x,y⟩
 |.ret ..,x,y=>⟨_,x,y⟩
 |.thrown ..,x,y=>⟨_,x,y⟩
 |.dret ..,x,y=>⟨_,x,y⟩
 |.no ..,x,y=>⟨_,x,y⟩
theorem a9q.one {f:FuncId}{args:List AV}{h:a0a}{v u:AV}(a:a9q T f args h v) (b:a9q T f args h u):v=u:=by
 unfold a9q at a b
 split at a<;>rename_i hp
 all_goals
  rw[hp] at b
  obtain⟨r1,⟨N,hN⟩,l1⟩:=a
  obtain⟨r2,⟨M,hM⟩,l2⟩:=b
  have a:=hN (N+M) (by omega)
  have b:=hM (N+M) (by omega)
  rw[a] at b
  subst b
  obtain⟨_,⟨v1,h1',rfl,e1⟩,v2,h2',e,e2⟩:=l1.both l2
  cases e
  first
   |exact e1.symm.trans e2
   |exact e1.1.symm.trans e2.1
theorem word {wf:FuncId→Bool}{n:Nat}{f:FuncId}{args:List AV}{h:a0a}{v:AV}(hw:wf f=true) (hp:v.plain=true) (g:a9q (lev T wf n) f args h v) :
  (lev T wf (n+1)).sm f args h=some (v,h):=by
 show smB T wf (n+1) f args h=_
 unfold smB
 rw[hw]
 have hx:∃ v,AV.plain v=true∧a9q (T.a2s (smB T wf n)) f args h v:=⟨v,hp,g⟩
 simp only[dif_pos hx]
 rw[a9q.one (T:=T.a2s (smB T wf n)) hx.choose_spec.2 g]
theorem c7d {wf:FuncId→Bool}(ok:a0v P T) (hsm:∀ f args h v h',T.sm f args h=some (v,h')→a1j P base w0 (.call f args h) (.ret v h')):∀ (n:Nat) (f:FuncId) (args:List AV) (h:a0a) (v:AV) (h':a0a),(lev T wf n).sm f args h=some (v,h')→a1j P base w0 (.call f args h) (.ret v h')
 |0,f,args,h,v,h',e=>hsm f args h v h' e
 |n+1,f,args,h,v,h',e=>by
  replace e:smB T wf (n+1) f args h=_:=e
  unfold smB at e
  split at e
  ·exact hsm _ _ _ _ _ e
  ·split at e
   ·rename_i hx
    simp only[Option.some.injEq,Prod.mk.injEq] at e
    obtain⟨rfl,rfl⟩:=e
    have hv:=hx.choose_spec.1
    have hsays:=hx.choose_spec.2
    have ok':a0v P (T.a2s (smB T wf n)):=ok.a2s _
    have okb:a0v P (T.a2s (smB T wf n)).bare:=ok.a2s _
    obtain⟨u,hu⟩:∃ u,hx.choose=u:=⟨_,rfl⟩
    rw[hu] at hv hsays ⊢
    unfold a9q at hsays
    split at hsays
    ·rename_i hpl
     obtain⟨r,⟨N,hN⟩,hl⟩:=hsays
     have ih:∀ t,a1j P base w0 t (ev (T.a2s (smB T wf n)) N t):=fun t=>a7c ok' (c7d (wf:=wf) ok hsm n) N t
     have K:=b6h (T:=(T.a2s (smB T wf n)).bare) okb (fun f a h v h' hh=>by cases hh) _ ih f args ⟨.nil,0⟩
     rw[hN N (Nat.le_refl _)] at K
     intro E args' w cs ha H
     have H0:HR P base w0 En.none ⟨.nil,0⟩ w:=⟨fun _ h=>h.elim,fun _ _ h=>h.elim,fun _ _ _ _ h=>h.elim,H.wd,H.drawn,H.bsz,fun _ h=>h.elim⟩
     obtain⟨q,hq,hc⟩:=K En.none args' w cs (ha.plain hpl) H0
     obtain⟨v',h2,rfl,he⟩:=hl.get hq
     obtain⟨E',w',v'',fr,p1,p2,p3,p4,p5⟩:=hc
     have old:∀ k,k<w.heap.size→w'.heap[k]?=w.heap[k]?:=fun k hk=>p2.fr k hk (fun _ hd=>hd.elim)
     rw[he] at p3
     exact⟨_,rfl,E,w',v'',fr,⟨H.dlt,fun b o hd hg=>OR'.same (old _ (H.blt b hd)) (H.obj b o hd hg),H.inj,p1.wd,p1.drawn,p1.bsz,fun b hd=>Nat.lt_of_lt_of_le (H.blt b hd) p2.sz⟩,
      ⟨.refl E,fun _ h=>.inl h,Nat.le_refl _,fun _ _ _=>rfl,p2.sz,fun k hk _=>old k hk,fun _ h=>.inl h⟩,p3.plain hv,p4,p5⟩
    ·obtain⟨r,⟨N,hN⟩,hl⟩:=hsays
     have ih:∀ t,a1j P base w0 t (ev (T.a2s (smB T wf n)) N t):=fun t=>a7c ok' (c7d (wf:=wf) ok hsm n) N t
     have K:=b6h (T:=(T.a2s (smB T wf n)).bare) okb (fun f a h v h' hh=>by cases hh) _ ih f args h
     rw[hN N (Nat.le_refl _)] at K
     intro E args' w cs ha H
     obtain⟨q,hq,hc⟩:=K E args' w cs ha H
     obtain⟨v',h2,rfl,he',he⟩:=hl.get hq
     obtain⟨E',w',v'',fr,p1,p2,p3,p4,p5⟩:=hc
     rw[he'] at p3
     exact⟨_,rfl,c6f ha H p1 p2 (p3.plain hv) he p4 p5⟩
   ·cases e
theorem a9q.plain {f:FuncId}{args:List AV}{h:a0a}{v:AV}(hp:AV.a1q args=true) (g:a5s T f args ⟨.nil,0⟩ (fun v' _=>v'=v)):a9q T f args h v:=by
 unfold a9q; rw[hp]; exact g
theorem a9q.other {f:FuncId}{args:List AV}{h:a0a}{v:AV}(g:a5s T f args h (fun v' h'=>v'=v∧Ext h h')) (g0:AV.a1q args=true→a5s T f args ⟨.nil,0⟩ (fun v' h'=>v'=v∧Ext ⟨.nil,0⟩ h')):a9q T f args h v:=by
 unfold a9q
 split
 ·rename_i hp; exact(g0 hp).mono fun _ _ e=>e.1
 ·exact g
end Ev
end
section
namespace Ev
open Go
variable {T:a0k}{cx:Cx}{k:List K}{Q:Res→Prop}{all rest:List Oper}{o:Oper}{df:List ADef}{pan:Option (AV×Bool)}{h h' h2:a0a}{L L':List (Nat×AV)}{v:AV}{d:Nat}
def Sub (A B:List (Nat×AV)):Prop:=∀ j v,look A j=some v→look B j=some v
theorem Sub.nil (B:List (Nat×AV)):Sub [] B:=fun _ _ h=>by cases h
theorem Sub.cons {A B:List (Nat×AV)}{j:Nat}{v:AV}(h:look B j=some v) (t:Sub A B):Sub ((j,v)::A) B:=by
 intro i x hx
 unfold look at hx
 split at hx
 ·rename_i hb
  have:=Nat.eq_of_beq_eq_true hb
  subst this
  rw[← hx]; exact h
 ·exact t i x hx
theorem Sub.refl (A:List (Nat×AV)):Sub A A:=fun _ _ h=>h
theorem a0m.sub {tm:Tr AV}{A B:List (Nat×AV)}(s:a0m tm B) (h:Sub A B):a0m tm A:=fun j v hv=>s j v (h j v hv)
structure GJ (T:a0k) (cx:Cx) (k:List K) (L:List (Nat×AV)) (df:List ADef) (pan:Option (AV×Bool)) (h:a0a) (Q:Res→Prop):Prop where
 out:∀ tm,a0m tm L→GI T cx k ⟨tm,df,pan,h⟩ Q
structure OJ (T:a0k) (cx:Cx) (all rest:List Oper) (k:List K) (L:List (Nat×AV)) (df:List ADef) (pan:Option (AV×Bool)) (h:a0a) (Q:Res→Prop):Prop where
 out:∀ tm,a0m tm L→OI T cx all rest k ⟨tm,df,pan,h⟩ Q
theorem GJ.sub (g:GJ T cx k L' df pan h Q) (s:Sub L' L):GJ T cx k L df pan h Q:=⟨fun tm hs=>g.out tm (hs.sub s)⟩
theorem OJ.sub (g:OJ T cx all rest k L' df pan h Q) (s:Sub L' L):OJ T cx all rest k L df pan h Q:=⟨fun tm hs=>g.out tm (hs.sub s)⟩
theorem GJ.gen (Lf:List (Nat×AV)) (C:a0a→Prop) (hs:Sub Lf L) (hc:C h) (g:∀ h,C h→GJ T cx k Lf df pan h Q):GJ T cx k L df pan h Q:=(g h hc).sub hs
theorem a2e (q:∀ tm,a0m tm L→Q (.fin .normal ⟨tm,df,pan,h⟩)):GJ T cx [] L df pan h Q:=⟨fun tm hs=>f4l (q tm hs)⟩
theorem c6p (g:GJ T cx k L df pan h Q):GJ T cx (.code .skip::k) L df pan h Q:=⟨fun tm hs=>f1q (g.out tm hs)⟩
theorem c3u {l:Nat}(g:GJ T cx k L df pan h Q):GJ T cx (.code (.label l)::k) L df pan h Q:=⟨fun tm hs=>e5l (g.out tm hs)⟩
theorem d2h {id:Nat}(g:GJ T cx k L df pan h Q):GJ T cx (.blk id::k) L df pan h Q:=⟨fun tm hs=>f3y (g.out tm hs)⟩
theorem d3w (g:GJ T cx k L df pan h Q):GJ T cx (.scope::k) L df pan h Q:=⟨fun tm hs=>f4h (g.out tm hs)⟩
theorem b0d {a b:Code}(g:GJ T cx (.code a::.code b::k) L df pan h Q):GJ T cx (.code (.seq a b)::k) L df pan h Q:=⟨fun tm hs=>f3e (g.out tm hs)⟩
theorem c3r {id:Nat}{b:Code}(g:GJ T cx (.code b::.blk id::k) L df pan h Q):GJ T cx (.code (.block id b)::k) L df pan h Q:=⟨fun tm hs=>e9k (g.out tm hs)⟩
theorem c1t {b:Code}(g:GJ T cx (.code b::.scope::k) L df pan h Q):GJ T cx (.code (.scope b)::k) L df pan h Q:=⟨fun tm hs=>e7e (g.out tm hs)⟩
theorem c7s {id:Nat}{k':List K}(hu:unw id k=some k') (g:GJ T cx k' L df pan h Q):GJ T cx (.code (.exit id)::k) L df pan h Q:=⟨fun tm hs=>f2u hu (g.out tm hs)⟩
theorem a2x (q:∀ tm,a0m tm L→Q (.fin .ret ⟨tm,df,pan,h⟩)):GJ T cx (.code .ret::k) L df pan h Q:=⟨fun tm hs=>f3k (q tm hs)⟩
theorem a7z {i:Nat}{ops:Array Oper}(g:OJ T cx ops.toList ops.toList k L df pan h Q):GJ T cx (.code (.region i ops false)::k) L df pan h Q:=⟨fun tm hs=>e2e (g.out tm hs)⟩
theorem c4d {x:Operand}{a b:Code}(hx:a1y L x=some (.bool true)) (g:GJ T cx (.code a::k) L df pan h Q):GJ T cx (.code (.cond x a b)::k) L df pan h Q:=⟨fun tm hs=>f3f hs hx (g.out tm hs)⟩
theorem b8r {x:Operand}{a b:Code}(hx:a1y L x=some (.bool false)) (g:GJ T cx (.code b::k) L df pan h Q):GJ T cx (.code (.cond x a b)::k) L df pan h Q:=⟨fun tm hs=>f3j hs hx (g.out tm hs)⟩
theorem b5h {x:Operand}{a b:Code}{c:Bool}(hx:a1y L x=some (.bool c)) (ht:c=true→GJ T cx (.code a::k) L df pan h Q) (hf:c=false→GJ T cx (.code b::k) L df pan h Q):GJ T cx (.code (.cond x a b)::k) L df pan h Q :=
 ⟨fun tm hs=>f5s hs hx (fun e=>(ht e).out tm hs) (fun e=>(hf e).out tm hs)⟩
theorem d4w {x:Operand}{a b:Code}{c:Prop} [Decidable c] (hx:a1y L x=some (.bool (decide c))) (ht:c→GJ T cx (.code a::k) L df pan h Q) (hf:¬ c→GJ T cx (.code b::k) L df pan h Q):GJ T cx (.code (.cond x a b)::k) L df pan h Q :=
 b5h hx (fun e=>ht (of_decide_eq_true e)) (fun e=>hf (of_decide_eq_false e))
theorem c7l {x:Operand}{a b:Code}{c:Prop} [Decidable c] (hx:a1y L x=some (.bool (decide c))) (hc:c) (g:GJ T cx (.code a::k) L df pan h Q):GJ T cx (.code (.cond x a b)::k) L df pan h Q :=
 c4d (by rw[hx,decide_eq_true hc]) g
theorem c7c {x:Operand}{a b:Code}{c:Prop} [Decidable c] (hx:a1y L x=some (.bool (decide c))) (hc:¬ c) (g:GJ T cx (.code b::k) L df pan h Q):GJ T cx (.code (.cond x a b)::k) L df pan h Q :=
 b8r (by rw[hx,decide_eq_false hc]) g
theorem c6q {x:Operand}{a b:Code}{c:Prop} [Decidable c] (hx:a1y L x=some (.bool (decide (¬ c)))) (hc:c) (g:GJ T cx (.code b::k) L df pan h Q):GJ T cx (.code (.cond x a b)::k) L df pan h Q :=
 b8r (by rw[hx,decide_eq_false (fun n=>n hc)]) g
theorem c3a {x:Operand}{a b:Code}{c:Bool}(hx:a1y L x=some (.bool c)) (hc:c=true) (g:GJ T cx (.code a::k) L df pan h Q):GJ T cx (.code (.cond x a b)::k) L df pan h Q :=
 c4d (by rw[hx,hc]) g
theorem c2c {x:Operand}{a b:Code}{c:Bool}(hx:a1y L x=some (.bool c)) (hc:c=false) (g:GJ T cx (.code b::k) L df pan h Q):GJ T cx (.code (.cond x a b)::k) L df pan h Q :=
 b8r (by rw[hx,hc]) g
theorem a0n {ι:Type}{b:Code}(μ:ι→Nat) (Lf:ι→List (Nat×AV)) (I:ι→a0a→Prop) (x:ι) (hL:Sub (Lf x) L) (h0:I x h)
  (round:∀ x h,I x h→(∀ x' {L' h'},μ x'<μ x→Sub (Lf x') L'→I x' h'→GJ T cx (.code (.loop b)::k) L' df pan h' Q)→GJ T cx (.code b::.code (.loop b)::k) (Lf x) df pan h Q):GJ T cx (.code (.loop b)::k) L df pan h Q:=by
 refine⟨fun tm hs=>?_⟩
 refine f1h (fun m st=>∃ x tm h,m=μ x∧st=⟨tm,df,pan,h⟩∧a0m tm (Lf x)∧I x h) (m:=μ x) ⟨x,tm,h,rfl,rfl,hs.sub hL,h0⟩ ?_
 rintro m _ ⟨x,tm,h,rfl,rfl,hs,hi⟩ next
 exact(round x h hi fun x' L' h' hm hsub hi'=>⟨fun tm' hs'=>next (μ x') _ hm ⟨x',tm',h',rfl,rfl,hs'.sub hsub,hi'⟩⟩).out tm hs
theorem a7m {b:Code}(g:GJ T cx (.code b::.code (.loop b)::k) L df pan h Q):GJ T cx (.code (.loop b)::k) L df pan h Q:=⟨fun tm hs=>e9f (g.out tm hs)⟩
theorem b2c {rs:List ResultVar}{P:AV→a0a→Prop}{vs:List AV}(hr:a2c T L h rs=some vs) (p:P (oneOf vs) h):GJ T cx (.code .ret::k) L [] none h (Ends T rs P):=a2x fun _ hs=>a3o hs hr p
theorem d1w (g:GJ T cx k L df pan h Q):OJ T cx all [] k L df pan h Q:=⟨fun tm hs=>f4b (g.out tm hs)⟩
theorem a1k (hg:a0p all L o=some true) (hd:o.dst=some d) (hn:Nat.blt d cx.nt=true) (ho:opA T (a1y L) o h=.val v h')
  (c:OJ T cx all rest k ((d,v)::L) df pan h' Q):OJ T cx all (o::rest) k L df pan h Q:=⟨fun tm hs=>f3q hs hg hd hn ho fun tm' s'=>c.out tm' s'⟩
theorem c1d (hg:a0p all L o=some true) (hd:o.dst=none) (ho:opA T (a1y L) o h=.val v h')
  (c:OJ T cx all rest k L df pan h' Q):OJ T cx all (o::rest) k L df pan h Q:=⟨fun tm hs=>f2l hs hg hd ho (c.out tm hs)⟩
theorem e3y (hg:a0p all L o=some false) (hd:o.dst=some d) (hn:Nat.blt d cx.nt=true)
  (c:OJ T cx all rest k ((d,a2w)::L) df pan h Q):OJ T cx all (o::rest) k L df pan h Q:=⟨fun tm hs=>f5y hs hg hd hn fun tm' s'=>c.out tm' s'⟩
theorem d4x (hg:a0p all L o=some false) (hd:o.dst=none)
  (c:OJ T cx all rest k L df pan h Q):OJ T cx all (o::rest) k L df pan h Q:=⟨fun tm hs=>f3b hs hg hd (c.out tm hs)⟩
theorem b0q (hg:a0p all L o=some true) (hd:o.dst=none) (ho:opA T (a1y L) o h=.skip h')
  (c:OJ T cx all rest k L df pan h' Q):OJ T cx all (o::rest) k L df pan h Q:=⟨fun tm hs=>f0s hs hg hd ho (c.out tm hs)⟩
theorem a0b {f:FuncId}{args:List AV}{P:AV→a0a→Prop}(hc:a0l T f args h' P) (hg:a0p all L o=some true) (hd:o.dst=some d) (hn:Nat.blt d cx.nt=true) (ho:opA T (a1y L) o h=.enter f args h')
  (c:∀ v h2,P v h2→OJ T cx all rest k ((d,v)::L) df pan h2 Q):OJ T cx all (o::rest) k L df pan h Q:=⟨fun tm hs=>f2m hs hg hd ho hn hc fun v h2 p tm' s'=>(c v h2 p).out tm' s'⟩
theorem a3e {f:FuncId}{args:List AV}(hw:T.sm f args h'=some (v,h2)) (hg:a0p all L o=some true) (hd:o.dst=some d) (hn:Nat.blt d cx.nt=true) (ho:opA T (a1y L) o h=.enter f args h')
  (c:OJ T cx all rest k ((d,v)::L) df pan h2 Q):OJ T cx all (o::rest) k L df pan h Q:=a0b (d0b hw) hg hd hn ho fun _ _ ⟨e1,e2⟩=>by subst e1 e2; exact c
theorem a1p {f:FuncId}{args:List AV}{P R:AV→a0a→Prop}(hc:Wp T (.call f args h') fun r=>(∃ v h2,r=.ret v h2∧P v h2)∨∃ v h2,r=.thrown v h2∧R v h2) (hg:a0p all L o=some true) (hd:o.dst=some d) (hn:Nat.blt d cx.nt=true) (ho:opA T (a1y L) o h=.enter f args h')
  (c:∀ v h2,P v h2→OJ T cx all rest k ((d,v)::L) df pan h2 Q) (c2:∀ v h2,R v h2→∀ tm,a0m tm L→Q (.pan v ⟨tm,df,pan,h2⟩)):OJ T cx all (o::rest) k L df pan h Q :=
 ⟨fun tm hs=>e6n hs hg hd ho hn hc (fun v h2 p tm' s'=>(c v h2 p).out tm' s') fun v h2 r=>c2 v h2 r tm hs⟩
theorem c2j {dd:ADef}(hg:a0p all L o=some true) (hd:o.dst=none) (ho:opA T (a1y L) o h=.defer dd) (hr:cx.round=none)
  (c:OJ T cx all rest k L (dd::df) pan h Q):OJ T cx all (o::rest) k L df pan h Q:=⟨fun tm hs=>e5w hs hg hd ho hr (c.out tm hs)⟩
theorem a8k (hg:a0p all L o=some true) (ho:opA T (a1y L) o h=.panic v h') (c:∀ tm,a0m tm L→Q (.pan v ⟨tm,df,pan,h'⟩)):OJ T cx all (o::rest) k L df pan h Q:=⟨fun tm hs=>e6y hs hg ho (c tm hs)⟩
theorem b6r {p:AV}(hg:a0p all L o=some true) (hd:o.dst=some d) (ho:opA T (a1y L) o h=.recover) (hr:cx.round=none) (hn:Nat.blt d cx.nt=true)
  (c:OJ T cx all rest k ((d,p)::L) df (some (p,true)) h Q):OJ T cx all (o::rest) k L df (some (p,false)) h Q:=⟨fun tm hs=>d9r hs hg hd ho hr hn fun tm' s'=>c.out tm' s'⟩
theorem b4c (hg:a0p all L o=some true) (hd:o.dst=some d) (ho:opA T (a1y L) o h=.recover) (hr:cx.round=none) (hn:Nat.blt d cx.nt=true)
  (c:OJ T cx all rest k ((d,.niliface)::L) df none h Q):OJ T cx all (o::rest) k L df none h Q:=⟨fun tm hs=>d5d hs hg hd ho hr hn fun tm' s'=>c.out tm' s'⟩
theorem sub_self {L:List (Nat×AV)}{d:Nat}{v:AV}(hl:look L d=some v):Sub ((d,v)::L) L:=by
 intro i x hx
 unfold look at hx
 split at hx
 ·rename_i hb
  have:=Nat.eq_of_beq_eq_true hb
  subst this
  rw[← hx]; exact hl
 ·exact hx
theorem c6z {j:Nat}{w:Bool}{c:Bool}(hg:o.guard=some (j,w)) (hd:a8n all j=some d) (hl:look L d=some (.bool c)) (ht:c=true→OJ T cx all (o::rest) k ((d,.bool true)::L) df pan h Q) (hf:c=false→OJ T cx all (o::rest) k ((d,.bool false)::L) df pan h Q):OJ T cx all (o::rest) k L df pan h Q:=by
 cases c with
 |true=>exact(ht rfl).sub (sub_self hl)
 |false=>exact(hf rfl).sub (sub_self hl)
theorem d3j {j:Nat}{w:Bool}{c:Prop} [Decidable c] (hg:o.guard=some (j,w)) (hd:a8n all j=some d) (hl:look L d=some (.bool (decide c))) (ht:c→OJ T cx all (o::rest) k ((d,.bool true)::L) df pan h Q) (hf:¬ c→OJ T cx all (o::rest) k ((d,.bool false)::L) df pan h Q):OJ T cx all (o::rest) k L df pan h Q :=
 c6z hg hd hl (fun e=>ht (of_decide_eq_true e)) (fun e=>hf (of_decide_eq_false e))
theorem c7q {j:Nat}{w:Bool}{c:Prop} [Decidable c] (hg:o.guard=some (j,w)) (hd:a8n all j=some d) (hl:look L d=some (.bool (decide c))) (hc:c) (g:OJ T cx all (o::rest) k ((d,.bool true)::L) df pan h Q):OJ T cx all (o::rest) k L df pan h Q :=
 g.sub (sub_self (by rw[hl,decide_eq_true hc]))
theorem c8h {j:Nat}{w:Bool}{c:Prop} [Decidable c] (hg:o.guard=some (j,w)) (hd:a8n all j=some d) (hl:look L d=some (.bool (decide c))) (hc:¬ c) (g:OJ T cx all (o::rest) k ((d,.bool false)::L) df pan h Q):OJ T cx all (o::rest) k L df pan h Q :=
 g.sub (sub_self (by rw[hl,decide_eq_false hc]))
theorem c7g {j:Nat}{w:Bool}{c:Prop} [Decidable c] (hg:o.guard=some (j,w)) (hd:a8n all j=some d) (hl:look L d=some (.bool (decide (¬ c)))) (hc:c) (g:OJ T cx all (o::rest) k ((d,.bool false)::L) df pan h Q):OJ T cx all (o::rest) k L df pan h Q :=
 g.sub (sub_self (by rw[hl,decide_eq_false (fun n=>n hc)]))
theorem c2k {j:Nat}{w:Bool}{c:Bool}(hg:o.guard=some (j,w)) (hd:a8n all j=some d) (hl:look L d=some (.bool c)) (hc:c=true) (g:OJ T cx all (o::rest) k ((d,.bool true)::L) df pan h Q):OJ T cx all (o::rest) k L df pan h Q :=
 g.sub (sub_self (by rw[hl,hc]))
theorem c1n {j:Nat}{w:Bool}{c:Bool}(hg:o.guard=some (j,w)) (hd:a8n all j=some d) (hl:look L d=some (.bool c)) (hc:c=false) (g:OJ T cx all (o::rest) k ((d,.bool false)::L) df pan h Q):OJ T cx all (o::rest) k L df pan h Q :=
 g.sub (sub_self (by rw[hl,hc]))
def f4f:Op→Nat
 |.call c=>match c.callee with
  |.value (.func f)=>f+1
  |_=>0
 |_=>0
def d5y:Op→Bool
 |.call c=>match c.callee with
  |.builtin _=>false
  |_=>true
 |_=>false
theorem f1k {g:Nat×Bool}(_:o.guard=some g) (x:OJ T cx all (o::rest) k L df pan h Q):OJ T cx all (o::rest) k L df pan h Q:=x
theorem b5i (_:a0p all L o=some true) (x:OJ T cx all (o::rest) k L df pan h Q):OJ T cx all (o::rest) k L df pan h Q:=x
theorem f1s (_:d5y o.op=true) (x:OJ T cx all (o::rest) k L df pan h Q):OJ T cx all (o::rest) k L df pan h Q:=x
theorem a7u {f:FuncId}{args:List AV}(hw:T.sm f args h'=some (v,h2)) (_:Nat.beq (f4f o.op) (f+1)=true) (hg:a0p all L o=some true) (hd:o.dst=some d) (hn:Nat.blt d cx.nt=true) (ho:opA T (a1y L) o h=.enter f args h')
  (c:OJ T cx all rest k ((d,v)::L) df pan h2 Q):OJ T cx all (o::rest) k L df pan h Q:=a3e hw hg hd hn ho c
theorem a0s {f:FuncId}{args:List AV}{F:Func}{c:Code}{P:AV→a0a→Prop}(hF:T.fn f=some F) (hb:F.body=some c)
  (g:GJ T { fn:=f,nt:=Nat.max F.ntmps args.length,round:=none } [.code c] (b3g args 0 []) [] none h (Ends T F.results.toList P)):a5s T f args h P:=e8z hF hb fun tm hs=>g.out tm hs
theorem d5o {f:FuncId}{args:List AV}{F:Func}{c:Code}{Q:Res→Prop}(hF:T.fn f=some F) (hb:F.body=some c)
  (g:GJ T { fn:=f,nt:=Nat.max F.ntmps args.length,round:=none } [.code c] (b3g args 0 []) [] none h (c9h T f Q)):Body T f args h Q:=d1l hF hb fun tm hs=>g.out tm hs
theorem a0r {f:FuncId}{args:List AV}{F:Func}{c:Code}{P:AV→a0a→Prop}(hsm:T.sm f args h=none) (hF:T.fn f=some F) (hb:F.body=some c)
  (g:GJ T { fn:=f,nt:=Nat.max F.ntmps args.length,round:=none } [.code c] (b3g args 0 []) [] none h (Ends T F.results.toList P)):a0l T f args h P:=(a0s hF hb g).f4t hsm
theorem a4k {f:FuncId}{args:List AV}{F:Func}{c:Code}{Q:Res→Prop}(hsm:T.sm f args h=none) (hF:T.fn f=some F) (hb:F.body=some c)
  (g:GJ T { fn:=f,nt:=Nat.max F.ntmps args.length,round:=none } [.code c] (b3g args 0 []) [] none h (c9h T f Q)):Wp T (.call f args h) Q:=(d5o hF hb g).wp hsm
theorem b4y {f g:FuncId}{tm0:Tr AV}{fn:Fn}{cap args as:List AV}{ds:List ADef}{F:Func}{c:Code}{Q:Res→Prop}(hi:a3d T fn cap args h=.enter g as h') (hF:T.fn g=some F) (hr:F.results.toList=[]) (hb:F.body=some c)
  (w:GJ T { fn:=g,nt:=Nat.max F.ntmps as.length,round:=none } [.code c] (b3g as 0 []) [] pan h' fun r=>∃ e tm pan' h2,r=.fin e ⟨tm,[],pan',h2⟩∧(e=.normal∨e=.ret)∧Wp T (.leave f tm0 ds (f0d pan') h2) Q):Wp T (.leave f tm0 (.fn fn cap args::ds) pan h) Q :=
 e1l hi (e6l hF hr hb fun tm hs=>w.out tm hs)
theorem b5f {Q:Option (AV×Bool)→a0a→Prop}(q:Q pan h):GJ T cx [] L [] pan h fun r=>∃ e tm pan' h2,r=.fin e ⟨tm,[],pan',h2⟩∧(e=.normal∨e=.ret)∧Q pan' h2:=a2e fun _ _=>⟨_,_,_,_,rfl,.inl rfl,q⟩
structure EJ where
 o:Oper
 m:Nat
 kd:Kd
 want:Bool
 L:List (Nat×AV)
 h0:a0a
 v:AV
 h1:a0a
def EJ.ent (e:EJ) (tm:Tr AV):Ent:=⟨e.o,e.m,e.kd,e.want,tm,e.h0,e.v,e.h1⟩
inductive b6m:List EJ→List Ent→Prop
 |nil:b6m [] []
 |cons {e:EJ} {tm:Tr AV} {es:List EJ} {xs:List Ent} (hs:a0m tm e.L) (t:b6m es xs):b6m (e::es) (e.ent tm::xs)
theorem b6m.snoc {e:EJ}{tm:Tr AV}(hs:a0m tm e.L):∀ {es:List EJ}{xs:List Ent},b6m es xs→b6m (es++[e]) (xs++[e.ent tm])
 |_,_,.nil=>.cons hs .nil
 |_,_,.cons a t=>.cons a (t.snoc hs)
theorem b6m.rev:∀ {es:List EJ}{xs:List Ent},b6m es xs→b6m es.reverse xs.reverse
 |_,_,.nil=>.nil
 |_,_,.cons hs t=>by rw[List.reverse_cons,List.reverse_cons]; exact t.rev.snoc hs
def MsJ (ms:List Nat):List EJ→Nat→Prop
 |[],_=>True
 |e::l,k=>e.m=(nth ms k).getD 0∧MsJ ms l (k+1)
def e1w (m j:Nat) (a b:EJ):Option (List (EJ×a0a)):=match tb m j with
 |true=>some []
 |false=>match b3f a.o b.o with
  |true=>none
  |false=>match a9c a.kd,a9c b.kd with
   |true,true=>none
   |true,false=>some (match a6i b.kd&&b.want with
    |true=>[(b,a.h0)]
    |false=>[])
   |false,true=>some (match a6i a.kd&&a.want with
    |true=>[(a,b.h1)]
    |false=>[])
   |false,false=>some []
def c7w (ms:List Nat) (j:Nat) (a:EJ):List EJ→Nat→Option (List (EJ×a0a))
 |[],_=>some []
 |b::l,k=>match e1w ((nth ms k).getD 0) j a b,c7w ms j a l (k+1) with
  |some x,some y=>some (x++y)
  |_,_=>none
def d1g (ms:List Nat):List EJ→Nat→Option (List (EJ×a0a))
 |[],_=>some []
 |a::l,j=>match c7w ms j a l (j+1),d1g ms l (j+1) with
  |some x,some y=>some (x++y)
  |_,_=>none
def c0u (T:a0k):List (EJ×a0a)→Prop
 |[]=>True
 |p::l=>(∃ h',opA T (a1y p.1.L) p.1.o p.2=.val p.1.v h')∧c0u T l
theorem c0u.append {a b:List (EJ×a0a)}(h:c0u T (a++b)):c0u T a∧c0u T b:=by
 induction a with
 |nil=>exact⟨trivial,h⟩
 |cons x a ih=>exact⟨⟨h.1,(ih h.2).1⟩,(ih h.2).2⟩
theorem a4a.app {a b:List (Ent×a0a)}(x:a4a T a) (y:a4a T b):a4a T (a++b):=by
 induction a with
 |nil=>exact y
 |cons p a ih=>exact⟨x.1,ih x.2⟩
theorem MsJ.ok {ms:List Nat}:∀ {es:List EJ}{xs:List Ent}{j:Nat},b6m es xs→MsJ ms es j→d2t ms xs j
 |_,_,_,.nil,_=>trivial
 |_,_,_,.cons _ t,h=>⟨h.1,h.2.ok t⟩
theorem e3x {m j:Nat}{a b:EJ}{ta tb':Tr AV}(ha:a0m ta a.L) (hb:a0m tb' b.L){l:List (EJ×a0a)}(e:e1w m j a b=some l) (k:c0u T l):∃ l',b4r m j (a.ent ta) (b.ent tb')=some l'∧a4a T l':=by
 unfold e1w at e
 unfold b4r
 split at e<;>rename_i ht<;>rw[ht]
 ·exact⟨[],rfl,trivial⟩
 ·split at e<;>rename_i hd
  ·cases e
  ·have hd':b3f (a.ent ta).o (b.ent tb').o=false:=hd
   rw[hd']
   cases q1:a9c a.kd<;>cases q2:a9c b.kd<;>rw[q1,q2] at e<;>simp only[Option.some.injEq] at e
   all_goals
    have q1':a9c (a.ent ta).kd=_:=q1
    have q2':a9c (b.ent tb').kd=_:=q2
    rw[q1',q2']
   ·exact⟨[],rfl,trivial⟩
   ·cases q3:a6i a.kd&&a.want with
    |false=>have q3':(a6i (a.ent ta).kd&&(a.ent ta).want)=_:=q3; exact⟨_,rfl,by simp only[q3']; trivial⟩
    |true =>
     have q3':(a6i (a.ent ta).kd&&(a.ent ta).want)=_:=q3
     rw[q3] at e; subst e
     obtain⟨⟨h',k1⟩,_⟩:=k
     exact⟨_,rfl,by simp only[q3']; exact⟨c9u (e:=a.ent ta) ha k1,trivial⟩⟩
   ·cases q3:a6i b.kd&&b.want with
    |false=>have q3':(a6i (b.ent tb').kd&&(b.ent tb').want)=_:=q3; exact⟨_,rfl,by simp only[q3']; trivial⟩
    |true =>
     have q3':(a6i (b.ent tb').kd&&(b.ent tb').want)=_:=q3
     rw[q3] at e; subst e
     obtain⟨⟨h',k1⟩,_⟩:=k
     exact⟨_,rfl,by simp only[q3']; exact⟨c9u (e:=b.ent tb') hb k1,trivial⟩⟩
   ·cases e
theorem c5t {ms:List Nat}{j:Nat}{a:EJ}{ta:Tr AV}(ha:a0m ta a.L):∀ {es:List EJ}{xs:List Ent}{i:Nat}{l:List (EJ×a0a)},b6m es xs→c7w ms j a es i=some l→c0u T l→∃ l',a9k ms j (a.ent ta) xs i=some l'∧a4a T l'
 |_,_,_,_,.nil,_,_=>⟨[],rfl,trivial⟩
 |_,_,i,l,.cons hb t,e,k=>by
  unfold c7w at e
  split at e
  ·rename_i x y hx hy
   cases e
   obtain⟨k1,k2⟩:=k.append
   obtain⟨x',p1,p2⟩:=e3x ha hb hx k1
   obtain⟨y',r1,r2⟩:=c5t ha t hy k2
   exact⟨x'++y',by unfold a9k; rw[p1,r1],p2.app r2⟩
  ·cases e
theorem c1k {ms:List Nat}:∀ {es:List EJ}{xs:List Ent}{j:Nat}{l:List (EJ×a0a)},b6m es xs→d1g ms es j=some l→c0u T l→∃ l',todo ms xs j=some l'∧a4a T l'
 |_,_,_,_,.nil,_,_=>⟨[],rfl,trivial⟩
 |_,_,j,l,.cons hb t,e,k=>by
  unfold d1g at e
  split at e
  ·rename_i x y hx hy
   cases e
   obtain⟨k1,k2⟩:=k.append
   obtain⟨x',p1,p2⟩:=c5t hb t hx k1
   obtain⟨y',r1,r2⟩:=c1k t hy k2
   exact⟨x'++y',by unfold todo; rw[p1,r1],p2.app r2⟩
  ·cases e
variable {nt:Nat}{ms:List Nat}{N m:Nat}{mr:List Nat}{n:Nat}{acc:List EJ}{sl:List Tmp}{hl:List (List Tmp)}
structure DJ (T:a0k) (cx:Cx) (k:List K) (df:List ADef) (pan:Option (AV×Bool)) (Q:Res→Prop) (all:List Oper) (ms:List Nat) (N:Nat) (rest:List Oper) (mr:List Nat) (hl:List (List Tmp)) (i:Nat) (L:List (Nat×AV)) (h:a0a) (acc:List EJ):Prop where
 out:∀ tm xs,a0m tm L→b6m acc xs→DI T cx.nt all ms N rest mr hl i tm h xs (fun tm' h'=>GI T cx k ⟨tm',df,pan,h'⟩ Q)
theorem DJ.sub (g:DJ T cx k df pan Q all ms N rest mr hl n L' h acc) (s:Sub L' L):DJ T cx k df pan Q all ms N rest mr hl n L h acc:=⟨fun tm xs hs ha=>g.out tm xs (hs.sub s) ha⟩
theorem a0c {r q:Nat}{ops:Array Oper}(hk:h.ok) (hq:ops.toList.length=q) (hm:masks ops.toList=ms) (hh:a8d ops.toList ms ops.toList ms 0=hl) (he:a3q ops.toList 0=true)
  (g:DJ T cx k df pan Q ops.toList ms h.next ops.toList ms hl 0 L (a0a.mk h.t (h.next+q)) []):GJ T cx (.code (.region r ops true)::k) L df pan h Q:=by
 subst hq
 exact⟨fun tm hs=>e6a hm hh he hk (g.out tm [] hs .nil)⟩
theorem c2q {l:List (EJ×a0a)}(hm:MsJ ms acc.reverse 0) (hl':d1g ms acc.reverse 0=some l) (hk:c0u T l) (g:GJ T cx k L df pan h Q):DJ T cx k df pan Q all ms N [] mr hl n L h acc :=
 ⟨fun tm xs hs ha=>by
  obtain⟨l',p1,p2⟩:=c1k ha.rev hl' hk
  exact f3m (hm.ok ha.rev) p1 p2 (g.out tm hs)⟩
theorem e3b (hw:a0p all (a1n L sl) o=some false) (hd:o.dst=some d) (hn:Nat.blt d cx.nt=true)
  (c:DJ T cx k df pan Q all ms N rest mr hl (n+1) ((d,a2w)::L) h (⟨o,m,.pure,false,a1n L sl,h,a2w,h⟩::acc)):DJ T cx k df pan Q all ms N (o::rest) (m::mr) (sl::hl) n L h acc :=
 ⟨fun tm xs hs ha=>f5k hs hw hd hn fun tmr tm' a b=>c.out tm' _ b (.cons (e:=⟨o,m,.pure,false,a1n L sl,h,a2w,h⟩) a ha)⟩
theorem a4l (hw:a0p all (a1n L sl) o=some true) (hd:o.dst=some d) (hn:Nat.blt d cx.nt=true) (hk:b8n (a1l T o.op)=true) (ho:opA T (a1y (a1n L sl)) o h=.val v h')
  (c:DJ T cx k df pan Q all ms N rest mr hl (n+1) ((d,v)::L) h (⟨o,m,.read,true,a1n L sl,h,v,h⟩::acc)):DJ T cx k df pan Q all ms N (o::rest) (m::mr) (sl::hl) n L h acc :=
 ⟨fun tm xs hs ha=>f4z hs hw hd hn hk ho fun tmr tm' a b=>c.out tm' _ b (.cons (e:=⟨o,m,.read,true,a1n L sl,h,v,h⟩) a ha)⟩
theorem b4o {a:a1t}(hk:a1l T o.op=.alloc) (hw:a0p all (a1n L sl) o=some true) (hd:o.dst=some d) (hn:Nat.blt d cx.nt=true) (ho:a8m T (a1y (a1n L sl)) o (N+n)=some (v,a))
  (c:DJ T cx k df pan Q all ms N rest mr hl (n+1) ((d,v)::L) (h.set (N+n) a) (⟨o,m,.alloc,true,a1n L sl,h,v,h.set (N+n) a⟩::acc)):DJ T cx k df pan Q all ms N (o::rest) (m::mr) (sl::hl) n L h acc :=
 ⟨fun tm xs hs ha=>e9l hk hs hw hd hn ho fun tmr tm' a' b=>c.out tm' _ b (.cons (e:=⟨o,m,.alloc,true,a1n L sl,h,v,h.set (N+n) a⟩) a' ha)⟩
theorem b6o (hk:a1l T o.op=.act) (hw:a0p all (a1n L sl) o=some true) (hd:o.dst=some d) (hn:Nat.blt d cx.nt=true) (ho:opA T (a1y (a1n L sl)) o h=.val v h')
  (c:DJ T cx k df pan Q all ms N rest mr hl (n+1) ((d,v)::L) h' (⟨o,m,.act,true,a1n L sl,h,v,h'⟩::acc)):DJ T cx k df pan Q all ms N (o::rest) (m::mr) (sl::hl) n L h acc :=
 ⟨fun tm xs hs ha=>f2x hs hw hd hn hk ho fun tmr tm' a b=>c.out tm' _ b (.cons (e:=⟨o,m,.act,true,a1n L sl,h,v,h'⟩) a ha)⟩
theorem b8k (hk:a1l T o.op=.act) (hw:a0p all (a1n L sl) o=some true) (hd:o.dst=none) (ho:opA T (a1y (a1n L sl)) o h=.skip h')
  (c:DJ T cx k df pan Q all ms N rest mr hl (n+1) L h' (⟨o,m,.act,true,a1n L sl,h,a2w,h'⟩::acc)):DJ T cx k df pan Q all ms N (o::rest) (m::mr) (sl::hl) n L h acc :=
 ⟨fun tm xs hs ha=>f1z hs hw hd hk ho fun tmr a=>c.out tm _ hs (.cons (e:=⟨o,m,.act,true,a1n L sl,h,a2w,h'⟩) a ha)⟩
theorem a2i {f:FuncId}{args:List AV}{P:AV→a0a→Prop}(g:a0l T f args h' P) (hT:T.alts=false) (hk:a1l T o.op=.act) (hw:a0p all (a1n L sl) o=some true) (hd:o.dst=some d) (hn:Nat.blt d cx.nt=true)
  (ho:opA T (a1y (a1n L sl)) o h=.enter f args h')
  (c:∀ v h2,P v h2→DJ T cx k df pan Q all ms N rest mr hl (n+1) ((d,v)::L) h2 (⟨o,m,.act,true,a1n L sl,h,v,h2⟩::acc)):DJ T cx k df pan Q all ms N (o::rest) (m::mr) (sl::hl) n L h acc :=
 ⟨fun tm xs hs ha=>e1s hs hw hd hn hk ho (g.one hT) fun v h2 p tmr tm' a b=>(c v h2 p).out tm' _ b (.cons (e:=⟨o,m,.act,true,a1n L sl,h,v,h2⟩) a ha)⟩
theorem f5l {f:FuncId}{args:List AV}(hw':T.sm f args h'=some (v,h2)) (hT:T.sm=T.sm) (hk:a1l T o.op=.act) (hw:a0p all (a1n L sl) o=some true) (hd:o.dst=some d) (hn:Nat.blt d cx.nt=true)
  (ho:opA T (a1y (a1n L sl)) o h=.enter f args h')
  (c:DJ T cx k df pan Q all ms N rest mr hl (n+1) ((d,v)::L) h2 (⟨o,m,.act,true,a1n L sl,h,v,h2⟩::acc)):DJ T cx k df pan Q all ms N (o::rest) (m::mr) (sl::hl) n L h acc :=
 ⟨fun tm xs hs ha=>e1s (P:=fun u g=>u=v∧g=h2) hs hw hd hn hk ho ⟨v,h2,.now fun _=>by simp only[step,hw'],rfl,rfl⟩ fun v' h3 p tmr tm' a b=>(show DJ T cx k df pan Q all ms N rest mr hl (n+1) ((d,v')::L) h3 (⟨o,m,.act,true,a1n L sl,h,v',h3⟩::acc) by obtain⟨e1,e2⟩:=p; subst e1 e2; exact c).out tm' _ b (.cons (e:=⟨o,m,.act,true,a1n L sl,h,v',h3⟩) a ha)⟩
theorem f2a {g:Nat×Bool}(_:o.guard=some g) (x:DJ T cx k df pan Q all ms N (o::rest) mr hl n L h acc):DJ T cx k df pan Q all ms N (o::rest) mr hl n L h acc:=x
theorem b4v (_:a0p all L o=some true) (x:DJ T cx k df pan Q all ms N (o::rest) mr hl n L h acc):DJ T cx k df pan Q all ms N (o::rest) mr hl n L h acc:=x
theorem f1m (_:d5y o.op=true) (x:DJ T cx k df pan Q all ms N (o::rest) mr hl n L h acc):DJ T cx k df pan Q all ms N (o::rest) mr hl n L h acc:=x
theorem a7s {f:FuncId}{args:List AV}(hw':T.sm f args h'=some (v,h2)) (_:Nat.beq (f4f o.op) (f+1)=true) (hT:T.sm=T.sm) (hk:a1l T o.op=.act) (hw:a0p all (a1n L sl) o=some true) (hd:o.dst=some d) (hn:Nat.blt d cx.nt=true)
  (ho:opA T (a1y (a1n L sl)) o h=.enter f args h')
  (c:DJ T cx k df pan Q all ms N rest mr hl (n+1) ((d,v)::L) h2 (⟨o,m,.act,true,a1n L sl,h,v,h2⟩::acc)):DJ T cx k df pan Q all ms N (o::rest) (m::mr) (sl::hl) n L h acc:=f5l hw' hT hk hw hd hn ho c
theorem c7p {j:Nat}{w:Bool}{c:Bool}(hg:o.guard=some (j,w)) (hd:a8n all j=some d) (hl':look L d=some (.bool c)) (ht:c=true→DJ T cx k df pan Q all ms N (o::rest) mr hl n ((d,.bool true)::L) h acc) (hf:c=false→DJ T cx k df pan Q all ms N (o::rest) mr hl n ((d,.bool false)::L) h acc):DJ T cx k df pan Q all ms N (o::rest) mr hl n L h acc:=by
 cases c with
 |true=>exact(ht rfl).sub (sub_self hl')
 |false=>exact(hf rfl).sub (sub_self hl')
theorem e0s {j:Nat}{w:Bool}{c:Prop} [Decidable c] (hg:o.guard=some (j,w)) (hd:a8n all j=some d) (hl':look L d=some (.bool (decide c))) (ht:c→DJ T cx k df pan Q all ms N (o::rest) mr hl n ((d,.bool true)::L) h acc) (hf:¬ c→DJ T cx k df pan Q all ms N (o::rest) mr hl n ((d,.bool false)::L) h acc):DJ T cx k df pan Q all ms N (o::rest) mr hl n L h acc :=
 c7p hg hd hl' (fun e=>ht (of_decide_eq_true e)) (fun e=>hf (of_decide_eq_false e))
theorem c8a {j:Nat}{w:Bool}{c:Prop} [Decidable c] (hg:o.guard=some (j,w)) (hd:a8n all j=some d) (hl':look L d=some (.bool (decide c))) (hc:c) (g:DJ T cx k df pan Q all ms N (o::rest) mr hl n ((d,.bool true)::L) h acc):DJ T cx k df pan Q all ms N (o::rest) mr hl n L h acc :=
 g.sub (sub_self (by rw[hl',decide_eq_true hc]))
theorem c8k {j:Nat}{w:Bool}{c:Prop} [Decidable c] (hg:o.guard=some (j,w)) (hd:a8n all j=some d) (hl':look L d=some (.bool (decide c))) (hc:¬ c) (g:DJ T cx k df pan Q all ms N (o::rest) mr hl n ((d,.bool false)::L) h acc):DJ T cx k df pan Q all ms N (o::rest) mr hl n L h acc :=
 g.sub (sub_self (by rw[hl',decide_eq_false hc]))
theorem c7v {j:Nat}{w:Bool}{c:Prop} [Decidable c] (hg:o.guard=some (j,w)) (hd:a8n all j=some d) (hl':look L d=some (.bool (decide (¬ c)))) (hc:c) (g:DJ T cx k df pan Q all ms N (o::rest) mr hl n ((d,.bool false)::L) h acc):DJ T cx k df pan Q all ms N (o::rest) mr hl n L h acc :=
 g.sub (sub_self (by rw[hl',decide_eq_false (fun n=>n hc)]))
end Ev
end
