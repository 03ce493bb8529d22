/- A part of an evaluator of the program's form in Lean, of the proof that what it says of a call is what the machine does, and of the rules by which proofs walk over it. Conditions: those that each theorem states. -/
import Derived.Test.YtmnhbehmjaibgaaGreatGam
import Derived.Test.YtmnhbehmjaibgaaGreatGak
set_option linter.unusedVariables false
set_option linter.unusedSimpArgs false
section
namespace Ev
open Go Go.RowKit
variable {P:Program}{T:Tabs}{base:Nat}{w0:World}
def Tabs.bare (T:Tabs):Tabs:={ T with sm:=fun _ _ _=>none }
def Body (T:Tabs) (f:FuncId) (args:List AV) (h:Heap) (Q:Res→Prop):Prop:=∃ r,(∃ N,∀ n,N≤n→step T.bare (ev T n) (.call f args h)=r)∧Leaves Q r
def BGives (T:Tabs) (f:FuncId) (args:List AV) (h:Heap) (P:AV→Heap→Prop):Prop:=Body T f args h fun r=>∃ v h',r=.ret v h'∧P v h'
theorem BGives.mono {f:FuncId}{args:List AV}{h:Heap}{P P':AV→Heap→Prop}(g:BGives T f args h P) (k:∀ v h',P v h'→P' v h'):BGives T f args h P':=by
 obtain⟨r,hs,hl⟩:=g
 exact⟨r,hs,hl.mono fun r _ ⟨v,h',e,p⟩=>⟨v,h',e,k v h' p⟩⟩
theorem body_any {f:FuncId}{args:List AV}{h:Heap}{F:Func}{c:Code}{Q:Res→Prop}(hF:T.fn f=some F) (hb:F.body=some c)
  (g:∀ tm,Sees tm (argsL args 0 [])→GI T { fn:=f,nt:=Nat.max F.ntmps args.length,round:=none } [.code c] ⟨tm,[],none,h⟩ (EndsL T f Q)):Body T f args h Q:=by
 obtain⟨r,⟨N,hr⟩,q⟩:=(g (argsTm args 0 .nil) (Sees.args args 0 _ _ (Sees.nil _))).out
 let fk:Nat→Res→Res:=fun n r=>match r with
  |.fin .normal s=>ev T n (.leave f s.tm s.df none s.h)
  |.fin .ret s=>ev T n (.leave f s.tm s.df none s.h)
  |.pan v s=>ev T n (.leave f s.tm s.df (some (v,false)) s.h)
  | .fin _ _ => .no "jump out of a function" []
  |r=>r
 obtain⟨r',⟨N',hr'⟩,q'⟩:=bind_leaves (Q:=Q) fk r (Leaves.mono (fun r hl he=>by
  cases r with
  |fin e s=>cases e with
   |normal=>exact he
   |ret=>exact he
   |exit _=>exact he.elim
   |goto _=>exact he.elim
  |pan v s=>exact he
  |ret _ _=>exact he.elim
  |thrown _ _=>exact he.elim
  |dret _ _=>exact he.elim
  |no _ _=>exact he.elim
  |alt _ _=>exact he.elim) q)
 refine⟨r',⟨N+N',fun n hn=>?_⟩,q'⟩
 have e:step T.bare (ev T n) (.call f args h)=bindR (ev T n (.code { fn:=f,nt:=Nat.max F.ntmps args.length,round:=none } c { tm:=argsTm args 0 .nil,df:=[],pan:=none,h:=h })) (fk n):=by
  have h1:T.bare.sm f args h=none:=rfl
  have h2:T.bare.fn f=some F:=hF
  simp only[step,h1,h2,hb]
  congr 1
 rw[e,hr n (by omega)]
 exact hr' n (by omega)
theorem ends_any {f:FuncId}{F:Func}{P:AV→Heap→Prop}(hF:T.fn f=some F){r:Res}(e:Ends T F.results.toList P r):EndsL T f (fun r=>∃ v h',r=.ret v h'∧P v h') r:=by
 obtain⟨e,tm,h1,rfl,he,vs,hvs,p⟩:=e
 have:Wp T (.leave f tm [] none h1) fun r=>∃ v h',r=.ret v h'∧P v h':=Wp.now (r:=.ret (oneOf vs) h1) (fun _=>by simp only[step,hF,hvs]) ⟨_,_,rfl,p⟩
 rcases he with rfl|rfl<;>exact this
theorem GI.mono {cx:Cx}{k:List K}{s:St}{Q Q':Res→Prop}(g:GI T cx k s Q) (m:∀ r,Q r→Q' r):GI T cx k s Q':=by
 have key:∀ (k:List K) (r:Res),after T cx k Q r→after T cx k Q' r:=by
  intro k
  induction k with
  |nil=>exact m
  |cons x k ih =>
   intro r h
   cases x with
   |code c =>
    cases r with
    |fin e s=>cases e with
     |normal=>exact Wp.mono h ih
     |ret=>exact ih _ h
     |exit _=>exact ih _ h
     |goto _=>exact ih _ h
    |_=>exact ih _ h
   |blk id =>
    cases r with
    |fin e s=>cases e with
     |exit id' =>
      simp only[after] at h ⊢
      split<;>rename_i hh
      ·rw[if_pos hh] at h; exact ih _ h
      ·rw[if_neg hh] at h; exact ih _ h
     |normal=>exact ih _ h
     |ret=>exact ih _ h
     |goto _=>exact ih _ h
    |_=>exact ih _ h
   |scope=>exact ih _ h
 exact⟨key k _ g.out⟩
theorem body_of {f:FuncId}{args:List AV}{h:Heap}{F:Func}{c:Code}{P:AV→Heap→Prop}(hF:T.fn f=some F) (hb:F.body=some c)
  (g:∀ tm,Sees tm (argsL args 0 [])→GI T { fn:=f,nt:=Nat.max F.ntmps args.length,round:=none } [.code c] ⟨tm,[],none,h⟩ (Ends T F.results.toList P)):BGives T f args h P :=
 body_any hF hb fun tm hs=>(g tm hs).mono fun _ e=>ends_any hF e
theorem BGives.gives {f:FuncId}{args:List AV}{h:Heap}{P:AV→Heap→Prop}(hsm:T.sm f args h=none) (g:BGives T f args h P):Gives T f args h P:=by
 obtain⟨r,⟨N,hr⟩,hl⟩:=g
 refine⟨r,.of_step ⟨N,fun n hn=>?_⟩,hl⟩
 rw[← hr n hn]
 have h1:T.bare.sm f args h=none:=rfl
 simp only[step,hsm,h1]
 rfl
theorem Body.wp {f:FuncId}{args:List AV}{h:Heap}{Q:Res→Prop}(hsm:T.sm f args h=none) (g:Body T f args h Q):Wp T (.call f args h) Q:=by
 obtain⟨r,⟨N,hr⟩,hl⟩:=g
 refine⟨r,.of_step ⟨N,fun n hn=>?_⟩,hl⟩
 rw[← hr n hn]
 have h1:T.bare.sm f args h=none:=rfl
 simp only[step,hsm,h1]
 rfl
theorem BGives.one (hT:T.alts=false){f:FuncId}{args:List AV}{h:Heap}{P:AV→Heap→Prop}(g:BGives T f args h P):∃ v h',(∃ N,∀ n,N≤n→step T.bare (ev T n) (.call f args h)=.ret v h')∧P v h':=by
 obtain⟨r,⟨N,hN⟩,hl⟩:=g
 have h1:=step_leaf (T:=T.bare) hT (ev T N) (ev_leaf hT N) (.call f args h)
 rw[hN N (Nat.le_refl _)] at h1
 have:∃ v h',r=.ret v h'∧P v h':=by cases r<;>first|exact hl|cases h1
 obtain⟨v,h',rfl,p⟩:=this
 exact⟨v,h',⟨N,hN⟩,p⟩
def Says1 (T:Tabs) (f:FuncId) (args:List AV) (h:Heap) (v:AV):Prop:=match AV.plains args with
 |true=>BGives T f args ⟨.nil,0⟩ (fun v' _=>v'=v)
 |false=>BGives T f args h (fun v' h'=>v'=v∧Ext h h')
open Classical in
noncomputable def smB (T:Tabs) (wf:FuncId→Bool):Nat→FuncId→List AV→Heap→Option (AV×Heap)
 |0=>T.sm
 |n+1=>fun f args h=>match wf f with
  |false=>T.sm f args h
  |true=>if hx:∃ v,AV.plain v=true∧Says1 (T.withSm (smB T wf n)) f args h v then some (hx.choose,h) else none
noncomputable def lev (T:Tabs) (wf:FuncId→Bool) (n:Nat):Tabs:=T.withSm (smB T wf n)
theorem Leaves.both {Q Q':Res→Prop}:∀ {r:Res},Leaves Q r→Leaves Q' r→∃ q,Q q∧Q' q
 |.alt a b,x,y=>Leaves.both (r:=a) x.1 y.1
 |.fin ..,x,y=>⟨_,x,y⟩
 |.pan ..,x,y=>⟨_,x,y⟩
 |.ret ..,x,y=>⟨_,x,y⟩
 |.thrown ..,x,y=>⟨_,x,y⟩
 |.dret ..,x,y=>⟨_,x,y⟩
 |.no ..,x,y=>⟨_,x,y⟩
theorem Says1.one {f:FuncId}{args:List AV}{h:Heap}{v u:AV}(a:Says1 T f args h v) (b:Says1 T f args h u):v=u:=by
 unfold Says1 at a b
 split at a<;>rename_i hp
 all_goals
  rw[hp] at b
  obtain⟨r1,⟨N,hN⟩,l1⟩:=a
  obtain⟨r2,⟨M,hM⟩,l2⟩:=b
  have a:=hN (N+M) (by omega)
  have b:=hM (N+M) (by omega)
  rw[a] at b
  subst b
  obtain⟨_,⟨v1,h1',rfl,e1⟩,v2,h2',e,e2⟩:=l1.both l2
  cases e
  first
   |exact e1.symm.trans e2
   |exact e1.1.symm.trans e2.1
theorem word {wf:FuncId→Bool}{n:Nat}{f:FuncId}{args:List AV}{h:Heap}{v:AV}(hw:wf f=true) (hp:v.plain=true) (g:Says1 (lev T wf n) f args h v) :
  (lev T wf (n+1)).sm f args h=some (v,h):=by
 show smB T wf (n+1) f args h=_
 unfold smB
 rw[hw]
 have hx:∃ v,AV.plain v=true∧Says1 (T.withSm (smB T wf n)) f args h v:=⟨v,hp,g⟩
 simp only[dif_pos hx]
 rw[Says1.one (T:=T.withSm (smB T wf n)) hx.choose_spec.2 g]
theorem lev_ok {wf:FuncId→Bool}(ok:TabsOK P T) (hsm:∀ f args h v h',T.sm f args h=some (v,h')→TaskOK P base w0 (.call f args h) (.ret v h')):∀ (n:Nat) (f:FuncId) (args:List AV) (h:Heap) (v:AV) (h':Heap),(lev T wf n).sm f args h=some (v,h')→TaskOK P base w0 (.call f args h) (.ret v h')
 |0,f,args,h,v,h',e=>hsm f args h v h' e
 |n+1,f,args,h,v,h',e=>by
  replace e:smB T wf (n+1) f args h=_:=e
  unfold smB at e
  split at e
  ·exact hsm _ _ _ _ _ e
  ·split at e
   ·rename_i hx
    simp only[Option.some.injEq,Prod.mk.injEq] at e
    obtain⟨rfl,rfl⟩:=e
    have hv:=hx.choose_spec.1
    have hsays:=hx.choose_spec.2
    have ok':TabsOK P (T.withSm (smB T wf n)):=ok.withSm _
    have okb:TabsOK P (T.withSm (smB T wf n)).bare:=ok.withSm _
    obtain⟨u,hu⟩:∃ u,hx.choose=u:=⟨_,rfl⟩
    rw[hu] at hv hsays ⊢
    unfold Says1 at hsays
    split at hsays
    ·rename_i hpl
     obtain⟨r,⟨N,hN⟩,hl⟩:=hsays
     have ih:∀ t,TaskOK P base w0 t (ev (T.withSm (smB T wf n)) N t):=fun t=>ev_sound ok' (lev_ok (wf:=wf) ok hsm n) N t
     have K:=call_sound (T:=(T.withSm (smB T wf n)).bare) okb (fun f a h v h' hh=>by cases hh) _ ih f args ⟨.nil,0⟩
     rw[hN N (Nat.le_refl _)] at K
     intro E args' w cs ha H
     have H0:HR base w0 En.none ⟨.nil,0⟩ w:=⟨fun _ h=>h.elim,fun _ _ h=>h.elim,fun _ _ _ _ h=>h.elim,H.wd,H.drawn,H.bsz,fun _ h=>h.elim⟩
     obtain⟨q,hq,hc⟩:=K En.none args' w cs (ha.plain hpl) H0
     obtain⟨v',h2,rfl,he⟩:=hl.get hq
     obtain⟨E',w',v'',fr,p1,p2,p3,p4,p5⟩:=hc
     have old:∀ k,k<w.heap.size→w'.heap[k]?=w.heap[k]?:=fun k hk=>p2.fr k hk (fun _ hd=>hd.elim)
     rw[he] at p3
     exact⟨_,rfl,E,w',v'',fr,⟨H.dlt,fun b o hd hg=>OR'.same (old _ (H.blt b hd)) (H.obj b o hd hg),H.inj,p1.wd,p1.drawn,p1.bsz,fun b hd=>Nat.lt_of_lt_of_le (H.blt b hd) p2.sz⟩,
      ⟨.refl E,fun _ h=>.inl h,Nat.le_refl _,fun _ _ _=>rfl,p2.sz,fun k hk _=>old k hk,fun _ h=>.inl h⟩,p3.plain hv,p4,p5⟩
    ·obtain⟨r,⟨N,hN⟩,hl⟩:=hsays
     have ih:∀ t,TaskOK P base w0 t (ev (T.withSm (smB T wf n)) N t):=fun t=>ev_sound ok' (lev_ok (wf:=wf) ok hsm n) N t
     have K:=call_sound (T:=(T.withSm (smB T wf n)).bare) okb (fun f a h v h' hh=>by cases hh) _ ih f args h
     rw[hN N (Nat.le_refl _)] at K
     intro E args' w cs ha H
     obtain⟨q,hq,hc⟩:=K E args' w cs ha H
     obtain⟨v',h2,rfl,he',he⟩:=hl.get hq
     obtain⟨E',w',v'',fr,p1,p2,p3,p4,p5⟩:=hc
     rw[he'] at p3
     exact⟨_,rfl,forget_ok ha H p1 p2 (p3.plain hv) he p4 p5⟩
   ·cases e
theorem Says1.plain {f:FuncId}{args:List AV}{h:Heap}{v:AV}(hp:AV.plains args=true) (g:BGives T f args ⟨.nil,0⟩ (fun v' _=>v'=v)):Says1 T f args h v:=by
 unfold Says1; rw[hp]; exact g
theorem Says1.other {f:FuncId}{args:List AV}{h:Heap}{v:AV}(g:BGives T f args h (fun v' h'=>v'=v∧Ext h h')) (g0:AV.plains args=true→BGives T f args ⟨.nil,0⟩ (fun v' h'=>v'=v∧Ext ⟨.nil,0⟩ h')):Says1 T f args h v:=by
 unfold Says1
 split
 ·rename_i hp; exact(g0 hp).mono fun _ _ e=>e.1
 ·exact g
end Ev
end
section
namespace Ev
open Go
variable {T:Tabs}{cx:Cx}{k:List K}{Q:Res→Prop}{all rest:List Oper}{o:Oper}{df:List ADef}{pan:Option (AV×Bool)}{h h' h2:Heap}{L L':List (Nat×AV)}{v:AV}{d:Nat}
def Sub (A B:List (Nat×AV)):Prop:=∀ j v,look A j=some v→look B j=some v
theorem Sub.nil (B:List (Nat×AV)):Sub [] B:=fun _ _ h=>by cases h
theorem Sub.cons {A B:List (Nat×AV)}{j:Nat}{v:AV}(h:look B j=some v) (t:Sub A B):Sub ((j,v)::A) B:=by
 intro i x hx
 unfold look at hx
 split at hx
 ·rename_i hb
  have:=Nat.eq_of_beq_eq_true hb
  subst this
  rw[← hx]; exact h
 ·exact t i x hx
theorem Sub.refl (A:List (Nat×AV)):Sub A A:=fun _ _ h=>h
theorem Sees.sub {tm:Tr AV}{A B:List (Nat×AV)}(s:Sees tm B) (h:Sub A B):Sees tm A:=fun j v hv=>s j v (h j v hv)
structure GJ (T:Tabs) (cx:Cx) (k:List K) (L:List (Nat×AV)) (df:List ADef) (pan:Option (AV×Bool)) (h:Heap) (Q:Res→Prop):Prop where
 out:∀ tm,Sees tm L→GI T cx k ⟨tm,df,pan,h⟩ Q
structure OJ (T:Tabs) (cx:Cx) (all rest:List Oper) (k:List K) (L:List (Nat×AV)) (df:List ADef) (pan:Option (AV×Bool)) (h:Heap) (Q:Res→Prop):Prop where
 out:∀ tm,Sees tm L→OI T cx all rest k ⟨tm,df,pan,h⟩ Q
theorem GJ.sub (g:GJ T cx k L' df pan h Q) (s:Sub L' L):GJ T cx k L df pan h Q:=⟨fun tm hs=>g.out tm (hs.sub s)⟩
theorem OJ.sub (g:OJ T cx all rest k L' df pan h Q) (s:Sub L' L):OJ T cx all rest k L df pan h Q:=⟨fun tm hs=>g.out tm (hs.sub s)⟩
theorem GJ.gen (Lf:List (Nat×AV)) (C:Heap→Prop) (hs:Sub Lf L) (hc:C h) (g:∀ h,C h→GJ T cx k Lf df pan h Q):GJ T cx k L df pan h Q:=(g h hc).sub hs
theorem jg_nil (q:∀ tm,Sees tm L→Q (.fin .normal ⟨tm,df,pan,h⟩)):GJ T cx [] L df pan h Q:=⟨fun tm hs=>w_nil (q tm hs)⟩
theorem jg_skip (g:GJ T cx k L df pan h Q):GJ T cx (.code .skip::k) L df pan h Q:=⟨fun tm hs=>w_skip (g.out tm hs)⟩
theorem jg_label {l:Nat}(g:GJ T cx k L df pan h Q):GJ T cx (.code (.label l)::k) L df pan h Q:=⟨fun tm hs=>w_label (g.out tm hs)⟩
theorem jg_blk {id:Nat}(g:GJ T cx k L df pan h Q):GJ T cx (.blk id::k) L df pan h Q:=⟨fun tm hs=>w_blk (g.out tm hs)⟩
theorem jg_end (g:GJ T cx k L df pan h Q):GJ T cx (.scope::k) L df pan h Q:=⟨fun tm hs=>w_end (g.out tm hs)⟩
theorem jg_seq {a b:Code}(g:GJ T cx (.code a::.code b::k) L df pan h Q):GJ T cx (.code (.seq a b)::k) L df pan h Q:=⟨fun tm hs=>w_seq (g.out tm hs)⟩
theorem jg_block {id:Nat}{b:Code}(g:GJ T cx (.code b::.blk id::k) L df pan h Q):GJ T cx (.code (.block id b)::k) L df pan h Q:=⟨fun tm hs=>w_block (g.out tm hs)⟩
theorem jg_scope {b:Code}(g:GJ T cx (.code b::.scope::k) L df pan h Q):GJ T cx (.code (.scope b)::k) L df pan h Q:=⟨fun tm hs=>w_scope (g.out tm hs)⟩
theorem jg_exit {id:Nat}{k':List K}(hu:unw id k=some k') (g:GJ T cx k' L df pan h Q):GJ T cx (.code (.exit id)::k) L df pan h Q:=⟨fun tm hs=>w_exit hu (g.out tm hs)⟩
theorem jg_fin (q:∀ tm,Sees tm L→Q (.fin .ret ⟨tm,df,pan,h⟩)):GJ T cx (.code .ret::k) L df pan h Q:=⟨fun tm hs=>w_ret (q tm hs)⟩
theorem jg_region {i:Nat}{ops:Array Oper}(g:OJ T cx ops.toList ops.toList k L df pan h Q):GJ T cx (.code (.region i ops false)::k) L df pan h Q:=⟨fun tm hs=>w_region (g.out tm hs)⟩
theorem jg_ift {x:Operand}{a b:Code}(hx:envL L x=some (.bool true)) (g:GJ T cx (.code a::k) L df pan h Q):GJ T cx (.code (.cond x a b)::k) L df pan h Q:=⟨fun tm hs=>w_ift hs hx (g.out tm hs)⟩
theorem jg_iff {x:Operand}{a b:Code}(hx:envL L x=some (.bool false)) (g:GJ T cx (.code b::k) L df pan h Q):GJ T cx (.code (.cond x a b)::k) L df pan h Q:=⟨fun tm hs=>w_iff hs hx (g.out tm hs)⟩
theorem jg_bool {x:Operand}{a b:Code}{c:Bool}(hx:envL L x=some (.bool c)) (ht:c=true→GJ T cx (.code a::k) L df pan h Q) (hf:c=false→GJ T cx (.code b::k) L df pan h Q):GJ T cx (.code (.cond x a b)::k) L df pan h Q :=
 ⟨fun tm hs=>w_if hs hx (fun e=>(ht e).out tm hs) (fun e=>(hf e).out tm hs)⟩
theorem jg_dec {x:Operand}{a b:Code}{c:Prop} [Decidable c] (hx:envL L x=some (.bool (decide c))) (ht:c→GJ T cx (.code a::k) L df pan h Q) (hf:¬ c→GJ T cx (.code b::k) L df pan h Q):GJ T cx (.code (.cond x a b)::k) L df pan h Q :=
 jg_bool hx (fun e=>ht (of_decide_eq_true e)) (fun e=>hf (of_decide_eq_false e))
theorem jg_dect {x:Operand}{a b:Code}{c:Prop} [Decidable c] (hx:envL L x=some (.bool (decide c))) (hc:c) (g:GJ T cx (.code a::k) L df pan h Q):GJ T cx (.code (.cond x a b)::k) L df pan h Q :=
 jg_ift (by rw[hx,decide_eq_true hc]) g
theorem jg_decf {x:Operand}{a b:Code}{c:Prop} [Decidable c] (hx:envL L x=some (.bool (decide c))) (hc:¬ c) (g:GJ T cx (.code b::k) L df pan h Q):GJ T cx (.code (.cond x a b)::k) L df pan h Q :=
 jg_iff (by rw[hx,decide_eq_false hc]) g
theorem jg_decn {x:Operand}{a b:Code}{c:Prop} [Decidable c] (hx:envL L x=some (.bool (decide (¬ c)))) (hc:c) (g:GJ T cx (.code b::k) L df pan h Q):GJ T cx (.code (.cond x a b)::k) L df pan h Q :=
 jg_iff (by rw[hx,decide_eq_false (fun n=>n hc)]) g
theorem jg_boolt {x:Operand}{a b:Code}{c:Bool}(hx:envL L x=some (.bool c)) (hc:c=true) (g:GJ T cx (.code a::k) L df pan h Q):GJ T cx (.code (.cond x a b)::k) L df pan h Q :=
 jg_ift (by rw[hx,hc]) g
theorem jg_boolf {x:Operand}{a b:Code}{c:Bool}(hx:envL L x=some (.bool c)) (hc:c=false) (g:GJ T cx (.code b::k) L df pan h Q):GJ T cx (.code (.cond x a b)::k) L df pan h Q :=
 jg_iff (by rw[hx,hc]) g
theorem jg_loop {ι:Type}{b:Code}(μ:ι→Nat) (Lf:ι→List (Nat×AV)) (I:ι→Heap→Prop) (x:ι) (hL:Sub (Lf x) L) (h0:I x h)
  (round:∀ x h,I x h→(∀ x' {L' h'},μ x'<μ x→Sub (Lf x') L'→I x' h'→GJ T cx (.code (.loop b)::k) L' df pan h' Q)→GJ T cx (.code b::.code (.loop b)::k) (Lf x) df pan h Q):GJ T cx (.code (.loop b)::k) L df pan h Q:=by
 refine⟨fun tm hs=>?_⟩
 refine w_loop (fun m st=>∃ x tm h,m=μ x∧st=⟨tm,df,pan,h⟩∧Sees tm (Lf x)∧I x h) (m:=μ x) ⟨x,tm,h,rfl,rfl,hs.sub hL,h0⟩ ?_
 rintro m _ ⟨x,tm,h,rfl,rfl,hs,hi⟩ next
 exact(round x h hi fun x' L' h' hm hsub hi'=>⟨fun tm' hs'=>next (μ x') _ hm ⟨x',tm',h',rfl,rfl,hs'.sub hsub,hi'⟩⟩).out tm hs
theorem jg_ret {rs:List ResultVar}{P:AV→Heap→Prop}{vs:List AV}(hr:resultsL T L h rs=some vs) (p:P (oneOf vs) h):GJ T cx (.code .ret::k) L [] none h (Ends T rs P):=jg_fin fun _ hs=>ends_ret hs hr p
theorem jo_nil (g:GJ T cx k L df pan h Q):OJ T cx all [] k L df pan h Q:=⟨fun tm hs=>v_nil (g.out tm hs)⟩
theorem jo_val (hg:wantedL all L o=some true) (hd:o.dst=some d) (hn:Nat.blt d cx.nt=true) (ho:opA T (envL L) o h=.val v h')
  (c:OJ T cx all rest k ((d,v)::L) df pan h' Q):OJ T cx all (o::rest) k L df pan h Q:=⟨fun tm hs=>v_val hs hg hd hn ho fun tm' s'=>c.out tm' s'⟩
theorem jo_val0 (hg:wantedL all L o=some true) (hd:o.dst=none) (ho:opA T (envL L) o h=.val v h')
  (c:OJ T cx all rest k L df pan h' Q):OJ T cx all (o::rest) k L df pan h Q:=⟨fun tm hs=>v_val0 hs hg hd ho (c.out tm hs)⟩
theorem jo_no (hg:wantedL all L o=some false) (hd:o.dst=some d) (hn:Nat.blt d cx.nt=true)
  (c:OJ T cx all rest k ((d,undefA)::L) df pan h Q):OJ T cx all (o::rest) k L df pan h Q:=⟨fun tm hs=>v_no hs hg hd hn fun tm' s'=>c.out tm' s'⟩
theorem jo_no0 (hg:wantedL all L o=some false) (hd:o.dst=none)
  (c:OJ T cx all rest k L df pan h Q):OJ T cx all (o::rest) k L df pan h Q:=⟨fun tm hs=>v_no0 hs hg hd (c.out tm hs)⟩
theorem jo_skip (hg:wantedL all L o=some true) (hd:o.dst=none) (ho:opA T (envL L) o h=.skip h')
  (c:OJ T cx all rest k L df pan h' Q):OJ T cx all (o::rest) k L df pan h Q:=⟨fun tm hs=>v_skip hs hg hd ho (c.out tm hs)⟩
theorem jo_call {f:FuncId}{args:List AV}{P:AV→Heap→Prop}(hc:Gives T f args h' P) (hg:wantedL all L o=some true) (hd:o.dst=some d) (hn:Nat.blt d cx.nt=true) (ho:opA T (envL L) o h=.enter f args h')
  (c:∀ v h2,P v h2→OJ T cx all rest k ((d,v)::L) df pan h2 Q):OJ T cx all (o::rest) k L df pan h Q:=⟨fun tm hs=>v_call hs hg hd ho hn hc fun v h2 p tm' s'=>(c v h2 p).out tm' s'⟩
theorem jo_w {f:FuncId}{args:List AV}(hw:T.sm f args h'=some (v,h2)) (hg:wantedL all L o=some true) (hd:o.dst=some d) (hn:Nat.blt d cx.nt=true) (ho:opA T (envL L) o h=.enter f args h')
  (c:OJ T cx all rest k ((d,v)::L) df pan h2 Q):OJ T cx all (o::rest) k L df pan h Q:=jo_call (gives_sm hw) hg hd hn ho fun _ _ ⟨e1,e2⟩=>by subst e1 e2; exact c
theorem sub_self {L:List (Nat×AV)}{d:Nat}{v:AV}(hl:look L d=some v):Sub ((d,v)::L) L:=by
 intro i x hx
 unfold look at hx
 split at hx
 ·rename_i hb
  have:=Nat.eq_of_beq_eq_true hb
  subst this
  rw[← hx]; exact hl
 ·exact hx
theorem jo_bool {j:Nat}{w:Bool}{c:Bool}(hg:o.guard=some (j,w)) (hd:dstOf all j=some d) (hl:look L d=some (.bool c)) (ht:c=true→OJ T cx all (o::rest) k ((d,.bool true)::L) df pan h Q) (hf:c=false→OJ T cx all (o::rest) k ((d,.bool false)::L) df pan h Q):OJ T cx all (o::rest) k L df pan h Q:=by
 cases c with
 |true=>exact(ht rfl).sub (sub_self hl)
 |false=>exact(hf rfl).sub (sub_self hl)
theorem jo_dec {j:Nat}{w:Bool}{c:Prop} [Decidable c] (hg:o.guard=some (j,w)) (hd:dstOf all j=some d) (hl:look L d=some (.bool (decide c))) (ht:c→OJ T cx all (o::rest) k ((d,.bool true)::L) df pan h Q) (hf:¬ c→OJ T cx all (o::rest) k ((d,.bool false)::L) df pan h Q):OJ T cx all (o::rest) k L df pan h Q :=
 jo_bool hg hd hl (fun e=>ht (of_decide_eq_true e)) (fun e=>hf (of_decide_eq_false e))
theorem jo_dect {j:Nat}{w:Bool}{c:Prop} [Decidable c] (hg:o.guard=some (j,w)) (hd:dstOf all j=some d) (hl:look L d=some (.bool (decide c))) (hc:c) (g:OJ T cx all (o::rest) k ((d,.bool true)::L) df pan h Q):OJ T cx all (o::rest) k L df pan h Q :=
 g.sub (sub_self (by rw[hl,decide_eq_true hc]))
theorem jo_decf {j:Nat}{w:Bool}{c:Prop} [Decidable c] (hg:o.guard=some (j,w)) (hd:dstOf all j=some d) (hl:look L d=some (.bool (decide c))) (hc:¬ c) (g:OJ T cx all (o::rest) k ((d,.bool false)::L) df pan h Q):OJ T cx all (o::rest) k L df pan h Q :=
 g.sub (sub_self (by rw[hl,decide_eq_false hc]))
theorem jo_decn {j:Nat}{w:Bool}{c:Prop} [Decidable c] (hg:o.guard=some (j,w)) (hd:dstOf all j=some d) (hl:look L d=some (.bool (decide (¬ c)))) (hc:c) (g:OJ T cx all (o::rest) k ((d,.bool false)::L) df pan h Q):OJ T cx all (o::rest) k L df pan h Q :=
 g.sub (sub_self (by rw[hl,decide_eq_false (fun n=>n hc)]))
theorem jo_boolt {j:Nat}{w:Bool}{c:Bool}(hg:o.guard=some (j,w)) (hd:dstOf all j=some d) (hl:look L d=some (.bool c)) (hc:c=true) (g:OJ T cx all (o::rest) k ((d,.bool true)::L) df pan h Q):OJ T cx all (o::rest) k L df pan h Q :=
 g.sub (sub_self (by rw[hl,hc]))
theorem jo_boolf {j:Nat}{w:Bool}{c:Bool}(hg:o.guard=some (j,w)) (hd:dstOf all j=some d) (hl:look L d=some (.bool c)) (hc:c=false) (g:OJ T cx all (o::rest) k ((d,.bool false)::L) df pan h Q):OJ T cx all (o::rest) k L df pan h Q :=
 g.sub (sub_self (by rw[hl,hc]))
def opFn:Op→Nat
 |.call c=>match c.callee with
  |.value (.func f)=>f+1
  |_=>0
 |_=>0
def isCallO:Op→Bool
 |.call c=>match c.callee with
  |.builtin _=>false
  |_=>true
 |_=>false
theorem jo_g {g:Nat×Bool}(_:o.guard=some g) (x:OJ T cx all (o::rest) k L df pan h Q):OJ T cx all (o::rest) k L df pan h Q:=x
theorem jo_want (_:wantedL all L o=some true) (x:OJ T cx all (o::rest) k L df pan h Q):OJ T cx all (o::rest) k L df pan h Q:=x
theorem jo_c (_:isCallO o.op=true) (x:OJ T cx all (o::rest) k L df pan h Q):OJ T cx all (o::rest) k L df pan h Q:=x
theorem jo_wf {f:FuncId}{args:List AV}(hw:T.sm f args h'=some (v,h2)) (_:Nat.beq (opFn o.op) (f+1)=true) (hg:wantedL all L o=some true) (hd:o.dst=some d) (hn:Nat.blt d cx.nt=true) (ho:opA T (envL L) o h=.enter f args h')
  (c:OJ T cx all rest k ((d,v)::L) df pan h2 Q):OJ T cx all (o::rest) k L df pan h Q:=jo_w hw hg hd hn ho c
theorem body_j {f:FuncId}{args:List AV}{F:Func}{c:Code}{P:AV→Heap→Prop}(hF:T.fn f=some F) (hb:F.body=some c)
  (g:GJ T { fn:=f,nt:=Nat.max F.ntmps args.length,round:=none } [.code c] (argsL args 0 []) [] none h (Ends T F.results.toList P)):BGives T f args h P:=body_of hF hb fun tm hs=>g.out tm hs
theorem body_jl {f:FuncId}{args:List AV}{F:Func}{c:Code}{Q:Res→Prop}(hF:T.fn f=some F) (hb:F.body=some c)
  (g:GJ T { fn:=f,nt:=Nat.max F.ntmps args.length,round:=none } [.code c] (argsL args 0 []) [] none h (EndsL T f Q)):Body T f args h Q:=body_any hF hb fun tm hs=>g.out tm hs
theorem call_j {f:FuncId}{args:List AV}{F:Func}{c:Code}{P:AV→Heap→Prop}(hsm:T.sm f args h=none) (hF:T.fn f=some F) (hb:F.body=some c)
  (g:GJ T { fn:=f,nt:=Nat.max F.ntmps args.length,round:=none } [.code c] (argsL args 0 []) [] none h (Ends T F.results.toList P)):Gives T f args h P:=(body_j hF hb g).gives hsm
theorem call_jl {f:FuncId}{args:List AV}{F:Func}{c:Code}{Q:Res→Prop}(hsm:T.sm f args h=none) (hF:T.fn f=some F) (hb:F.body=some c)
  (g:GJ T { fn:=f,nt:=Nat.max F.ntmps args.length,round:=none } [.code c] (argsL args 0 []) [] none h (EndsL T f Q)):Wp T (.call f args h) Q:=(body_jl hF hb g).wp hsm
structure EJ where
 o:Oper
 m:Nat
 kd:Kd
 want:Bool
 L:List (Nat×AV)
 h0:Heap
 v:AV
 h1:Heap
def EJ.ent (e:EJ) (tm:Tr AV):Ent:=⟨e.o,e.m,e.kd,e.want,tm,e.h0,e.v,e.h1⟩
inductive Ents:List EJ→List Ent→Prop
 |nil:Ents [] []
 |cons {e:EJ} {tm:Tr AV} {es:List EJ} {xs:List Ent} (hs:Sees tm e.L) (t:Ents es xs):Ents (e::es) (e.ent tm::xs)
theorem Ents.snoc {e:EJ}{tm:Tr AV}(hs:Sees tm e.L):∀ {es:List EJ}{xs:List Ent},Ents es xs→Ents (es++[e]) (xs++[e.ent tm])
 |_,_,.nil=>.cons hs .nil
 |_,_,.cons a t=>.cons a (t.snoc hs)
theorem Ents.rev:∀ {es:List EJ}{xs:List Ent},Ents es xs→Ents es.reverse xs.reverse
 |_,_,.nil=>.nil
 |_,_,.cons hs t=>by rw[List.reverse_cons,List.reverse_cons]; exact t.rev.snoc hs
def MsJ (ms:List Nat):List EJ→Nat→Prop
 |[],_=>True
 |e::l,k=>e.m=(nth ms k).getD 0∧MsJ ms l (k+1)
def pairJ (m j:Nat) (a b:EJ):Option (List (EJ×Heap)):=match tb m j with
 |true=>some []
 |false=>match sameDst a.o b.o with
  |true=>none
  |false=>match isAct a.kd,isAct b.kd with
   |true,true=>none
   |true,false=>some (match isRead b.kd&&b.want with
    |true=>[(b,a.h0)]
    |false=>[])
   |false,true=>some (match isRead a.kd&&a.want with
    |true=>[(a,b.h1)]
    |false=>[])
   |false,false=>some []
def pairsJ (ms:List Nat) (j:Nat) (a:EJ):List EJ→Nat→Option (List (EJ×Heap))
 |[],_=>some []
 |b::l,k=>match pairJ ((nth ms k).getD 0) j a b,pairsJ ms j a l (k+1) with
  |some x,some y=>some (x++y)
  |_,_=>none
def todoJ (ms:List Nat):List EJ→Nat→Option (List (EJ×Heap))
 |[],_=>some []
 |a::l,j=>match pairsJ ms j a l (j+1),todoJ ms l (j+1) with
  |some x,some y=>some (x++y)
  |_,_=>none
def AllJ (T:Tabs):List (EJ×Heap)→Prop
 |[]=>True
 |p::l=>(∃ h',opA T (envL p.1.L) p.1.o p.2=.val p.1.v h')∧AllJ T l
theorem AllJ.append {a b:List (EJ×Heap)}(h:AllJ T (a++b)):AllJ T a∧AllJ T b:=by
 induction a with
 |nil=>exact⟨trivial,h⟩
 |cons x a ih=>exact⟨⟨h.1,(ih h.2).1⟩,(ih h.2).2⟩
theorem AllSame.app {a b:List (Ent×Heap)}(x:AllSame T a) (y:AllSame T b):AllSame T (a++b):=by
 induction a with
 |nil=>exact y
 |cons p a ih=>exact⟨x.1,ih x.2⟩
theorem MsJ.ok {ms:List Nat}:∀ {es:List EJ}{xs:List Ent}{j:Nat},Ents es xs→MsJ ms es j→MsOk ms xs j
 |_,_,_,.nil,_=>trivial
 |_,_,_,.cons _ t,h=>⟨h.1,h.2.ok t⟩
theorem pairJ_ok {m j:Nat}{a b:EJ}{ta tb':Tr AV}(ha:Sees ta a.L) (hb:Sees tb' b.L){l:List (EJ×Heap)}(e:pairJ m j a b=some l) (k:AllJ T l):∃ l',todoPair m j (a.ent ta) (b.ent tb')=some l'∧AllSame T l':=by
 unfold pairJ at e
 unfold todoPair
 split at e<;>rename_i ht<;>rw[ht]
 ·exact⟨[],rfl,trivial⟩
 ·split at e<;>rename_i hd
  ·cases e
  ·have hd':sameDst (a.ent ta).o (b.ent tb').o=false:=hd
   rw[hd']
   cases q1:isAct a.kd<;>cases q2:isAct b.kd<;>rw[q1,q2] at e<;>simp only[Option.some.injEq] at e
   all_goals
    have q1':isAct (a.ent ta).kd=_:=q1
    have q2':isAct (b.ent tb').kd=_:=q2
    rw[q1',q2']
   ·exact⟨[],rfl,trivial⟩
   ·cases q3:isRead a.kd&&a.want with
    |false=>have q3':(isRead (a.ent ta).kd&&(a.ent ta).want)=_:=q3; exact⟨_,rfl,by simp only[q3']; trivial⟩
    |true =>
     have q3':(isRead (a.ent ta).kd&&(a.ent ta).want)=_:=q3
     rw[q3] at e; subst e
     obtain⟨⟨h',k1⟩,_⟩:=k
     exact⟨_,rfl,by simp only[q3']; exact⟨again_of (e:=a.ent ta) ha k1,trivial⟩⟩
   ·cases q3:isRead b.kd&&b.want with
    |false=>have q3':(isRead (b.ent tb').kd&&(b.ent tb').want)=_:=q3; exact⟨_,rfl,by simp only[q3']; trivial⟩
    |true =>
     have q3':(isRead (b.ent tb').kd&&(b.ent tb').want)=_:=q3
     rw[q3] at e; subst e
     obtain⟨⟨h',k1⟩,_⟩:=k
     exact⟨_,rfl,by simp only[q3']; exact⟨again_of (e:=b.ent tb') hb k1,trivial⟩⟩
   ·cases e
theorem pairsJ_ok {ms:List Nat}{j:Nat}{a:EJ}{ta:Tr AV}(ha:Sees ta a.L):∀ {es:List EJ}{xs:List Ent}{i:Nat}{l:List (EJ×Heap)},Ents es xs→pairsJ ms j a es i=some l→AllJ T l→∃ l',todoPairs ms j (a.ent ta) xs i=some l'∧AllSame T l'
 |_,_,_,_,.nil,_,_=>⟨[],rfl,trivial⟩
 |_,_,i,l,.cons hb t,e,k=>by
  unfold pairsJ at e
  split at e
  ·rename_i x y hx hy
   cases e
   obtain⟨k1,k2⟩:=k.append
   obtain⟨x',p1,p2⟩:=pairJ_ok ha hb hx k1
   obtain⟨y',r1,r2⟩:=pairsJ_ok ha t hy k2
   exact⟨x'++y',by unfold todoPairs; rw[p1,r1],p2.app r2⟩
  ·cases e
theorem todoJ_ok {ms:List Nat}:∀ {es:List EJ}{xs:List Ent}{j:Nat}{l:List (EJ×Heap)},Ents es xs→todoJ ms es j=some l→AllJ T l→∃ l',todo ms xs j=some l'∧AllSame T l'
 |_,_,_,_,.nil,_,_=>⟨[],rfl,trivial⟩
 |_,_,j,l,.cons hb t,e,k=>by
  unfold todoJ at e
  split at e
  ·rename_i x y hx hy
   cases e
   obtain⟨k1,k2⟩:=k.append
   obtain⟨x',p1,p2⟩:=pairsJ_ok hb t hx k1
   obtain⟨y',r1,r2⟩:=todoJ_ok t hy k2
   exact⟨x'++y',by unfold todo; rw[p1,r1],p2.app r2⟩
  ·cases e
variable {nt:Nat}{ms:List Nat}{N m:Nat}{mr:List Nat}{n:Nat}{acc:List EJ}{sl:List Tmp}{hl:List (List Tmp)}
structure DJ (T:Tabs) (cx:Cx) (k:List K) (df:List ADef) (pan:Option (AV×Bool)) (Q:Res→Prop) (all:List Oper) (ms:List Nat) (N:Nat) (rest:List Oper) (mr:List Nat) (hl:List (List Tmp)) (i:Nat) (L:List (Nat×AV)) (h:Heap) (acc:List EJ):Prop where
 out:∀ tm xs,Sees tm L→Ents acc xs→DI T cx.nt all ms N rest mr hl i tm h xs (fun tm' h'=>GI T cx k ⟨tm',df,pan,h'⟩ Q)
theorem DJ.sub (g:DJ T cx k df pan Q all ms N rest mr hl n L' h acc) (s:Sub L' L):DJ T cx k df pan Q all ms N rest mr hl n L h acc:=⟨fun tm xs hs ha=>g.out tm xs (hs.sub s) ha⟩
theorem jg_drawn {r q:Nat}{ops:Array Oper}(hk:h.ok) (hq:ops.toList.length=q) (hm:masks ops.toList=ms) (hh:hidsAux ops.toList ms ops.toList ms 0=hl) (he:edgesAll ops.toList 0=true)
  (g:DJ T cx k df pan Q ops.toList ms h.next ops.toList ms hl 0 L (Heap.mk h.t (h.next+q)) []):GJ T cx (.code (.region r ops true)::k) L df pan h Q:=by
 subst hq
 exact⟨fun tm hs=>w_drawn hm hh he hk (g.out tm [] hs .nil)⟩
theorem jd_nil {l:List (EJ×Heap)}(hm:MsJ ms acc.reverse 0) (hl':todoJ ms acc.reverse 0=some l) (hk:AllJ T l) (g:GJ T cx k L df pan h Q):DJ T cx k df pan Q all ms N [] mr hl n L h acc :=
 ⟨fun tm xs hs ha=>by
  obtain⟨l',p1,p2⟩:=todoJ_ok ha.rev hl' hk
  exact d_nil (hm.ok ha.rev) p1 p2 (g.out tm hs)⟩
theorem jd_no (hw:wantedL all (hide L sl) o=some false) (hd:o.dst=some d) (hn:Nat.blt d cx.nt=true)
  (c:DJ T cx k df pan Q all ms N rest mr hl (n+1) ((d,undefA)::L) h (⟨o,m,.pure,false,hide L sl,h,undefA,h⟩::acc)):DJ T cx k df pan Q all ms N (o::rest) (m::mr) (sl::hl) n L h acc :=
 ⟨fun tm xs hs ha=>d_no hs hw hd hn fun tmr tm' a b=>c.out tm' _ b (.cons (e:=⟨o,m,.pure,false,hide L sl,h,undefA,h⟩) a ha)⟩
theorem jd_val (hw:wantedL all (hide L sl) o=some true) (hd:o.dst=some d) (hn:Nat.blt d cx.nt=true) (hk:quietKd (kindOf T o.op)=true) (ho:opA T (envL (hide L sl)) o h=.val v h')
  (c:DJ T cx k df pan Q all ms N rest mr hl (n+1) ((d,v)::L) h (⟨o,m,.read,true,hide L sl,h,v,h⟩::acc)):DJ T cx k df pan Q all ms N (o::rest) (m::mr) (sl::hl) n L h acc :=
 ⟨fun tm xs hs ha=>d_val hs hw hd hn hk ho fun tmr tm' a b=>c.out tm' _ b (.cons (e:=⟨o,m,.read,true,hide L sl,h,v,h⟩) a ha)⟩
theorem jd_alloc {a:AObj}(hk:kindOf T o.op=.alloc) (hw:wantedL all (hide L sl) o=some true) (hd:o.dst=some d) (hn:Nat.blt d cx.nt=true) (ho:newOf T (envL (hide L sl)) o (N+n)=some (v,a))
  (c:DJ T cx k df pan Q all ms N rest mr hl (n+1) ((d,v)::L) (h.set (N+n) a) (⟨o,m,.alloc,true,hide L sl,h,v,h.set (N+n) a⟩::acc)):DJ T cx k df pan Q all ms N (o::rest) (m::mr) (sl::hl) n L h acc :=
 ⟨fun tm xs hs ha=>d_alloc hk hs hw hd hn ho fun tmr tm' a' b=>c.out tm' _ b (.cons (e:=⟨o,m,.alloc,true,hide L sl,h,v,h.set (N+n) a⟩) a' ha)⟩
theorem jd_act (hk:kindOf T o.op=.act) (hw:wantedL all (hide L sl) o=some true) (hd:o.dst=some d) (hn:Nat.blt d cx.nt=true) (ho:opA T (envL (hide L sl)) o h=.val v h')
  (c:DJ T cx k df pan Q all ms N rest mr hl (n+1) ((d,v)::L) h' (⟨o,m,.act,true,hide L sl,h,v,h'⟩::acc)):DJ T cx k df pan Q all ms N (o::rest) (m::mr) (sl::hl) n L h acc :=
 ⟨fun tm xs hs ha=>d_act hs hw hd hn hk ho fun tmr tm' a b=>c.out tm' _ b (.cons (e:=⟨o,m,.act,true,hide L sl,h,v,h'⟩) a ha)⟩
theorem jd_skip (hk:kindOf T o.op=.act) (hw:wantedL all (hide L sl) o=some true) (hd:o.dst=none) (ho:opA T (envL (hide L sl)) o h=.skip h')
  (c:DJ T cx k df pan Q all ms N rest mr hl (n+1) L h' (⟨o,m,.act,true,hide L sl,h,undefA,h'⟩::acc)):DJ T cx k df pan Q all ms N (o::rest) (m::mr) (sl::hl) n L h acc :=
 ⟨fun tm xs hs ha=>d_skip hs hw hd hk ho fun tmr a=>c.out tm _ hs (.cons (e:=⟨o,m,.act,true,hide L sl,h,undefA,h'⟩) a ha)⟩
theorem jd_call {f:FuncId}{args:List AV}{P:AV→Heap→Prop}(g:Gives T f args h' P) (hT:T.alts=false) (hk:kindOf T o.op=.act) (hw:wantedL all (hide L sl) o=some true) (hd:o.dst=some d) (hn:Nat.blt d cx.nt=true)
  (ho:opA T (envL (hide L sl)) o h=.enter f args h')
  (c:∀ v h2,P v h2→DJ T cx k df pan Q all ms N rest mr hl (n+1) ((d,v)::L) h2 (⟨o,m,.act,true,hide L sl,h,v,h2⟩::acc)):DJ T cx k df pan Q all ms N (o::rest) (m::mr) (sl::hl) n L h acc :=
 ⟨fun tm xs hs ha=>d_call hs hw hd hn hk ho (g.one hT) fun v h2 p tmr tm' a b=>(c v h2 p).out tm' _ b (.cons (e:=⟨o,m,.act,true,hide L sl,h,v,h2⟩) a ha)⟩
theorem jd_w {f:FuncId}{args:List AV}(hw':T.sm f args h'=some (v,h2)) (hT:T.sm=T.sm) (hk:kindOf T o.op=.act) (hw:wantedL all (hide L sl) o=some true) (hd:o.dst=some d) (hn:Nat.blt d cx.nt=true)
  (ho:opA T (envL (hide L sl)) o h=.enter f args h')
  (c:DJ T cx k df pan Q all ms N rest mr hl (n+1) ((d,v)::L) h2 (⟨o,m,.act,true,hide L sl,h,v,h2⟩::acc)):DJ T cx k df pan Q all ms N (o::rest) (m::mr) (sl::hl) n L h acc :=
 ⟨fun tm xs hs ha=>d_call (P:=fun u g=>u=v∧g=h2) hs hw hd hn hk ho ⟨v,h2,.now fun _=>by simp only[step,hw'],rfl,rfl⟩ fun v' h3 p tmr tm' a b=>(show DJ T cx k df pan Q all ms N rest mr hl (n+1) ((d,v')::L) h3 (⟨o,m,.act,true,hide L sl,h,v',h3⟩::acc) by obtain⟨e1,e2⟩:=p; subst e1 e2; exact c).out tm' _ b (.cons (e:=⟨o,m,.act,true,hide L sl,h,v',h3⟩) a ha)⟩
theorem jd_g {g:Nat×Bool}(_:o.guard=some g) (x:DJ T cx k df pan Q all ms N (o::rest) mr hl n L h acc):DJ T cx k df pan Q all ms N (o::rest) mr hl n L h acc:=x
theorem jd_want (_:wantedL all L o=some true) (x:DJ T cx k df pan Q all ms N (o::rest) mr hl n L h acc):DJ T cx k df pan Q all ms N (o::rest) mr hl n L h acc:=x
theorem jd_c (_:isCallO o.op=true) (x:DJ T cx k df pan Q all ms N (o::rest) mr hl n L h acc):DJ T cx k df pan Q all ms N (o::rest) mr hl n L h acc:=x
theorem jd_wf {f:FuncId}{args:List AV}(hw':T.sm f args h'=some (v,h2)) (_:Nat.beq (opFn o.op) (f+1)=true) (hT:T.sm=T.sm) (hk:kindOf T o.op=.act) (hw:wantedL all (hide L sl) o=some true) (hd:o.dst=some d) (hn:Nat.blt d cx.nt=true)
  (ho:opA T (envL (hide L sl)) o h=.enter f args h')
  (c:DJ T cx k df pan Q all ms N rest mr hl (n+1) ((d,v)::L) h2 (⟨o,m,.act,true,hide L sl,h,v,h2⟩::acc)):DJ T cx k df pan Q all ms N (o::rest) (m::mr) (sl::hl) n L h acc:=jd_w hw' hT hk hw hd hn ho c
theorem jd_bool {j:Nat}{w:Bool}{c:Bool}(hg:o.guard=some (j,w)) (hd:dstOf all j=some d) (hl':look L d=some (.bool c)) (ht:c=true→DJ T cx k df pan Q all ms N (o::rest) mr hl n ((d,.bool true)::L) h acc) (hf:c=false→DJ T cx k df pan Q all ms N (o::rest) mr hl n ((d,.bool false)::L) h acc):DJ T cx k df pan Q all ms N (o::rest) mr hl n L h acc:=by
 cases c with
 |true=>exact(ht rfl).sub (sub_self hl')
 |false=>exact(hf rfl).sub (sub_self hl')
theorem jd_dec {j:Nat}{w:Bool}{c:Prop} [Decidable c] (hg:o.guard=some (j,w)) (hd:dstOf all j=some d) (hl':look L d=some (.bool (decide c))) (ht:c→DJ T cx k df pan Q all ms N (o::rest) mr hl n ((d,.bool true)::L) h acc) (hf:¬ c→DJ T cx k df pan Q all ms N (o::rest) mr hl n ((d,.bool false)::L) h acc):DJ T cx k df pan Q all ms N (o::rest) mr hl n L h acc :=
 jd_bool hg hd hl' (fun e=>ht (of_decide_eq_true e)) (fun e=>hf (of_decide_eq_false e))
theorem jd_dect {j:Nat}{w:Bool}{c:Prop} [Decidable c] (hg:o.guard=some (j,w)) (hd:dstOf all j=some d) (hl':look L d=some (.bool (decide c))) (hc:c) (g:DJ T cx k df pan Q all ms N (o::rest) mr hl n ((d,.bool true)::L) h acc):DJ T cx k df pan Q all ms N (o::rest) mr hl n L h acc :=
 g.sub (sub_self (by rw[hl',decide_eq_true hc]))
theorem jd_decf {j:Nat}{w:Bool}{c:Prop} [Decidable c] (hg:o.guard=some (j,w)) (hd:dstOf all j=some d) (hl':look L d=some (.bool (decide c))) (hc:¬ c) (g:DJ T cx k df pan Q all ms N (o::rest) mr hl n ((d,.bool false)::L) h acc):DJ T cx k df pan Q all ms N (o::rest) mr hl n L h acc :=
 g.sub (sub_self (by rw[hl',decide_eq_false hc]))
theorem jd_decn {j:Nat}{w:Bool}{c:Prop} [Decidable c] (hg:o.guard=some (j,w)) (hd:dstOf all j=some d) (hl':look L d=some (.bool (decide (¬ c)))) (hc:c) (g:DJ T cx k df pan Q all ms N (o::rest) mr hl n ((d,.bool false)::L) h acc):DJ T cx k df pan Q all ms N (o::rest) mr hl n L h acc :=
 g.sub (sub_self (by rw[hl',decide_eq_false (fun n=>n hc)]))
end Ev
end
