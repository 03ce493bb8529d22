/- A part of the proof that what the evaluator (EvDefs) says of a call is what the machine does: EvRun2. Conditions: those that each theorem states. -/
import Derived.Test.YtnaihoegbmpjiaaGreatEvRun1
set_option linter.unusedVariables false
set_option linter.unusedSimpArgs false
namespace Ev
open Go Go.RowKit

variable {P : Program} {T : Tabs} {base : Nat} {w0 : World}

/-! ### code -/
theorem CodeOK.fin_normal {m m' : Machine} {X : Cxt} {cx : Cx} {k : List Item} {E : En} {h : Heap} {w : World} {s : St} {x : Item}
    (H : CodeOK P base w0 m X cx (x :: k) E h w (.fin .normal s)) : ∃ E' a' u' w', SRel base w0 E' X cx s a' u' w' ∧ Ste E h w E' s.h w' ∧ Steps P m (lone (X.b.atR a' (x :: k)) (X.cs u') w') := H

theorem exitTo_seq (c : Code) (k : List Item) (id : Nat) : exitTo id (.code c :: k) = exitTo id k := by simp [exitTo]
theorem exitTo_loop (c : Code) (k : List Item) (id : Nat) : exitTo id (.inLoop c :: k) = exitTo id k := by simp [exitTo]
theorem exitTo_scope (c : Code) (k : List Item) (id : Nat) : exitTo id (.inScope c :: k) = exitTo id k := by simp [exitTo]

theorem stepR_scope {b : Frame} {a : Act} {k : List Item} {cs : List Frame} {w : World} {c : Code} :
    Go.step P (lone (b.atR a (.code (.scope c) :: k)) cs w) = .next (lone (b.atR a (.code c :: .inScope c :: k)) cs w) :=
  step_lone_go (by simp [stepG, stepG.exec, Frame.atR])
theorem stepR_inScope {b : Frame} {a : Act} {k : List Item} {cs : List Frame} {w : World} {c : Code} :
    Go.step P (lone (b.atR a (.inScope c :: k)) cs w) = .next (lone (b.atR a k) cs w) :=
  step_lone_go (by simp [stepG, stepG.exec, Frame.atR])

def LoopOK (P : Program) (base : Nat) (w0 : World) (E : En) (h : Heap) (w : World) (X : Cxt) (cx : Cx) (a : Act) (ps : Array Tmp) (as bd : Code) (tm : Tr AV) : Option (Nat × Heap × List ADef) → Prop
  | none => True
  | some (d, h1, mark) => ∃ E1 w1 mark', (Instr.enterLoop X.b.fn a.tmps ps as bd X.b.roundOf).run P w = .ok (E1.blk h1.next, mark') w1 ∧ DRs E1 mark mark' ∧ E1.dom h1.next ∧
      HR base w0 E1 (h1.alloc (.loop .ready none cx.fn tm cx.nt ps.toList as bd d)) w1 ∧ Ste E h w E1 (h1.alloc (.loop .ready none cx.fn tm cx.nt ps.toList as bd d)) w1

theorem loop_sound {E : En} {X : Cxt} {cx : Cx} {s : St} {a : Act} {u : FrameMode} {w : World} (hX : CxR E X cx) (S : SRel base w0 E X cx s a u w) (ps : Array Tmp) (as bd : Code) :
    LoopOK P base w0 E s.h w X cx a ps as bd s.tm (startLoop cx s.h) := by
  have mk : ∀ (E0 : En) (h0 : Heap) (w1 : World) (d : Nat), HR base w0 E0 h0 w1 → Ste E s.h w E0 h0 w1 → E0.dom d →
      ∃ E1, E1.blk h0.next = w1.heap.size ∧ E1.dom h0.next ∧ E0.Le E1 ∧
        HR base w0 E1 (h0.alloc (.loop .ready none cx.fn s.tm cx.nt ps.toList as bd d)) (w1.alloc (.loop { state := .ready, pending := none, fn := X.b.fn, tmps := a.tmps, params := ps, assign := as, body := bd, defers := E0.blk d })) ∧
        Ste E s.h w E1 (h0.alloc (.loop .ready none cx.fn s.tm cx.nt ps.toList as bd d)) (w1.alloc (.loop { state := .ready, pending := none, fn := X.b.fn, tmps := a.tmps, params := ps, assign := as, body := bd, defers := E0.blk d })) := by
    intro E0 h0 w1 d H0 S0 hd
    have hnd : ¬ E0.dom h0.next := fun hd => by have := H0.dlt _ hd; omega
    have le := E0.push_le h0.next w1.heap.size 0 0 hnd
    have K := new_obj H0 (.loop .ready none cx.fn s.tm cx.nt ps.toList as bd d) (.loop { state := .ready, pending := none, fn := X.b.fn, tmps := a.tmps, params := ps, assign := as, body := bd, defers := E0.blk d }) 0 (by
      refine ⟨by simpa [En.push] using H0.bsz, .inr hd, a.tmps, ?_, S.sz, (S.tm.mono S0.le).mono le⟩
      have hb : (E0.push h0.next w1.heap.size 0 0).blk d = E0.blk d := le.blk d hd
      rw [hb, ← hX.fn]
      simp only [En.push, if_true]
      exact heap_alloc_new)
    exact ⟨E0.push h0.next w1.heap.size 0 0, by simp [En.push], .inl rfl, le, K.1, S0.trans K.2⟩
  unfold startLoop
  cases hr : cx.round with
  | some l =>
    simp only
    split
    · rename_i st pend fn tm nt ps' as' bd' d hg
      have hl := hX.rd l hr
      obtain ⟨hb, hd, tmps, t1, t2, t3⟩ := S.hr.obj l _ hl hg
      obtain ⟨E1, e1, e2, e3, e4, e5⟩ := mk E s.h w d S.hr (.refl E s.h w) hd
      refine ⟨E1, _, [], ?_, .nil, e2, e4, e5⟩
      have hro : X.b.roundOf = some (E.blk l) := by rw [hX.ro, hr]; rfl
      rw [hro, e1]
      unfold Instr.enterLoop
      simp [run_getLoop t1]
    · trivial
  | none =>
    simp only
    have hnd : ¬ E.dom s.h.next := fun hd => by have := S.hr.dlt _ hd; omega
    have K := new_obj S.hr (.dfr (some [])) (.deferred (some [])) 0 (by
      refine ⟨by simpa [En.push] using S.hr.bsz, some [], ?_, [], rfl, .nil⟩
      simp only [En.push, if_true]
      exact heap_alloc_new)
    have hblk : (E.push s.h.next w.heap.size 0 0).blk s.h.next = w.heap.size := by simp [En.push]
    obtain ⟨E1, e1, e2, e3, e4, e5⟩ := mk _ _ _ s.h.next K.1 K.2 (.inl rfl)
    rw [hblk] at e4 e5
    refine ⟨E1, _, [{ target := .collected w.heap.size, args := #[] }], ?_, ?_, e2, e4, e5⟩
    · have hro : X.b.roundOf = none := by rw [hX.ro, hr]; rfl
      rw [hro, e1]
      have := run_enterLoop_outer (P := P) (w := w) X.b.fn a.tmps ps as bd
      simpa using this
    · have hb : E1.blk s.h.next = w.heap.size := by rw [e3.blk _ (.inl rfl), hblk]
      have := DR.collected (E := E1) s.h.next (e3.dom _ (.inl rfl))
      rw [hb] at this
      exact .cons _ _ _ _ this .nil

theorem CallOK.elim_ret {m : Machine} {f : FuncId} {c : Frame} {cs : List Frame} {E : En} {h : Heap} {w : World} {v : AV} {h' : Heap} (H : CallOK P base w0 m f (c :: cs) E h w (.ret v h')) :
    ∃ E' w' v', HR base w0 E' h' w' ∧ Ste E h w E' h' w' ∧ VR E' v v' ∧ Steps P m (lone (c.finish v') cs w') := by
  obtain ⟨E', w', v', fr, p1, p2, p3, p4, p5, p6⟩ := H
  exact ⟨E', w', v', p1, p2, p3, p4.trans (.one (step_leave_returned p6))⟩
theorem CallOK.elim_thrown {m : Machine} {f : FuncId} {c : Frame} {cs : List Frame} {E : En} {h : Heap} {w : World} {v : AV} {h' : Heap} (H : CallOK P base w0 m f (c :: cs) E h w (.thrown v h')) :
    ∃ E' w' v', HR base w0 E' h' w' ∧ Ste E h w E' h' w' ∧ VR E' v v' ∧ Steps P m (lone (c.raise [{ v := v', recovered := false }]) cs w') := by
  obtain ⟨E', w', v', fr, p1, p2, p3, p4, p5, p6⟩ := H
  exact ⟨E', w', v', p1, p2, p3, p4.trans (.one (step_leave_panicked p6))⟩

/-- what a region that draws its order does -/
def DrawnOK (P : Program) (T : Tabs) (base : Nat) (w0 : World) (rec : Task → Res) : Prop :=
  ∀ (cx : Cx) (ops : Array Oper) (s : St) (t : Nat) (E : En) (X : Cxt) (a : Act) (u : FrameMode) (w : World) (k : List Item), CxR E X cx → SRel base w0 E X cx s a u w →
    CodeOK P base w0 (lone (X.b.atR a (.inRegion ops (Region.schedule (P.follows .mixedOrders) ops t) :: k)) (X.cs u) w) X cx k E s.h w (drawn T rec cx ops.toList s)

theorem drawn_leaf (rec : Task → Res) (cx : Cx) (all : List Oper) (s : St) : Lf (drawn T rec cx all s) (drawn T rec cx all s) := by
  unfold drawn
  simp only
  split
  · rfl
  · split
    · rfl
    · split <;> rfl
    · split <;> rfl
theorem ex_steps {m m' : Machine} {X : Cxt} {cx : Cx} {k : List Item} {E E1 : En} {h h1 : Heap} {w w1 : World} {r : Res} (hs : Steps P m m') (st : Ste E h w E1 h1 w1)
    (H : ∃ q, Lf r q ∧ CodeOK P base w0 m' X cx k E1 h1 w1 q) : ∃ q, Lf r q ∧ CodeOK P base w0 m X cx k E h w q := by
  obtain ⟨q, hl, H⟩ := H
  exact ⟨q, hl, CodeOK.of_steps hs st H⟩
theorem ex_leaf {r : Res} {C : Res → Prop} (hl : Lf r r) (h : C r) : ∃ q, Lf r q ∧ C q := ⟨r, hl, h⟩
theorem code_sound (ok : TabsOK P T) (rec : Task → Res) (ih : ∀ t, TaskOK P base w0 t (rec t)) (hdr : DrawnOK P T base w0 rec) (cx : Cx) (c : Code) (s : St) :
    TaskOK P base w0 (.code cx c s) (step T rec (.code cx c s)) := by
  intro E X a u w k it hit hX S
  have hit' : (∀ b, c ≠ .loop b) → it = .code c := fun h => hit.elim id fun ⟨b, e, _⟩ => absurd e (h b)
  simp only [Ev.step]
  cases c with
  | skip => cases hit' (by simp); exact ⟨_, rfl, E, a, u, w, S, .refl _ _ _, .one stepR_skip⟩
  | label l => cases hit' (by simp); exact ⟨_, rfl, E, a, u, w, S, .refl _ _ _, .one stepR_label⟩
  | region id ops draw =>
    cases hit' (by simp)
    cases draw with
    | false =>
      have := ih (.ops cx ops.toList ops.toList s) E X a u w k ops 0 rfl (by simp) hX S
      exact ex_steps (.one stepR_region) (.refl _ _ _) (by simpa using this)
    | true =>
      have S' : SRel base w0 E X cx s a u { w with drawn := w.drawn + 1 } := ⟨S.sz, S.tm, S.df, S.pan, S.hr.heap rfl rfl rfl rfl (by simp)⟩
      have := hdr cx ops s (w.tape w.drawn (.order X.b.fn id)) E X a u _ k hX S'
      exact ex_steps (.one stepR_region_draw) (ste_drew E s.h w) (ex_leaf (drawn_leaf ..) this)
  | seq x y =>
    cases hit' (by simp)
    obtain ⟨r1, m1, h1⟩ := ih (.code cx x s) E X a u w (.code y :: k) _ (.inl rfl) hX S
    refine Lf.bind m1 ?_
    split
    · rename_i s'
      obtain ⟨E', a', u', w', p1, p2, p3⟩ := h1
      have h2 := ih (.code cx y s') E' X a' u' w' k _ (.inl rfl) (hX.mono p2.le) p1
      exact ex_steps (.head stepR_seq p3) p2 h2
    · rename_i hne
      exact ex_leaf m1.self (CodeOK.of_steps (.one stepR_seq) (.refl _ _ _) (CodeOK.pass (exitTo_seq y k) hne h1))
  | cond x p q =>
    cases hit' (by simp)
    simp only
    split
    · rename_i hc
      have h1 := rho_of S.tm x _ hc
      generalize hx : a.eval x = xv at h1
      cases h1
      have h2 := ih (.code cx p s) E X a u w k _ (.inl rfl) hX S
      have hs := stepR_cond (P := P) (b := X.b) (a := a) (k := k) (cs := X.cs u) (w := w) (c := x) (x := p) (y := q) (t := true) hx
      exact ex_steps (.one hs) (.refl _ _ _) h2
    · rename_i hc
      have h1 := rho_of S.tm x _ hc
      generalize hx : a.eval x = xv at h1
      cases h1
      have h2 := ih (.code cx q s) E X a u w k _ (.inl rfl) hX S
      have hs := stepR_cond (P := P) (b := X.b) (a := a) (k := k) (cs := X.cs u) (w := w) (c := x) (x := p) (y := q) (t := false) hx
      exact ex_steps (.one hs) (.refl _ _ _) h2
    · exact ⟨_, rfl, trivial⟩
  | block id b =>
    cases hit' (by simp)
    obtain ⟨r1, m1, h1⟩ := ih (.code cx b s) E X a u w (.inBlock id :: k) _ (.inl rfl) hX S
    have pass : ∀ id', id' ≠ id → exitTo id' (.inBlock id :: k) = exitTo id' k := fun id' hne => by
      have : (id == id') = false := by simp; exact fun h => hne h.symm
      simp [exitTo, this]
    refine Lf.bind m1 ?_
    split
    · rename_i id' s'
      obtain ⟨E', a', u', w', p1, p2, k1, p3, p4⟩ := h1
      by_cases hid : id' = id
      · subst hid
        simp only [if_true]
        refine ⟨_, rfl, E', a', u', w', p1, p2, .head stepR_block (p3.trans (.one (stepR_exit ?_)))⟩
        rw [p4]; simp [exitTo]
      · simp only [hid, if_false]
        exact ⟨_, rfl, E', a', u', w', p1, p2, k1, .head stepR_block p3, p4.trans (pass id' hid)⟩
    · rename_i hne
      refine ex_leaf m1.self ?_
      cases r1 with
      | fin e s' =>
        obtain ⟨E', a', u', w', p1, p2, p3⟩ := h1
        refine ⟨E', a', u', w', p1, p2, ?_⟩
        cases e with
        | normal => exact (Steps.head stepR_block p3).trans (.one stepR_inBlock)
        | exit id' => exact absurd rfl (hne id' s')
        | ret => obtain ⟨k1, p3⟩ := p3; exact ⟨k1, .head stepR_block p3⟩
        | goto l => exact p3
      | pan v s' =>
        obtain ⟨E', a', u', w', v', todo, p1, p2, p3, p4⟩ := h1
        exact ⟨E', a', u', w', v', todo, p1, p2, p3, .head stepR_block p4⟩
      | no => trivial
      | _ => exact h1
  | loop b =>
    obtain ⟨r1, m1, h1⟩ := ih (.code cx b s) E X a u w (.inLoop b :: k) _ (.inl rfl) hX S
    have hst : Steps P (lone (X.b.atR a (it :: k)) (X.cs u) w) (lone (X.b.atR a (.code b :: .inLoop b :: k)) (X.cs u) w) := by
      rcases hit with rfl | ⟨b', e, rfl⟩
      · exact .one stepR_loop
      · cases e; exact .one stepR_inLoop
    refine Lf.bind m1 ?_
    split
    · rename_i s'
      obtain ⟨E', a', u', w', p1, p2, p3⟩ := h1
      have h2 := ih (.code cx (.loop b) s') E' X a' u' w' k _ (.inr ⟨b, rfl, rfl⟩) (hX.mono p2.le) p1
      exact ex_steps (hst.trans p3) p2 h2
    · rename_i hne
      exact ex_leaf m1.self (CodeOK.of_steps hst (.refl _ _ _) (CodeOK.pass (exitTo_loop b k) hne h1))
  | exit id => cases hit' (by simp); exact ⟨_, rfl, E, a, u, w, S, .refl _ _ _, k, .refl _ _, rfl⟩
  | goto l => exact ⟨_, rfl, trivial⟩
  | ret => cases hit' (by simp); exact ⟨_, rfl, E, a, u, w, S, .refl _ _ _, k, .refl _ _⟩
  | scope b =>
    cases hit' (by simp)
    obtain ⟨r1, m1, h1⟩ := ih (.code cx b s) E X a u w (.inScope b :: k) _ (.inl rfl) hX S
    refine Lf.bind m1 ?_
    split
    · rename_i l s'
      obtain ⟨E', a', u', w', p1, p2, p3⟩ := h1
      exact p3.elim
    · rename_i hne
      refine ex_leaf m1.self ?_
      cases r1 with
      | fin e s' =>
        obtain ⟨E', a', u', w', p1, p2, p3⟩ := h1
        refine ⟨E', a', u', w', p1, p2, ?_⟩
        cases e with
        | normal => exact (Steps.head stepR_scope p3).trans (.one stepR_inScope)
        | exit id' => obtain ⟨k1, p3, p4⟩ := p3; exact ⟨k1, .head stepR_scope p3, p4.trans (exitTo_scope b k id')⟩
        | ret => obtain ⟨k1, p3⟩ := p3; exact ⟨k1, .head stepR_scope p3⟩
        | goto l => exact p3
      | pan v s' =>
        obtain ⟨E', a', u', w', v', todo, p1, p2, p3, p4⟩ := h1
        exact ⟨E', a', u', w', v', todo, p1, p2, p3, .head stepR_scope p4⟩
      | no => trivial
      | _ => exact h1
  | rangeFunc f ps as bd =>
    cases hit' (by simp)
    simp only
    split
    · rename_i fn first cap hf
      have hl := loop_sound (P := P) hX S ps as bd
      split
      · exact ⟨_, rfl, trivial⟩
      · rename_i dfs h1 mark hsl
        rw [hsl] at hl
        obtain ⟨E1, w1, mark', e1, e2, e3, e4, e5⟩ := hl
        have hv := (rho_of S.tm f _ hf).mono e5.le
        generalize hff : a.eval f = fv at hv
        cases hv with | func _ f' hfr _ _ l' m' hl' hm' =>
        have hy : VRs E1 [AV.func (.yield h1.next) [] []] [Value.func (.yield (E1.blk h1.next)) #[] #[]] :=
          .cons _ _ _ _ (.func _ _ (.yield _ e3) [] [] [] [] .nil .nil) .nil
        have hinv := invoke_sound ok e4 hfr hm' (hl'.append hy)
        have hres : (resolve a.eval (rangeCall f (E1.blk h1.next)) 0).run P w1 = .ok { target := .fn f' m'.toArray, args := (l' ++ [Value.func (.yield (E1.blk h1.next)) #[] #[]]).toArray } w1 := by
          simp only [resolve, rangeCall, hff, Deferred.ofValue]
          simp [Act.eval]
        split
        · rename_i g args h3 heq
          rw [heq] at hinv
          obtain ⟨rfl, args', i1, i2⟩ := hinv
          obtain ⟨r1, m1, hcall⟩ := ih (.call g args (h1.alloc (.loop .ready none cx.fn s.tm cx.nt ps.toList as bd dfs))) E1 args' w1 (X.b.atR { a with defers := mark' ++ a.defers } (.inRangeFunc (E1.blk h1.next) :: k) :: X.cs u) i2 e4
          have hstep := stepR_rangeFunc (P := P) (b := X.b) (a := a) (k := k) (cs := X.cs u) (w := w) e1 hres i1
          have S2 : ∀ (E2 : En) (h4 : Heap) (w2 : World), E1.Le E2 → HR base w0 E2 h4 w2 → SRel base w0 E2 X cx { s with df := mark ++ s.df, h := h4 } { a with defers := mark' ++ a.defers } u w2 := fun E2 h4 w2 le H2 =>
            ⟨S.sz, (S.tm.mono e5.le).mono le, (e2.mono le).append ((S.df.mono e5.le).mono le), (S.pan.mono e5.le).mono le, H2⟩
          refine Lf.bind m1 ?_
          split
          · rename_i vv h4
            obtain ⟨E2, w2, v', p1, p2, p3, p4⟩ := CallOK.elim_ret hcall
            rw [finish_atR_inRangeFunc] at p4
            have e3' := p2.le.dom _ e3
            have hblk := p2.le.blk _ e3
            split
            · rename_i st pend fn' tm' nt' ps' as' bd' d' hg
              obtain ⟨q0, q1, tmps, q2, q3, q4⟩ := p1.obj _ _ e3' hg
              have hend : ∀ (hst : st ≠ .busy), ∃ w3, (Instr.endLoop (E1.blk h1.next)).run P w2 = .ok pend w3 ∧ HR base w0 E2 (h4.set h1.next (.loop .exhausted pend fn' tm' nt' ps' as' bd' d')) w3 ∧ Ste E2 h4 w2 E2 (h4.set h1.next (.loop .exhausted pend fn' tm' nt' ps' as' bd' d')) w3 := by
                intro hst
                rw [hblk] at q2
                have := run_endLoop (P := P) q2 hst
                have K := HR.put p1 e3' hg trivial (.loop { state := .exhausted, pending := pend, fn := fn', tmps := tmps, params := ps'.toArray, assign := as', body := bd', defers := E2.blk d' }) (.loop .exhausted pend fn' tm' nt' ps' as' bd' d')
                  ⟨q0, q1, tmps, World.putObj_heap_same (p1.live e3' hg trivial), q3, q4⟩
                rw [hblk] at K
                exact ⟨_, this, K.1, K.2⟩
              split
              · exact ⟨_, rfl, trivial⟩
              · rename_i hst
                obtain ⟨w3, r1, r2, r3⟩ := hend (fun e => hst e)
                have hs2 := stepR_endRangeFunc (P := P) (b := X.b) (a := { a with defers := mark' ++ a.defers }) (k := k) (cs := X.cs u) r1
                have S3 := S2 E2 _ w3 p2.le r2
                have st3 : Ste E s.h w E2 (h4.set h1.next (.loop .exhausted pend fn' tm' nt' ps' as' bd' d')) w3 := (e5.trans p2).trans r3
                have hs3 : Steps P (lone (X.b.atR a (.code (.rangeFunc f ps as bd) :: k)) (X.cs u) w) (lone (X.b.atR { a with defers := mark' ++ a.defers } ((pend.map Item.code).toList ++ k)) (X.cs u) w3) :=
                  .head hstep (p4.trans (.one hs2))
                cases pend with
                | none => exact ⟨_, rfl, E2, _, u, w3, S3, st3, by simpa [Arr] using hs3⟩
                | some c =>
                  have hc := ih (.code cx c _) E2 X _ u w3 k _ (.inl rfl) ((hX.mono e5.le).mono p2.le) S3
                  exact ex_steps (by simpa using hs3) st3 hc
            · exact ⟨_, rfl, trivial⟩
          · rename_i v h4
            obtain ⟨E2, w2, v', p1, p2, p3, p4⟩ := CallOK.elim_thrown hcall
            rw [Frame.raise_atR] at p4
            exact ⟨_, rfl, E2, _, u, w2, v', _, S2 E2 h4 w2 p2.le p1, e5.trans p2, p3, .head hstep p4⟩
          · rename_i hn1 hn2
            cases r1 with
            | ret v h4 => exact absurd rfl (hn1 v h4)
            | thrown v h4 => exact absurd rfl (hn2 v h4)
            | no => exact ⟨_, rfl, trivial⟩
            | _ => exact hcall.elim
        · exact ⟨_, rfl, trivial⟩
        · exact ⟨_, rfl, trivial⟩
    · exact ⟨_, rfl, trivial⟩
  | refuse w => exact ⟨_, rfl, trivial⟩
end Ev
