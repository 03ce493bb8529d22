/- A part of the proof that what the evaluator (EvDefs) says of a call is what the machine does: EvRun1. Conditions: those that each theorem states. -/
import Derived.Test.YtnaihoegbmpjiaaGreatEvOps11
import Derived.AtR
import Derived.Defers
import Derived.RangeFuncLeaves
set_option linter.unusedVariables false
set_option linter.unusedSimpArgs false
namespace Ev
open Go Go.RowKit

variable {P : Program} {T : Tabs} {base : Nat} {w0 : World}

/-! ### frames and what stands for them -/
/-- where a piece of code runs: its frame, and the callers by the mode of the first of them -/
structure Cxt where
  b : Frame
  cs : FrameMode → List Frame
inductive PanM (E : En) : Option (AV × Bool) → FrameMode → Prop
  | ret : PanM E none .returning
  | pan (v : AV) (v' : Value) (r : Bool) (h : VR E v v') : PanM E (some (v, r)) (.panicking [{ v := v', recovered := r }])
theorem PanM.mono {E E' : En} (le : E.Le E') {p : Option (AV × Bool)} {m : FrameMode} (h : PanM E p m) : PanM E' p m := by
  cases h with
  | ret => exact .ret
  | pan v v' r h => exact .pan v v' r (h.mono le)
def PanR (E : En) (k : CallKind) (p : Option (AV × Bool)) (m : FrameMode) : Prop := (k = .normal ∧ p = none) ∨ (k = .deferred ∧ PanM E p m)
theorem PanR.mono {E E' : En} (le : E.Le E') {k : CallKind} {p : Option (AV × Bool)} {m : FrameMode} (h : PanR E k p m) : PanR E' k p m :=
  h.imp id fun h => ⟨h.1, h.2.mono le⟩
structure CxR (E : En) (X : Cxt) (cx : Cx) : Prop where
  fn : X.b.fn = cx.fn
  ro : X.b.roundOf = cx.round.map E.blk
  rd : ∀ l, cx.round = some l → E.dom l
  st : (X.b.kind = .normal ∧ ∃ l, X.cs = fun _ => l) ∨ (X.b.kind = .deferred ∧ ∃ (c : Frame) (rest : List Frame), X.cs = fun u => { c with mode := u } :: rest)
theorem CxR.mono {E E' : En} (le : E.Le E') {X : Cxt} {cx : Cx} (h : CxR E X cx) : CxR E' X cx where
  fn := h.fn
  ro := by
    rw [h.ro]
    cases hr : cx.round with
    | none => rfl
    | some l => simp [le.blk l (h.rd l hr)]
  rd l hl := le.dom l (h.rd l hl)
  st := h.st
structure SRel (base : Nat) (w0 : World) (E : En) (X : Cxt) (cx : Cx) (s : St) (a : Act) (u : FrameMode) (w : World) : Prop where
  sz : a.tmps.size = cx.nt
  tm : TR E s.tm a.tmps
  df : DRs E s.df a.defers
  pan : PanR E X.b.kind s.pan u
  hr : HR base w0 E s.h w

/-- the way in which a piece of code is left -/
def Arr (P : Program) (m : Machine) (X : Cxt) (k : List Item) (a : Act) (u : FrameMode) (w : World) : Ex → Prop
  | .normal => Steps P m (lone (X.b.atR a k) (X.cs u) w)
  | .exit id => ∃ k1, Steps P m (lone (X.b.atR a (.code (.exit id) :: k1)) (X.cs u) w) ∧ exitTo id k1 = exitTo id k
  | .ret => ∃ k1, Steps P m (lone (X.b.atR a (.code .ret :: k1)) (X.cs u) w)
  | .goto _ => False
def CodeOK (P : Program) (base : Nat) (w0 : World) (m : Machine) (X : Cxt) (cx : Cx) (k : List Item) (E : En) (h : Heap) (w : World) : Res → Prop
  | .fin e s' => ∃ E' a' u' w', SRel base w0 E' X cx s' a' u' w' ∧ Ste E h w E' s'.h w' ∧ Arr P m X k a' u' w' e
  | .pan v s' => ∃ E' a' u' w' v' todo, SRel base w0 E' X cx s' a' u' w' ∧ Ste E h w E' s'.h w' ∧ VR E' v v' ∧
      Steps P m (lone { X.b.atR a' todo with mode := .panicking [{ v := v', recovered := false }] } (X.cs u') w')
  | .no _ _ => True
  | _ => False
def CallOK (P : Program) (base : Nat) (w0 : World) (m : Machine) (fn : FuncId) (cs : List Frame) (E : En) (h : Heap) (w : World) : Res → Prop
  | .ret v h' => ∃ E' w' v' fr, HR base w0 E' h' w' ∧ Ste E h w E' h' w' ∧ VR E' v v' ∧ Steps P m (lone fr cs w') ∧ fr.fn = fn ∧ fr.leaving P w' (.returned v')
  | .thrown v h' => ∃ E' w' v' fr, HR base w0 E' h' w' ∧ Ste E h w E' h' w' ∧ VR E' v v' ∧ Steps P m (lone fr cs w') ∧ fr.fn = fn ∧
      fr.leaving P w' (.panicked [{ v := v', recovered := false }])
  | .no _ _ => True
  | _ => False
def RoundOK (P : Program) (base : Nat) (w0 : World) (m : Machine) (c : Frame) (cs : List Frame) (E : En) (h : Heap) (w : World) : Res → Prop
  | .ret v h' => ∃ E' w' v', HR base w0 E' h' w' ∧ Ste E h w E' h' w' ∧ VR E' v v' ∧ Steps P m (lone (c.finish v') cs w')
  | .thrown v h' => ∃ E' w' v', HR base w0 E' h' w' ∧ Ste E h w E' h' w' ∧ VR E' v v' ∧ Steps P m (lone (c.raise [{ v := v', recovered := false }]) cs w')
  | .no _ _ => True
  | _ => False
def DcallOK (P : Program) (base : Nat) (w0 : World) (m : Machine) (c : Frame) (cs : List Frame) (E : En) (h : Heap) (w : World) : Res → Prop
  | .dret p h' => ∃ E' w' u' v' fr, HR base w0 E' h' w' ∧ Ste E h w E' h' w' ∧ PanM E' p u' ∧ Steps P m (lone fr ({ c with mode := u' } :: cs) w') ∧ fr.kind = .deferred ∧ fr.going P w' (.returned v')
  | .thrown _ _ => True
  | .no _ _ => True
  | _ => False

/-- the item of a frame's list that stands for a piece of code -/
def ItOK (c : Code) (it : Item) : Prop := it = .code c ∨ ∃ b, c = .loop b ∧ it = .inLoop b
/-- one of several results -/
def Lf : Res → Res → Prop
  | .alt a b, q => Lf a q ∨ Lf b q
  | r, q => r = q
theorem Lf.self : ∀ {x r : Res}, Lf x r → Lf r r
  | .alt a b, r, h => h.elim Lf.self Lf.self
  | .fin .., _, h => by cases h; rfl
  | .pan .., _, h => by cases h; rfl
  | .ret .., _, h => by cases h; rfl
  | .thrown .., _, h => by cases h; rfl
  | .dret .., _, h => by cases h; rfl
  | .no .., _, h => by cases h; rfl
theorem Lf.bind : ∀ {x r : Res} {F : Res → Res} {C : Res → Prop}, Lf x r → (∃ q, Lf (F r) q ∧ C q) → ∃ q, Lf (bindR x F) q ∧ C q
  | .alt a b, r, F, C, h, k => by
    rcases h with h | h
    · obtain ⟨q, m, c⟩ := Lf.bind h k; exact ⟨q, .inl m, c⟩
    · obtain ⟨q, m, c⟩ := Lf.bind h k; exact ⟨q, .inr m, c⟩
  | .fin .., _, _, _, h, k => by cases h; exact k
  | .pan .., _, _, _, h, k => by cases h; exact k
  | .ret .., _, _, _, h, k => by cases h; exact k
  | .thrown .., _, _, _, h, k => by cases h; exact k
  | .dret .., _, _, _, h, k => by cases h; exact k
  | .no .., _, _, _, h, k => by cases h; exact k
/-- a task does what the evaluator says of it: one of the results -/
def TaskOK (P : Program) (base : Nat) (w0 : World) : Task → Res → Prop
  | .code cx c s, r => ∀ E X a u w k it, ItOK c it → CxR E X cx → SRel base w0 E X cx s a u w → ∃ q, Lf r q ∧ CodeOK P base w0 (lone (X.b.atR a (it :: k)) (X.cs u) w) X cx k E s.h w q
  | .ops cx all rest s, r => ∀ E X a u w k (ops : Array Oper) i, all = ops.toList → rest = all.drop i → CxR E X cx → SRel base w0 E X cx s a u w →
      ∃ q, Lf r q ∧ CodeOK P base w0 (lone (X.b.atR a (.inRegion ops ((List.range ops.size).drop i) :: k)) (X.cs u) w) X cx k E s.h w q
  | .call f args h, r => ∀ E args' w cs, VRs E args args' → HR base w0 E h w → ∃ q, Lf r q ∧ CallOK P base w0 (lone (Frame.enter P f args'.toArray .normal) cs w) f cs E h w q
  | .round l fn tm nt as bd h, r => ∀ E tmps w c cs, E.dom l → tmps.size = nt → TR E tm tmps → HR base w0 E h w →
      ∃ q, Lf r q ∧ RoundOK P base w0 (lone (Frame.round (E.blk l) fn tmps as bd .normal) (c :: cs) w) c cs E h w q
  | .leave f tm ds pan h, r => ∀ E fr w cs, fr.fn = f → fr.kind = .normal → TR E tm fr.tmps → DRs E ds fr.defers → PanM E pan fr.mode → HR base w0 E h w → ∃ q, Lf r q ∧ CallOK P base w0 (lone fr cs w) f cs E h w q
  | .dcall f args pan h, r => ∀ E args' w c cs, VRs E args args' → PanM E pan c.mode → HR base w0 E h w → ∃ q, Lf r q ∧ DcallOK P base w0 (lone (Frame.enter P f args'.toArray .deferred) (c :: cs) w) c cs E h w q

/-! ### from further on -/
theorem Arr.of_steps {m m' : Machine} {X : Cxt} {k : List Item} {a : Act} {u : FrameMode} {w : World} {e : Ex} (h : Steps P m m') (h' : Arr P m' X k a u w e) : Arr P m X k a u w e := by
  cases e with
  | normal => exact h.trans h'
  | exit id => obtain ⟨k1, h1, h2⟩ := h'; exact ⟨k1, h.trans h1, h2⟩
  | ret => obtain ⟨k1, h1⟩ := h'; exact ⟨k1, h.trans h1⟩
  | goto l => exact h'
theorem CodeOK.of_steps {m m' : Machine} {X : Cxt} {cx : Cx} {k : List Item} {E E1 : En} {h h1 : Heap} {w w1 : World} {r : Res} (hs : Steps P m m') (st : Ste E h w E1 h1 w1)
    (H : CodeOK P base w0 m' X cx k E1 h1 w1 r) : CodeOK P base w0 m X cx k E h w r := by
  cases r with
  | fin e s => obtain ⟨E', a', u', w', p1, p2, p3⟩ := H; exact ⟨E', a', u', w', p1, st.trans p2, p3.of_steps hs⟩
  | pan v s => obtain ⟨E', a', u', w', v', todo, p1, p2, p3, p4⟩ := H; exact ⟨E', a', u', w', v', todo, p1, st.trans p2, p3, hs.trans p4⟩
  | no => trivial
  | _ => exact H
theorem CallOK.of_steps {m m' : Machine} {f : FuncId} {cs : List Frame} {E E1 : En} {h h1 : Heap} {w w1 : World} {r : Res} (hs : Steps P m m') (st : Ste E h w E1 h1 w1)
    (H : CallOK P base w0 m' f cs E1 h1 w1 r) : CallOK P base w0 m f cs E h w r := by
  cases r with
  | ret v h' => obtain ⟨E', w', v', fr, p1, p2, p3, p4, p5⟩ := H; exact ⟨E', w', v', fr, p1, st.trans p2, p3, hs.trans p4, p5⟩
  | thrown v h' => obtain ⟨E', w', v', fr, p1, p2, p3, p4, p5⟩ := H; exact ⟨E', w', v', fr, p1, st.trans p2, p3, hs.trans p4, p5⟩
  | no => trivial
  | _ => exact H
/-- the same, behind an item that lets every jump by -/
theorem CodeOK.pass {m : Machine} {X : Cxt} {cx : Cx} {x : Item} {k : List Item} {E : En} {h : Heap} {w : World} {r : Res} (hx : ∀ id, exitTo id (x :: k) = exitTo id k)
    (hn : ∀ s, r ≠ .fin .normal s) (H : CodeOK P base w0 m X cx (x :: k) E h w r) : CodeOK P base w0 m X cx k E h w r := by
  cases r with
  | fin e s =>
    obtain ⟨E', a', u', w', p1, p2, p3⟩ := H
    refine ⟨E', a', u', w', p1, p2, ?_⟩
    cases e with
    | normal => exact absurd rfl (hn s)
    | exit id => obtain ⟨k1, h1, h2⟩ := p3; exact ⟨k1, h1, h2.trans (hx id)⟩
    | ret => exact p3
    | goto l => exact p3
  | pan v s => exact H
  | no => trivial
  | _ => exact H

/-! ### one operation in a region -/
section
variable {b : Frame} {a : Act} {ops : Array Oper} {i : Nat} {js : List Nat} {k : List Item} {cs : List Frame} {w w' : World} {o : Oper}
variable (ho : ops[i]? = some o) (hw : Region.wanted o (yielded ops a.tmps) = true)
include ho hw
theorem oper_value {v : Value} (hr : (o.semAt b.roundOf a.eval).run P w = .ok (.value v) w') :
    Steps P (lone (b.atR a (.inRegion ops (i :: js) :: k)) cs w) (lone (b.atR (a.put o.dst v) (.inRegion ops js :: k)) cs w') := by
  have hg := stepGR_op (P := P) (b := b) (k := k) (cs := cs) (w := w) (rest := js) ho hw
  have hfin : (b.atR a (.inRegion ops (i :: js) :: k)).finish v = b.atR (a.put o.dst v) (.inRegion ops js :: k) := by
    rw [Frame.finish_atR, ho]; rfl
  exact .one (step_lone_go (by rw [hg, ← hfin]; simp [stepG.apply, hr]))
theorem oper_skip (hr : (o.semAt b.roundOf a.eval).run P w = .ok .skip w') :
    Steps P (lone (b.atR a (.inRegion ops (i :: js) :: k)) cs w) (lone (b.atR (a.put o.dst undef) (.inRegion ops js :: k)) cs w') := by
  have hg := stepGR_op (P := P) (b := b) (k := k) (cs := cs) (w := w) (rest := js) ho hw
  have hfin : (b.atR a (.inRegion ops (i :: js) :: k)).finish undef = b.atR (a.put o.dst undef) (.inRegion ops js :: k) := by
    rw [Frame.finish_atR, ho]; rfl
  exact .one (step_lone_go (by rw [hg, ← hfin]; simp [stepG.apply, hr]))
theorem oper_enter {f : FuncId} {args : Array Value} (hr : (o.semAt b.roundOf a.eval).run P w = .ok (.enter f args) w') :
    Steps P (lone (b.atR a (.inRegion ops (i :: js) :: k)) cs w) (lone (Frame.enter P f args .normal) (b.atR a (.inRegion ops (i :: js) :: k) :: cs) w') := by
  have hg := stepGR_op (P := P) (b := b) (k := k) (cs := cs) (w := w) (rest := js) ho hw
  exact .one (step_lone_go (by rw [hg]; simp [stepG.apply, hr, Frame.atR]))
theorem oper_round {l : Nat} {f : FuncId} {tmps : Array Value} {as bd : Code} (hr : (o.semAt b.roundOf a.eval).run P w = .ok (.round l f tmps as bd) w') :
    Steps P (lone (b.atR a (.inRegion ops (i :: js) :: k)) cs w) (lone (Frame.round l f tmps as bd .normal) (b.atR a (.inRegion ops (i :: js) :: k) :: cs) w') := by
  have hg := stepGR_op (P := P) (b := b) (k := k) (cs := cs) (w := w) (rest := js) ho hw
  exact .one (step_lone_go (by rw [hg]; simp [stepG.apply, hr, Frame.atR]))
theorem oper_defer {d : Deferred} (hr : (o.semAt b.roundOf a.eval).run P w = .ok (.defer d) w') :
    Steps P (lone (b.atR a (.inRegion ops (i :: js) :: k)) cs w) (lone (b.atR ({ a with defers := d :: a.defers }.put o.dst undef) (.inRegion ops js :: k)) cs w') := by
  have hg := stepGR_op (P := P) (b := b) (k := k) (cs := cs) (w := w) (rest := js) ho hw
  have : ({ b.atR a (.inRegion ops (i :: js) :: k) with defers := d :: a.defers } : Frame).finish undef =
      b.atR ({ a with defers := d :: a.defers }.put o.dst undef) (.inRegion ops js :: k) := by
    have := Frame.finish_atR b { a with defers := d :: a.defers } ops i js k undef
    rw [ho] at this; exact this
  refine .one (step_lone_go ?_)
  rw [hg]; simp only [stepG.apply, Sem.runT_eq, hr, GStep.bare_after]
  exact congrArg (fun fr => GStep.go { frame := fr, callers := cs, status := .running, dying := none } w') this
theorem oper_panic {v : Value} (hr : (o.semAt b.roundOf a.eval).run P w = .halt (.panic v) w') :
    Steps P (lone (b.atR a (.inRegion ops (i :: js) :: k)) cs w) (lone { b.atR a (.inRegion ops (i :: js) :: k) with mode := .panicking [{ v, recovered := false }] } cs w') := by
  have hg := stepGR_op (P := P) (b := b) (k := k) (cs := cs) (w := w) (rest := js) ho hw
  exact .one (step_lone_go (by rw [hg, ← Frame.raise_atR]; simp [stepG.apply, hr]))
theorem oper_recover_none (hb : b.roundOf = none) (ht : tryRecover (b.atR a (.inRegion ops (i :: js) :: k)) cs = none) (hr : (o.semAt b.roundOf a.eval).run P w = .ok .recover w') :
    Steps P (lone (b.atR a (.inRegion ops (i :: js) :: k)) cs w) (lone (b.atR (a.put o.dst .nilIface) (.inRegion ops js :: k)) cs w') := by
  have hg := stepGR_op (P := P) (b := b) (k := k) (cs := cs) (w := w) (rest := js) ho hw
  have hfin : (b.atR a (.inRegion ops (i :: js) :: k)).finish .nilIface = b.atR (a.put o.dst .nilIface) (.inRegion ops js :: k) := by
    rw [Frame.finish_atR, ho]; rfl
  have hro : (b.atR a (.inRegion ops (i :: js) :: k)).roundOf = none := hb
  exact .one (step_lone_go (by rw [hg, ← hfin]; simp [stepG.apply, hr, hro, ht]))
theorem oper_recover_some {v : Value} {cs' : List Frame} (hb : b.roundOf = none) (ht : tryRecover (b.atR a (.inRegion ops (i :: js) :: k)) cs = some (v, cs')) (hr : (o.semAt b.roundOf a.eval).run P w = .ok .recover w') :
    Steps P (lone (b.atR a (.inRegion ops (i :: js) :: k)) cs w) (lone (b.atR (a.put o.dst v) (.inRegion ops js :: k)) cs' w') := by
  have hg := stepGR_op (P := P) (b := b) (k := k) (cs := cs) (w := w) (rest := js) ho hw
  have hfin : (b.atR a (.inRegion ops (i :: js) :: k)).finish v = b.atR (a.put o.dst v) (.inRegion ops js :: k) := by
    rw [Frame.finish_atR, ho]; rfl
  have hro : (b.atR a (.inRegion ops (i :: js) :: k)).roundOf = none := hb
  exact .one (step_lone_go (by rw [hg, ← hfin]; simp [stepG.apply, hr, hro, ht]))
end

/-! ### temporaries -/
theorem rho_of {E : En} {tm : Tr AV} {a : Act} (h : TR E tm a.tmps) : RhoR E (env tm) a.eval := by
  intro x v hx
  cases x with
  | tmp t =>
    obtain ⟨v', h1, h2⟩ := h t v hx
    have : a.eval (.tmp t) = v' := by simp [Act.eval, h1]
    rw [this]; exact h2
  | const c => exact ofValue_VR hx
  | global g => simp [env] at hx
  | func f =>
    simp [env] at hx; subst hx
    exact .func _ _ (.same _ (by simp)) [] [] [] [] .nil .nil
theorem put_sound {E : En} {X : Cxt} {cx : Cx} {s s' : St} {a : Act} {u : FrameMode} {w : World} (S : SRel base w0 E X cx s a u w) {dst : Option Tmp} {v : AV} (hp : putA cx s dst v = some s') {v' : Value} (hv : VR E v v') :
    SRel base w0 E X cx s' (a.put dst v') u w ∧ s'.h = s.h := by
  unfold putA at hp
  split at hp
  · simp at hp; subst hp; exact ⟨S, rfl⟩
  · rename_i d
    split at hp <;> simp at hp
    rename_i hd
    subst hp
    refine ⟨⟨?_, ?_, S.df, S.pan, S.hr⟩, rfl⟩
    · simpa [Act.put] using S.sz
    · exact S.tm.set (by rw [S.sz]; exact hd) hv
theorem undef_VR (E : En) : VR E undefA undef := .tuple [] [] .nil
theorem wanted_sound {E : En} {tm : Tr AV} {tmps : Array Value} (h : TR E tm tmps) {ops : Array Oper} {o : Oper} {r : Bool} (hw : wantedA ops.toList tm o = some r) : Region.wanted o (yielded ops tmps) = r := by
  unfold wantedA at hw
  unfold Region.wanted
  split at hw
  · rename_i hg
    simp at hw; subst hw
    simp [hg]
  · rename_i j want hg
    rw [hg]
    simp only
    split at hw
    · rename_i d hd
      have hdd : (ops[j]?).bind (·.dst) = some d := by
        unfold dstOf at hd
        split at hd
        · rename_i o' ho'
          rw [nth_eq] at ho'
          have : ops[j]? = some o' := by simpa using ho'
          rw [this]; exact hd
        · simp at hd
      split at hw
      · rename_i bv hb
        simp at hw; subst hw
        obtain ⟨v', h1, h2⟩ := h d _ hb
        cases h2
        simp [yielded, hdd, h1]
      · rename_i v hnb hv
        simp at hw; subst hw
        obtain ⟨v', h1, h2⟩ := h d _ hv
        have hy : yielded ops tmps j = none := by
          unfold yielded
          rw [hdd]
          simp only [Option.bind_some, h1]
          cases h2 <;> first | rfl | exact absurd rfl (hnb _)
        rw [hy]; rfl
      · simp at hw
    · simp at hw
theorem SRel.mem {E E' : En} {X : Cxt} {cx : Cx} {s : St} {a : Act} {u : FrameMode} {w w' : World} {h' : Heap} (S : SRel base w0 E X cx s a u w) (le : E.Le E') (H : HR base w0 E' h' w') :
    SRel base w0 E' X cx { s with h := h' } a u w' := ⟨S.sz, S.tm.mono le, S.df.mono le, S.pan.mono le, H⟩
theorem opA_defer {ρ : Operand → Option AV} {o : Oper} {h : Heap} {c : Call} (ho : o.op = .defer c) : (∃ d, opA T ρ o h = .defer d) ∨ ∃ w, opA T ρ o h = .no w := by
  unfold opA
  rw [ho]
  simp only
  split
  · exact .inl ⟨_, rfl⟩
  · exact .inr ⟨_, rfl⟩
end Ev
