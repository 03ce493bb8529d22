/- A part of the proof that what the evaluator (EvDefs) says of a call is what the machine does: EvOps2. Conditions: those that each theorem states. -/
import Derived.Test.YtnaihoegbmpjiaaGreatEvOps1
set_option linter.unusedVariables false
set_option linter.unusedSimpArgs false
namespace Ev
open Go Go.RowKit

variable {P : Program} {T : Tabs} {base : Nat} {w0 : World}

/-- what an operation does in the world, against what it does here -/
def Out (base : Nat) (w0 : World) (E : En) (h : Heap) (w : World) (r : OR) (res : Result Next) : Prop :=
  match r with
  | .val v h' => ∃ E' w' v', res = .ok (.value v') w' ∧ VR E' v v' ∧ HR base w0 E' h' w' ∧ Ste E h w E' h' w'
  | .skip h' => ∃ E' w', res = .ok .skip w' ∧ HR base w0 E' h' w' ∧ Ste E h w E' h' w'
  | .enter f args h' => h' = h ∧ ∃ args' : List Value, res = .ok (.enter f args'.toArray) w ∧ VRs E args args'
  | .round l fn tm nt as bd h' => h' = h ∧ E.dom l ∧ ∃ tmps : Array Value, res = .ok (.round (E.blk l) fn tmps as bd) w ∧ tmps.size = nt ∧ TR E tm tmps
  | .defer d => ∃ d', res = .ok (.defer d') w ∧ DR E d d'
  | .recover => res = .ok .recover w
  | .panic v h' => h' = h ∧ ∃ v', res = .halt (.panic v') w ∧ VR E v v'
  | .choice l => ∃ p, p ∈ l ∧ ∃ E' w' v', res = .ok (.value v') w' ∧ VR E' p.1 v' ∧ HR base w0 E' p.2 w' ∧ Ste E h w E' p.2 w'
  | .no _ => True
def RhoR (E : En) (ρ : Operand → Option AV) (f : Operand → Value) : Prop := ∀ x v, ρ x = some v → VR E v (f x)

/-- an operation that only gives a value -/
theorem out_rv {E : En} {h : Heap} {w : World} (H : HR base w0 E h w) (why : String) (r : Option AV) (s : Sem Value) (hs : ∀ v, r = some v → ∃ v', s.run P w = .ok v' w ∧ VR E v v') :
    Out base w0 E h w (rv why h r) ((do pure (Next.value (← s)) : Sem Next).run P w) := by
  cases r with
  | none => trivial
  | some v =>
    obtain ⟨v', h1, h2⟩ := hs v rfl
    exact ⟨E, w, v', by simp [h1], h2, H, .refl E h w⟩
theorem out_val {E : En} {h : Heap} {w : World} {v : AV} {h' : Heap} (s : Sem Value) (hs : ∃ E' w' v', s.run P w = .ok v' w' ∧ VR E' v v' ∧ HR base w0 E' h' w' ∧ Ste E h w E' h' w') :
    Out base w0 E h w (.val v h') ((do pure (Next.value (← s)) : Sem Next).run P w) := by
  obtain ⟨E', w', v', h1, h2, h3, h4⟩ := hs
  exact ⟨E', w', v', by simp [h1], h2, h3, h4⟩
theorem out_val0 {E : En} {h : Heap} {w : World} (H : HR base w0 E h w) {v : AV} (s : Sem Value) (hs : ∃ v', s.run P w = .ok v' w ∧ VR E v v') :
    Out base w0 E h w (.val v h) ((do pure (Next.value (← s)) : Sem Next).run P w) := by
  obtain ⟨v', h1, h2⟩ := hs
  exact ⟨E, w, v', by simp [h1], h2, H, .refl E h w⟩

theorem pairMap_sound {E : En} {ρ : Operand → Option AV} {f : Operand → Value} (hρ : RhoR E ρ f) : ∀ (l : List (Nat × Operand)) (r : List (Nat × AV)), pairMap ρ l = some r →
    r.map (·.1) = l.map (·.1) ∧ VRs E (r.map (·.2)) (l.map fun p => f p.2)
  | [], r, h => by simp [pairMap] at h; subst h; exact ⟨rfl, .nil⟩
  | (i, x) :: l, r, h => by
    unfold pairMap at h
    split at h <;> simp at h
    rename_i v r' hv hr
    subst h
    obtain ⟨h1, h2⟩ := pairMap_sound hρ l r' hr
    exact ⟨by simp [h1], .cons _ _ _ _ (hρ x v hv) h2⟩
theorem argMap_sound {E : En} {ρ : Operand → Option AV} {f : Operand → Value} (hρ : RhoR E ρ f) : ∀ (l : List Operand) (r : List AV), argMap ρ l = some r → VRs E r (l.map f)
  | [], r, h => by simp [argMap] at h; subst h; exact .nil
  | x :: l, r, h => by
    unfold argMap at h
    split at h <;> simp at h
    rename_i v r' hv hr
    subst h
    exact .cons _ _ _ _ (hρ x v hv) (argMap_sound hρ l r' hr)

/-! ### comparing -/
theorem bin_sound (ok : TabsOK P T) {op : BinOp} {t : TypeId} {a b v : AV} (h : binA T op t a b = some v) {E : En} {a' b' : Value} (ha : VR E a a') (hb : VR E b b') (w : World) :
    ∃ v', (Go.binOp op t a' b').run P w = .ok v' w ∧ VR E v v' := by
  unfold binA at h
  split at h
  · cases ha; cases hb
    split at h
    · obtain ⟨v', h1, h2⟩ := shift_sound h E w
      exact ⟨v', by simp only [Go.binOp]; exact h1, h2⟩
    · obtain ⟨v', h1, h2⟩ := shift_sound h E w
      exact ⟨v', by simp only [Go.binOp]; exact h1, h2⟩
    · rename_i h1 h2
      split at h
      · rename_i hk
        subst hk
        exact int_sound h E t w h1 h2
      · simp at h
  · cases ha; cases hb
    obtain ⟨v', h1, h2⟩ := str_sound (P := P) h E w
    refine ⟨v', ?_, h2⟩
    have : ∀ p q : ByteArray, Go.binOp op t (.string p) (.string q) = Op.stringOp op p q := fun p q => by
      cases op <;> rfl
    rw [this]; exact h1
  · rename_i hn1 hn2
    split at h
    · split at h <;> simp at h
      rename_i r hr
      subst h
      have hq := eqv_sound ok 100 t a b r hr E a' b' ha hb 10000 (by omega) w
      refine ⟨.bool r, ?_, .bool r⟩
      have : Go.binOp .eql t a' b' = (do pure (.bool (← Op.equal t a' b')) : Sem Value) := by
        cases ha <;> cases hb <;> first | rfl | (exact absurd rfl (hn1 _ _ _ _ rfl)) | (exact absurd rfl (hn2 _ _ rfl))
      rw [this]
      simp [Op.equal, Op.maxDepth, hq]
    · split at h <;> simp at h
      rename_i r hr
      subst h
      have hq := eqv_sound ok 100 t a b r hr E a' b' ha hb 10000 (by omega) w
      refine ⟨.bool (!r), ?_, .bool _⟩
      have : Go.binOp .neq t a' b' = (do pure (.bool (!(← Op.equal t a' b'))) : Sem Value) := by
        cases ha <;> cases hb <;> first | rfl | (exact absurd rfl (hn1 _ _ _ _ rfl)) | (exact absurd rfl (hn2 _ _ rfl))
      rw [this]
      simp [Op.equal, Op.maxDepth, hq]
    · simp at h
theorem isConst_eq (x : Operand) : isConst x = true → ∃ v, x = .const v := by
  cases x <;> simp [isConst]
theorem guard_sound (ok : TabsOK P T) {op : BinOp} {t : TypeId} {x y : Operand} {a b : AV} (h : guardEq T op t x y a b = true) {E : En} {a' b' : Value} (ha : VR E a a') (hb : VR E b b') (w : World) :
    (Go.eqGuard op t x y a' b').run P w = .ok () w := by
  unfold guardEq at h
  cases op
  case eql | neq =>
    simp only at h
    split at h
    · cases ha; cases hb
      rw [Bool.or_eq_true] at h
      rcases h with h | h <;> obtain ⟨v, rfl⟩ := isConst_eq _ h <;> simp [Go.eqGuard]
    · cases ha; cases hb
      have := ok.eqg t (by simpa using h)
      simp [Go.eqGuard, this]
    · rename_i h1 h2
      have : ∀ (p q : Value), (p ≠ .nilIface ∨ q ≠ .nilIface) → ((∀ c, p ≠ .agg c) ∨ (∀ c, q ≠ .agg c)) → True := fun _ _ _ _ => trivial
      cases ha <;> cases hb <;> first | (simp [Go.eqGuard]; done) | (exact absurd rfl (h1 rfl)) | (exact absurd rfl (h2 _ _ rfl))
  all_goals simp [Go.eqGuard]
theorem un_sound {op : UnOp} {x v : AV} (h : unA op x = some v) {E : En} {x' : Value} (hx : VR E x x') (w : World) : ∃ v', (Op.unary op x').run P w = .ok v' w ∧ VR E v v' := by
  unfold unA at h
  split at h
  · cases hx
    simp at h; subst h
    refine ⟨_, ?_, .int _ _⟩
    simp [Op.unary, Op.intArith]
  · cases hx
    simp [intOp] at h; subst h
    refine ⟨_, ?_, .int _ _⟩
    simp [Op.unary, Op.intBits]
  · cases hx
    simp at h; subst h
    refine ⟨_, ?_, .bool _⟩
    simp [Op.unary]
  · simp at h
end Ev
