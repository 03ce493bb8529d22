/- A part of the rules by which proofs walk over what the evaluator (EvDefs) says, at values that are not known: EvWp2. Conditions: those that each theorem states. -/
import Derived.Test.YtnaihoegbmpjiaaGreatEvWp
set_option linter.unusedVariables false
set_option linter.unusedSimpArgs false
namespace Ev
open Go

variable {T : Tabs}

/-! ### more slots, the same word -/
theorem argMap_mono {ρ ρ' : Operand → Option AV} (hρ : ∀ x v, ρ x = some v → ρ' x = some v) : ∀ (l : List Operand) (r : List AV), argMap ρ l = some r → argMap ρ' l = some r
  | [], _, h => h
  | x :: l, r, h => by
    unfold argMap at h ⊢
    split at h <;> simp at h
    rename_i v q hv hq
    rw [hρ x v hv, argMap_mono hρ l q hq]
    simp [h]
theorem pairMap_mono {ρ ρ' : Operand → Option AV} (hρ : ∀ x v, ρ x = some v → ρ' x = some v) : ∀ (l : List (Nat × Operand)) (r : List (Nat × AV)), pairMap ρ l = some r → pairMap ρ' l = some r
  | [], _, h => h
  | (i, x) :: l, r, h => by
    unfold pairMap at h ⊢
    split at h <;> simp at h
    rename_i v q hv hq
    rw [hρ x v hv, pairMap_mono hρ l q hq]
    simp [h]
theorem optOp_mono {ρ ρ' : Operand → Option AV} (hρ : ∀ x v, ρ x = some v → ρ' x = some v) (l : Option Operand) (r : Option AV) (h : optOp ρ l = some r) : optOp ρ' l = some r := by
  unfold optOp at h ⊢
  split at h
  · exact h
  · rename_i x
    split at h
    · rename_i v hv
      rw [hρ x v hv]; exact h
    · cases h
theorem resolveA_mono {ρ ρ' : Operand → Option AV} (hρ : ∀ x v, ρ x = some v → ρ' x = some v) (c : Call) (r : ADef) (h : resolveA ρ c = some r) : resolveA ρ' c = some r := by
  unfold resolveA at h ⊢
  split at h
  · rename_i f hf
    split at h
    · rename_i fn first cap args h1 h2
      rw [hρ f _ h1, argMap_mono hρ _ _ h2]
      exact h
    · cases h
  · cases h
def OR.isNo : OR → Bool
  | .no _ => true
  | _ => false
theorem opA_mono {ρ ρ' : Operand → Option AV} (hρ : ∀ x v, ρ x = some v → ρ' x = some v) (o : Oper) (h : Heap) (hno : (opA T ρ o h).isNo = false) : opA T ρ' o h = opA T ρ o h := by
  have R : ∀ x, ρ x = none ∨ ∃ v, ρ x = some v ∧ ρ' x = some v := fun x => by
    cases hx : ρ x with
    | none => exact .inl rfl
    | some v => exact .inr ⟨v, rfl, hρ x v hx⟩
  have RO : ∀ x, optOp ρ x = none ∨ ∃ v, optOp ρ x = some v ∧ optOp ρ' x = some v := fun x => by
    cases hx : optOp ρ x with
    | none => exact .inl rfl
    | some v => exact .inr ⟨v, rfl, optOp_mono hρ x v hx⟩
  have RA : ∀ x, argMap ρ x = none ∨ ∃ v, argMap ρ x = some v ∧ argMap ρ' x = some v := fun x => by
    cases hx : argMap ρ x with
    | none => exact .inl rfl
    | some v => exact .inr ⟨v, rfl, argMap_mono hρ x v hx⟩
  have RP : ∀ x, pairMap ρ x = none ∨ ∃ v, pairMap ρ x = some v ∧ pairMap ρ' x = some v := fun x => by
    cases hx : pairMap ρ x with
    | none => exact .inl rfl
    | some v => exact .inr ⟨v, rfl, pairMap_mono hρ x v hx⟩
  have RS : ∀ x, resolveA ρ x = none ∨ ∃ v, resolveA ρ x = some v ∧ resolveA ρ' x = some v := fun x => by
    cases hx : resolveA ρ x with
    | none => exact .inl rfl
    | some v => exact .inr ⟨v, rfl, resolveA_mono hρ x v hx⟩
  unfold opA at hno ⊢
  cases hop : o.op with
  | move x => rcases R x with e | ⟨v, e, e'⟩ <;> simp_all [rv, OR.isNo]
  | assign x => rcases R x with e | ⟨v, e, e'⟩ <;> simp_all [rv, OR.isNo]
  | pick c a b =>
    rcases R c with e | ⟨v, e, e'⟩
    · simp_all [OR.isNo]
    · simp only [hop, e] at hno
      simp only [e, e']
      split at hno
      · rename_i q; cases q
        rcases R a with e2 | ⟨v2, e2, e2'⟩ <;> simp_all [rv, OR.isNo]
      · rename_i q; cases q
        rcases R b with e2 | ⟨v2, e2, e2'⟩ <;> simp_all [rv, OR.isNo]
      · simp [OR.isNo] at hno
  | box t x => rcases R x with e | ⟨v, e, e'⟩ <;> simp_all [OR.isNo]
  | build t parts => rcases RP parts.toList with e | ⟨v, e, e'⟩ <;> simp_all [OR.isNo]
  | buildSlice t len parts => rcases RP parts.toList with e | ⟨v, e, e'⟩ <;> simp_all [OR.isNo]
  | load t a => rcases R a with e | ⟨v, e, e'⟩ <;> simp_all [OR.isNo]
  | store t a x => rcases R a with e | ⟨v, e, e'⟩ <;> rcases R x with d | ⟨u, d, d'⟩ <;> simp_all [OR.isNo]
  | nilCheck x => rcases R x with e | ⟨v, e, e'⟩ <;> simp_all [OR.isNo]
  | binOp op t x y u => rcases R x with e | ⟨v, e, e'⟩ <;> rcases R y with d | ⟨u, d, d'⟩ <;> simp_all [OR.isNo]
  | unOp op t x => rcases R x with e | ⟨v, e, e'⟩ <;> simp_all [OR.isNo]
  | convert s d x => rcases R x with e | ⟨v, e, e'⟩ <;> simp_all [OR.isNo]
  | makeInterface t x => rcases R x with e | ⟨v, e, e'⟩ <;> simp_all [OR.isNo]
  | makeFunc fn a b => rcases RA a.toList with e | ⟨v, e, e'⟩ <;> rcases RA b.toList with d | ⟨u, d, d'⟩ <;> simp_all [OR.isNo] <;> cases fn <;> simp_all
  | makeMap t r => rcases RO r with e | ⟨v, e, e'⟩ <;> simp_all [OR.isNo]
  | makeSlice t l c => rcases R l with e | ⟨v, e, e'⟩ <;> rcases R c with d | ⟨u, d, d'⟩ <;> simp_all [OR.isNo]
  | slice t x lo hi mx => rcases R x with e | ⟨v, e, e'⟩ <;> rcases RO lo with d | ⟨u, d, d'⟩ <;> rcases RO hi with c | ⟨z, c, c'⟩ <;> rcases RO mx with b | ⟨y, b, b'⟩ <;> simp_all [OR.isNo]
  | fieldAddr s x f => rcases R x with e | ⟨v, e, e'⟩ <;> simp_all [OR.isNo]
  | field t x f => rcases R x with e | ⟨v, e, e'⟩ <;> simp_all [OR.isNo]
  | indexAddr t x ix => rcases R x with e | ⟨v, e, e'⟩ <;> rcases R ix with d | ⟨u, d, d'⟩ <;> simp_all [OR.isNo]
  | index t x ix => rcases R x with e | ⟨v, e, e'⟩ <;> rcases R ix with d | ⟨u, d, d'⟩ <;> simp_all [OR.isNo]
  | lookup t x ix ok => rcases R x with e | ⟨v, e, e'⟩ <;> rcases R ix with d | ⟨u, d, d'⟩ <;> simp_all [OR.isNo]
  | mapUpdate t m k x => rcases R m with e | ⟨v, e, e'⟩ <;> rcases R k with d | ⟨u, d, d'⟩ <;> rcases R x with c | ⟨z, c, c'⟩ <;> simp_all [OR.isNo]
  | insert t m k x => rcases R m with e | ⟨v, e, e'⟩ <;> rcases R k with d | ⟨u, d, d'⟩ <;> rcases R x with c | ⟨z, c, c'⟩ <;> simp_all [OR.isNo]
  | typeAssert x xt a ok =>
    rcases R x with e | ⟨v, e, e'⟩
    · simp only [hop, e] at hno
      exfalso
      revert hno
      cases T.und a with
      | none => simp [OR.isNo]
      | some d => cases d <;> simp [OR.isNo]
    · simp only [e, e']
  | range t x => rcases R x with e | ⟨v, e, e'⟩ <;> simp_all [OR.isNo]
  | next it s => rcases R it with e | ⟨v, e, e'⟩ <;> simp_all [OR.isNo]
  | entry it => rcases R it with e | ⟨v, e, e'⟩ <;> simp_all [OR.isNo]
  | extract t ix => rcases R t with e | ⟨v, e, e'⟩ <;> simp_all [OR.isNo]
  | call c =>
    cases hcal : c.callee with
    | builtin b => rcases RA c.args.toList with e | ⟨v, e, e'⟩ <;> rcases RS c with d | ⟨u, d, d'⟩ <;> simp_all [OR.isNo]
    | value f => rcases RA c.args.toList with e | ⟨v, e, e'⟩ <;> rcases RS c with d | ⟨u, d, d'⟩ <;> simp_all [OR.isNo]
    | invoke r m =>
      have hr : ∀ σ : Operand → Option AV, resolveA σ c = none := fun σ => by simp [resolveA, hcal]
      rcases RA c.args.toList with e | ⟨v, e, e'⟩ <;> rcases R r with d | ⟨u, d, d'⟩ <;> simp_all [OR.isNo]
  | defer c => rcases RS c with d | ⟨u, d, d'⟩ <;> simp_all [OR.isNo]
  | panic x => rcases R x with e | ⟨v, e, e'⟩ <;> simp_all [OR.isNo]
  | _ => rfl
end Ev
