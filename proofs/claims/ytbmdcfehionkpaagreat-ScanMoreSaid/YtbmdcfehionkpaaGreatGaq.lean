/- A part of an evaluator of the program's form in Lean, of the proof that what it says of a call is what the machine does, and of the rules by which proofs walk over it. Conditions: those that each theorem states. -/
import Derived.Test.YtbmdcfehionkpaaGreatGaj
import Derived.ChangeArms
section
set_option linter.unusedVariables false
set_option linter.unusedSimpArgs false
namespace Ev
open Go Go.RowKit Go.ChangeShapes Go.WideShapes
/-! ### structs that come in by value -/
section
variable {H : Type} {enc : TypeId × Value → H} {P : Program} {w : World} {base : Nat} {spare : Nat → Bool} {held : Bool}
/-- a struct's cells, and each field's reading -/
theorem open_fields {r : Reach} {b0 : Nat} {t : TypeId} {fs : Array Field} {v : Value} {d : DataW H} {ps : List MemPlace} (ht : P.underlying t = some (.struct fs)) (hval : Value.okWide P w r b0 t v) (hd : DataW.Trod enc P w base spare held t v d ps) :
    ∃ l : List Value, v = .agg l.toArray ∧ l.length = P.cellsOf t ∧ ∃ n, ∀ (i : Nat) (f : Field), fs[i]? = some f → ∃ y, DataW.trod enc P w base spare held n f.type ((l.drop f.offset).take (P.cellsOf f.type)) = some y := by
  obtain ⟨cs, rfl, hs⟩ := okWide_struct ht hval
  obtain ⟨fuel, hf⟩ := hd
  have e : (Value.agg cs).cells.toList = cs.toList := rfl
  rw [e] at hf
  obtain ⟨xs, n, _, _, hl, hx, hall⟩ := DataW.trod_struct ht hf
  refine ⟨cs.toList, by simp, by simpa using hl, n, fun i f hi => ?_⟩
  have lt := (Array.getElem?_eq_some_iff.1 hi).1
  have := hall i f hi
  rw [List.getElem?_eq_getElem (by omega)] at this
  exact ⟨_, this⟩
theorem six {l : List Value} (h : l.length = 6) : ∃ a b c d e f, l = [a, b, c, d, e, f] := by
  match l, h with
  | [a, b, c, d, e, f], _ => exact ⟨a, b, c, d, e, f, rfl⟩
theorem fld_int {t : TypeId} {k : IntKind} {n : Nat} {v : Value} (ht : P.underlying t = some (.int k)) (h : ∃ y, DataW.trod enc P w base spare held n t [v] = some y) : ∃ x, v = .int k x ∧ (Lit.int k x).wf = true := by
  obtain ⟨y, h⟩ := h
  obtain ⟨x, e, _, hw⟩ := DataW.trod_int ht h
  simp only [List.cons.injEq, and_true] at e
  exact ⟨x, e, hw⟩
theorem fld_str {t : TypeId} {n : Nat} {v : Value} (ht : P.underlying t = some .string) (h : ∃ y, DataW.trod enc P w base spare held n t [v] = some y) : ∃ s : ByteArray, v = .string s ∧ s.size ≤ maxLen := by
  obtain ⟨y, h⟩ := h
  obtain ⟨s, e, _, hw⟩ := DataW.trod_string ht h
  simp only [List.cons.injEq, and_true] at e
  exact ⟨s, e, hw⟩
/-- a field of one cell -/
theorem at_int {fs : Array Field} {l : List Value} {n : Nat} (hf : ∀ (i : Nat) (f : Field), fs[i]? = some f → ∃ y, DataW.trod enc P w base spare held n f.type ((l.drop f.offset).take (P.cellsOf f.type)) = some y) (i : Nat) {f : Field} (hi : fs[i]? = some f) (hc : P.cellsOf f.type = 1) {v : Value} (hd : (l.drop f.offset).take 1 = [v]) {k : IntKind} (ht : P.underlying f.type = some (.int k)) : ∃ x, v = .int k x ∧ (Lit.int k x).wf = true := by
  have h := hf i f hi
  rw [hc, hd] at h
  exact fld_int ht h
theorem at_str {fs : Array Field} {l : List Value} {n : Nat} (hf : ∀ (i : Nat) (f : Field), fs[i]? = some f → ∃ y, DataW.trod enc P w base spare held n f.type ((l.drop f.offset).take (P.cellsOf f.type)) = some y) (i : Nat) {f : Field} (hi : fs[i]? = some f) (hc : P.cellsOf f.type = 1) {v : Value} (hd : (l.drop f.offset).take 1 = [v]) (ht : P.underlying f.type = some .string) : ∃ s : ByteArray, v = .string s ∧ s.size ≤ maxLen := by
  have h := hf i f hi
  rw [hc, hd] at h
  exact fld_str ht h
end
end Ev
end
