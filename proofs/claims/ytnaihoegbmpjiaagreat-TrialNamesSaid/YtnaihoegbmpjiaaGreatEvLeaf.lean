/- A part of the rules by which proofs walk over what the evaluator (EvDefs) says, at values that are not known: EvLeaf. Conditions: those that each theorem states. -/
import Derived.Test.YtnaihoegbmpjiaaGreatEvWp3
set_option linter.unusedVariables false
set_option linter.unusedSimpArgs false
namespace Ev
open Go

variable {T : Tabs}

/-! ### where nothing is left open there is one result -/
theorem nextA_no (hT : T.alts = false) (h : Heap) (b : Nat) (l : List (AV × Heap)) : nextA T h b ≠ .choice l := by
  unfold nextA
  intro e
  split at e
  · cases e
  · split at e
    · split at e
      · cases e
      · split at e
        · cases e
        · split at e <;> cases e
        · rw [hT] at e
          simp at e
    · cases e
  · cases e
theorem rv_no (w : String) (h : Heap) (r : Option AV) (l : List (AV × Heap)) : rv w h r ≠ .choice l := by cases r <;> simp [rv]
theorem appendA_no (args : List AV) (ts : List TypeId) (h : Heap) (l : List (AV × Heap)) : appendA T args ts h ≠ .choice l := by
  intro e
  unfold appendA at e
  repeat' split at e
  all_goals cases e
theorem copyA_no (args : List AV) (ts : List TypeId) (h : Heap) (l : List (AV × Heap)) : copyA T args ts h ≠ .choice l := by
  intro e
  unfold copyA at e
  simp only at e
  repeat' split at e
  all_goals cases e
theorem clear1_no (e : TypeId) (h : Heap) (b off n : Nat) (l : List (AV × Heap)) : clear1 T e h b off n ≠ .choice l := by
  intro e
  unfold clear1 at e
  repeat' split at e
  all_goals cases e
theorem clearA_no (t : TypeId) (h : Heap) (x : AV) (l : List (AV × Heap)) : clearA T t h x ≠ .choice l := by
  intro e
  unfold clearA at e
  repeat' split at e
  all_goals first | exact clear1_no _ _ _ _ _ _ e | cases e
theorem convA_no (s d : TypeId) (h : Heap) (x : AV) (l : List (AV × Heap)) : convA T s d h x ≠ .choice l := by
  intro e
  unfold convA at e
  repeat' split at e
  all_goals cases e
theorem extA_no (f : FuncId) (args : List AV) (h : Heap) (l : List (AV × Heap)) : extA T f args h ≠ .choice l := by
  intro e
  unfold extA at e
  repeat' split at e
  all_goals first | (exact rv_no _ _ _ _ e) | cases e
theorem invokeA_no (fn : Fn) (cap args : List AV) (h : Heap) (l : List (AV × Heap)) : invokeA T fn cap args h ≠ .choice l := by
  intro e
  unfold invokeA at e
  repeat' split at e
  all_goals first | (exact extA_no _ _ _ _ e) | cases e
theorem opA_no (hT : T.alts = false) (ρ : Operand → Option AV) (o : Oper) (h : Heap) (l : List (AV × Heap)) : opA T ρ o h ≠ .choice l := by
  intro e
  unfold opA at e
  split at e
  all_goals (repeat' split at e)
  all_goals first
    | (exact rv_no _ _ _ _ e)
    | (exact appendA_no _ _ _ _ e)
    | (exact copyA_no _ _ _ _ e)
    | (exact clearA_no _ _ _ _ e)
    | (exact convA_no _ _ _ _ _ e)
    | (exact invokeA_no _ _ _ _ _ e)
    | (exact nextA_no hT _ _ _ e)
    | (cases e; done)
theorem bindR_leaf {x : Res} {F : Res → Res} (h : x.leaf = true) (k : ∀ r, (F r).leaf = true ∨ F r = r) : (bindR x F).leaf = true := by
  have e : bindR x F = F x := by cases x <;> first | rfl | cases h
  rw [e]
  rcases k x with h1 | h1
  · exact h1
  · rw [h1]; exact h
theorem drawn_isLeaf (rec : Task → Res) (cx : Cx) (all : List Oper) (s : St) : (drawn T rec cx all s).leaf = true := by
  unfold drawn
  simp only
  split
  · rfl
  · split
    · rfl
    · split <;> rfl
    · split <;> rfl
theorem step_leaf (hT : T.alts = false) (rec : Task → Res) (ih : ∀ t, (rec t).leaf = true) (t : Task) : (step T rec t).leaf = true := by
  have B : ∀ {x : Res} {F : Res → Res}, x.leaf = true → (∀ r, r.leaf = true → (F r).leaf = true) → (bindR x F).leaf = true := fun {x F} h k => by
    have e : bindR x F = F x := by cases x <;> first | rfl | cases h
    rw [e]; exact k x h
  have N : ∀ (f : FuncId) (r : Res), r.leaf = true → (no1 f r).leaf = true := fun f r h => by cases r <;> first | rfl | cases h
  cases t with
  | code cx c s =>
    simp only [step]
    cases c with
    | skip => rfl
    | label => rfl
    | region i ops d => cases d with
      | false => exact ih _
      | true => exact drawn_isLeaf rec cx _ s
    | seq a b => exact B (ih _) fun r hr => by split <;> first | exact ih _ | exact hr
    | cond x a b => simp only; split <;> first | exact ih _ | rfl
    | block id b => exact B (ih _) fun r hr => by split <;> first | (split <;> rfl) | exact hr
    | loop b => exact B (ih _) fun r hr => by split <;> first | exact ih _ | exact hr
    | exit => rfl
    | ret => rfl
    | scope b => exact B (ih _) fun r hr => by split <;> first | rfl | exact hr
    | rangeFunc f ps as bd =>
      simp only
      split
      · split
        · rfl
        · split
          · refine B (ih _) fun r hr => ?_
            split
            · split
              · split
                · rfl
                · split <;> first | rfl | exact ih _
              · rfl
            · rfl
            · exact hr
          · rfl
          · rfl
      · rfl
    | goto => rfl
    | refuse => rfl
  | ops cx all rest s =>
    simp only [step]
    split
    · rfl
    · split
      · rfl
      · split <;> first | exact ih _ | rfl
      · split
        · split <;> first | exact ih _ | rfl
        · split <;> first | exact ih _ | rfl
        · refine B (ih _) fun r hr => ?_
          split
          · split <;> first | exact ih _ | rfl
          · rfl
          · exact N _ _ hr
        · refine B (ih _) fun r hr => ?_
          split
          · split <;> first | exact ih _ | rfl
          · rfl
          · exact N _ _ hr
        · split
          · rfl
          · split <;> first | exact ih _ | rfl
        · split
          · rfl
          · split
            · split <;> first | exact ih _ | rfl
            · split <;> first | exact ih _ | rfl
        · rfl
        · rename_i l he
          exact absurd he (opA_no hT _ _ _ _)
        · rfl
  | call f args h =>
    simp only [step]
    split
    · rfl
    · split
      · split
        · refine B (ih _) fun r hr => ?_
          split
          · exact ih _
          · exact ih _
          · exact ih _
          · rfl
          · exact hr
        · rfl
      · rfl
  | leave f tm ds pan h =>
    simp only [step]
    split
    · split
      · split
        · split <;> rfl
        · rfl
      · split <;> rfl
      · rfl
    · split <;> first | exact ih _ | rfl
    · split
      · refine B (ih _) fun r hr => ?_
        split
        · split <;> exact ih _
        · rfl
        · exact N _ _ hr
      · rfl
      · rfl
  | dcall f args pan h =>
    simp only [step]
    split
    · split
      · rfl
      · split
        · refine B (ih _) fun r hr => ?_
          split
          · split <;> rfl
          · rfl
          · exact hr
        · rfl
    · rfl
  | round l fn tm nt as bd h =>
    simp only [step]
    refine B (ih _) fun r hr => ?_
    split
    · split
      · refine B (ih _) fun r hr => ?_
        split
        · split
          · split <;> rfl
          · rfl
        · split <;> rfl
        · exact hr
      · rfl
    · rfl
    · split <;> rfl
    · exact hr
theorem ev_leaf (hT : T.alts = false) : ∀ (n : Nat) (t : Task), (ev T n t).leaf = true
  | 0, _ => rfl
  | n + 1, t => step_leaf hT (ev T n) (ev_leaf hT n) t
/-- the one result -/
theorem Gives.one (hT : T.alts = false) {f : FuncId} {args : List AV} {h : Heap} {P : AV → Heap → Prop} (g : Gives T f args h P) : ∃ v h', Says T (.call f args h) (.ret v h') ∧ P v h' := by
  obtain ⟨r, hs, hl⟩ := g
  obtain ⟨N, hN⟩ := hs
  have h1 := ev_leaf hT N (.call f args h)
  rw [hN N (Nat.le_refl _)] at h1
  have hq : Leaves (fun r => ∃ v h', r = .ret v h' ∧ P v h') r := hl
  have : ∃ v h', r = .ret v h' ∧ P v h' := by cases r <;> first | exact hq | cases h1
  obtain ⟨v, h', rfl, p⟩ := this
  exact ⟨v, h', ⟨N, hN⟩, p⟩
end Ev
namespace Ev
open Go
/-- the tables under which nothing is left open -/
def Tabs.det (T : Tabs) : Tabs := { T with alts := false }
theorem TabsOK.det {P : Program} {T : Tabs} (ok : TabsOK P T) : TabsOK P T.det := ⟨ok.ti, ok.und, ok.fn, ok.eqg, ok.stood, ok.mix, ok.ext, ok.rt, ok.kd⟩
end Ev
