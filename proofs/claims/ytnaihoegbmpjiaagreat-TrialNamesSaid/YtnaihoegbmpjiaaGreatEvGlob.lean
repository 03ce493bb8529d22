/- A part of the rules by which proofs walk over what the evaluator (EvDefs) says, at values that are not known: EvGlob. Conditions: those that each theorem states. -/
import Derived.Test.YtnaihoegbmpjiaaGreatEvNorm
import Derived.Sort.Grow
import Derived.Deep.Draws
set_option linter.unusedVariables false
set_option linter.unusedSimpArgs false
namespace Ev
open Go Go.RowKit

variable {P : Program} {T : Tabs}

/-! ### words that ask something of the world in which the run began -/
section
variable {G : Nat → World → Prop}
def SmOKG (G : Nat → World → Prop) (P : Program) (sm : FuncId → List AV → Heap → Option (AV × Heap)) : Prop := ∀ (base : Nat) (w0 : World) f args h v h', G base w0 → sm f args h = some (v, h') → TaskOK P base w0 (.call f args h) (.ret v h')
def MemoOKG (G : Nat → World → Prop) (P : Program) (M : Memo) : Prop := ∀ f es, M.get f = some es → ∀ a v, (a, v) ∈ es → ∀ base w0 h, G base w0 → TaskOK P base w0 (.call f a h) (.ret v h)
theorem MemoOKG.nil : MemoOKG G P (.nil : Memo) := fun f es h => by rw [Tr.get_nil] at h; cases h
theorem sm_closedG (ok : TabsOK P T) (hsm : SmOKG G P T.sm) {f : FuncId} {args : List AV} {v : AV} {n : Nat}
    (hp : AV.plains args = true) (hv : v.plain = true) (he : allRet v (ev T n (.call f args ⟨.nil, 0⟩)) = true) (base : Nat) (w0 : World) (hG : G base w0) (h : Heap) : TaskOK P base w0 (.call f args h) (.ret v h) := by
  intro E args' w cs ha H
  have H0 : HR base w0 En.none ⟨.nil, 0⟩ w := ⟨fun _ h => h.elim, fun _ _ h => h.elim, fun _ _ _ _ h => h.elim, H.wd, H.drawn, H.bsz, fun _ h => h.elim⟩
  obtain ⟨q, hq, K⟩ := ev_sound (base := base) (w0 := w0) ok (fun f args h v h' => hsm base w0 f args h v h' hG) n (.call f args ⟨.nil, 0⟩) En.none args' w cs (ha.plain hp) H0
  obtain ⟨h2, rfl⟩ := allRet_leaf he hq
  obtain ⟨E', w', v', fr, p1, p2, p3, p4, p5⟩ := K
  have old : ∀ k, k < w.heap.size → w'.heap[k]? = w.heap[k]? := fun k hk => p2.fr k hk (fun _ hd => hd.elim)
  exact ⟨_, rfl, E, w', v', fr, ⟨H.dlt, fun b o hd hg => OR'.same (old _ (H.blt b hd)) (H.obj b o hd hg), H.inj, p1.wd, p1.drawn, p1.bsz, fun b hd => Nat.lt_of_lt_of_le (H.blt b hd) p2.sz⟩,
    ⟨.refl E, fun _ h => .inl h, Nat.le_refl _, fun _ _ _ => rfl, p2.sz, fun k hk _ => old k hk, fun _ h => .inl h⟩, p3.plain hv, p4, p5⟩

theorem memoSm_okG {M : Memo} (hM : MemoOKG G P M) {sm : FuncId → List AV → Heap → Option (AV × Heap)} (hsm : SmOKG G P sm) : SmOKG G P (memoSm M sm) := by
  intro base w0 f args h v h' hG e
  unfold memoSm at e
  rw [getP_eq] at e
  split at e
  · exact hsm base w0 f args h v h' hG e
  · rename_i es hes
    split at e
    · rename_i u hu
      simp only [Option.some.injEq, Prod.mk.injEq] at e
      obtain ⟨rfl, rfl⟩ := e
      exact hM f es hes args _ (findM_mem _ _ _ hu) base w0 _ hG
    · exact hsm base w0 f args h v h' hG e
theorem MemoOKG.add (ok : TabsOK P T) (hT : SmOKG G P T.sm)
    {M : Memo} (hM : MemoOKG G P M) {f : FuncId} {args : List AV} {v : AV} (hc : memoChk T f args v = true) : MemoOKG G P (M.add f args v) := by
  have key : ∀ base w0 h, G base w0 → TaskOK P base w0 (.call f args h) (.ret v h) := by
    unfold memoChk at hc
    split at hc
    · rename_i hp hv
      rw [evR_eq] at hc
      exact fun base w0 h hG => sm_closedG ok hT hp hv hc base w0 hG h
    · cases hc
  intro g es hg a u hm
  unfold Memo.add at hg
  rw [Tr.get_set] at hg
  by_cases e : g = f
  · rw [if_pos e] at hg
    simp only [Option.some.injEq] at hg
    subst hg
    rcases List.mem_cons.1 hm with h1 | h1
    · simp only [Prod.mk.injEq] at h1
      obtain ⟨rfl, rfl⟩ := h1
      subst e
      exact key
    · cases hq : M.get f with
      | none => rw [hq] at h1; simp at h1
      | some es0 =>
        rw [hq] at h1
        subst e
        exact hM g es0 hq a u (by simpa using h1)
  · rw [if_neg e] at hg
    exact hM g es hg a u hm

theorem ev_calls_chkG (ok : TabsOK P T) (hsm : SmOKG G P T.sm) {f : FuncId} (hc : memoChk T f [] (.bool true) = true) (w : World) (hG : G w.heap.size w) :
    Calls P f #[] w fun e w' => e = .returned (.bool true) ∧ Below w.heap.size w w' := by
  unfold memoChk at hc
  split at hc
  · intro cs
    rw [evR_eq] at hc
    obtain ⟨q, hq, K⟩ := ev_sound (base := w.heap.size) (w0 := w) ok (fun f args h v h' => hsm _ _ f args h v h' hG) 1000000 (.call f [] ⟨.nil, 0⟩) En.none [] w cs .nil (HR.start w)
    obtain ⟨h2, rfl⟩ := allRet_leaf hc hq
    obtain ⟨E', w', v', fr, p1, p2, p3, p4, p5, p6⟩ := K
    cases p3
    exact ⟨_, w', fr, ⟨rfl, p1.wd⟩, p4, p5, p6⟩
  · cases hc
end
/-! ### new blocks behind, draws -/
theorem hr_grow {base : Nat} {w0 : World} {E : En} {h : Heap} {w : World} (H : HR base w0 E h w) (os : Array Obj) : HR base w0 E h (Go.Sort.grow w os) ∧ Ste E h w E h (Go.Sort.grow w os) := by
  have hs : (Go.Sort.grow w os).heap.size = w.heap.size + os.size := by simp [Go.Sort.grow]
  have hk : ∀ k, k < w.heap.size → (Go.Sort.grow w os).heap[k]? = w.heap[k]? := fun k hk => by
    show (w.heap ++ os)[k]? = _
    rw [Array.getElem?_append, if_pos hk]
  refine ⟨⟨H.dlt, fun b o hd hg => OR'.same (hk _ (H.blt b hd)) (H.obj b o hd hg), H.inj, H.wd.trans ⟨rfl, rfl, rfl, by omega, fun k h => hk k (Nat.lt_of_lt_of_le h H.bsz)⟩, H.drawn, by have := H.bsz; omega, fun b hd => by have := H.blt b hd; omega⟩,
    ⟨.refl E, fun _ h => .inl h, Nat.le_refl _, fun _ _ _ => rfl, by omega, fun k h _ => hk k h, fun _ h => .inl h⟩⟩
theorem hr_drewN {base : Nat} {w0 : World} {E : En} {h : Heap} {w : World} (H : HR base w0 E h w) (m : Nat) : HR base w0 E h (w.drewN m) ∧ Ste E h w E h (w.drewN m) :=
  ⟨⟨H.dlt, fun b o hd hg => OR'.same rfl (H.obj b o hd hg), H.inj, H.wd.trans ⟨rfl, rfl, rfl, Nat.le_refl _, fun _ _ => rfl⟩, Nat.le_trans H.drawn (Nat.le_add_right _ _), H.bsz, H.blt⟩,
    ⟨.refl E, fun _ h => .inl h, Nat.le_refl _, fun _ _ _ => rfl, Nat.le_refl _, fun _ _ _ => rfl, fun _ h => .inl h⟩⟩
end Ev
