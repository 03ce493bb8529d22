/- Calls that name no block may be told once for all memories: from the evaluator's word to the machine's. Conditions: those that each theorem states. -/
import Derived.Test.YtnaihoegbmpjiaaGreatEvRaw
set_option linter.unusedVariables false
set_option linter.unusedSimpArgs false
namespace Ev
open Go Go.RowKit

variable {P : Program} {T : Tabs}

/-! ### calls that name no block, told once -/
/-- all of several results are this value -/
def allRet (v : AV) : Res → Bool
  | .alt a b => allRet v a && allRet v b
  | .ret u _ => aveq u v
  | _ => false
theorem allRet_leaf {v : AV} : ∀ {r q : Res}, allRet v r = true → Lf r q → ∃ h, q = .ret v h
  | .alt a b, q, g, h => by
    unfold allRet at g
    simp only [Bool.and_eq_true] at g
    exact h.elim (allRet_leaf g.1) (allRet_leaf g.2)
  | .ret u h', q, g, h => by
    cases h
    have := aveq_eq _ _ g
    subst this
    exact ⟨_, rfl⟩
  | .fin .., _, g, _ => by simp [allRet] at g
  | .pan .., _, g, _ => by simp [allRet] at g
  | .thrown .., _, g, _ => by simp [allRet] at g
  | .dret .., _, g, _ => by simp [allRet] at g
  | .no .., _, g, _ => by simp [allRet] at g
theorem sm_closed (ok : TabsOK P T) (hsm : ∀ (base : Nat) (w0 : World) f args h v h', T.sm f args h = some (v, h') → TaskOK P base w0 (.call f args h) (.ret v h')) {f : FuncId} {args : List AV} {v : AV} {n : Nat}
    (hp : AV.plains args = true) (hv : v.plain = true) (he : allRet v (ev T n (.call f args ⟨.nil, 0⟩)) = true) (base : Nat) (w0 : World) (h : Heap) : TaskOK P base w0 (.call f args h) (.ret v h) := by
  intro E args' w cs ha H
  have H0 : HR base w0 En.none ⟨.nil, 0⟩ w := ⟨fun _ h => h.elim, fun _ _ h => h.elim, fun _ _ _ _ h => h.elim, H.wd, H.drawn, H.bsz, fun _ h => h.elim⟩
  obtain ⟨q, hq, K⟩ := ev_sound (base := base) (w0 := w0) ok (hsm base w0) n (.call f args ⟨.nil, 0⟩) En.none args' w cs (ha.plain hp) H0
  obtain ⟨h2, rfl⟩ := allRet_leaf he hq
  obtain ⟨E', w', v', fr, p1, p2, p3, p4, p5⟩ := K
  have old : ∀ k, k < w.heap.size → w'.heap[k]? = w.heap[k]? := fun k hk => p2.fr k hk (fun _ hd => hd.elim)
  exact ⟨_, rfl, E, w', v', fr, ⟨H.dlt, fun b o hd hg => OR'.same (old _ (H.blt b hd)) (H.obj b o hd hg), H.inj, p1.wd, p1.drawn, p1.bsz, fun b hd => Nat.lt_of_lt_of_le (H.blt b hd) p2.sz⟩,
    ⟨.refl E, fun _ h => .inl h, Nat.le_refl _, fun _ _ _ => rfl, p2.sz, fun k hk _ => old k hk, fun _ h => .inl h⟩, p3.plain hv, p4, p5⟩

/-! ### a table of such calls -/
/-- quick looks ahead of the long one -/
def near : AV → AV → Bool
  | .int _ a, .int _ b => (match a, b with
    | .ofNat m, .ofNat n => Nat.beq m n
    | .negSucc m, .negSucc n => Nat.beq m n
    | _, _ => false)
  | _, _ => true
def nears : List AV → List AV → Bool
  | a :: l, b :: m => (match near a b with
    | true => nears l m
    | false => false)
  | _, _ => true
def findM (args : List AV) : List (List AV × AV) → Option AV
  | [] => none
  | (a, v) :: l => match nears args a with
    | false => findM args l
    | true => match aveqs args a with
      | true => some v
      | false => findM args l
abbrev Memo := Tr (List (List AV × AV))
def memoSm (M : Memo) (sm : FuncId → List AV → Heap → Option (AV × Heap)) (f : FuncId) (args : List AV) (h : Heap) : Option (AV × Heap) := match getP (pt f) M with
  | none => sm f args h
  | some es => match findM args es with
    | some v => some (v, h)
    | none => sm f args h
def Memo.add (M : Memo) (f : FuncId) (args : List AV) (v : AV) : Memo := M.set f ((args, v) :: (M.get f).getD [])
def MemoOK (P : Program) (M : Memo) : Prop := ∀ f es, M.get f = some es → ∀ a v, (a, v) ∈ es → ∀ base w0 h, TaskOK P base w0 (.call f a h) (.ret v h)
theorem MemoOK.nil : MemoOK P (.nil : Memo) := fun f es h => by rw [Tr.get_nil] at h; cases h
theorem findM_mem (args : List AV) : ∀ (l : List (List AV × AV)) (v : AV), findM args l = some v → (args, v) ∈ l
  | [], _, h => by cases h
  | (a, u) :: l, v, h => by
    unfold findM at h
    split at h
    · exact List.mem_cons_of_mem _ (findM_mem args l v h)
    · split at h
      · rename_i he
        cases h
        rw [aveqs_eq _ _ he]
        exact List.mem_cons_self ..
      · exact List.mem_cons_of_mem _ (findM_mem args l v h)
theorem memoSm_ok {M : Memo} (hM : MemoOK P M) {sm : FuncId → List AV → Heap → Option (AV × Heap)} (hsm : ∀ (base : Nat) (w0 : World) f args h v h', sm f args h = some (v, h') → TaskOK P base w0 (.call f args h) (.ret v h'))
    (base : Nat) (w0 : World) (f : FuncId) (args : List AV) (h : Heap) (v : AV) (h' : Heap) (e : memoSm M sm f args h = some (v, h')) : TaskOK P base w0 (.call f args h) (.ret v h') := by
  unfold memoSm at e
  rw [getP_eq] at e
  split at e
  · exact hsm base w0 f args h v h' e
  · rename_i es hes
    split at e
    · rename_i u hu
      simp only [Option.some.injEq, Prod.mk.injEq] at e
      obtain ⟨rfl, rfl⟩ := e
      exact hM f es hes args _ (findM_mem _ _ _ hu) base w0 _
    · exact hsm base w0 f args h v h' e
/-- what the kernel looks at -/
noncomputable def memoChk (T : Tabs) (f : FuncId) (args : List AV) (v : AV) : Bool := match AV.plains args, v.plain with
  | true, true => allRet v (evR T 1000000 (.call f args ⟨.nil, 0⟩))
  | _, _ => false
theorem MemoOK.add (ok : TabsOK P T) (hT : ∀ (base : Nat) (w0 : World) f args h v h', T.sm f args h = some (v, h') → TaskOK P base w0 (.call f args h) (.ret v h'))
    {M : Memo} (hM : MemoOK P M) {f : FuncId} {args : List AV} {v : AV} (hc : memoChk T f args v = true) : MemoOK P (M.add f args v) := by
  have key : ∀ base w0 h, TaskOK P base w0 (.call f args h) (.ret v h) := by
    unfold memoChk at hc
    split at hc
    · rename_i hp hv
      rw [evR_eq] at hc
      exact sm_closed ok hT hp hv hc
    · cases hc
  intro g es hg a u hm
  unfold Memo.add at hg
  rw [Tr.get_set] at hg
  by_cases e : g = f
  · rw [if_pos e] at hg
    simp only [Option.some.injEq] at hg
    subst hg
    rcases List.mem_cons.1 hm with h1 | h1
    · simp only [Prod.mk.injEq] at h1
      obtain ⟨rfl, rfl⟩ := h1
      subst e
      exact key
    · cases hq : M.get f with
      | none => rw [hq] at h1; simp at h1
      | some es0 =>
        rw [hq] at h1
        subst e
        exact hM g es0 hq a u (by simpa using h1)
  · rw [if_neg e] at hg
    exact hM g es hg a u hm
/-- bytes out of a number, the last byte the lowest -/
def bsAux : Nat → Nat → List UInt8 → List UInt8
  | 0, _, acc => acc
  | n + 1, x, acc => match x with
    | 0 => bsAux n 0 (UInt8.ofNat 0 :: acc)
    | k + 1 => bsAux n (Nat.div (k + 1) 256) (UInt8.ofNat (Nat.mod (k + 1) 256) :: acc)
def bs (n x : Nat) : AV := .str (bsAux n x [])
theorem ev_calls_memo (ok : TabsOK P T) (hsm : ∀ (base : Nat) (w0 : World) f args h v h', T.sm f args h = some (v, h') → TaskOK P base w0 (.call f args h) (.ret v h')) {n : Nat} {f : FuncId} (hg : good (evR T n (.call f [] ⟨.nil, 0⟩)) = true) (w : World) :
    Calls P f #[] w fun e w' => e = .returned (.bool true) ∧ Below w.heap.size w w' := by
  rw [evR_eq] at hg
  exact ev_calls_sm ok hsm hg w
end Ev
namespace Ev
open Go Go.RowKit
theorem ev_calls_chk {P : Program} {T : Tabs} (ok : TabsOK P T) (hsm : ∀ (base : Nat) (w0 : World) f args h v h', T.sm f args h = some (v, h') → TaskOK P base w0 (.call f args h) (.ret v h')) {f : FuncId} (hc : memoChk T f [] (.bool true) = true) (w : World) :
    Calls P f #[] w fun e w' => e = .returned (.bool true) ∧ Below w.heap.size w w' := by
  refine ev_calls_memo ok hsm (n := 1000000) ?_ w
  unfold memoChk at hc
  split at hc
  · have key : ∀ r : Res, allRet (.bool true) r = true → good r = true := by
      intro r
      induction r with
      | alt a b iha ihb =>
        intro h
        unfold allRet at h
        simp only [Bool.and_eq_true] at h
        unfold good
        rw [iha h.1, ihb h.2]; rfl
      | ret u h' =>
        intro h
        have := aveq_eq _ _ h
        subst this
        rfl
      | _ => intro h; simp [allRet] at h
    exact key _ hc
  · cases hc
end Ev
