/- A part of the proof that what the evaluator (EvDefs) says of a call is what the machine does: EvOps10. Conditions: those that each theorem states. -/
import Derived.Test.YtnaihoegbmpjiaaGreatEvOps9
set_option linter.unusedVariables false
set_option linter.unusedSimpArgs false
namespace Ev
open Go Go.RowKit

variable {P : Program} {T : Tabs} {base : Nat} {w0 : World}

theorem len_sound (ok : TabsOK P T) {E : En} {h : Heap} {w : World} (H : HR base w0 E h w) {t : TypeId} {x v : AV} (hl : lenA T t h x = some v) {x' : Value} (hx : VR E x x') (rest : List TypeId) (rest' : List Value) (ty : TypeId) :
    ∃ v', (Builtin.len_ (t :: rest).toArray ty (x' :: rest').toArray).run P w = .ok v' w ∧ VR E v v' := by
  unfold lenA at hl
  split at hl
  · rename_i n e hu
    simp at hl; subst hl
    exact ⟨_, by cases hx <;> simp [Builtin.len_, run_und ok hu, goInt] <;> rfl, .int _ _⟩
  · rename_i arr hu
    split at hl <;> simp at hl
    rename_i n e hu2
    subst hl
    exact ⟨_, by cases hx <;> simp [Builtin.len_, run_und ok hu, run_und ok hu2, goInt] <;> rfl, .int _ _⟩
  · rename_i k e hu
    simp at hl; subst hl
    cases hx
    exact ⟨_, by simp [Builtin.len_, run_und ok hu, goInt], .int _ _⟩
  · rename_i k e b hu
    cases hx with | map _ hd =>
    split at hl <;> simp at hl
    rename_i es clock hg
    subst hl
    obtain ⟨hb, es', he1, he2⟩ := H.obj b _ hd hg
    have := he2.length
    simp at this
    exact ⟨.int .i64 es'.size, by simp [Builtin.len_, run_und ok hu, run_getMap he1, goInt], by rw [this]; exact .int _ _⟩
  · rename_i s hu
    cases hx
    simp at hl; subst hl
    refine ⟨.int .i64 s.length, ?_, .int _ _⟩
    have hsz : (⟨s.toArray⟩ : ByteArray).size = s.length := by simp [ByteArray.size]
    simp [Builtin.len_, run_und ok hu, goInt, hsz]
  · simp at hl
  · rename_i e x hu hns
    split at hl <;> simp at hl
    rename_i n hn
    subst hl
    refine ⟨.int .i64 n, ?_, .int _ _⟩
    unfold lenS at hn
    split at hn <;> simp at hn <;> subst hn <;> cases hx <;> first | (simp [Builtin.len_, run_und ok hu, goInt]; done) | exact absurd rfl (hns _)
  · simp at hl

theorem maxmin_sound {E : En} {w : World} (up : Bool) : ∀ (l : List AV) (x v : AV) (l' : List Value) (x' : Value), maxIntA up x l = some v → VR E x x' → VRs E l l' →
    ∃ v', (l'.foldlM (m := Sem) (if up then Builtin.max2 else Builtin.min2) x').run P w = .ok v' w ∧ VR E v v'
  | [], x, v, _, x', h, hx, .nil => by
    unfold maxIntA at h
    simp at h; subst h; exact ⟨x', by simp, hx⟩
  | y :: l, x, v, _, x', h, hx, .cons _ y' _ l' hy hl => by
    unfold maxIntA at h
    split at h
    · rename_i heq; cases heq
    · rename_i k a k2 b l2 heq
      cases heq
      cases hx; cases hy
      obtain ⟨v', h1, h2⟩ := maxmin_sound up l _ v l' (.int k (if up then (if b > a then b else a) else (if b < a then b else a))) h (.int _ _) hl
      refine ⟨v', ?_, h2⟩
      rw [List.foldlM_cons]
      cases up
      · simp only [Bool.false_eq_true, if_false, Builtin.min2, Sem.run_bind, Sem.run_pure, Result.andThen_ok] at h1 ⊢; exact h1
      · simp only [if_true, Builtin.max2, Sem.run_bind, Sem.run_pure, Result.andThen_ok] at h1 ⊢; exact h1
    · simp at h

theorem opt_sound {E : En} {ρ : Operand → Option AV} {f : Operand → Value} (hρ : RhoR E ρ f) {x : Option Operand} {a : Option AV} (h : optOp ρ x = some a) : OVR E a (x.map f) := by
  unfold optOp at h
  split at h
  · simp at h; subst h; exact .none
  · split at h <;> simp at h
    subst h
    rename_i v hv
    exact .some _ _ (hρ _ _ hv)

/-- a fresh row that the cells fill -/
theorem fresh {E : En} {h : Heap} {w : World} (H : HR base w0 E h w) (e : TypeId) {cs : List AV} {c : Array Value} (hv : VRs E cs c.toList) :
    ∃ E', HR base w0 E' (h.alloc (.cells e cs true)) (w.alloc (.cells c e)) ∧ Ste E h w E' (h.alloc (.cells e cs true)) (w.alloc (.cells c e)) ∧ E'.dom h.next ∧ E'.at h.next 0 = ⟨w.heap.size, 0, none⟩ := by
  have hl := hv.length
  simp at hl
  have K := new_cells H e cs c (by omega) (fun i v hi => by
    obtain ⟨v', h1, h2⟩ := hv.get hi
    exact ⟨v', by rw [← Array.getElem?_toList]; exact h1, h2⟩)
  exact ⟨_, K.1, K.2.1, K.2.2.1, K.2.2.2.1⟩

set_option maxRecDepth 8000 in
theorem makeSlice_run (ok : TabsOK P T) {w : World} {t elem : TypeId} (hu : T.und t = some (.slice elem)) {sz : Nat} (hsz : T.size elem = some sz) {ei : TypeInfo} (hei : T.ti elem = some ei)
    {k k2 : IntKind} {l c : Int} (hb : 0 ≤ l ∧ l ≤ c ∧ c ≤ 1073741824 ∧ roomA c.toNat ei.bytes = true) {z : Array Value} (r1 : ((if c.toNat * sz = 0 then pure #[] else do pure (← Go.zeroValue elem).cells : Sem (Array Value))).run P w = .ok z w) :
    (Instr.makeSlice t (.int k l) (.int k2 c)).run P w = .ok (.slice (some ⟨w.heap.size, 0, none⟩) l.toNat c.toNat) (w.alloc (.cells ((Array.range (c.toNat * sz)).map fun i => z[i % z.size]!) elem)) := by
  have hr := roomA_le hb.2.2.2
  have hw1 : IntKind.i64.wrap l = l := by simp [IntKind.wrap, IntKind.bits, IntKind.signed]; omega
  have hw2 : IntKind.i64.wrap c = c := by simp [IntKind.wrap, IntKind.bits, IntKind.signed]; omega
  have hmul : c.toNat * ei.bytes ≤ 140737488355328 := by
    have : c.toNat * ei.bytes ≤ (4 * c.toNat + 1000) * (ei.bytes + 1) := Nat.mul_le_mul (by omega) (by omega)
    omega
  have hmulZ : (ei.bytes : Int) * c ≤ 140737488355328 := by
    have hc : c = (c.toNat : Int) := by omega
    rw [hc, ← Int.natCast_mul, Nat.mul_comm]
    omega
  have h1 : ¬ (281474976710656 : Int) < (ei.bytes : Int) * c := by omega
  have h2 : ¬ c < 0 := by omega
  have h3 : ¬ l < 0 := by omega
  have h4 : ¬ c < l := by omega
  have h5 : ¬ 140737488355328 < c.toNat * ei.bytes := by omega
  unfold Instr.makeSlice
  simp only [Sem.run_bind, run_und ok hu, Result.andThen_ok, asInt, asIntOf, Sem.run_pure, run_ti ok hei, hw1, hw2, run_size ok hsz]
  simp [h1, h2, h3, h4, askRoom, roomBytes, h5, run_size ok hsz]
  by_cases h0 : c.toNat * sz = 0
  · rw [if_pos h0] at r1 ⊢
    simp at r1
    subst r1
    simp [newRow]
  · rw [if_neg h0] at r1 ⊢
    simp at r1
    generalize hq : (zeroValue elem).run P w = q at r1 ⊢
    cases q with
    | ok zz ww =>
      simp at r1
      obtain ⟨rfl, rfl⟩ := r1
      simp [newRow]
    | halt _ _ => simp at r1
theorem makeSlice_sound (ok : TabsOK P T) {E : En} {h : Heap} {w : World} (H : HR base w0 E h w) {t elem : TypeId} (hu : T.und t = some (.slice elem)) {sz : Nat} (hsz : T.size elem = some sz) {ei : TypeInfo} (hei : T.ti elem = some ei)
    {k k2 : IntKind} {l c : Int} (hb : 0 ≤ l ∧ l ≤ c ∧ c ≤ 1073741824 ∧ roomA c.toNat ei.bytes = true) {cs : List AV} (hz : zerosA T elem c.toNat = some cs) (hl : cs.length = c.toNat * sz) :
    ∃ E' w' v', (Instr.makeSlice t (.int k l) (.int k2 c)).run P w = .ok v' w' ∧ VR E' (.slice h.next 0 l.toNat c.toNat) v' ∧ HR base w0 E' (h.alloc (.cells elem cs true)) w' ∧ Ste E h w E' (h.alloc (.cells elem cs true)) w' := by
  obtain ⟨z, r1, v1⟩ := zeros_sound ok hz hl (E := E) w
  obtain ⟨E', f1, f2, f3, f4⟩ := fresh H elem v1
  have hs := VR.slice (E := E') h.next 0 l.toNat c.toNat f3
  rw [f4] at hs
  exact ⟨E', _, _, makeSlice_run ok hu hsz hei hb r1, hs, f1, f2⟩
end Ev
