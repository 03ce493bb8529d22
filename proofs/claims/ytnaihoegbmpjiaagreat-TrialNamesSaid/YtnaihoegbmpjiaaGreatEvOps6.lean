/- A part of the proof that what the evaluator (EvDefs) says of a call is what the machine does: EvOps6. Conditions: those that each theorem states. -/
import Derived.Test.YtnaihoegbmpjiaaGreatEvOps5
set_option linter.unusedVariables false
set_option linter.unusedSimpArgs false
namespace Ev
open Go Go.RowKit

variable {P : Program} {T : Tabs} {base : Nat} {w0 : World}

/-- a run of stores into one block -/
theorem conc_store {B : Nat} {e : TypeId} {z : Nat × Nat} : ∀ (vs : List Value) (w : World) (c : Array Value) (o i : Nat), w.heap[B]? = some (.cells c e z) → o + i + vs.length ≤ c.size → (∀ v ∈ vs, v.oneCell' = true) →
    (∀ j, o + i ≤ j → j < c.size → ¬ (z.1 ≤ j ∧ j < z.2)) →
    ∃ w', (storeCells ⟨B, o, none⟩ vs i).run P w = .ok () w' ∧ (∃ c', w'.heap[B]? = some (.cells c' e z) ∧ c'.toList = over c.toList (o + i) vs) ∧ (∀ k, k ≠ B → w'.heap[k]? = w.heap[k]?) ∧ w'.heap.size = w.heap.size ∧
      w'.os = w.os ∧ w'.tape = w.tape ∧ w'.output = w.output ∧ w'.drawn = w.drawn
  | [], w, c, o, i, hw, _, _, _ => ⟨w, by simp [storeCells], ⟨c, hw, by rw [over_nil]⟩, fun _ _ => rfl, rfl, rfl, rfl, rfl, rfl⟩
  | v :: vs, w, c, o, i, hw, hl, h1, hf => by
    simp only [List.length_cons] at hl
    have ha : (⟨B, o, none⟩ : Addr).add i = ⟨B, o + i, none⟩ := by
      unfold Addr.add; split
      · rename_i h; subst h; rfl
      · rfl
    have hc : w.cell? ⟨B, o + i, none⟩ = some c[o + i] := by
      unfold World.cell?; simp [hw]
    have hz : w.frozen? ⟨B, o + i, none⟩ = false := by
      unfold World.frozen?
      simp only [hw]
      have := hf (o + i) (Nat.le_refl _) (by omega)
      simp only [Bool.and_eq_false_iff, decide_eq_false_iff_not]
      omega
    have hw1 : (w.setCell ⟨B, o + i, none⟩ v).heap[B]? = some (.cells (c.setIfInBounds (o + i) v) e z) := by
      simp only [World.setCell, Array.getElem?_modify, if_true, hw, Option.map_some]
      simp
    obtain ⟨w', r1, ⟨c', r2, r3⟩, r4, r5, r6, r7, r8, r9⟩ := conc_store vs (w.setCell ⟨B, o + i, none⟩ v) (c.setIfInBounds (o + i) v) o (i + 1) hw1 (by simp; omega) (fun x hx => h1 x (List.mem_cons_of_mem _ hx)) (fun j hj hj' => hf j (by omega) (by simpa using hj'))
    refine ⟨w', ?_, ⟨c', r2, ?_⟩, ?_, ?_, r6, r7, r8, r9⟩
    · simp only [storeCells, Sem.run_bind, ha, run_store P w _ v _ (h1 v (List.mem_cons_self ..))]
      simp [hc, hz, r1]
    · rw [r3, Array.toList_setIfInBounds, ← over_step _ _ _ (by simp; omega), ← Nat.add_assoc, over_over _ _ _ _ (by simp; omega)]
    · intro k hk; rw [r4 k hk]; exact Below.heap_setCell w _ v k hk
    · rw [r5]; simp

theorem kill_obj {E : En} {h : Heap} {w : World} (H : HR base w0 E h w) (b : Nat) (hd : E.dom b) : HR base w0 E (h.set b .dead) w ∧ Ste E h w E (h.set b .dead) w := by
  refine ⟨⟨H.dlt, ?_, ?_, H.wd, H.drawn, H.bsz, H.blt⟩, ⟨.refl E, fun _ h => .inl h, Nat.le_refl _, ?_, Nat.le_refl _, fun _ _ _ => rfl, fun _ h => .inl h⟩⟩
  · intro x o hx ho
    rw [Heap.get_set] at ho
    by_cases e : x = b
    · rw [if_pos e] at ho; simp at ho; subst ho; trivial
    · rw [if_neg e] at ho; exact H.obj x o hx ho
  · intro x x' o1 o2 hx hx' ho1 ho2 w1 w2 e
    rw [Heap.get_set] at ho1 ho2
    by_cases e1 : x = b
    · rw [if_pos e1] at ho1; simp at ho1; subst ho1; exact w1.elim
    · by_cases e2 : x' = b
      · rw [if_pos e2] at ho2; simp at ho2; subst ho2; exact w2.elim
      · rw [if_neg e1] at ho1; rw [if_neg e2] at ho2
        exact H.inj x x' o1 o2 hx hx' ho1 ho2 w1 w2 e
  · intro x hx hn
    rw [Heap.get_set, if_neg (fun e : x = b => hn (e ▸ hd))]

/-- a row that is taken over by a new number -/
theorem move_obj {E : En} {h : Heap} {w w' : World} (H : HR base w0 E h w) {b : Nat} (hd : E.dom b) {e : TypeId} {cs : List AV} (hg : h.get b = some (.cells e cs true)) {off : Nat} (hoff : off ≤ E.ext b)
    {c' : Array Value} {z : Nat × Nat} (hw' : w'.heap[E.blk b]? = some (.cells c' e z)) (hoth : ∀ k, k ≠ E.blk b → w'.heap[k]? = w.heap[k]?) (hsz : w'.heap.size = w.heap.size)
    (ho : w'.os = w.os) (ht : w'.tape = w.tape) (hu : w'.output = w.output) (hdr : w'.drawn = w.drawn) (hcs : c'.size = E.off b + E.ext b) (hfz : z.1 = z.2 ∨ c'.size ≤ z.1)
    {cs2 : List AV} (hl : cs2.length ≤ E.ext b - off) (hv : ∀ (i : Nat) (v : AV), cs2[i]? = some v → ∃ v', c'[E.off b + off + i]? = some v' ∧ VR E v v') :
    let E' := E.push h.next (E.blk b) (E.off b + off) (E.ext b - off)
    HR base w0 E' ((h.set b .dead).alloc (.cells e cs2 true)) w' ∧ Ste E h w E' ((h.set b .dead).alloc (.cells e cs2 true)) w' := by
  have hnd : ¬ E.dom h.next := fun hd => by have := H.dlt _ hd; omega
  have le := E.push_le h.next (E.blk b) (E.off b + off) (E.ext b - off) hnd
  have hbase := (H.obj b _ hd hg).base rfl
  have ne : ∀ x, E.dom x → x ≠ h.next := fun x hx e => hnd (e ▸ hx)
  have get : ∀ x, ((h.set b .dead).alloc (.cells e cs2 true)).get x = if x = h.next then some (.cells e cs2 true) else if x = b then some .dead else h.get x := by
    intro x
    rw [Heap.get_alloc]
    simp only [Heap.next_set, Heap.get_set]
  have blk0 : (E.push h.next (E.blk b) (E.off b + off) (E.ext b - off)).blk h.next = E.blk b := by simp [En.push]
  have other : ∀ x o, E.dom x → x ≠ b → h.get x = some o → o ≠ .dead → E.blk x ≠ E.blk b := by
    intro x o hx hxb ho hdead hbb
    have h1 := H.obj x o hx ho
    cases o with
    | cells e' cs' rw =>
      cases rw with
      | true => exact hxb (H.inj x b _ _ hx hd ho hg rfl rfl hbb)
      | false => obtain ⟨_, _, _, _, _, _, _, p6⟩ := h1; have := p6 rfl; omega
    | dead => exact hdead rfl
    | map => exact hxb (H.inj x b _ _ hx hd ho hg trivial rfl hbb)
    | loop => exact hxb (H.inj x b _ _ hx hd ho hg trivial rfl hbb)
    | dfr => exact hxb (H.inj x b _ _ hx hd ho hg trivial rfl hbb)
    | iter => exact hxb (H.inj x b _ _ hx hd ho hg trivial rfl hbb)
  refine ⟨⟨?_, ?_, ?_, ?_, ?_, ?_, ?_⟩, ⟨le, ?_, by simp, ?_, by omega, ?_, ?_⟩⟩
  · intro x hx
    rcases hx with rfl | hx
    · simp
    · have := H.dlt x hx; simp; omega
  · intro x o hx hgx
    rw [get] at hgx
    rcases hx with rfl | hx
    · simp at hgx; subst hgx
      refine ⟨c', z, by rw [blk0]; exact hw', ?_, ?_, ?_, ?_, by simp⟩
      · simp [En.push]; omega
      · simpa [En.push] using hl
      · intro i v hi
        obtain ⟨v', h1, h2⟩ := hv i v hi
        exact ⟨v', by simpa [En.push] using h1, h2.mono le⟩
      · intro _
        exact ⟨by rw [blk0]; exact hbase, hfz⟩
    · rw [if_neg (ne x hx)] at hgx
      by_cases hxb : x = b
      · rw [if_pos hxb] at hgx; simp at hgx; subst hgx; trivial
      · rw [if_neg hxb] at hgx
        by_cases hdead : o = .dead
        · subst hdead; trivial
        · refine OR'.same ?_ (OR'.mono le hx (H.obj x o hx hgx))
          rw [le.blk x hx]
          exact hoth _ (other x o hx hxb hgx hdead)
  · intro x x' o1 o2 hx hx' ho1 ho2 w1 w2 e
    rw [get] at ho1 ho2
    have nd : ∀ o : AObj, o.own → o ≠ .dead := fun o ho e => by subst e; exact ho
    rcases hx with rfl | hx <;> rcases hx' with rfl | hx'
    · rfl
    · rw [if_neg (ne x' hx')] at ho2
      by_cases hxb : x' = b
      · rw [if_pos hxb] at ho2; simp at ho2; subst ho2; exact w2.elim
      · rw [if_neg hxb] at ho2
        rw [blk0, le.blk x' hx'] at e
        exact absurd e.symm (other x' o2 hx' hxb ho2 (nd _ w2))
    · rw [if_neg (ne x hx)] at ho1
      by_cases hxb : x = b
      · rw [if_pos hxb] at ho1; simp at ho1; subst ho1; exact w1.elim
      · rw [if_neg hxb] at ho1
        rw [blk0, le.blk x hx] at e
        exact absurd e (other x o1 hx hxb ho1 (nd _ w1))
    · rw [if_neg (ne x hx)] at ho1
      rw [if_neg (ne x' hx')] at ho2
      by_cases hxb : x = b
      · rw [if_pos hxb] at ho1; simp at ho1; subst ho1; exact w1.elim
      · by_cases hxb' : x' = b
        · rw [if_pos hxb'] at ho2; simp at ho2; subst ho2; exact w2.elim
        · rw [if_neg hxb] at ho1; rw [if_neg hxb'] at ho2
          rw [le.blk x hx, le.blk x' hx'] at e
          exact H.inj x x' o1 o2 hx hx' ho1 ho2 w1 w2 e
  · refine ⟨ho.trans H.wd.os, ht.trans H.wd.tape, hu.trans H.wd.output, by rw [hsz]; exact H.wd.size, fun k hk => ?_⟩
    rw [hoth k (by omega)]; exact H.wd.block k hk
  · rw [hdr]; exact H.drawn
  · rw [hsz]; exact H.bsz
  · intro x hx
    rw [hsz]
    rcases hx with rfl | hx
    · rw [blk0]; exact H.blt b hd
    · rw [le.blk x hx]; exact H.blt x hx
  · intro x hx
    rcases hx with rfl | hx
    · exact .inr (Nat.le_refl _)
    · exact .inl hx
  · intro x hx hn
    rw [get, if_neg (by omega), if_neg (fun e : x = b => hn (e ▸ hd))]
  · intro k hk hn
    exact hoth k (fun e => hn b hd e.symm)
  · intro x hx
    rcases hx with rfl | hx
    · exact .inr (.inr ⟨b, hd, by rw [blk0]⟩)
    · exact .inl hx
end Ev
