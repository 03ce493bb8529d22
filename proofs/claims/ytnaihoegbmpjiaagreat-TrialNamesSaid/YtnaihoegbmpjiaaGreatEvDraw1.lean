/- A part of the proof that what the evaluator (EvDefs) says of a call is what the machine does: EvDraw1. Conditions: those that each theorem states. -/
import Derived.Test.YtnaihoegbmpjiaaGreatEvNew
import Derived.Test.YtnaihoegbmpjiaaGreatEvRun5
set_option linter.unusedVariables false
set_option linter.unusedSimpArgs false
namespace Ev
open Go Go.RowKit

variable {P : Program} {T : Tabs} {base : Nat} {w0 : World}

/-! ### an order that is drawn -/
inductive Sched (ops : Array Oper) : (Nat → Prop) → List Nat → Prop
  | nil (S : Nat → Prop) (h : ∀ i, i < ops.size → S i) : Sched ops S []
  | cons (S : Nat → Prop) (i : Nat) (js : List Nat) (hi : i < ops.size) (hn : ¬ S i) (hr : ∀ o, ops[i]? = some o → ∀ e ∈ o.after.toList, Region.binds .any e = true → S e.on)
      (h : Sched ops (fun j => S j ∨ j = i) js) : Sched ops S (i :: js)

theorem edgesOk_lt {i : Nat} : ∀ {l : List Edge}, edgesOk i l = true → ∀ e ∈ l, Region.binds .any e = true → e.on < i
  | [], _, e, he, _ => by simp at he
  | x :: l, h, e, he, hb => by
    simp only [edgesOk, Bool.and_eq_true, Bool.or_eq_true] at h
    rcases List.mem_cons.1 he with rfl | he
    · rcases h.1 with h1 | h1
      · simp [hb] at h1
      · simpa [blt_eq] using h1
    · exact edgesOk_lt h.2 e he hb
theorem edgesAll_get : ∀ {l : List Oper} {k : Nat}, edgesAll l k = true → ∀ {i : Nat} {o : Oper}, l[i]? = some o → edgesOk (k + i) o.after.toList = true
  | [], _, _, i, o, h => by simp at h
  | x :: l, k, h, i, o, ho => by
    simp only [edgesAll, Bool.and_eq_true] at h
    cases i with
    | zero => simp at ho; subst ho; exact h.1
    | succ i =>
      have := edgesAll_get h.2 (i := i) (by simpa using ho)
      rw [show k + (i + 1) = k + 1 + i by omega]; exact this
theorem countP_lt {p q : Nat → Bool} : ∀ (l : List Nat), (∀ x ∈ l, q x = true → p x = true) → (∃ i ∈ l, p i = true ∧ q i = false) → (l.filter q).length + 1 ≤ (l.filter p).length
  | [], _, ⟨i, hi, _⟩ => by simp at hi
  | x :: l, h, ⟨i, hi, hp, hq⟩ => by
    have hle : (l.filter q).length ≤ (l.filter p).length := by
      have : ∀ (l : List Nat), (∀ x ∈ l, q x = true → p x = true) → (l.filter q).length ≤ (l.filter p).length := by
        intro l
        induction l with
        | nil => simp
        | cons y l ih =>
          intro h
          have hy := h y (List.mem_cons_self ..)
          have := ih (fun x hx => h x (List.mem_cons_of_mem _ hx))
          simp only [List.filter_cons]
          by_cases hqy : q y = true
          · simp [hqy, hy hqy]; exact this
          · simp only [hqy, if_false, Bool.false_eq_true]
            split
            · simp; omega
            · exact this
      exact this l (fun x hx => h x (List.mem_cons_of_mem _ hx))
    simp only [List.filter_cons]
    rcases List.mem_cons.1 hi with rfl | hi
    · simp [hp, hq]; omega
    · have := countP_lt l (fun x hx => h x (List.mem_cons_of_mem _ hx)) ⟨i, hi, hp, hq⟩
      have hx := h x (List.mem_cons_self ..)
      by_cases hqx : q x = true
      · simp [hqx, hx hqx]; omega
      · simp only [hqx, if_false, Bool.false_eq_true]
        split
        · simp; omega
        · exact this

theorem go_sched {ops : Array Oper} (hE : edgesAll ops.toList 0 = true) : ∀ (fuel t : Nat) (listed : Array Bool) (acc : List Nat), listed.size = ops.size →
    ((List.range ops.size).filter fun i => !listed.getD i true).length ≤ fuel →
    ∃ L, Region.linearise.go .any ops fuel t listed acc = acc.reverse ++ L ∧ Sched ops (fun j => listed.getD j false = true) L
  | 0, t, listed, acc, hsz, hc => by
    refine ⟨[], by simp [Region.linearise.go], .nil _ fun i hi => ?_⟩
    have h0 : ((List.range ops.size).filter fun i => !listed.getD i true) = [] := List.eq_nil_of_length_eq_zero (by omega)
    have := List.filter_eq_nil_iff.1 h0 i (by simpa using hi)
    have hlt : i < listed.size := by omega
    simp [hlt] at this ⊢
    exact this
  | fuel + 1, t, listed, acc, hsz, hc => by
    unfold Region.linearise.go
    generalize hrs : ((List.range ops.size).filter fun i => !listed.getD i true && ((ops[i]?).map (·.after.all fun e => !Region.binds .any e || listed.getD e.on false)).getD false) = rs
    simp only
    split
    · rename_i i hi
      have him : i ∈ rs := List.mem_of_getElem? hi
      rw [← hrs, List.mem_filter] at him
      obtain ⟨h1, h2⟩ := him
      have hin : i < ops.size := by simpa using h1
      have hil : i < listed.size := by omega
      simp only [Bool.and_eq_true] at h2
      obtain ⟨h2, h3⟩ := h2
      have hun : listed.getD i false = false := by simpa [hil] using h2
      have hgetS : ∀ j, ((listed.setIfInBounds i true).getD j false = true) = (listed.getD j false = true ∨ j = i) := by
        intro j
        apply propext
        by_cases hj : j = i
        · subst hj; simp [hil]
        · have hne : ¬ i = j := fun h => hj h.symm
          simp [Array.getElem?_setIfInBounds, hne, hj]
      obtain ⟨L, e1, e2⟩ := go_sched hE fuel (t / rs.length) (listed.setIfInBounds i true) (i :: acc) (by simpa using hsz) (by
        have := countP_lt (p := fun i => !listed.getD i true) (q := fun j => !(listed.setIfInBounds i true).getD j true) (List.range ops.size) (by
          intro x hx hq
          by_cases hxi : x = i
          · subst hxi; simp [hil] at hq
          · have hne : ¬ i = x := fun h => hxi h.symm
            simpa [Array.getElem?_setIfInBounds, hne] using hq) ⟨i, by simpa using hin, h2, by simp [hil]⟩
        omega)
      refine ⟨i :: L, by rw [e1]; simp, .cons _ i L hin (by simp [hun]) ?_ ?_⟩
      · intro o ho e he hb
        rw [ho] at h3
        simp only [Option.map_some, Option.getD_some, Array.all_eq_true_iff_forall_mem] at h3
        have := h3 e (by simpa using he)
        simpa [hb] using this
      · have : (fun j => listed.getD j false = true ∨ j = i) = (fun j => (listed.setIfInBounds i true).getD j false = true) := funext fun j => (hgetS j).symm
        rw [this]; exact e2
    · rename_i hnone
      have hrs0 : rs = [] := by
        cases rs with
        | nil => rfl
        | cons x l =>
          have : t % (x :: l).length < (x :: l).length := Nat.mod_lt _ (by simp)
          rw [List.getElem?_eq_getElem this] at hnone
          simp at hnone
      have all : ∀ i, i < ops.size → listed.getD i false = true := by
        intro i
        induction i using Nat.strongRecOn with
        | _ i ih =>
          intro hi
          have hil : i < listed.size := by omega
          rcases Bool.eq_false_or_eq_true (listed.getD i false) with h | h
          · exact h
          · exfalso
            have hin : i ∈ rs := by
              rw [← hrs, List.mem_filter]
              refine ⟨by simpa using hi, ?_⟩
              have ho : ops[i]? = some ops[i] := by simp [hi]
              simp only [Bool.and_eq_true]
              refine ⟨by simpa [hil] using h, ?_⟩
              rw [ho]
              simp only [Option.map_some, Option.getD_some, Array.all_eq_true_iff_forall_mem]
              intro e he
              by_cases hb : Region.binds .any e = true
              · have hlt := edgesOk_lt (edgesAll_get hE (i := i) (o := ops[i]) (by simp [hi])) e (by simpa using he) hb
                simp only [Nat.zero_add] at hlt
                have := ih e.on hlt (by omega)
                simp [this]
              · simp [hb]
            rw [hrs0] at hin
            simp at hin
      exact ⟨[], by simp, .nil _ all⟩
theorem linearise_sched {ops : Array Oper} (hE : edgesAll ops.toList 0 = true) (t : Nat) : Sched ops (fun _ => False) (Region.linearise .any ops t) := by
  obtain ⟨L, e1, e2⟩ := go_sched hE ops.size t (Array.replicate ops.size false) [] (by simp) (by
    refine Nat.le_trans (List.length_filter_le _ _) (by simp))
  unfold Region.linearise
  rw [e1]
  have : (fun j => (Array.replicate ops.size false).getD j false = true) = (fun _ => False) := by
    funext j
    apply propext
    by_cases h : j < ops.size <;> simp [h]
  rw [this] at e2
  simpa using e2

/-! ### what stands ahead -/
theorem masksAux_get : ∀ (l : List Oper) (acc : List Nat), ∃ r, masksAux l acc = acc ++ r ∧ r.length = l.length ∧ ∀ i o, l[i]? = some o → r[i]? = some (orBits (acc ++ r.take i) o.after.toList)
  | [], acc => ⟨[], by simp [masksAux], rfl, by simp⟩
  | x :: l, acc => by
    obtain ⟨r, h1, h2, h3⟩ := masksAux_get l (acc ++ [orBits acc x.after.toList])
    refine ⟨orBits acc x.after.toList :: r, by simp [masksAux, h1], by simp [h2], ?_⟩
    intro i o ho
    cases i with
    | zero => simp at ho; subst ho; simp
    | succ i =>
      have := h3 i o (by simpa using ho)
      simp only [List.getElem?_cons_succ, List.take_succ_cons]
      rw [this]; simp
theorem orBits_bit {acc : List Nat} {j : Nat} : ∀ {es : List Edge}, Nat.testBit (orBits acc es) j = true → ∃ e ∈ es, Region.binds .any e = true ∧ (e.on = j ∨ Nat.testBit ((nth acc e.on).getD 0) j = true)
  | [], h => by simp [orBits] at h
  | e :: l, h => by
    unfold orBits at h
    split at h
    · rename_i hb
      rw [Nat.testBit_or, Nat.testBit_or, Bool.or_eq_true, Bool.or_eq_true] at h
      rcases h with (h | h) | h
      · refine ⟨e, List.mem_cons_self .., hb, .inl ?_⟩
        rw [Nat.one_shiftLeft, Nat.testBit_two_pow] at h
        simpa using h
      · exact ⟨e, List.mem_cons_self .., hb, .inr h⟩
      · obtain ⟨e', h1, h2⟩ := orBits_bit h
        exact ⟨e', List.mem_cons_of_mem _ h1, h2⟩
    · obtain ⟨e', h1, h2⟩ := orBits_bit h
      exact ⟨e', List.mem_cons_of_mem _ h1, h2⟩
def mkB (ops : Array Oper) (i : Nat) : Nat := ((masks ops.toList)[i]?).getD 0
theorem masks_length (ops : List Oper) : (masks ops).length = ops.length := by
  obtain ⟨r, h1, h2, _⟩ := masksAux_get ops []
  unfold masks; rw [h1]; simpa using h2
theorem mkB_bit {ops : Array Oper} (hE : edgesAll ops.toList 0 = true) {i : Nat} {o : Oper} (ho : ops[i]? = some o) {j : Nat} (hb : Nat.testBit (mkB ops i) j = true) :
    ∃ e ∈ o.after.toList, Region.binds .any e = true ∧ (e.on = j ∨ Nat.testBit (mkB ops e.on) j = true) := by
  obtain ⟨r, h1, h2, h3⟩ := masksAux_get ops.toList []
  have hm : masks ops.toList = r := by unfold masks; rw [h1]; simp
  have ho' : ops.toList[i]? = some o := by simpa using ho
  unfold mkB at hb
  rw [hm, h3 i o ho'] at hb
  simp only [Option.getD_some, List.nil_append] at hb
  obtain ⟨e, g1, g2, g3⟩ := orBits_bit hb
  refine ⟨e, g1, g2, g3.imp id fun g3 => ?_⟩
  have hlt := edgesOk_lt (edgesAll_get hE ho') e g1 g2
  simp only [Nat.zero_add] at hlt
  rw [nth_eq, List.getElem?_take, if_pos hlt] at g3
  unfold mkB
  rw [hm]; exact g3

theorem slotsOut_mem {m i : Nat} : ∀ (l : List Oper) (ms : List Nat) (j0 : Nat), ∀ (k : Nat) (o : Oper) (d mj : Nat), l[k]? = some o → ms[k]? = some mj → o.dst = some d → d ∉ slotsOut m i l ms j0 →
    (j0 + k < i → Nat.testBit m (j0 + k) = true) ∧ (i < j0 + k → Nat.testBit mj i = true)
  | [], _, _, k, o, d, mj, ho, _, _, _ => by simp at ho
  | _ :: _, [], _, k, o, d, mj, _, hm, _, _ => by simp at hm
  | x :: l, m0 :: ms, j0, k, o, d, mj, ho, hm, hd, hn => by
    have rest : d ∉ slotsOut m i l ms (j0 + 1) := by
      intro hin
      apply hn
      unfold slotsOut
      split
      · split
        · exact hin
        · exact List.mem_cons_of_mem _ hin
      · exact hin
    cases k with
    | zero =>
      simp at ho hm
      subst ho; subst hm
      unfold slotsOut at hn
      simp only [hd] at hn
      generalize hc : (if j0 < i then m.testBit j0 else if j0 = i then true else m0.testBit i) = c at hn
      cases c with
      | false => exact absurd (List.mem_cons_self ..) hn
      | true =>
        constructor
        · intro h
          simp only [Nat.add_zero] at h ⊢
          rw [if_pos h] at hc; exact hc
        · intro h
          simp only [Nat.add_zero] at h
          rw [if_neg (by omega), if_neg (by omega)] at hc; exact hc
    | succ k =>
      have := slotsOut_mem l ms (j0 + 1) k o d mj (by simpa using ho) (by simpa using hm) hd rest
      rw [show j0 + (k + 1) = j0 + 1 + k by omega]
      exact this
theorem unsetAll_get : ∀ (l : List Tmp) (tm : Tr AV) (t : Nat) (v : AV), (unsetAll tm l).get t = some v → t ∉ l ∧ tm.get t = some v
  | [], tm, t, v, h => ⟨by simp, h⟩
  | d :: l, tm, t, v, h => by
    unfold unsetAll at h
    obtain ⟨h1, h2⟩ := unsetAll_get l _ t v h
    rw [Tr.get_unset] at h2
    split at h2
    · simp at h2
    · rename_i hne
      exact ⟨by simp [hne, h1], h2⟩

mutual
theorem aveq_eq : ∀ (a b : AV), aveq a b = true → a = b
  | .bool a, b, h => by cases b <;> simp [aveq] at h; rename_i b; cases a <;> cases b <;> simp_all [boolEq]
  | .int k n, b, h => by cases b <;> simp [aveq] at h; obtain ⟨rfl, rfl⟩ := h; rfl
  | .str s, b, h => by cases b <;> simp [aveq, bytesEq_eq] at h; subst h; rfl
  | .ptr x y, b, h => by cases b <;> simp [aveq] at h; obtain ⟨rfl, rfl⟩ := h; rfl
  | .nilptr, b, h => by cases b <;> simp [aveq] at h; rfl
  | .slice x y z u, b, h => by cases b <;> simp [aveq] at h; obtain ⟨⟨⟨rfl, rfl⟩, rfl⟩, rfl⟩ := h; rfl
  | .oslice x y z u, b, h => by cases b <;> simp [aveq] at h; obtain ⟨⟨⟨rfl, rfl⟩, rfl⟩, rfl⟩ := h; rfl
  | .eslice, b, h => by cases b <;> simp [aveq] at h; rfl
  | .nilslice, b, h => by cases b <;> simp [aveq] at h; rfl
  | .map x, b, h => by cases b <;> simp [aveq] at h; subst h; rfl
  | .nilmap, b, h => by cases b <;> simp [aveq] at h; rfl
  | .func f x y, b, h => by
    cases b <;> simp [aveq] at h
    obtain ⟨⟨rfl, h1⟩, h2⟩ := h
    rw [aveqs_eq x _ h1, aveqs_eq y _ h2]
  | .nilfunc, b, h => by cases b <;> simp [aveq] at h; rfl
  | .iface t v, b, h => by
    cases b <;> simp [aveq] at h
    obtain ⟨rfl, h1⟩ := h
    rw [aveq_eq v _ h1]
  | .niliface, b, h => by cases b <;> simp [aveq] at h; rfl
  | .agg x, b, h => by cases b <;> simp [aveq] at h; rw [aveqs_eq x _ h]
  | .tuple x, b, h => by cases b <;> simp [aveq] at h; rw [aveqs_eq x _ h]
  | .raw x y, b, h => by cases b <;> simp [aveq] at h; obtain ⟨rfl, rfl⟩ := h; rfl
  | .own x y, b, h => by cases b <;> simp [aveq] at h; obtain ⟨rfl, rfl⟩ := h; rfl
theorem aveqs_eq : ∀ (a b : List AV), aveqs a b = true → a = b
  | [], b, h => by cases b <;> simp [aveqs] at h; rfl
  | x :: l, b, h => by
    cases b <;> simp [aveqs] at h
    rw [aveq_eq x _ h.1, aveqs_eq l _ h.2]
end
end Ev
