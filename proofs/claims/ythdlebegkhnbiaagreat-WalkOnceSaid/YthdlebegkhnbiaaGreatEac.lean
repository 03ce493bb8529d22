/- What the functions of this part answer at any input, told by the rules over the evaluator. Conditions: those that each theorem states. -/
import Derived.Test.YthdlebegkhnbiaaGreatAcc
import Derived.Test.YthdlebegkhnbiaaGreatGao
open Go Ev
namespace Go.Proofs.YthdlebegkhnbiaaGreat
set_option maxRecDepth 10000
set_option linter.unusedVariables false
set_option linter.unusedSimpArgs false
set_option maxHeartbeats 4000000
set_option linter.unusedVariables false
/-! ### walk.Each$1 -/
theorem readR_ok {z : Int} {img : List UInt8} {p : Nat} (e : (readR z img p).2 = 0) : p < pages z img ∧ (readR z img p).1.page = p ∧ mayF z (readR z img p).1 := by
  refine ⟨?_, ?_, pages_len z img p e⟩
  · unfold readR at e
    split at e <;> rename_i c1
    · split at e <;> rename_i c2
      · exact c2
      · cases e
    · cases e
  · unfold readR getR at e ⊢
    by_cases c1 : Good z
    case neg => rw [if_neg c1] at e; cases e
    by_cases c2 : p < pages z img
    case neg => rw [if_pos c1, if_neg c2] at e; cases e
    rw [if_pos c1, if_pos c2, if_pos c1] at e ⊢
    by_cases c3 : ((atL z img p).length : Int) = z ∧ getP z p (atL z img p)
    case neg => rw [if_neg c3] at e; cases e
    rw [if_pos c3]
    exact c3.2.2.2.1
theorem rightR_ok {z : Int} {img : List UInt8} {p : Nat} {k : Int} (e : (rightR z img p k).2 = true) : p < pages z img ∧ (rightR z img p k).1.page = p ∧ mayF z (rightR z img p k).1 ∧ (rightR z img p k).1.kind = k ∧ rightP (rightR z img p k).1 := by
  unfold rightR at e ⊢
  split at e <;> rename_i c
  case isFalse => cases e
  rw [if_pos c]
  obtain ⟨a, b, d⟩ := readR_ok c.1
  exact ⟨a, b, d, c.2.1, c.2.2⟩
theorem rightR_no {z : Int} {img : List UInt8} {p : Nat} {k : Int} (e : (rightR z img p k).2 = false) : (rightR z img p k).1 = Pg.zero := by
  unfold rightR at e ⊢
  split at e <;> rename_i c
  · cases e
  · rw [if_neg c]
theorem pageR2_ok {z : Int} {img : List UInt8} {v : Vis} (e : (pageR2 z img v).2 = true) : v.page < pages z img ∧ (pageR2 z img v).1.page = v.page ∧ mayF z (pageR2 z img v).1 ∧ rightP (pageR2 z img v).1 ∧ ((pageR2 z img v).1.kind = v.kind ∨ v.kind = 3 ∧ (pageR2 z img v).1.kind = 4) := by
  unfold pageR2 at e ⊢
  split at e <;> rename_i c
  · rw [if_pos c]
    obtain ⟨a1, a2, a3, a4, a5⟩ := rightR_ok e
    exact ⟨a1, a2, a3, a5, .inr ⟨c.2, a4⟩⟩
  · rw [if_neg c]
    obtain ⟨a1, a2, a3, a4, a5⟩ := rightR_ok e
    exact ⟨a1, a2, a3, a5, .inl a4⟩
theorem pageR2_no {z : Int} {img : List UInt8} {v : Vis} (e : (pageR2 z img v).2 = false) : (pageR2 z img v).1 = Pg.zero := by
  unfold pageR2 at e ⊢
  split at e <;> rename_i c
  · rw [if_pos c]; exact rightR_no e
  · rw [if_neg c]; exact rightR_no e
/-- what is seen of a visit; met: the pages that were met -/
noncomputable def seenP (z : Int) (img : List UInt8) (met : List Nat) (v : Vis) : Sn :=
  if v.page < 2 ∨ pages z img ≤ v.page then ⟨v, 1, Pg.zero⟩
  else if v.page ∈ met then ⟨v, 2, Pg.zero⟩
  else if v.depth > 16 then ⟨v, 3, Pg.zero⟩
  else ⟨v, if (pageR2 z img v).2 = true then 0 else 4, (pageR2 z img v).1⟩
/-- a run: what was met, what is left (the next one first), what is seen -/
inductive Run (z : Int) (img : List UInt8) : List Nat → List Vis → List Sn → Prop
  | done {m : List Nat} : Run z img m [] []
  | step {m : List Nat} {left : List Vis} {v : Vis} {l : List Sn} (r : Run z img (if (seenP z img m v).why = 1 then m else v.page :: m) (visitsV (seenP z img m v) ++ left) l) : Run z img m (v :: left) (seenP z img m v :: l)
theorem seenP_visit (z : Int) (img : List UInt8) (m : List Nat) (v : Vis) : (seenP z img m v).visit = v := by
  unfold seenP; split
  · rfl
  · split
    · rfl
    · split <;> rfl
theorem seenP_small (z : Int) (img : List UInt8) (m : List Nat) (v : Vis) : (seenP z img m v).page.body.length ≤ 4072 ∧ (seenP z img m v).page.count < 1000000000 ∧ (seenP z img m v).page.link < 4294967296 := by
  have rl := room_le z
  have zz : Pg.zero.body.length ≤ 4072 ∧ Pg.zero.count < 1000000000 ∧ Pg.zero.link < 4294967296 := by decide
  unfold seenP; split
  · exact zz
  · split
    · exact zz
    · split
      · exact zz
      · cases e : (pageR2 z img v).2 with
        | true =>
          obtain ⟨a1, a2, a3, a4, a5⟩ := pageR2_ok e
          unfold mayF at a3
          dsimp only
          omega
        | false => rw [pageR2_no e]; exact zz
theorem parseI_len : ∀ (k : Nat) (s : List UInt8) (l : List It), parseI k s = some l → 3 * l.length ≤ s.length
  | 0, s, l, h => by cases h; simp
  | k + 1, s, l, h => by
    unfold parseI at h
    by_cases c : okI s
    case neg => rw [if_neg c] at h; cases h
    rw [if_pos c] at h
    cases e : parseI k (itRest s) with
    | none => rw [e] at h; cases h
    | some m =>
      rw [e] at h
      cases h
      have ih := parseI_len k (itRest s) m e
      have rl := itRest_len c
      rw [List.length_cons]
      omega
theorem parseI_head : ∀ (k : Nat) (s : List UInt8) (l : List It), parseI k s = some l → ∀ x ∈ l, x.head < 4294967296
  | 0, s, l, h => by cases h; simp
  | k + 1, s, l, h => by
    unfold parseI at h
    by_cases c : okI s
    case neg => rw [if_neg c] at h; cases h
    rw [if_pos c] at h
    cases e : parseI k (itRest s) with
    | none => rw [e] at h; cases h
    | some m =>
      rw [e] at h
      cases h
      have ih := parseI_head k (itRest s) m e
      intro x hx
      rcases List.mem_cons.1 hx with rfl | hx
      · have := numV_lt 4 (i4 s)
        unfold itOf
        split
        · exact this
        · exact (by decide : (0 : Nat) < 4294967296)
      · exact ih x hx
theorem parseF_child : ∀ (k : Nat) (s : List UInt8) (l : List Fk), parseF k s = some l → ∀ x ∈ l, x.child < 4294967296
  | 0, s, l, h => by cases h; simp
  | k + 1, s, l, h => by
    unfold parseF at h
    by_cases c : okF s
    case neg => rw [if_neg c] at h; cases h
    rw [if_pos c] at h
    cases e : parseF k (fkRest s) with
    | none => rw [e] at h; cases h
    | some m =>
      rw [e] at h
      cases h
      have ih := parseF_child k (fkRest s) m e
      intro x hx
      rcases List.mem_cons.1 hx with rfl | hx
      · exact numV_lt 4 _
      · exact ih x hx
theorem parseC_root : ∀ (k : Nat) (s : List UInt8) (l : List Bk), parseC k s = some l → ∀ x ∈ l, x.root < 4294967296
  | 0, s, l, h => by cases h; simp
  | k + 1, s, l, h => by
    unfold parseC at h
    split at h
    · cases h
    · rename_i b s' e
      cases e2 : parseC k s' with
      | none => rw [e2] at h; cases h
      | some m =>
        rw [e2] at h
        cases h
        have ih := parseC_root k s' m e2
        intro x hx
        rcases List.mem_cons.1 hx with rfl | hx
        · unfold stepC at e
          split at e
          · cases e; exact numV_lt 4 _
          · cases e
        · exact ih x hx
theorem ofI_parse {p : Pg} {l : List It} (h : ofI p = some l) : parseI p.count.toNat p.body = some l := by
  unfold ofI at h
  split at h
  · cases h
  · rename_i l' e
    split at h
    · cases h; exact e
    · cases h
theorem ofB_parse {p : Pg} {l : List Fk} (h : ofB p = some l) : parseF p.count.toNat p.body = some l := by
  unfold ofB at h
  split at h
  · cases h
  · rename_i l' e
    split at h
    · cases h; exact e
    · cases h
theorem ofC_parse {p : Pg} {l : List Bk} (h : ofC p = some l) : parseC p.count.toNat p.body = some l := by
  unfold ofC at h
  split at h
  · cases h
  · rename_i l' e
    split at h
    · cases h; exact e
    · cases h
theorem visits_why {s : Sn} (h : s.why ≠ 0) : visitsV s = [] := by unfold visitsV; rw [if_pos h]
theorem visits_len (s : Sn) : (visitsV s).length ≤ s.page.body.length + 1 := by
  unfold visitsV
  split
  · simp
  split
  · refine Nat.le_trans (flat_le _ (vC_le s _) _) ?_
    cases e : ofC s.page with
    | none => simp
    | some l => have := ofC_len e; simp only [Option.getD_some]; omega
  split
  · unfold ofBranchV
    refine Nat.le_trans (flat_le _ (vB_le s _ _) _) ?_
    cases e : ofB s.page with
    | none => simp
    | some l => have := ofB_len e; simp only [Option.getD_some]; omega
  split
  · unfold ofLeafV
    refine Nat.le_trans (flat_le _ (vI_le s _) _) ?_
    cases e : ofI s.page with
    | none => simp
    | some l => have := parseI_len _ _ _ (ofI_parse e); simp only [Option.getD_some]; omega
  split
  · split <;> simp
  · simp
theorem visits_mem {s : Sn} {w : Vis} (hl : s.page.link < 4294967296) (h : w ∈ visitsV s) : w.from' = s.visit.page ∧ w.page < 4294967296 ∧ (w.depth = 1 ∨ w.depth = s.visit.depth ∨ w.depth = s.visit.depth + 1) := by
  unfold visitsV at h
  split at h
  · cases h
  split at h
  · obtain ⟨i, -, h⟩ := List.mem_flatMap.1 h
    unfold vC at h
    split at h
    · rename_i x hx
      split at h
      · obtain rfl := List.mem_singleton.1 h
        refine ⟨rfl, ?_, .inl rfl⟩
        cases e : ofC s.page with
        | none => rw [e] at hx; cases hx
        | some l => rw [e] at hx; exact parseC_root _ _ _ (ofC_parse e) x (List.mem_of_getElem? hx)
      · cases h
    · cases h
  split at h
  · unfold ofBranchV at h
    obtain ⟨i, -, h⟩ := List.mem_flatMap.1 h
    unfold vB at h
    split at h
    · rename_i x hx
      obtain rfl := List.mem_singleton.1 h
      refine ⟨rfl, ?_, .inr (.inr rfl)⟩
      cases e : ofB s.page with
      | none => rw [e] at hx; cases hx
      | some l => rw [e] at hx; exact parseF_child _ _ _ (ofB_parse e) x (List.mem_of_getElem? hx)
    · cases h
  split at h
  · unfold ofLeafV at h
    obtain ⟨i, -, h⟩ := List.mem_flatMap.1 h
    unfold vI at h
    split at h
    · rename_i x hx
      split at h
      · obtain rfl := List.mem_singleton.1 h
        refine ⟨rfl, ?_, .inr (.inl rfl)⟩
        cases e : ofI s.page with
        | none => rw [e] at hx; cases hx
        | some l => rw [e] at hx; exact parseI_head _ _ _ (ofI_parse e) x (List.mem_of_getElem? hx)
      · cases h
    · cases h
  split at h
  · split at h
    · obtain rfl := List.mem_singleton.1 h
      exact ⟨rfl, hl, .inr (.inl rfl)⟩
    · cases h
  · cases h
/-! #### how long it goes on -/
def unm (N : Nat) (m : List Nat) : Nat := ((List.range N).filter fun p => decide (p ∉ m)).length
theorem filter_lt {α : Type} {l : List α} {p q : α → Bool} (h : ∀ x ∈ l, q x = true → p x = true) {a : α} (ha : a ∈ l) (h1 : p a = true) (h2 : q a = false) : (l.filter q).length + 1 ≤ (l.filter p).length := by
  induction l with
  | nil => cases ha
  | cons b l ih =>
    have hb := h b (.head _)
    have hl : ∀ x ∈ l, q x = true → p x = true := fun x hx => h x (.tail _ hx)
    have le : ∀ (l : List α), (∀ x ∈ l, q x = true → p x = true) → (l.filter q).length ≤ (l.filter p).length := by
      intro l
      induction l with
      | nil => intro _; simp
      | cons c l ih2 =>
        intro hh
        have h3 := ih2 fun x hx => hh x (.tail _ hx)
        have h4 := hh c (.head _)
        rw [List.filter_cons, List.filter_cons]
        cases e : q c with
        | true => rw [h4 e]; simp; exact h3
        | false => cases e2 : p c <;> simp <;> omega
    rcases List.mem_cons.1 ha with rfl | ha
    · rw [List.filter_cons, List.filter_cons, h1, h2]
      have := le l hl
      simp
      omega
    · have i1 := ih hl ha
      rw [List.filter_cons, List.filter_cons]
      cases e : q b with
      | true => rw [hb e]; simp; omega
      | false => cases e2 : p b <;> simp <;> omega
theorem unm_lt {N : Nat} {m : List Nat} {p : Nat} (hp : p < N) (hm : p ∉ m) : unm N (p :: m) + 1 ≤ unm N m :=
  filter_lt (fun x _ h => by simp at h ⊢; exact h.2) (List.mem_range.2 hp) (by simpa using hm) (by simp)
theorem unm_same {N : Nat} {m : List Nat} {p : Nat} (hm : p ∈ m) : unm N (p :: m) = unm N m := by
  unfold unm
  congr 1
  refine List.filter_congr fun x _ => ?_
  simp only [List.mem_cons, not_or]
  congr 1
  refine propext ⟨fun h => h.2, fun h => ⟨fun e => h (e ▸ hm), h⟩⟩
theorem unm_le (N : Nat) (m : List Nat) : unm N m ≤ N := by
  unfold unm
  exact Nat.le_trans (List.length_filter_le _ _) (by simp)
noncomputable def next' (z : Int) (img : List UInt8) (m : List Nat) (v : Vis) : List Nat := if (seenP z img m v).why = 1 then m else v.page :: m
theorem step_lt (z : Int) (img : List UInt8) (m : List Nat) (v : Vis) (left : List Vis) : unm (pages z img) (next' z img m v) * 5000 + (visitsV (seenP z img m v) ++ left).length + 1 ≤ unm (pages z img) m * 5000 + (v :: left).length := by
  have vl := visits_len (seenP z img m v)
  have sm := seenP_small z img m v
  rw [List.length_append, List.length_cons]
  unfold next'
  by_cases c1 : v.page < 2 ∨ pages z img ≤ v.page
  · have e : seenP z img m v = ⟨v, 1, Pg.zero⟩ := by unfold seenP; rw [if_pos c1]
    rw [e, visits_why (show (1 : Int) ≠ 0 by decide)]
    simp
    omega
  by_cases c2 : v.page ∈ m
  · have e : seenP z img m v = ⟨v, 2, Pg.zero⟩ := by unfold seenP; rw [if_neg c1, if_pos c2]
    rw [e, visits_why (show (2 : Int) ≠ 0 by decide)]
    simp [unm_same c2]
    omega
  have lt := unm_lt (N := pages z img) (m := m) (p := v.page) (by omega) c2
  have w1 : (seenP z img m v).why ≠ 1 := by
    unfold seenP; rw [if_neg c1, if_neg c2]
    split
    · exact (by decide : (3 : Int) ≠ 1)
    · dsimp only
      split <;> decide
  rw [if_neg w1]
  omega
/-! #### the pages that were met, as bits -/
def WM (N : Nat) (m met : List Nat) : Prop := m.length = N / 64 + 1 ∧ (∀ x ∈ m, x < 18446744073709551616) ∧ ∀ p, p < N → ((m.getD (p / 64) 0).testBit (p % 64) = true ↔ p ∈ met)
theorem WM.zero (N : Nat) : WM N (List.replicate (N / 64 + 1) 0) [] := by
  refine ⟨by simp, fun x hx => by rw [List.eq_of_mem_replicate hx]; decide, fun p hp => ?_⟩
  rw [List.getD_eq_getElem?_getD, List.getElem?_replicate]
  split <;> simp
theorem WM.put {N : Nat} {m met : List Nat} {p x : Nat} (w : WM N m met) (hp : p < N) (hx : m[p / 64]? = some x) : WM N (m.set (p / 64) (x ||| 1 * 2 ^ (p % 64))) (p :: met) := by
  obtain ⟨w1, w2, w3⟩ := w
  have hx2 := w2 x (List.mem_of_getElem? hx)
  refine ⟨by rw [List.length_set]; exact w1, fun y hy => ?_, fun q hq => ?_⟩
  · rcases List.mem_or_eq_of_mem_set hy with h | rfl
    · exact w2 y h
    · exact Nat.or_lt_two_pow (n := 64) hx2 (by rw [Nat.one_mul]; exact Nat.pow_lt_pow_right (by decide) (Nat.mod_lt _ (by decide)))
  · have e := w3 q hq
    rw [List.getD_eq_getElem?_getD] at e ⊢
    rw [List.getElem?_set, List.mem_cons]
    by_cases c : p / 64 = q / 64
    · rw [if_pos c, if_pos (by omega), Option.getD_some, Nat.testBit_or, Nat.one_mul, Nat.testBit_two_pow, Bool.or_eq_true]
      rw [← c, hx, Option.getD_some] at e
      rw [e, decide_eq_true_eq]
      refine ⟨fun h => ?_, fun h => ?_⟩
      · rcases h with h | h
        · exact .inr h
        · exact .inl (by omega)
      · rcases h with h | h
        · exact .inr (by rw [h])
        · exact .inl h
    · rw [if_neg c, e]
      exact ⟨fun h => .inr h, fun h => by rcases h with h | h; exact absurd (by rw [h]) c; exact h⟩
theorem WM.at {N : Nat} {m met : List Nat} {p : Nat} (w : WM N m met) (hp : p < N) : ∃ x, m[p / 64]? = some x ∧ x < 18446744073709551616 ∧ (x.testBit (p % 64) = true ↔ p ∈ met) := by
  obtain ⟨w1, w2, w3⟩ := w
  have h : p / 64 < m.length := by omega
  refine ⟨m[p / 64], List.getElem?_eq_getElem h, w2 _ (List.getElem_mem h), ?_⟩
  have e := w3 p hp
  rw [List.getD_eq_getElem?_getD, List.getElem?_eq_getElem h, Option.getD_some] at e
  exact e
end Go.Proofs.YthdlebegkhnbiaaGreat
