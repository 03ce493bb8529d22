/- A part of the rules by which proofs walk over what the evaluator (EvDefs) says, at values that are not known: EvWp. Conditions: those that each theorem states. -/
import Derived.Test.YtnaihoegbmpjiaaGreatEvEnd
set_option linter.unusedVariables false
set_option linter.unusedSimpArgs false
namespace Ev
open Go

variable {T : Tabs}

/-! ### what the evaluator says in the end -/
def Says (T : Tabs) (t : Task) (r : Res) : Prop := ∃ N, ∀ n, N ≤ n → ev T n t = r
def Res.leaf : Res → Bool
  | .alt _ _ => false
  | _ => true
def Leaves (Q : Res → Prop) : Res → Prop
  | .alt a b => Leaves Q a ∧ Leaves Q b
  | r => Q r
theorem Leaves.mono {Q Q' : Res → Prop} (k : ∀ r, r.leaf = true → Q r → Q' r) : ∀ {r : Res}, Leaves Q r → Leaves Q' r
  | .alt a b, h => ⟨Leaves.mono k h.1, Leaves.mono k h.2⟩
  | .fin .., h => k _ rfl h
  | .pan .., h => k _ rfl h
  | .ret .., h => k _ rfl h
  | .thrown .., h => k _ rfl h
  | .dret .., h => k _ rfl h
  | .no .., h => k _ rfl h
theorem Leaves.get {Q : Res → Prop} : ∀ {r q : Res}, Leaves Q r → Lf r q → Q q
  | .alt a b, q, h, l => l.elim (Leaves.get h.1) (Leaves.get h.2)
  | .fin .., q, h, l => by cases l; exact h
  | .pan .., q, h, l => by cases l; exact h
  | .ret .., q, h, l => by cases l; exact h
  | .thrown .., q, h, l => by cases l; exact h
  | .dret .., q, h, l => by cases l; exact h
  | .no .., q, h, l => by cases l; exact h
def Wp (T : Tabs) (t : Task) (Q : Res → Prop) : Prop := ∃ r, Says T t r ∧ Leaves Q r
theorem Says.of_step {t : Task} {r : Res} (h : ∃ N, ∀ n, N ≤ n → step T (ev T n) t = r) : Says T t r := by
  obtain ⟨N, h⟩ := h
  refine ⟨N + 1, fun n hn => ?_⟩
  obtain ⟨m, rfl⟩ : ∃ m, n = m + 1 := ⟨n - 1, by omega⟩
  exact h m (by omega)
theorem Says.now {t : Task} {r : Res} (h : ∀ rec, step T rec t = r) : Says T t r := .of_step ⟨0, fun n _ => h _⟩
theorem Says.ev {t : Task} {r : Res} (h : Says T t r) : ∃ n, ev T n t = r := by
  obtain ⟨N, h⟩ := h
  exact ⟨N, h N (Nat.le_refl _)⟩
theorem Wp.mono' {t : Task} {Q Q' : Res → Prop} (h : Wp T t Q) (k : ∀ r, r.leaf = true → Q r → Q' r) : Wp T t Q' := by
  obtain ⟨r, h, q⟩ := h
  exact ⟨r, h, q.mono k⟩
theorem Wp.mono {t : Task} {Q Q' : Res → Prop} (h : Wp T t Q) (k : ∀ r, Q r → Q' r) : Wp T t Q' := h.mono' fun r _ => k r
theorem Wp.now {t : Task} {r : Res} {Q : Res → Prop} (h : ∀ rec, step T rec t = r) (q : Leaves Q r) : Wp T t Q := ⟨r, .now h, q⟩
/-- a task that is another task -/
theorem Wp.like {t t' : Task} {Q : Res → Prop} (h : ∀ rec, step T rec t = rec t') (k : Wp T t' Q) : Wp T t Q := by
  obtain ⟨r, ⟨N, hr⟩, q⟩ := k
  exact ⟨r, .of_step ⟨N, fun n hn => by rw [h]; exact hr n hn⟩, q⟩
theorem bind_leaves {Q : Res → Prop} (f : Nat → Res → Res) : ∀ (r : Res), Leaves (fun r => ∃ r', (∃ N, ∀ n, N ≤ n → f n r = r') ∧ Leaves Q r') r → ∃ r', (∃ N, ∀ n, N ≤ n → bindR r (f n) = r') ∧ Leaves Q r'
  | .alt a b, h => by
    obtain ⟨ra, ⟨N, ha⟩, qa⟩ := bind_leaves f a h.1
    obtain ⟨rb, ⟨M, hb⟩, qb⟩ := bind_leaves f b h.2
    exact ⟨.alt ra rb, ⟨N + M, fun n hn => by simp only [bindR, ha n (by omega), hb n (by omega)]⟩, qa, qb⟩
  | .fin .., h => h
  | .pan .., h => h
  | .ret .., h => h
  | .thrown .., h => h
  | .dret .., h => h
  | .no .., h => h
/-- a task that begins with another task -/
theorem Wp.bind {t t' : Task} {Q : Res → Prop} (f : (Task → Res) → Res → Res) (h : ∀ rec, step T rec t = bindR (rec t') (f rec)) (k : Wp T t' fun r => ∃ r', (∃ N, ∀ n, N ≤ n → f (ev T n) r = r') ∧ Leaves Q r') : Wp T t Q := by
  obtain ⟨r, ⟨N, hr⟩, k⟩ := k
  obtain ⟨r', ⟨N', hr'⟩, q⟩ := bind_leaves (fun n => f (ev T n)) r k
  refine ⟨r', .of_step ⟨N + N', fun n hn => ?_⟩, q⟩
  rw [h, hr n (by omega)]
  exact hr' n (by omega)

/-! ### what is left to do -/
inductive K where
  | code (c : Code)
  | blk (id : Nat)
  | scope
def after (T : Tabs) (cx : Cx) : List K → (Res → Prop) → Res → Prop
  | [], Q => Q
  | .code c :: k, Q => fun r => match r with
    | .fin .normal s => Wp T (.code cx c s) (after T cx k Q)
    | r => after T cx k Q r
  | .blk id :: k, Q => fun r => match r with
    | .fin (.exit id') s => if id' = id then after T cx k Q (.fin .normal s) else after T cx k Q (.fin (.exit id') s)
    | r => after T cx k Q r
  | .scope :: k, Q => after T cx k Q
def Goes (T : Tabs) (cx : Cx) (k : List K) (s : St) (Q : Res → Prop) : Prop := after T cx k Q (.fin .normal s)
def Ops (T : Tabs) (cx : Cx) (all rest : List Oper) (k : List K) (s : St) (Q : Res → Prop) : Prop := Wp T (.ops cx all rest s) (after T cx k Q)
def unw (id : Nat) : List K → Option (List K)
  | [] => none
  | .blk id' :: k => match Nat.beq id id' with
    | true => some k
    | false => unw id k
  | _ :: k => unw id k

section
variable {cx : Cx} {k : List K} {s : St} {Q : Res → Prop}
theorem after_ret : ∀ (k : List K) (s : St), after T cx k Q (.fin .ret s) = Q (.fin .ret s)
  | [], _ => rfl
  | .code _ :: k, s => after_ret k s
  | .blk _ :: k, s => after_ret k s
  | .scope :: k, s => after_ret k s
theorem after_pan : ∀ (k : List K) (v : AV) (s : St), after T cx k Q (.pan v s) = Q (.pan v s)
  | [], _, _ => rfl
  | .code _ :: k, v, s => after_pan k v s
  | .blk _ :: k, v, s => after_pan k v s
  | .scope :: k, v, s => after_pan k v s
theorem after_exit {id : Nat} : ∀ (k k' : List K) (s : St), unw id k = some k' → after T cx k' Q (.fin .normal s) → after T cx k Q (.fin (.exit id) s)
  | [], _, _, h, _ => by cases h
  | .code _ :: k, k', s, h, q => after_exit k k' s h q
  | .scope :: k, k', s, h, q => after_exit k k' s h q
  | .blk id' :: k, k', s, h, q => by
    unfold unw at h
    split at h
    · rename_i hb
      have := Nat.eq_of_beq_eq_true hb
      subst this
      cases h
      simpa [after] using q
    · rename_i hb
      have hne : ¬ id = id' := fun e => by subst e; simp at hb
      simp only [after, if_neg hne]
      exact after_exit k k' s h q

theorem go_nil (q : Q (.fin .normal s)) : Goes T cx [] s Q := q
theorem go_skip (h : Goes T cx k s Q) : Goes T cx (.code .skip :: k) s Q := Wp.now (r := .fin .normal s) (fun _ => rfl) h
theorem go_label {l : Nat} (h : Goes T cx k s Q) : Goes T cx (.code (.label l) :: k) s Q := Wp.now (r := .fin .normal s) (fun _ => rfl) h
theorem go_blk {id : Nat} (h : Goes T cx k s Q) : Goes T cx (.blk id :: k) s Q := h
theorem go_end {id : Nat} (h : Goes T cx k s Q) : Goes T cx (.scope :: k) s Q := h
theorem go_seq {a b : Code} (h : Goes T cx (.code a :: .code b :: k) s Q) : Goes T cx (.code (.seq a b) :: k) s Q := by
  refine Wp.bind (t' := .code cx a s) (fun rec r => match r with | .fin .normal s' => rec (.code cx b s') | r => r) (fun rec => rfl) (Wp.mono' h fun r hl hr => ?_)
  cases r with
  | fin e s' => cases e with
    | normal => obtain ⟨r', ⟨N, h1⟩, q⟩ := hr; exact ⟨r', ⟨N, h1⟩, q⟩
    | _ => exact ⟨_, ⟨0, fun _ _ => rfl⟩, hr⟩
  | alt => cases hl
  | _ => exact ⟨_, ⟨0, fun _ _ => rfl⟩, hr⟩
theorem go_loop1 {b : Code} (h : Goes T cx (.code b :: .code (.loop b) :: k) s Q) : Goes T cx (.code (.loop b) :: k) s Q := by
  refine Wp.bind (t' := .code cx b s) (fun rec r => match r with | .fin .normal s' => rec (.code cx (.loop b) s') | r => r) (fun rec => rfl) (Wp.mono' h fun r hl hr => ?_)
  cases r with
  | fin e s' => cases e with
    | normal => obtain ⟨r', ⟨N, h1⟩, q⟩ := hr; exact ⟨r', ⟨N, h1⟩, q⟩
    | _ => exact ⟨_, ⟨0, fun _ _ => rfl⟩, hr⟩
  | alt => cases hl
  | _ => exact ⟨_, ⟨0, fun _ _ => rfl⟩, hr⟩
theorem go_block {id : Nat} {b : Code} (h : Goes T cx (.code b :: .blk id :: k) s Q) : Goes T cx (.code (.block id b) :: k) s Q := by
  refine Wp.bind (t' := .code cx b s) (fun rec r => match r with | .fin (.exit id') s' => if id' = id then .fin .normal s' else .fin (.exit id') s' | r => r) (fun rec => rfl) (Wp.mono' h fun r hl hr => ?_)
  cases r with
  | fin e s' => cases e with
    | exit id' =>
      by_cases e : id' = id
      · subst e
        refine ⟨.fin .normal s', ⟨0, fun _ _ => by simp⟩, ?_⟩
        simpa [after, Leaves] using hr
      · refine ⟨.fin (.exit id') s', ⟨0, fun _ _ => by simp [e]⟩, ?_⟩
        simpa [after, e, Leaves] using hr
    | _ => exact ⟨_, ⟨0, fun _ _ => rfl⟩, hr⟩
  | alt => cases hl
  | _ => exact ⟨_, ⟨0, fun _ _ => rfl⟩, hr⟩
theorem go_scope {b : Code} (h : Goes T cx (.code b :: .scope :: k) s Q) : Goes T cx (.code (.scope b) :: k) s Q := by
  refine Wp.bind (t' := .code cx b s) (fun rec r => match r with | .fin (.goto l) s' => .fin (.goto l) s' | r => r) (fun rec => rfl) (Wp.mono' h fun r hl hr => ?_)
  cases r with
  | fin e s' => cases e with
    | _ => exact ⟨_, ⟨0, fun _ _ => rfl⟩, hr⟩
  | alt => cases hl
  | _ => exact ⟨_, ⟨0, fun _ _ => rfl⟩, hr⟩
theorem go_exit {id : Nat} {k' : List K} (hu : unw id k = some k') (h : Goes T cx k' s Q) : Goes T cx (.code (.exit id) :: k) s Q :=
  Wp.now (r := .fin (.exit id) s) (fun _ => rfl) (after_exit k k' s hu h)
theorem go_ret (h : Q (.fin .ret s)) : Goes T cx (.code .ret :: k) s Q := Wp.now (r := .fin .ret s) (fun _ => rfl) (by show after T cx k Q _; rw [after_ret]; exact h)
theorem go_cond {x : Operand} {a b : Code} {c : Bool} (hx : env s.tm x = some (.bool c)) (ht : c = true → Goes T cx (.code a :: k) s Q) (hf : c = false → Goes T cx (.code b :: k) s Q) : Goes T cx (.code (.cond x a b) :: k) s Q := by
  cases c with
  | true => exact Wp.like (fun rec => by simp [step, hx]) (ht rfl)
  | false => exact Wp.like (fun rec => by simp [step, hx]) (hf rfl)
theorem go_region {i : Nat} {ops : Array Oper} (h : Ops T cx ops.toList ops.toList k s Q) : Goes T cx (.code (.region i ops false) :: k) s Q :=
  Wp.like (fun rec => rfl) h
theorem go_loop {b : Code} (I : Nat → St → Prop) {m : Nat} (h0 : I m s) (round : ∀ m s, I m s → (∀ m' s', m' < m → I m' s' → Goes T cx (.code (.loop b) :: k) s' Q) → Goes T cx (.code b :: .code (.loop b) :: k) s Q) : Goes T cx (.code (.loop b) :: k) s Q := by
  induction m using Nat.strongRecOn generalizing s with
  | _ m ih => exact go_loop1 (round m s h0 fun m' s' hlt hi => ih m' hlt hi)

/-! ### slots -/
def look : List (Nat × AV) → Nat → Option AV
  | [], _ => none
  | (j, v) :: l, n => match Nat.beq j n with
    | true => some v
    | false => look l n
def Sees (tm : Tr AV) (L : List (Nat × AV)) : Prop := ∀ j v, look L j = some v → tm.get j = some v
theorem Sees.nil (tm : Tr AV) : Sees tm [] := fun _ _ h => by cases h
theorem Sees.set {tm : Tr AV} {L : List (Nat × AV)} (h : Sees tm L) (d : Nat) (v : AV) : Sees (tm.set d v) ((d, v) :: L) := by
  intro j x hx
  rw [Tr.get_set]
  unfold look at hx
  split at hx
  · rename_i hb
    have := Nat.eq_of_beq_eq_true hb
    subst this
    simpa using hx
  · rename_i hb
    rw [if_neg (fun e => by subst e; simp at hb)]
    exact h j x hx
theorem Sees.more {tm : Tr AV} {L : List (Nat × AV)} {d : Nat} {v : AV} (h : Sees tm L) (hd : tm.get d = some v) : Sees tm ((d, v) :: L) := by
  intro j x hx
  unfold look at hx
  split at hx
  · rename_i hb
    have := Nat.eq_of_beq_eq_true hb
    subst this
    rw [← hx]; exact hd
  · exact h j x hx
theorem Sees.get {tm : Tr AV} {L : List (Nat × AV)} (h : Sees tm L) {d : Nat} {v : AV} (hd : look L d = some v) : tm.get d = some v := h d v hd
def argsL : List AV → Nat → List (Nat × AV) → List (Nat × AV)
  | [], _, L => L
  | a :: l, n, L => argsL l (n + 1) ((n, a) :: L)
theorem Sees.args : ∀ (args : List AV) (n : Nat) (tm : Tr AV) (L : List (Nat × AV)), Sees tm L → Sees (argsTm args n tm) (argsL args n L)
  | [], _, _, _, h => h
  | a :: l, n, tm, L, h => Sees.args l (n + 1) _ _ (h.set n a)
def envL (L : List (Nat × AV)) : Operand → Option AV
  | .tmp t => look L t
  | .const v => ofValue v
  | .global _ => none
  | .func f => some (.func (.func f) [] [])
theorem Sees.env {tm : Tr AV} {L : List (Nat × AV)} (h : Sees tm L) {x : Operand} {v : AV} (hx : envL L x = some v) : env tm x = some v := by
  cases x with
  | tmp t => exact h t v hx
  | _ => exact hx
theorem go_if {L : List (Nat × AV)} (hs : Sees s.tm L) {x : Operand} {a b : Code} {c : Bool} (hx : envL L x = some (.bool c)) (ht : c = true → Goes T cx (.code a :: k) s Q) (hf : c = false → Goes T cx (.code b :: k) s Q) : Goes T cx (.code (.cond x a b) :: k) s Q :=
  go_cond (hs.env hx) ht hf
end
end Ev
