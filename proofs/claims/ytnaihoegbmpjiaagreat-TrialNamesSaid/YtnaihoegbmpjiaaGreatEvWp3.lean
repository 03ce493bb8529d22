/- A part of the rules by which proofs walk over what the evaluator (EvDefs) says, at values that are not known: EvWp3. Conditions: those that each theorem states. -/
import Derived.Test.YtnaihoegbmpjiaaGreatEvWp2
set_option linter.unusedVariables false
set_option linter.unusedSimpArgs false
namespace Ev
open Go

variable {T : Tabs} {cx : Cx} {k : List K} {Q : Res → Prop}

def wantedL (ops : List Oper) (L : List (Nat × AV)) (o : Oper) : Option Bool := match o.guard with
  | none => some true
  | some (j, want) => match dstOf ops j with
    | some d => match look L d with
      | some (.bool b) => some (b == want)
      | some _ => some false
      | none => none
    | none => none
theorem wanted_of {ops : List Oper} {L : List (Nat × AV)} {tm : Tr AV} (hs : Sees tm L) {o : Oper} {b : Bool} (h : wantedL ops L o = some b) : wantedA ops tm o = some b := by
  unfold wantedL at h
  unfold wantedA
  cases hg : o.guard with
  | none => simp only [hg] at h ⊢; exact h
  | some g =>
    obtain ⟨j, want⟩ := g
    simp only [hg] at h ⊢
    cases hd : dstOf ops j with
    | none => simp only [hd] at h; cases h
    | some d =>
      simp only [hd] at h ⊢
      cases hv : look L d with
      | none => simp only [hv] at h; cases h
      | some v =>
        simp only [hv] at h
        simp only [hs d v hv]
        exact h
theorem op_of {L : List (Nat × AV)} {tm : Tr AV} (hs : Sees tm L) {o : Oper} {h : Heap} {r : OR} (ho : opA T (envL L) o h = r) (hr : r.isNo = false) : opA T (env tm) o h = r := by
  rw [opA_mono (fun x v hx => hs.env hx) o h (by rw [ho]; exact hr)]
  exact ho

theorem blt_lt {a b : Nat} (h : Nat.blt a b = true) : a < b := by rw [blt_eq] at h; simpa using h
/-- a call that returns -/
def Gives (T : Tabs) (f : FuncId) (args : List AV) (h : Heap) (P : AV → Heap → Prop) : Prop := Wp T (.call f args h) fun r => ∃ v h', r = .ret v h' ∧ P v h'
theorem Gives.mono {f : FuncId} {args : List AV} {h : Heap} {P P' : AV → Heap → Prop} (c : Gives T f args h P) (m : ∀ v h', P v h' → P' v h') : Gives T f args h P' :=
  Wp.mono c fun _ ⟨v, h', e, p⟩ => ⟨v, h', e, m v h' p⟩

variable {all rest : List Oper} {o : Oper} {tm : Tr AV} {df : List ADef} {pan : Option (AV × Bool)} {h h' : Heap} {L : List (Nat × AV)} {v : AV} {d : Nat}

theorem ops_nil {s : St} (g : Goes T cx k s Q) : Ops T cx all [] k s Q := Wp.now (r := .fin .normal s) (fun _ => rfl) g
theorem ops_val (hs : Sees tm L) (hg : wantedL all L o = some true) (hd : o.dst = some d) (ho : opA T (envL L) o h = .val v h') (hn : Nat.blt d cx.nt = true)
    (c : ∀ tm', Sees tm' ((d, v) :: L) → Ops T cx all rest k ⟨tm', df, pan, h'⟩ Q) : Ops T cx all (o :: rest) k ⟨tm, df, pan, h⟩ Q := by
  refine Wp.like (fun rec => ?_) (c (tm.set d v) (hs.set d v))
  simp only [step, wanted_of hs hg, op_of hs ho rfl, putA, hd, if_pos (blt_lt hn)]
theorem ops_val0 (hs : Sees tm L) (hg : wantedL all L o = some true) (hd : o.dst = none) (ho : opA T (envL L) o h = .val v h')
    (c : Ops T cx all rest k ⟨tm, df, pan, h'⟩ Q) : Ops T cx all (o :: rest) k ⟨tm, df, pan, h⟩ Q := by
  refine Wp.like (fun rec => ?_) c
  simp only [step, wanted_of hs hg, op_of hs ho rfl, putA, hd]
theorem ops_skip (hs : Sees tm L) (hg : wantedL all L o = some true) (hd : o.dst = none) (ho : opA T (envL L) o h = .skip h')
    (c : Ops T cx all rest k ⟨tm, df, pan, h'⟩ Q) : Ops T cx all (o :: rest) k ⟨tm, df, pan, h⟩ Q := by
  refine Wp.like (fun rec => ?_) c
  simp only [step, wanted_of hs hg, op_of hs ho rfl, putA, hd]
theorem ops_no (hs : Sees tm L) (hg : wantedL all L o = some false) (hd : o.dst = some d) (hn : Nat.blt d cx.nt = true)
    (c : ∀ tm', Sees tm' ((d, undefA) :: L) → Ops T cx all rest k ⟨tm', df, pan, h⟩ Q) : Ops T cx all (o :: rest) k ⟨tm, df, pan, h⟩ Q := by
  refine Wp.like (fun rec => ?_) (c (tm.set d undefA) (hs.set d undefA))
  simp only [step, wanted_of hs hg, putA, hd, if_pos (blt_lt hn)]
theorem ops_no0 (hs : Sees tm L) (hg : wantedL all L o = some false) (hd : o.dst = none)
    (c : Ops T cx all rest k ⟨tm, df, pan, h⟩ Q) : Ops T cx all (o :: rest) k ⟨tm, df, pan, h⟩ Q := by
  refine Wp.like (fun rec => ?_) c
  simp only [step, wanted_of hs hg, putA, hd]
theorem ops_call {f : FuncId} {args : List AV} {P : AV → Heap → Prop} (hs : Sees tm L) (hg : wantedL all L o = some true) (hd : o.dst = some d) (ho : opA T (envL L) o h = .enter f args h') (hn : Nat.blt d cx.nt = true)
    (hc : Gives T f args h' P) (c : ∀ v h2, P v h2 → ∀ tm', Sees tm' ((d, v) :: L) → Ops T cx all rest k ⟨tm', df, pan, h2⟩ Q) : Ops T cx all (o :: rest) k ⟨tm, df, pan, h⟩ Q := by
  refine Wp.bind (t' := .call f args h') (fun rec r => match r with
      | .ret v h'' => (match putA cx { tm := tm, df := df, pan := pan, h := h'' } o.dst v with
            | some s' => rec (.ops cx all rest s')
            | none => .no "put" [])
      | .thrown v h'' => .pan v { tm := tm, df := df, pan := pan, h := h'' }
      | r => no1 f r) (fun rec => ?_) (Wp.mono hc ?_)
  · simp only [step, wanted_of hs hg, op_of hs ho rfl]
    cases rec (.call f args h') <;> rfl
  · rintro _ ⟨v, h2, rfl, p⟩
    obtain ⟨r, ⟨N, hr⟩, q⟩ := c v h2 p (tm.set d v) (hs.set d v)
    refine ⟨r, ⟨N, fun n hn' => ?_⟩, q⟩
    simp only [putA, hd, if_pos (blt_lt hn)]
    exact hr n hn'
theorem ops_call0 {f : FuncId} {args : List AV} {P : AV → Heap → Prop} (hs : Sees tm L) (hg : wantedL all L o = some true) (hd : o.dst = none) (ho : opA T (envL L) o h = .enter f args h')
    (hc : Gives T f args h' P) (c : ∀ v h2, P v h2 → Ops T cx all rest k ⟨tm, df, pan, h2⟩ Q) : Ops T cx all (o :: rest) k ⟨tm, df, pan, h⟩ Q := by
  refine Wp.bind (t' := .call f args h') (fun rec r => match r with
      | .ret v h'' => (match putA cx { tm := tm, df := df, pan := pan, h := h'' } o.dst v with
            | some s' => rec (.ops cx all rest s')
            | none => .no "put" [])
      | .thrown v h'' => .pan v { tm := tm, df := df, pan := pan, h := h'' }
      | r => no1 f r) (fun rec => ?_) (Wp.mono hc ?_)
  · simp only [step, wanted_of hs hg, op_of hs ho rfl]
    cases rec (.call f args h') <;> rfl
  · rintro _ ⟨v, h2, rfl, p⟩
    obtain ⟨r, ⟨N, hr⟩, q⟩ := c v h2 p
    refine ⟨r, ⟨N, fun n hn' => ?_⟩, q⟩
    simp only [putA, hd]
    exact hr n hn'

/-- one of several -/
theorem ops_choice {l : List (AV × Heap)} (hs : Sees tm L) (hg : wantedL all L o = some true) (hd : o.dst = some d) (ho : opA T (envL L) o h = .choice l) (hn : Nat.blt d cx.nt = true) (hl : l ≠ [])
    (c : ∀ p, p ∈ l → ∀ tm', Sees tm' ((d, p.1) :: L) → Ops T cx all rest k ⟨tm', df, pan, p.2⟩ Q) : Ops T cx all (o :: rest) k ⟨tm, df, pan, h⟩ Q := by
  have key : ∀ l : List (AV × Heap), l ≠ [] → (∀ p, p ∈ l → ∀ tm', Sees tm' ((d, p.1) :: L) → Ops T cx all rest k ⟨tm', df, pan, p.2⟩ Q) →
      ∃ r, (∃ N, ∀ n, N ≤ n → altR (chooseA (ev T n) cx all rest ⟨tm, df, pan, h⟩ o.dst l) = r) ∧ Leaves (after T cx k Q) r := by
    intro l
    induction l with
    | nil => intro h; exact absurd rfl h
    | cons p l ih =>
      intro _ c
      obtain ⟨r, ⟨N, hr⟩, q⟩ := c p (List.mem_cons_self ..) (tm.set d p.1) (hs.set d p.1)
      cases l with
      | nil =>
        refine ⟨r, ⟨N, fun n hn' => ?_⟩, q⟩
        simp only [chooseA, altR, putA, hd, if_pos (blt_lt hn)]
        exact hr n hn'
      | cons p2 l =>
        obtain ⟨r2, ⟨M, hr2⟩, q2⟩ := ih (by simp) (fun x hx => c x (List.mem_cons_of_mem _ hx))
        refine ⟨.alt r r2, ⟨N + M, fun n hn' => ?_⟩, q, q2⟩
        have h2 := hr2 n (by omega)
        have h1 := hr n (by omega)
        show Res.alt _ (altR (chooseA (ev T n) cx all rest ⟨tm, df, pan, h⟩ o.dst (p2 :: l))) = _
        rw [h2]
        simp only [putA, hd, if_pos (blt_lt hn), h1]
  obtain ⟨r, ⟨N, hr⟩, q⟩ := key l hl c
  refine ⟨r, .of_step ⟨N, fun n hn' => ?_⟩, q⟩
  have : step T (ev T n) (.ops cx all (o :: rest) ⟨tm, df, pan, h⟩) = altR (chooseA (ev T n) cx all rest ⟨tm, df, pan, h⟩ o.dst l) := by
    simp only [step, wanted_of hs hg, op_of hs ho rfl]
  rw [this]; exact hr n hn'

/-! ### a function -/
def resultsL (T : Tabs) (L : List (Nat × AV)) (h : Heap) : List ResultVar → Option (List AV)
  | [] => some []
  | .tmp t :: l => match look L t, resultsL T L h l with
    | some v, some r => some (v :: r)
    | _, _ => none
  | .cell a t :: l => match look L a with
    | some (.ptr b off) => match loadVarA T t h b off, resultsL T L h l with
      | some v, some r => some (v :: r)
      | _, _ => none
    | _ => none
theorem results_of (hs : Sees tm L) : ∀ (l : List ResultVar) (vs : List AV), resultsL T L h l = some vs → resultsA T tm h l = some vs
  | [], _, e => e
  | .tmp t :: l, vs, e => by
    unfold resultsL at e
    unfold resultsA
    split at e <;> simp at e
    rename_i v r h1 h2
    rw [hs t v h1, results_of hs l r h2]
    simp [e]
  | .cell a t :: l, vs, e => by
    unfold resultsL at e
    unfold resultsA
    split at e
    · rename_i b off h0
      split at e <;> simp at e
      rename_i v r h1 h2
      rw [hs a _ h0]
      simp only [h1, results_of hs l r h2]
      simp [e]
    · cases e
/-- a function of no defers has come to its end -/
def Ends (T : Tabs) (rs : List ResultVar) (P : AV → Heap → Prop) (r : Res) : Prop := ∃ e tm h, r = .fin e ⟨tm, [], none, h⟩ ∧ (e = .normal ∨ e = .ret) ∧ ∃ vs, resultsA T tm h rs = some vs ∧ P (oneOf vs) h
theorem ends_ret {rs : List ResultVar} {P : AV → Heap → Prop} {vs : List AV} (hs : Sees tm L) (hr : resultsL T L h rs = some vs) (p : P (oneOf vs) h) : Ends T rs P (.fin .ret ⟨tm, [], none, h⟩) :=
  ⟨.ret, tm, h, rfl, .inr rfl, vs, results_of hs rs vs hr, p⟩
theorem ends_normal {rs : List ResultVar} {P : AV → Heap → Prop} {vs : List AV} (hs : Sees tm L) (hr : resultsL T L h rs = some vs) (p : P (oneOf vs) h) : Ends T rs P (.fin .normal ⟨tm, [], none, h⟩) :=
  ⟨.normal, tm, h, rfl, .inl rfl, vs, results_of hs rs vs hr, p⟩
theorem call_of {f : FuncId} {args : List AV} {F : Func} {c : Code} {P : AV → Heap → Prop} (hsm : T.sm f args h = none) (hF : T.fn f = some F) (hb : F.body = some c)
    (g : ∀ tm, Sees tm (argsL args 0 []) → Goes T { fn := f, nt := Nat.max F.ntmps args.length, round := none } [.code c] ⟨tm, [], none, h⟩ (Ends T F.results.toList P)) : Gives T f args h P := by
  refine Wp.bind (t' := .code { fn := f, nt := Nat.max F.ntmps args.length, round := none } c { tm := argsTm args 0 .nil, df := [], pan := none, h := h }) (fun rec r => match r with
        | .fin .normal s => rec (.leave f s.tm s.df none s.h)
        | .fin .ret s => rec (.leave f s.tm s.df none s.h)
        | .pan v s => rec (.leave f s.tm s.df (some (v, false)) s.h)
        | .fin _ _ => .no "jump out of a function" []
        | r => r) (fun rec => by
          simp only [step, hsm, hF, hb]
          congr 1) ?_
  have := g (argsTm args 0 .nil) (Sees.args args 0 _ _ (Sees.nil _))
  refine Wp.mono (Q := Ends T F.results.toList P) this ?_
  rintro r ⟨e, tm, h1, rfl, he, vs, hvs, p⟩
  have hl : ∀ n, ev T (n + 1) (.leave f tm [] none h1) = .ret (oneOf vs) h1 := fun n => by simp [ev, step, hF, hvs]
  refine ⟨.ret (oneOf vs) h1, ⟨1, fun n hn => ?_⟩, oneOf vs, h1, rfl, p⟩
  obtain ⟨m, rfl⟩ : ∃ m, n = m + 1 := ⟨n - 1, by omega⟩
  rcases he with rfl | rfl <;> exact hl m

/-! ### memory that has grown -/
/-- nothing lies behind the memory's end -/
def Heap.ok (h : Heap) : Prop := ∀ b, h.next ≤ b → h.get b = none
theorem Heap.ok.lt {h : Heap} (k : h.ok) {b : Nat} {o : AObj} (hg : h.get b = some o) : b < h.next :=
  Nat.lt_of_not_le fun hb => by rw [k b hb] at hg; cases hg
structure Ext (h h' : Heap) : Prop where
  nx : h.next ≤ h'.next
  old : ∀ b, b < h.next → h'.get b = h.get b
  ok : h.ok → h'.ok
theorem Ext.refl (h : Heap) : Ext h h := ⟨Nat.le_refl _, fun _ _ => rfl, id⟩
theorem Ext.trans {a b c : Heap} (x : Ext a b) (y : Ext b c) : Ext a c := ⟨Nat.le_trans x.nx y.nx, fun n hn => by rw [y.old n (Nat.lt_of_lt_of_le hn x.nx), x.old n hn], fun k => y.ok (x.ok k)⟩
theorem Ext.alloc (h : Heap) (o : AObj) : Ext h (h.alloc o) := ⟨by simp [Heap.alloc], fun b hb => by rw [Heap.get_alloc, if_neg (by omega)], fun k b hb => by
  have hn : (h.alloc o).next = h.next + 1 := rfl
  rw [Heap.get_alloc, if_neg (by omega)]
  exact k b (by omega)⟩
/-- a store at a place that lies within -/
theorem Ext.setL {a h : Heap} (x : Ext a h) {b : Nat} (hb : a.next ≤ b) (hl : b < h.next) (o : AObj) : Ext a (h.set b o) := ⟨by simpa using x.nx, fun n hn => by rw [Heap.get_set, if_neg (by omega)]; exact x.old n hn, fun k n hn => by
  have hn : h.next ≤ n := by simpa using hn
  rw [Heap.get_set, if_neg (by omega)]
  exact x.ok k n hn⟩
theorem Ext.set {a h : Heap} (x : Ext a h) {b : Nat} {o0 : AObj} (hb : a.next ≤ b) (hg : h.get b = some o0) (o : AObj) : Ext a (h.set b o) := ⟨by simpa using x.nx, fun n hn => by rw [Heap.get_set, if_neg (by omega)]; exact x.old n hn, fun k n hn => by
  have hn : h.next ≤ n := by simpa using hn
  have hl := (x.ok k).lt hg
  rw [Heap.get_set, if_neg (by omega)]
  exact x.ok k n hn⟩
theorem get_new (h : Heap) (o : AObj) : (h.alloc o).get h.next = some o := by rw [Heap.get_alloc, if_pos rfl]
end Ev
namespace Ev
theorem Sees.cons {tm : Tr AV} {L L' : List (Nat × AV)} {j : Nat} {v : AV} (h : Sees tm L) (hd : look L j = some v) (t : Sees tm L') : Sees tm ((j, v) :: L') := t.more (h.get hd)
end Ev
