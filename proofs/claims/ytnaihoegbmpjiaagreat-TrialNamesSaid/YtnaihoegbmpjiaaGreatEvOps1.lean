/- A part of the proof that what the evaluator (EvDefs) says of a call is what the machine does: EvOps1. Conditions: those that each theorem states. -/
import Derived.Test.YtnaihoegbmpjiaaGreatEvMem
import Derived.Laws.Strings
set_option linter.unusedVariables false
set_option linter.unusedSimpArgs false
namespace Ev
open Go Go.RowKit

variable {P : Program} {T : Tabs}

theorem blt_eq (a b : Nat) : Nat.blt a b = decide (a < b) := by
  rw [Bool.eq_iff_iff]; simp [Nat.blt_eq]
theorem beq_u8 (a b : UInt8) : Nat.beq a.toNat b.toNat = (a == b) := by
  rw [Bool.eq_iff_iff]
  simp [Nat.beq_eq, UInt8.toNat_inj]
theorem bytesEq_eq : ∀ (x y : List UInt8), bytesEq x y = (x == y)
  | [], [] => rfl
  | [], _ :: _ => rfl
  | _ :: _, [] => rfl
  | a :: x, b :: y => by
    simp only [bytesEq, beq_u8]
    rw [List.cons_beq_cons, bytesEq_eq x y]
    cases a == b <;> simp
theorem bytesLess_eq : ∀ (x y : List UInt8), bytesLess x y = Op.bytesLess x y
  | [], [] => rfl
  | [], _ :: _ => rfl
  | _ :: _, [] => rfl
  | a :: x, b :: y => by
    simp only [bytesLess, Op.bytesLess, beq_u8, blt_eq]
    rw [bytesLess_eq x y]
    by_cases h : a < b
    · have : a.toNat < b.toNat := h
      simp [h, this]
    · have : ¬ a.toNat < b.toNat := h
      simp only [this, decide_false, h, Bool.false_or]
      cases a == b <;> simp
theorem str_beq (x y : List UInt8) : ((⟨x.toArray⟩ : ByteArray) == ⟨y.toArray⟩) = (x == y) := by
  show (x.toArray == y.toArray) = (x == y)
  simp
theorem append_str (x y : List UInt8) : (⟨x.toArray⟩ : ByteArray) ++ ⟨y.toArray⟩ = ⟨(x ++ y).toArray⟩ := by
  apply ByteArray.ext
  simp

theorem str_sound {op : BinOp} {x y : List UInt8} {v : AV} (h : strOp op x y = some v) (E : En) (w : World) :
    ∃ v', (Op.stringOp op ⟨x.toArray⟩ ⟨y.toArray⟩).run P w = .ok v' w ∧ VR E v v' := by
  cases op <;> simp only [strOp] at h <;> first | (simp at h; done) | skip
  case add =>
    split at h <;> simp at h
    rename_i hl
    subst h
    refine ⟨_, ?_, .str _⟩
    simp only [Op.stringOp, append_str]
    rw [if_neg]
    · rfl
    · simp [ByteArray.size, IntKind.max, IntKind.signed, IntKind.bits]; omega
  all_goals
    simp only [Option.some.injEq] at h
    subst h
    refine ⟨_, ?_, .bool _⟩
    simp [Op.stringOp, ByteArray.toList_mk, bytesEq_eq, bytesLess_eq]

theorem int_sound {op : BinOp} {k : IntKind} {x y : Int} {v : AV} (h : intOp op k x y = some v) (E : En) (t : TypeId) (w : World) (h1 : op ≠ .shl) (h2 : op ≠ .shr) :
    ∃ v', (Go.binOp op t (.int k x) (.int k y)).run P w = .ok v' w ∧ VR E v v' := by
  cases op <;> simp only [intOp] at h <;> first | (exact absurd rfl h1) | (exact absurd rfl h2) | (simp at h; done) | skip
  case quo =>
    split at h <;> simp at h
    rename_i hy
    subst h
    refine ⟨_, ?_, .int _ _⟩; simp [Go.binOp, Op.intDiv, hy]
  case rem =>
    split at h <;> simp at h
    rename_i hy
    subst h
    refine ⟨_, ?_, .int _ _⟩; simp [Go.binOp, Op.intDiv, hy]
  all_goals
    simp only [Option.some.injEq] at h
    subst h
    first
    | (refine ⟨_, ?_, .int _ _⟩; simp [Go.binOp, Op.intArith, Op.intBits]; done)
    | (refine ⟨_, ?_, .bool _⟩; simp [Go.binOp, Op.intCmp]; done)

theorem shift_sound {op : BinOp} {k k' : IntKind} {x y : Int} {v : AV} (h : shiftOp op k x y = some v) (E : En) (w : World) :
    ∃ v', (Op.shift op k x k' y).run P w = .ok v' w ∧ VR E v v' := by
  unfold shiftOp at h
  split at h
  · simp at h
  · rename_i hy
    unfold Op.shift
    rw [if_neg hy]
    cases op <;> simp at h
    all_goals
      subst h
      exact ⟨_, rfl, .int _ _⟩

theorem part_sound (ok : TabsOK P T) {t : TypeId} {cs : List AV} {off : Nat} {v : AV} (h : Ev.part T t cs off = some v) {E : En} {cs' : List Value} (hc : VRs E cs cs') (w : World) :
    ∃ v', (Go.part t cs'.toArray off).run P w = .ok v' w ∧ VR E v v' := by
  unfold Ev.part at h
  split at h
  · rename_i n ha hs
    split at h <;> simp at h
    rename_i l hl
    subst h
    obtain ⟨_, rfl⟩ := cutE_some hl
    refine ⟨.agg ((cs'.drop off).take n).toArray, ?_, .agg _ _ ((hc.drop off).take n)⟩
    simp [Go.part, run_agg ok ha, run_size ok hs]
  · rename_i n ha hs
    rw [nth_eq] at h
    obtain ⟨v', h1, h2⟩ := hc.get h
    refine ⟨v', ?_, h2⟩
    simp [Go.part, run_agg ok ha, h1]
  · simp at h

/-- equal, as the model tells it, of whatever depth -/
def EqAt (P : Program) (d : Nat) (t : TypeId) (x' y' : Value) (r : Bool) : Prop := ∀ (D : Nat), d ≤ D → ∀ w, (Op.equalIn D t x' y').run P w = .ok r w

theorem eqFields_sound (ok : TabsOK P T) (d : Nat) (ih : ∀ (t : TypeId) (x y : AV) (r : Bool), eqv T d t x y = some r → ∀ (E : En) (x' y' : Value), VR E x x' → VR E y y' → EqAt P d t x' y' r) :
    ∀ (fs : List Field) (xs ys : List AV) (r : Bool), eqFields T (eqv T d) fs xs ys = some r → ∀ (E : En) (xs' ys' : List Value), VRs E xs xs' → VRs E ys ys' → ∀ (D : Nat), d ≤ D → ∀ w,
      (forIn (m := Sem) fs ((none, ()) : Option Bool × Unit) fun f __s =>
            if f.name = "_" then pure (ForInStep.yield (none, ()))
            else do
              let a ← Go.part f.type xs'.toArray f.offset
              let b ← Go.part f.type ys'.toArray f.offset
              let c ← Op.equalIn D f.type a b
              if c = false then pure (ForInStep.done (some false, ())) else pure (ForInStep.yield (none, ()))).run P w = .ok (if r then (none, ()) else (some false, ())) w
  | [], xs, ys, r, h, E, xs', ys', hx, hy, D, hD, w => by
    simp [eqFields] at h
    subst h
    simp
  | f :: fs, xs, ys, r, h, E, xs', ys', hx, hy, D, hD, w => by
    unfold eqFields at h
    by_cases hf : f.name = "_"
    · rw [if_pos hf] at h
      have := eqFields_sound ok d ih fs xs ys r h E xs' ys' hx hy D hD w
      simp only [List.forIn_cons, if_pos hf, pure_bind]
      exact this
    · rw [if_neg hf] at h
      split at h
      · rename_i a b ha hb
        obtain ⟨a', pa, qa⟩ := part_sound ok ha hx w
        obtain ⟨b', pb, qb⟩ := part_sound ok hb hy w
        split at h
        · rename_i he
          have h1 := ih _ _ _ _ he E a' b' qa qb D hD w
          have := eqFields_sound ok d ih fs xs ys r h E xs' ys' hx hy D hD w
          simp only [List.forIn_cons, if_neg hf, Sem.run_bind, pa, pb, Result.andThen_ok, h1]
          simpa using this
        · rename_i he
          have h1 := ih _ _ _ _ he E a' b' qa qb D hD w
          simp at h
          subst h
          simp only [List.forIn_cons, if_neg hf, Sem.run_bind, pa, pb, Result.andThen_ok, h1]
          simp
        · simp at h
      · simp at h

theorem eqElems_sound (ok : TabsOK P T) (d : Nat) (ih : ∀ (t : TypeId) (x y : AV) (r : Bool), eqv T d t x y = some r → ∀ (E : En) (x' y' : Value), VR E x x' → VR E y y' → EqAt P d t x' y' r) (elem : TypeId) (n : Nat) :
    ∀ (len i : Nat) (xs ys : List AV) (r : Bool), eqElems T (eqv T d) elem n xs ys len i = some r → ∀ (E : En) (xs' ys' : List Value), VRs E xs xs' → VRs E ys ys' → ∀ (D : Nat), d ≤ D → ∀ w,
      (forIn (m := Sem) (List.range' i len) ((none, ()) : Option Bool × Unit) fun j __s => do
              let a ← Go.part elem xs'.toArray (j * n)
              let b ← Go.part elem ys'.toArray (j * n)
              let c ← Op.equalIn D elem a b
              if c = false then pure (ForInStep.done (some false, ())) else pure (ForInStep.yield (none, ()))).run P w = .ok (if r then (none, ()) else (some false, ())) w
  | 0, i, xs, ys, r, h, E, xs', ys', hx, hy, D, hD, w => by
    simp [eqElems] at h
    subst h
    simp
  | len + 1, i, xs, ys, r, h, E, xs', ys', hx, hy, D, hD, w => by
    unfold eqElems at h
    split at h
    · rename_i a b ha hb
      obtain ⟨a', pa, qa⟩ := part_sound ok ha hx w
      obtain ⟨b', pb, qb⟩ := part_sound ok hb hy w
      split at h
      · rename_i he
        have h1 := ih _ _ _ _ he E a' b' qa qb D hD w
        have := eqElems_sound ok d ih elem n len (i + 1) xs ys r h E xs' ys' hx hy D hD w
        simp only [List.range'_succ, List.forIn_cons, Sem.run_bind, pa, pb, Result.andThen_ok, h1]
        simpa using this
      · rename_i he
        have h1 := ih _ _ _ _ he E a' b' qa qb D hD w
        simp at h
        subst h
        simp only [List.range'_succ, List.forIn_cons, Sem.run_bind, pa, pb, Result.andThen_ok, h1]
        simp
      · simp at h
    · simp at h

set_option maxHeartbeats 2000000 in
theorem eqv_sound (ok : TabsOK P T) : ∀ (d : Nat) (t : TypeId) (x y : AV) (r : Bool), eqv T d t x y = some r → ∀ (E : En) (x' y' : Value), VR E x x' → VR E y y' → EqAt P d t x' y' r
  | 0, t, x, y, r, h => by simp [eqv] at h
  | d + 1, t, x, y, r, h => by
    intro E x' y' hx hy D hD w
    obtain ⟨D, rfl⟩ : ∃ k, D = k + 1 := ⟨D - 1, by omega⟩
    unfold eqv at h
    split at h
    case h_23 =>
      rename_i fields xs ys hu
      split at h
      · simp at h
      · rename_i hst
        cases hx with | agg l xs' hx =>
        cases hy with | agg l ys' hy =>
        have := eqFields_sound ok d (eqv_sound ok d) fields.toList xs ys r h E xs' ys' hx hy D (by omega) w
        simp only [Op.equalIn, Sem.run_bind, run_und ok hu, Result.andThen_ok, run_program]
        simp only [ok.stood t (by simpa using hst)]
        rw [Array.forIn_toList] at this
        simp
        rw [this]
        cases r <;> simp
    case h_24 =>
      rename_i len elem xs ys hu
      split at h
      · rename_i n hn
        cases hx with | agg l xs' hx =>
        cases hy with | agg l ys' hy =>
        have := eqElems_sound ok d (eqv_sound ok d) elem n len 0 xs ys r h E xs' ys' hx hy D (by omega) w
        simp only [Op.equalIn, Sem.run_bind, run_und ok hu, Result.andThen_ok, run_size ok hn]
        rw [Std.Legacy.Range.forIn_eq_forIn_range']
        simp
        rw [this]
        cases r <;> simp
      · simp at h
    case h_2 =>
      rename_i hu
      cases hx; cases hy
      split at h
      · rename_i hk
        simp at h
        subst h; subst hk
        simp [Op.equalIn, run_und ok hu]
      · simp at h
    case h_3 =>
      rename_i hu
      cases hx; cases hy
      simp at h
      subst h
      simp only [Op.equalIn, Sem.run_bind, run_und ok hu, Result.andThen_ok, Sem.run_pure, bytesEq_eq]
      rename_i x y
      congr 1
      exact str_beq x y
    all_goals first
      | (simp at h; done)
      | (rename_i hu; cases hx; cases hy; simp at h; subst h; simp [Op.equalIn, run_und ok hu]; done)

end Ev
