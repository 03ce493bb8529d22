/- A part of the proof that what the evaluator (EvDefs) says of a call is what the machine does: EvEnd. Conditions: those that each theorem states. -/
import Derived.Test.YtnaihoegbmpjiaaGreatEvDraw4
import Derived.ChangeSame
import Derived.RowKit3
set_option linter.unusedVariables false
set_option linter.unusedSimpArgs false
namespace Ev
open Go Go.RowKit

variable {P : Program} {T : Tabs}

/-! ### from the evaluator to the machine's word -/
def good : Res → Bool
  | .ret (.bool b) _ => b
  | .alt a b => good a && good b
  | _ => false
theorem good_leaf : ∀ {r q : Res}, good r = true → Lf r q → ∃ h, q = .ret (.bool true) h
  | .alt a b, q, g, h => by
    unfold good at g
    simp only [Bool.and_eq_true] at g
    exact h.elim (good_leaf g.1) (good_leaf g.2)
  | .ret v h', q, g, h => by
    cases h
    cases v <;> simp [good] at g
    subst g
    exact ⟨_, rfl⟩
  | .fin .., _, g, _ => by simp [good] at g
  | .pan .., _, g, _ => by simp [good] at g
  | .thrown .., _, g, _ => by simp [good] at g
  | .dret .., _, g, _ => by simp [good] at g
  | .no .., _, g, _ => by simp [good] at g
def En.none : En := ⟨fun _ => 0, fun _ => 0, fun _ => 0, fun _ => False⟩
theorem HR.start (w : World) : HR w.heap.size w En.none ⟨.nil, 0⟩ w :=
  ⟨fun _ h => h.elim, fun _ _ h => h.elim, fun _ _ _ _ h => h.elim, Below.refl _ _, Nat.le_refl _, Nat.le_refl _, fun _ h => h.elim⟩
theorem ev_calls (ok : TabsOK P T) (hsm : ∀ f a h, T.sm f a h = Option.none) {n : Nat} {f : FuncId} (hg : good (ev T n (.call f [] ⟨.nil, 0⟩)) = true) (w : World) :
    Calls P f #[] w fun e w' => e = .returned (.bool true) ∧ Below w.heap.size w w' := by
  intro cs
  have h := ev_sound (base := w.heap.size) (w0 := w) ok (fun f a h v h' hh => by rw [hsm] at hh; cases hh) n (.call f [] ⟨.nil, 0⟩) En.none [] w cs .nil (HR.start w)
  obtain ⟨q, hq, h⟩ := h
  obtain ⟨h', rfl⟩ := good_leaf hg hq
  obtain ⟨E', w', v', fr, p1, p2, p3, p4, p5, p6⟩ := h
  cases p3
  exact ⟨_, w', fr, ⟨rfl, p1.wd⟩, p4, p5, p6⟩

/-! ### the program's tables -/
theorem ofListAux_get {α : Type} : ∀ (l : List α) (n : Nat) (t : Tr α) (m : Nat), (Tr.ofListAux l n t).get m = if n ≤ m ∧ m < n + l.length then l[m - n]? else t.get m
  | [], n, t, m => by simp [Tr.ofListAux]; omega
  | a :: l, n, t, m => by
    simp only [Tr.ofListAux]
    rw [ofListAux_get l (n + 1) (t.set n a) m, Tr.get_set]
    simp only [List.length_cons]
    by_cases h1 : m = n
    · subst h1; rw [if_neg (by omega), if_pos rfl, if_pos (by omega)]; simp
    · by_cases h2 : n + 1 ≤ m ∧ m < n + 1 + l.length
      · rw [if_pos h2, if_pos (by omega)]
        obtain ⟨q, rfl⟩ : ∃ q, m = n + 1 + q := ⟨m - (n + 1), by omega⟩
        have e : n + 1 + q - n = q + 1 := by omega
        rw [e]; simp
      · rw [if_neg h2, if_neg h1, if_neg (by omega)]
theorem ofList_get {α : Type} (l : List α) (m : Nat) : (Tr.ofList l).get m = l[m]? := by
  unfold Tr.ofList
  rw [ofListAux_get, Tr.get_nil]
  simp only [Nat.zero_le, Nat.zero_add, true_and, Nat.sub_zero]
  split
  · rfl
  · rename_i h; rw [List.getElem?_eq_none (by omega)]
def undOf (tt : Tr TypeInfo) (t : Nat) : Option TypeDesc := match tt.get t with
  | some i => match i.desc with
    | .named _ u => match tt.get u with
      | some j => some j.desc
      | none => Option.none
    | d => some d
  | none => Option.none
/-- a type number that a list holds -/
def listed (l : Tr Bool) (t : Nat) : Bool := match l.get t with
  | some b => b
  | none => true
def extOf : List (Nat × ExtK) → Nat → Option ExtK
  | [], _ => Option.none
  | (g, k) :: l, f => match Nat.beq g f with
    | true => some k
    | false => extOf l f
theorem extOf_mem : ∀ (l : List (Nat × ExtK)) (f : Nat) (k : ExtK), extOf l f = some k → (f, k) ∈ l
  | [], _, _, h => by cases h
  | (g, k') :: l, f, k, h => by
    unfold extOf at h
    split at h
    · rename_i hb
      have := Nat.eq_of_beq_eq_true hb
      subst this
      cases h
      exact List.mem_cons_self ..
    · exact List.mem_cons_of_mem _ (extOf_mem l f k h)
def isYes (l : Tr Bool) (t : Nat) : Bool := match l.get t with
  | some b => b
  | none => false
def kdTest (P : Program) (t : Nat) : Bool := match P.underlying t with
  | some (.slice _) => !P.packed t
  | _ => false
noncomputable def tabsOf (FT : Tr Func) (TT : Tr TypeInfo) (EQ ST : Tr Bool) (EX : List (Nat × ExtK)) (rt : Nat) (KD : Tr Bool) : Tabs :=
  { ext := extOf EX, rt := rt, kd := isYes KD, alts := true, ti := fun t => TT.get t, und := undOf TT, fn := fun f => FT.get f, eqg := listed EQ, stood := listed ST, sm := fun _ _ _ => Option.none }
/-- the numbers from n on, in order, with what a test says of them -/
def testAll (p : Nat → Bool) : List Nat → Tr Bool → Tr Bool
  | [], t => t
  | n :: l, t => testAll p l (t.set n (p n))
theorem testAll_get (p : Nat → Bool) : ∀ (l : List Nat) (t : Tr Bool) (m : Nat) (b : Bool), (testAll p l t).get m = some b → (m ∈ l ∧ b = p m) ∨ t.get m = some b
  | [], t, m, b, h => .inr h
  | n :: l, t, m, b, h => by
    unfold testAll at h
    rcases testAll_get p l _ m b h with ⟨h1, h2⟩ | h1
    · exact .inl ⟨List.mem_cons_of_mem _ h1, h2⟩
    · rw [Tr.get_set] at h1
      split at h1
      · rename_i e
        subst e
        simp at h1
        exact .inl ⟨List.mem_cons_self .., h1.symm⟩
      · exact .inr h1
theorem tabs_ok {FT : Tr Func} {TT : Tr TypeInfo} {EQ ST KD : Tr Bool} {le ls lk : List Nat} {EX : List (Nat × ExtK)} {rt : Nat} (hF : FT = Tr.ofList P.funcs.toList) (hT : TT = Tr.ofList P.types.toList)
    (hN : P.funcs.toList.all (fun F => !(F.name == "runtime.NumGoroutine")) = true) (hE : EQ = testAll (fun t => P.eqGuardType P.depth t) le .nil) (hS : ST = testAll (fun t => P.stoodInHeld t) ls .nil)
    (hM : P.follows .mixedOrders = true)
    (hX : ∀ p, p ∈ EX → ExtOK P p.1 p.2) (hR : rt = P.globals.size) (hK : KD = testAll (kdTest P) lk .nil) : TabsOK P (tabsOf FT TT EQ ST EX rt KD) := by
  have info : ∀ t i, TT.get t = some i → P.info? t = some i := fun t i h => by
    rw [hT, ofList_get] at h
    have h : P.types[t]? = some i := by simpa using h
    have hlt : t < P.types.size := (Array.getElem?_eq_some_iff.1 h).1
    unfold Tables.info?
    rw [if_pos hlt]; exact h
  refine ⟨info, ?_, ?_, ?_, ?_, hM, fun f k h => hX _ (extOf_mem EX f k h), hR, ?_⟩
  · intro t d h
    have h : undOf TT t = some d := h
    unfold undOf at h
    unfold Program.underlying
    split at h
    · rename_i i hi
      rw [info t i hi]
      split at h
      · rename_i n u hd
        split at h <;> simp at h
        rename_i j hj
        have hj := info u j hj
        subst h
        obtain ⟨⟩ := i
        simp only at hd
        subst hd
        simp [hj]
      · rename_i hnn
        simp at h
        obtain ⟨⟩ := i
        simp only at h hnn
        subst h
        split
        · rename_i heq
          cases heq
          exact absurd rfl (hnn _ _)
        · rename_i heq; cases heq; rfl
        · rename_i heq; cases heq
    · cases h
  · intro f F h
    have h : FT.get f = some F := h
    rw [hF, ofList_get] at h
    refine ⟨by simpa using h, ?_⟩
    have := List.all_eq_true.1 hN F (List.mem_of_getElem? h)
    simpa using this
  · intro t h
    have h : listed EQ t = false := h
    unfold listed at h
    split at h
    · rename_i b hb
      rw [hE] at hb
      rcases testAll_get _ _ _ _ _ hb with ⟨_, h2⟩ | h2
      · rw [← h2]; exact h
      · rw [Tr.get_nil] at h2; cases h2
    · cases h
  · intro t h
    have h : listed ST t = false := h
    unfold listed at h
    split at h
    · rename_i b hb
      rw [hS] at hb
      rcases testAll_get _ _ _ _ _ hb with ⟨_, h2⟩ | h2
      · rw [← h2]; exact h
      · rw [Tr.get_nil] at h2; cases h2
    · cases h
  · intro t h
    have h : isYes KD t = true := h
    unfold isYes at h
    split at h
    · rename_i b hb
      rw [hK] at hb
      rcases testAll_get _ _ _ _ _ hb with ⟨_, h2⟩ | h2
      · rw [h2] at h
        unfold kdTest at h
        split at h
        · rename_i e he; exact ⟨by simpa using h, e, he⟩
        · cases h
      · rw [Tr.get_nil] at h2; cases h2
    · cases h

/-! ### a row of a law that takes nothing -/
section
open Go.ChangeShapes Go.WideShapes
variable {H : Type} {enc : TypeId × Value → H}
theorem post_empty {f : Func} {s : ChangeSpec} {apart fresh handsOn again : Bool} {W W' : World} {args : Array Value} {v : Value} {ds gs : List (DataW H)}
    (hW : DataW.Whole enc P f.params.toList s.vars apart W args.toList ds gs [])
    (hres : ∀ (b : Nat) (sp : Nat → Bool) (hd : Bool), DataW.TrodAll enc P W' b sp hd f.resultTypes.toList (v.resultList f.resultTypes.size) (s.fn H (ds ++ gs)).results [])
    (hargs : ∀ sp : Nat → Bool, DataW.TrodAll enc P W' 0 sp true f.params.toList args.toList (s.fn H (ds ++ gs)).args [])
    (hvars : ∀ sp : Nat → Bool, DataW.TrodVars enc P W' sp s.vars (s.fn H (ds ++ gs)).vars [])
    (hk : W.keptBut W' (fun _ => False))
    (hok : ∀ (j : Nat) (t : TypeId) (r : Value), f.resultTypes[j]? = some t → (v.resultList f.resultTypes.size)[j]? = some r → Value.okWide P W' .any 0 t r) :
    s.post enc P f apart fresh handsOn again W args v W' := by
  refine ⟨ds, gs, [], [], [], [], hW, hres _ _ _, hargs _, hvars _, World.keptBut_mono (fun p hp => hp.elim) hk, fun _ => ?_⟩
  obtain ⟨_, _, _, _, _, hz, hn⟩ := hW
  refine ⟨hok, _, _, ([] ++ []) ++ [], ⟨[] ++ [], [], trodAll_append (hargs _) (hres _ _ _), hvars _, rfl, ?_, ?_⟩, ?_⟩
  · intro b off hp; simp at hp
  · intro ha; simp
  · intro p hp _; simp at hp
end
end Ev
