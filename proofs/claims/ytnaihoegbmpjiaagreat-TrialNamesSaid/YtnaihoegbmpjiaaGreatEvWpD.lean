/- A part of the rules by which proofs walk over what the evaluator (EvDefs) says, at values that are not known: EvWpD. Conditions: those that each theorem states. -/
import Derived.Test.YtnaihoegbmpjiaaGreatEvLeaf
set_option linter.unusedVariables false
set_option linter.unusedSimpArgs false
namespace Ev
open Go

variable {T : Tabs}

/-! ### regions that draw their order -/
def hide : List (Nat × AV) → List Tmp → List (Nat × AV)
  | [], _ => []
  | p :: L, sl => match memN p.1 sl with
    | true => hide L sl
    | false => p :: hide L sl
theorem memN_mem (n : Nat) (l : List Nat) : memN n l = true ↔ n ∈ l := by rw [memN_eq]; simp
theorem look_hide (sl : List Tmp) (j : Nat) : ∀ (L : List (Nat × AV)) (v : AV), look (hide L sl) j = some v → memN j sl = false ∧ look L j = some v
  | [], v, h => by cases h
  | (i, u) :: L, v, h => by
    unfold hide at h
    split at h
    · rename_i hm
      obtain ⟨h1, h2⟩ := look_hide sl j L v h
      refine ⟨h1, ?_⟩
      unfold look
      split
      · rename_i hb
        have := Nat.eq_of_beq_eq_true hb
        subst this
        rw [h1] at hm; cases hm
      · exact h2
    · rename_i hm
      unfold look at h
      split at h
      · rename_i hb
        have := Nat.eq_of_beq_eq_true hb
        subst this
        exact ⟨hm, by unfold look; rw [hb]; exact h⟩
      · rename_i hb
        obtain ⟨h1, h2⟩ := look_hide sl j L v h
        exact ⟨h1, by unfold look; rw [hb]; exact h2⟩
theorem get_unsetAll (j : Nat) : ∀ (sl : List Tmp) (tm : Tr AV), (unsetAll tm sl).get j = if memN j sl = true then none else tm.get j
  | [], tm => by simp [unsetAll, memN]
  | d :: l, tm => by
    unfold unsetAll
    rw [get_unsetAll j l, Tr.get_unset]
    by_cases h1 : memN j l = true
    · simp [h1, memN]
      split <;> simp
    · by_cases h2 : j = d
      · subst h2; simp [memN]
      · have hb : Nat.beq j d = false := by
          cases hq : Nat.beq j d with
          | false => rfl
          | true => exact absurd (Nat.eq_of_beq_eq_true hq) h2
        simp [h1, h2, memN, hb]
theorem Sees.hide {tm : Tr AV} {L : List (Nat × AV)} (h : Sees tm L) (sl : List Tmp) : Sees (unsetAll tm sl) (hide L sl) := by
  intro j v hv
  obtain ⟨h1, h2⟩ := look_hide sl j L v hv
  rw [get_unsetAll, h1]
  exact h j v h2
theorem newOf_mono {ρ ρ' : Operand → Option AV} (hρ : ∀ x v, ρ x = some v → ρ' x = some v) (o : Oper) (r : Nat) (q : AV × AObj) (h : newOf T ρ o r = some q) : newOf T ρ' o r = some q := by
  unfold newOf at h ⊢
  cases hop : o.op with
  | alloc t => simpa [hop] using h
  | box t x =>
    simp only [hop] at h ⊢
    cases hx : ρ x with
    | none => rw [hx] at h; cases h
    | some v => rw [hx] at h; rw [hρ x v hx]; exact h
  | buildSlice t len parts =>
    simp only [hop] at h ⊢
    cases hx : pairMap ρ parts.toList with
    | none => rw [hx] at h; split at h <;> simp_all
    | some v => rw [hx] at h; rw [pairMap_mono hρ _ v hx]; exact h
  | makeMap t r =>
    simp only [hop] at h ⊢
    cases hx : optOp ρ r with
    | none => rw [hx] at h; split at h <;> simp_all
    | some v => rw [hx] at h; rw [optOp_mono hρ r v hx]; exact h
  | makeSlice t l c =>
    simp only [hop] at h ⊢
    cases hx : ρ l with
    | none => rw [hx] at h; split at h <;> simp_all
    | some v =>
      cases hy : ρ c with
      | none => rw [hy] at h; split at h <;> simp_all
      | some u => rw [hx, hy] at h; rw [hρ l v hx, hρ c u hy]; exact h
  | convert s d x =>
    simp only [hop] at h ⊢
    cases hx : ρ x with
    | none => rw [hx] at h; split at h <;> simp_all
    | some v => rw [hx] at h; rw [hρ x v hx]; exact h
  | _ => simp only [hop] at h; cases h

/-- what is left of a region, gone through in the text's order -/
def DG (T : Tabs) (nt : Nat) (all : List Oper) (ms : List Nat) (N : Nat) (rest : List Oper) (mr : List Nat) (i : Nat) (tm : Tr AV) (h : Heap) (acc : List Ent) (K : Tr AV → Heap → Prop) : Prop :=
  ∃ tmF hF es, (∃ n0, ∀ n, n0 ≤ n → goD T (ev T n) nt all ms N rest mr i tm h = .fin tmF hF es) ∧ okD T (acc.reverse ++ es) 0 = true ∧ K tmF hF
def tb (m j : Nat) : Bool := Nat.beq (Nat.mod (Nat.div m (Nat.pow 2 j)) 2) 1
theorem tb_eq (m j : Nat) : tb m j = Nat.testBit m j := by
  rw [Nat.testBit_eq_decide_div_mod_eq]
  unfold tb
  have e : Nat.mod (Nat.div m (Nat.pow 2 j)) 2 = m / 2 ^ j % 2 := rfl
  rw [e]
  cases h : Nat.beq (m / 2 ^ j % 2) 1 with
  | true => simp [Nat.eq_of_beq_eq_true h]
  | false =>
    have : ¬ m / 2 ^ j % 2 = 1 := fun e => by rw [e] at h; cases h
    simp [this]
/-- readings that are to give the same in another memory -/
def todoPair (m j : Nat) (a b : Ent) : Option (List (Ent × Heap)) := match tb m j with
  | true => some []
  | false => match sameDst a.o b.o with
    | true => none
    | false => match isAct a.kd, isAct b.kd with
      | true, true => none
      | true, false => some (match isRead b.kd && b.want with
        | true => [(b, a.h0)]
        | false => [])
      | false, true => some (match isRead a.kd && a.want with
        | true => [(a, b.h1)]
        | false => [])
      | false, false => some []
def todoPairs (ms : List Nat) (j : Nat) (a : Ent) : List Ent → Nat → Option (List (Ent × Heap))
  | [], _ => some []
  | b :: l, k => match todoPair ((nth ms k).getD 0) j a b, todoPairs ms j a l (k + 1) with
    | some x, some y => some (x ++ y)
    | _, _ => none
def todo (ms : List Nat) : List Ent → Nat → Option (List (Ent × Heap))
  | [], _ => some []
  | a :: l, j => match todoPairs ms j a l (j + 1), todo ms l (j + 1) with
    | some x, some y => some (x ++ y)
    | _, _ => none
/-- the entries bear the masks -/
def MsOk (ms : List Nat) : List Ent → Nat → Prop
  | [], _ => True
  | e :: l, k => e.m = (nth ms k).getD 0 ∧ MsOk ms l (k + 1)
def AllSame (T : Tabs) : List (Ent × Heap) → Prop
  | [] => True
  | p :: l => again T p.1 p.2 = true ∧ AllSame T l
theorem AllSame.append {a b : List (Ent × Heap)} (h : AllSame T (a ++ b)) : AllSame T a ∧ AllSame T b := by
  induction a with
  | nil => exact ⟨trivial, h⟩
  | cons x a ih => exact ⟨⟨h.1, (ih h.2).1⟩, (ih h.2).2⟩
theorem todoPair_ok {m j : Nat} {a b : Ent} {l : List (Ent × Heap)} (hm : b.m = m) (e : todoPair m j a b = some l) (k : AllSame T l) : pairOk T j a b = true := by
  subst hm
  unfold todoPair at e
  rw [tb_eq] at e
  unfold pairOk
  cases hb : Nat.testBit b.m j with
  | true => rfl
  | false =>
    rw [hb] at e
    simp only at e
    cases hs : sameDst a.o b.o with
    | true => rw [hs] at e; cases e
    | false =>
      rw [hs] at e
      simp only at e
      cases ha : isAct a.kd <;> cases hbb : isAct b.kd <;> rw [ha, hbb] at e <;> simp only [Option.some.injEq] at e
      · simp
      · cases hr : isRead a.kd with
        | false => simp
        | true =>
          cases hw : a.want with
          | false => simp [again, hw]
          | true => rw [hr, hw] at e; subst e; have := k.1; simp [this]
      · cases hr : isRead b.kd with
        | false => simp
        | true =>
          cases hw : b.want with
          | false => simp [again, hw]
          | true => rw [hr, hw] at e; subst e; have := k.1; simp [this]
      · cases e
theorem todoPairs_ok {ms : List Nat} {j : Nat} {a : Ent} : ∀ {es : List Ent} {i : Nat} {l : List (Ent × Heap)}, MsOk ms es i → todoPairs ms j a es i = some l → AllSame T l → pairsOk T j a es = true
  | [], _, _, _, _, _ => rfl
  | b :: es, i, l, hm, e, k => by
    unfold todoPairs at e
    split at e
    · rename_i x y hx hy
      cases e
      obtain ⟨k1, k2⟩ := k.append
      simp only [pairsOk, todoPair_ok hm.1 hx k1, todoPairs_ok hm.2 hy k2, Bool.and_self]
    · cases e
theorem todo_ok {ms : List Nat} : ∀ {es : List Ent} {j : Nat} {l : List (Ent × Heap)}, MsOk ms es j → todo ms es j = some l → AllSame T l → okD T es j = true
  | [], _, _, _, _, _ => rfl
  | a :: es, j, l, hm, e, k => by
    unfold todo at e
    split at e
    · rename_i x y hx hy
      cases e
      obtain ⟨k1, k2⟩ := k.append
      simp only [okD, todoPairs_ok hm.2 hx k1, todo_ok hm.2 hy k2, Bool.and_self]
    · cases e
mutual
theorem aveq_refl : ∀ (a : AV), aveq a a = true
  | .bool b => by cases b <;> rfl
  | .int k n => by simp [aveq]
  | .str s => by simp [aveq, bytesEq_eq]
  | .ptr a b => by simp [aveq]
  | .nilptr => rfl
  | .slice a b c d => by simp [aveq]
  | .oslice a b c d => by simp [aveq]
  | .eslice => rfl
  | .nilslice => rfl
  | .map a => by simp [aveq]
  | .nilmap => rfl
  | .func f a b => by simp [aveq, aveqs_refl a, aveqs_refl b]
  | .nilfunc => rfl
  | .iface t v => by simp [aveq, aveq_refl v]
  | .niliface => rfl
  | .agg l => by simp [aveq, aveqs_refl l]
  | .tuple l => by simp [aveq, aveqs_refl l]
  | .raw a b => by simp [aveq]
  | .own a b => by simp [aveq]
theorem aveqs_refl : ∀ (l : List AV), aveqs l l = true
  | [] => rfl
  | a :: l => by simp [aveqs, aveq_refl a, aveqs_refl l]
end
theorem again_of {e : Ent} {h h' : Heap} {L : List (Nat × AV)} (hs : Sees e.tm L) (ho : opA T (envL L) e.o h = .val e.v h') : again T e h = true := by
  unfold again
  rw [op_of hs ho rfl]
  simp [aveq_refl]

section
variable {nt N i d : Nat} {all rest : List Oper} {ms mr : List Nat} {o : Oper} {tm : Tr AV} {h h' : Heap} {acc : List Ent} {K : Tr AV → Heap → Prop} {L : List (Nat × AV)} {v : AV}
def quietKd : Kd → Bool
  | .pure => true
  | .read => true
  | _ => false
/-- the slots that the operation is told of -/
def seen (L : List (Nat × AV)) (mr : List Nat) (i : Nat) (all : List Oper) (ms : List Nat) : List (Nat × AV) := hide L (slotsOut ((nth mr 0).getD 0) i all ms 0)
theorem dg_nil {l : List (Ent × Heap)} (hm : MsOk ms acc.reverse 0) (hl : todo ms acc.reverse 0 = some l) (hk : AllSame T l) (k : K tm h) : DG T nt all ms N [] mr i tm h acc K :=
  ⟨tm, h, [], ⟨0, fun n _ => rfl⟩, by simpa using todo_ok hm hl hk, k⟩
theorem dg_cons {e : Ent} {tm' : Tr AV} {h2 : Heap} (hg : ∃ n0, ∀ n, n0 ≤ n → goD T (ev T n) nt all ms N (o :: rest) mr i tm h = consE e (goD T (ev T n) nt all ms N rest (mr.drop 1) (i + 1) tm' h2))
    (c : DG T nt all ms N rest (mr.drop 1) (i + 1) tm' h2 (e :: acc) K) : DG T nt all ms N (o :: rest) mr i tm h acc K := by
  obtain ⟨tmF, hF, es, ⟨n0, h0⟩, ok, k⟩ := c
  obtain ⟨n1, h1⟩ := hg
  refine ⟨tmF, hF, e :: es, ⟨n0 + n1, fun n hn => ?_⟩, by simpa using ok, k⟩
  rw [h1 n (by omega), h0 n (by omega)]
  rfl
theorem dg_no (hs : Sees tm L) (hw : wantedL all (seen L mr i all ms) o = some false) (hd : o.dst = some d) (hn : Nat.blt d nt = true)
    (c : ∀ tmr tm', Sees tmr (seen L mr i all ms) → Sees tm' ((d, undefA) :: L) → DG T nt all ms N rest (mr.drop 1) (i + 1) tm' h (⟨o, (nth mr 0).getD 0, .pure, false, tmr, h, undefA, h⟩ :: acc) K) : DG T nt all ms N (o :: rest) mr i tm h acc K := by
  have hs' : Sees (unsetAll tm (slotsOut ((nth mr 0).getD 0) i all ms 0)) (seen L mr i all ms) := hs.hide _
  refine dg_cons ⟨0, fun n _ => ?_⟩ (c _ (tm.set d undefA) hs' (hs.set d undefA))
  simp only [goD, wanted_of hs' hw, hd, if_pos (blt_lt hn)]
theorem dg_val (hs : Sees tm L) (hw : wantedL all (seen L mr i all ms) o = some true) (hd : o.dst = some d) (hn : Nat.blt d nt = true) (hk : quietKd (kindOf T o.op) = true) (ho : opA T (envL (seen L mr i all ms)) o h = .val v h')
    (c : ∀ tmr tm', Sees tmr (seen L mr i all ms) → Sees tm' ((d, v) :: L) → DG T nt all ms N rest (mr.drop 1) (i + 1) tm' h (⟨o, (nth mr 0).getD 0, .read, true, tmr, h, v, h⟩ :: acc) K) : DG T nt all ms N (o :: rest) mr i tm h acc K := by
  have hs' : Sees (unsetAll tm (slotsOut ((nth mr 0).getD 0) i all ms 0)) (seen L mr i all ms) := hs.hide _
  refine dg_cons ⟨0, fun n _ => ?_⟩ (c _ (tm.set d v) hs' (hs.set d v))
  cases hq : kindOf T o.op <;> rw [hq] at hk <;> first | (cases hk; done) | simp only [goD, wanted_of hs' hw, hq, op_of hs' ho rfl, hd, if_pos (blt_lt hn)]
theorem dg_alloc {a : AObj} (hs : Sees tm L) (hw : wantedL all (seen L mr i all ms) o = some true) (hd : o.dst = some d) (hn : Nat.blt d nt = true) (hk : kindOf T o.op = .alloc) (ho : newOf T (envL (seen L mr i all ms)) o (N + i) = some (v, a))
    (c : ∀ tmr tm', Sees tmr (seen L mr i all ms) → Sees tm' ((d, v) :: L) → DG T nt all ms N rest (mr.drop 1) (i + 1) tm' (h.set (N + i) a) (⟨o, (nth mr 0).getD 0, .alloc, true, tmr, h, v, h.set (N + i) a⟩ :: acc) K) : DG T nt all ms N (o :: rest) mr i tm h acc K := by
  have hs' : Sees (unsetAll tm (slotsOut ((nth mr 0).getD 0) i all ms 0)) (seen L mr i all ms) := hs.hide _
  refine dg_cons ⟨0, fun n _ => ?_⟩ (c _ (tm.set d v) hs' (hs.set d v))
  simp only [goD, wanted_of hs' hw, hk, newOf_mono (fun x v hx => hs'.env hx) o (N + i) _ ho, hd, if_pos (blt_lt hn)]
theorem dg_act (hs : Sees tm L) (hw : wantedL all (seen L mr i all ms) o = some true) (hd : o.dst = some d) (hn : Nat.blt d nt = true) (hk : kindOf T o.op = .act) (ho : opA T (envL (seen L mr i all ms)) o h = .val v h')
    (c : ∀ tmr tm', Sees tmr (seen L mr i all ms) → Sees tm' ((d, v) :: L) → DG T nt all ms N rest (mr.drop 1) (i + 1) tm' h' (⟨o, (nth mr 0).getD 0, .act, true, tmr, h, v, h'⟩ :: acc) K) : DG T nt all ms N (o :: rest) mr i tm h acc K := by
  have hs' : Sees (unsetAll tm (slotsOut ((nth mr 0).getD 0) i all ms 0)) (seen L mr i all ms) := hs.hide _
  refine dg_cons ⟨0, fun n _ => ?_⟩ (c _ (tm.set d v) hs' (hs.set d v))
  simp only [goD, wanted_of hs' hw, hk, actA, op_of hs' ho rfl, hd, if_pos (blt_lt hn)]
theorem dg_skip (hs : Sees tm L) (hw : wantedL all (seen L mr i all ms) o = some true) (hd : o.dst = none) (hk : kindOf T o.op = .act) (ho : opA T (envL (seen L mr i all ms)) o h = .skip h')
    (c : ∀ tmr, Sees tmr (seen L mr i all ms) → DG T nt all ms N rest (mr.drop 1) (i + 1) tm h' (⟨o, (nth mr 0).getD 0, .act, true, tmr, h, undefA, h'⟩ :: acc) K) : DG T nt all ms N (o :: rest) mr i tm h acc K := by
  have hs' : Sees (unsetAll tm (slotsOut ((nth mr 0).getD 0) i all ms 0)) (seen L mr i all ms) := hs.hide _
  refine dg_cons ⟨0, fun n _ => ?_⟩ (c _ hs')
  simp only [goD, wanted_of hs' hw, hk, actA, op_of hs' ho rfl, hd]
theorem dg_call {f : FuncId} {args : List AV} {P : AV → Heap → Prop} (hT : T.alts = false) (hs : Sees tm L) (hw : wantedL all (seen L mr i all ms) o = some true) (hd : o.dst = some d) (hn : Nat.blt d nt = true) (hk : kindOf T o.op = .act)
    (ho : opA T (envL (seen L mr i all ms)) o h = .enter f args h') (g : Gives T f args h' P)
    (c : ∀ v h2, P v h2 → ∀ tmr tm', Sees tmr (seen L mr i all ms) → Sees tm' ((d, v) :: L) → DG T nt all ms N rest (mr.drop 1) (i + 1) tm' h2 (⟨o, (nth mr 0).getD 0, .act, true, tmr, h, v, h2⟩ :: acc) K) : DG T nt all ms N (o :: rest) mr i tm h acc K := by
  have hs' : Sees (unsetAll tm (slotsOut ((nth mr 0).getD 0) i all ms 0)) (seen L mr i all ms) := hs.hide _
  obtain ⟨v, h2, ⟨n0, hn0⟩, p⟩ := g.one hT
  refine dg_cons ⟨n0, fun n hn' => ?_⟩ (c v h2 p _ (tm.set d v) hs' (hs.set d v))
  simp only [goD, wanted_of hs' hw, hk, actA, op_of hs' ho rfl, hn0 n hn', no1, hd, if_pos (blt_lt hn)]
end
theorem allNone_of {h : Heap} (hk : h.ok) : ∀ n, allNone h h.next n = true
  | 0 => rfl
  | n + 1 => by
    unfold allNone
    rw [hk (h.next + n) (by omega), allNone_of hk n]
    rfl
theorem go_drawn {cx : Cx} {k : List K} {Q : Res → Prop} {i : Nat} {ops : Array Oper} {tm : Tr AV} {df : List ADef} {pan : Option (AV × Bool)} {h : Heap} (he : edgesAll ops.toList 0 = true) (hk : h.ok)
    (g : DG T cx.nt ops.toList (masks ops.toList) h.next ops.toList (masks ops.toList) 0 tm { h with next := h.next + ops.toList.length } [] (fun tm' h' => Goes T cx k ⟨tm', df, pan, h'⟩ Q)) :
    Goes T cx (.code (.region i ops true) :: k) ⟨tm, df, pan, h⟩ Q := by
  obtain ⟨tmF, hF, es, ⟨n0, h0⟩, ok, q⟩ := g
  refine ⟨.fin .normal ⟨tmF, df, pan, hF⟩, .of_step ⟨n0, fun n hn => ?_⟩, q⟩
  simp only [step, drawn, he, allNone_of hk, Bool.and_self, h0 n hn]
  have ok' : okD T es 0 = true := by simpa using ok
  simp only [ok']
end Ev
