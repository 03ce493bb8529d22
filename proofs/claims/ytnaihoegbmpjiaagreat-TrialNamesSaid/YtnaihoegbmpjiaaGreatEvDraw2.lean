/- A part of the proof that what the evaluator (EvDefs) says of a call is what the machine does: EvDraw2. Conditions: those that each theorem states. -/
import Derived.Test.YtnaihoegbmpjiaaGreatEvDraw1
set_option linter.unusedVariables false
set_option linter.unusedSimpArgs false
namespace Ev
open Go Go.RowKit

variable {P : Program} {T : Tabs} {base : Nat} {w0 : World}

/-! ### the text's order, told by number -/
def EntOK (T : Tabs) (rec : Task → Res) (all : List Oper) (ms : List Nat) (N i : Nat) (o : Oper) (m : Nat) (tm : Tr AV) (h : Heap) (x : Ent) : Prop :=
  x.o = o ∧ x.m = m ∧ x.tm = unsetAll tm (slotsOut m i all ms 0) ∧ x.h0 = h ∧ wantedA all x.tm o = some x.want ∧
  ((x.want = false ∧ x.kd = .pure ∧ x.v = undefA ∧ x.h1 = h) ∨
   (x.want = true ∧ x.kd = .read ∧ quiet (kindOf T o.op) = true ∧ (∃ h', opA T (env x.tm) o h = .val x.v h') ∧ x.h1 = h) ∨
   (x.want = true ∧ x.kd = .alloc ∧ ∃ a, newOf T (env x.tm) o (N + i) = some (x.v, a) ∧ x.h1 = h.set (N + i) a) ∨
   (x.want = true ∧ x.kd = .act ∧ actA T rec x.tm o h = .ret x.v x.h1))
def nextTm (o : Oper) (tm : Tr AV) (v : AV) : Tr AV := match o.dst with
  | none => tm
  | some d => tm.set d v
inductive Chain (T : Tabs) (rec : Task → Res) (nt : Nat) (all : List Oper) (ms : List Nat) (N : Nat) : List Oper → List Nat → Nat → Tr AV → Heap → Tr AV → Heap → List Ent → Prop
  | nil (mr : List Nat) (i : Nat) (tm : Tr AV) (h : Heap) : Chain T rec nt all ms N [] mr i tm h tm h []
  | cons (o : Oper) (rest : List Oper) (mr : List Nat) (i : Nat) (tm : Tr AV) (h : Heap) (x : Ent) (tmF : Tr AV) (hF : Heap) (es : List Ent)
      (hx : EntOK T rec all ms N i o ((mr[0]?).getD 0) tm h x) (hd : ∀ d, o.dst = some d → d < nt)
      (hc : Chain T rec nt all ms N rest (mr.drop 1) (i + 1) (nextTm o tm x.v) x.h1 tmF hF es) : Chain T rec nt all ms N (o :: rest) mr i tm h tmF hF (x :: es)

theorem consE_fin {x : Ent} {r : DRes} {tmF : Tr AV} {hF : Heap} {es : List Ent} (h : consE x r = .fin tmF hF es) : ∃ es', es = x :: es' ∧ r = .fin tmF hF es' := by
  cases r with
  | fin tm h' es' => simp [consE] at h; obtain ⟨rfl, rfl, rfl⟩ := h; exact ⟨es', rfl, rfl⟩
  | pan => simp [consE] at h
  | no => simp [consE] at h

theorem goD_chain {rec : Task → Res} {nt : Nat} {all : List Oper} {ms : List Nat} {N : Nat} : ∀ (l : List Oper) (mr : List Nat) (i : Nat) (tm : Tr AV) (h : Heap) (tmF : Tr AV) (hF : Heap) (es : List Ent),
    goD T rec nt all ms N l mr i tm h = .fin tmF hF es → Chain T rec nt all ms N l mr i tm h tmF hF es
  | [], mr, i, tm, h, tmF, hF, es, hg => by
    simp [goD] at hg
    obtain ⟨rfl, rfl, rfl⟩ := hg
    exact .nil ..
  | o :: rest, mr, i, tm, h, tmF, hF, es, hg => by
    unfold goD at hg
    simp only [nth_eq] at hg
    -- one entry and the rest
    have fin : ∀ (kd : Kd) (want : Bool) (v : AV) (h1 : Heap),
        EntOK T rec all ms N i o ((mr[0]?).getD 0) tm h ⟨o, (mr[0]?).getD 0, kd, want, unsetAll tm (slotsOut ((mr[0]?).getD 0) i all ms 0), h, v, h1⟩ →
        (match o.dst with
          | none => consE ⟨o, (mr[0]?).getD 0, kd, want, unsetAll tm (slotsOut ((mr[0]?).getD 0) i all ms 0), h, v, h1⟩ (goD T rec nt all ms N rest (mr.drop 1) (i + 1) tm h1)
          | some d => if d < nt then consE ⟨o, (mr[0]?).getD 0, kd, want, unsetAll tm (slotsOut ((mr[0]?).getD 0) i all ms 0), h, v, h1⟩ (goD T rec nt all ms N rest (mr.drop 1) (i + 1) (tm.set d v) h1) else .no "put" []) = .fin tmF hF es →
        Chain T rec nt all ms N (o :: rest) mr i tm h tmF hF es := by
      intro kd want v h1 hx hh
      split at hh
      · rename_i hd
        obtain ⟨es', rfl, hr⟩ := consE_fin hh
        exact .cons _ _ _ _ _ _ _ _ _ _ hx (by rw [hd]; simp) (by unfold nextTm; rw [hd]; exact goD_chain rest _ _ _ _ _ _ _ hr)
      · rename_i d hd
        split at hh
        · rename_i hlt
          obtain ⟨es', rfl, hr⟩ := consE_fin hh
          exact .cons _ _ _ _ _ _ _ _ _ _ hx (by rw [hd]; intro d' e; cases e; exact hlt) (by unfold nextTm; rw [hd]; exact goD_chain rest _ _ _ _ _ _ _ hr)
        · simp at hh
    split at hg
    · simp at hg
    · rename_i hw
      exact fin _ _ _ _ ⟨rfl, rfl, rfl, rfl, hw, .inl ⟨rfl, rfl, rfl, rfl⟩⟩ hg
    · rename_i hw
      split at hg
      · simp at hg
      · split at hg
        · rename_i v a hn
          exact fin _ _ _ _ ⟨rfl, rfl, rfl, rfl, hw, .inr (.inr (.inl ⟨rfl, rfl, a, hn, rfl⟩))⟩ hg
        · simp at hg
      · split at hg
        · rename_i v h' ha
          exact fin _ _ _ _ ⟨rfl, rfl, rfl, rfl, hw, .inr (.inr (.inr ⟨rfl, rfl, ha⟩))⟩ hg
        · split at hg <;> simp at hg
        · simp at hg
        · simp at hg
      · rename_i hk1 hk2 hk3
        split at hg
        · rename_i v h' ha
          have hq : quiet (kindOf T o.op) = true := by
            generalize kindOf T o.op = kk at hk1 hk2 hk3
            cases kk with
            | pure => rfl
            | read => rfl
            | alloc => exact absurd rfl hk2
            | act => exact absurd rfl hk3
            | bad => exact absurd rfl hk1
          exact fin _ _ _ _ ⟨rfl, rfl, rfl, rfl, hw, .inr (.inl ⟨rfl, rfl, hq, ⟨h', ha⟩, rfl⟩)⟩ hg
        · simp at hg
        · simp at hg

theorem consE_pan {x : Ent} {r : DRes} {v : AV} {h' : Heap} {es : List Ent} (h : consE x r = .pan v h' es) : ∃ es', es = x :: es' ∧ r = .pan v h' es' := by
  cases r with
  | fin tm h' es' => simp [consE] at h
  | pan v1 h1 es' => simp [consE] at h; obtain ⟨rfl, rfl, rfl⟩ := h; exact ⟨es', rfl, rfl⟩
  | no => simp [consE] at h
/-- an operation of the region panics -/
def PanAt (T : Tabs) (rec : Task → Res) (nt : Nat) (all : List Oper) (ms : List Nat) (N : Nat) (l : List Oper) (mr : List Nat) (i : Nat) (tm : Tr AV) (h : Heap) (v : AV) (h' : Heap) (es : List Ent) : Prop :=
  ∃ l1 o l2 esP x tmP hP, l = l1 ++ o :: l2 ∧ es = esP ++ [x] ∧ Chain T rec nt all ms N l1 mr i tm h tmP hP esP ∧ x.kd = .act ∧ x.m = (mr[l1.length]?).getD 0 ∧
    wantedA all (unsetAll tmP (slotsOut ((mr[l1.length]?).getD 0) (i + l1.length) all ms 0)) o = some true ∧
    actA T rec (unsetAll tmP (slotsOut ((mr[l1.length]?).getD 0) (i + l1.length) all ms 0)) o hP = .thrown v h' ∧ ∀ k m', l1.length < k → mr[k]? = some m' → Nat.testBit m' (i + l1.length) = true
theorem goD_pan {rec : Task → Res} {nt : Nat} {all : List Oper} {ms : List Nat} {N : Nat} : ∀ (l : List Oper) (mr : List Nat) (i : Nat) (tm : Tr AV) (h : Heap) (v : AV) (h' : Heap) (es : List Ent),
    goD T rec nt all ms N l mr i tm h = .pan v h' es → PanAt T rec nt all ms N l mr i tm h v h' es
  | [], mr, i, tm, h, v, h', es, hg => by simp [goD] at hg
  | o :: rest, mr, i, tm, h, v, h', es, hg => by
    unfold goD at hg
    simp only [nth_eq] at hg
    have one : ∀ (x : Ent) (es' : List Ent), EntOK T rec all ms N i o ((mr[0]?).getD 0) tm h x → (∀ d, o.dst = some d → d < nt) → PanAt T rec nt all ms N rest (mr.drop 1) (i + 1) (nextTm o tm x.v) x.h1 v h' es' →
        PanAt T rec nt all ms N (o :: rest) mr i tm h v h' (x :: es') := by
      rintro x es' hx hd ⟨l1, o', l2, esP, y, tmP, hP, rfl, rfl, p1, p2, p3, p4, p5, p6⟩
      have em : ∀ k, ((mr.drop 1)[k]?) = mr[k + 1]? := fun k => by rw [List.getElem?_drop, Nat.add_comm 1 k]
      have ei : i + 1 + l1.length = i + (l1.length + 1) := by omega
      rw [em, ei] at p4 p5
      rw [em] at p3
      refine ⟨o :: l1, o', l2, x :: esP, y, tmP, hP, rfl, rfl, .cons _ _ _ _ _ _ _ _ _ _ hx hd p1, p2, p3, p4, p5, ?_⟩
      intro k m' hk hm
      cases k with
      | zero => omega
      | succ k =>
        have := p6 k m' (by simpa using hk) (by rw [em]; exact hm)
        rw [ei] at this
        exact this
    have fin : ∀ (kd : Kd) (want : Bool) (v1 : AV) (h1 : Heap),
        EntOK T rec all ms N i o ((mr[0]?).getD 0) tm h ⟨o, (mr[0]?).getD 0, kd, want, unsetAll tm (slotsOut ((mr[0]?).getD 0) i all ms 0), h, v1, h1⟩ →
        (match o.dst with
          | none => consE ⟨o, (mr[0]?).getD 0, kd, want, unsetAll tm (slotsOut ((mr[0]?).getD 0) i all ms 0), h, v1, h1⟩ (goD T rec nt all ms N rest (mr.drop 1) (i + 1) tm h1)
          | some d => if d < nt then consE ⟨o, (mr[0]?).getD 0, kd, want, unsetAll tm (slotsOut ((mr[0]?).getD 0) i all ms 0), h, v1, h1⟩ (goD T rec nt all ms N rest (mr.drop 1) (i + 1) (tm.set d v1) h1) else .no "put" []) = .pan v h' es →
        PanAt T rec nt all ms N (o :: rest) mr i tm h v h' es := by
      intro kd want v1 h1 hx hh
      split at hh
      · rename_i hd
        obtain ⟨es', rfl, hr⟩ := consE_pan hh
        exact one _ _ hx (by rw [hd]; simp) (by unfold nextTm; rw [hd]; exact goD_pan rest _ _ _ _ _ _ _ hr)
      · rename_i d hd
        split at hh
        · rename_i hlt
          obtain ⟨es', rfl, hr⟩ := consE_pan hh
          exact one _ _ hx (by rw [hd]; intro d' e; cases e; exact hlt) (by unfold nextTm; rw [hd]; exact goD_pan rest _ _ _ _ _ _ _ hr)
        · simp at hh
    split at hg
    · simp at hg
    · rename_i hw
      exact fin _ _ _ _ ⟨rfl, rfl, rfl, rfl, hw, .inl ⟨rfl, rfl, rfl, rfl⟩⟩ hg
    · rename_i hw
      split at hg
      · simp at hg
      · split at hg
        · rename_i v a hn
          exact fin _ _ _ _ ⟨rfl, rfl, rfl, rfl, hw, .inr (.inr (.inl ⟨rfl, rfl, a, hn, rfl⟩))⟩ hg
        · simp at hg
      · split at hg
        · rename_i v h' ha
          exact fin _ _ _ _ ⟨rfl, rfl, rfl, rfl, hw, .inr (.inr (.inr ⟨rfl, rfl, ha⟩))⟩ hg
        · rename_i v2 h2 ha
          split at hg <;> simp at hg
          rename_i hall
          obtain ⟨rfl, rfl, rfl⟩ := hg
          refine ⟨[], o, rest, [], _, tm, h, rfl, rfl, .nil _ _ _ _, rfl, rfl, by simpa using hw, by simpa using ha, ?_⟩
          intro k m' hk hm
          have hmem : m' ∈ mr.drop 1 := by
            apply List.mem_of_getElem? (i := k - 1)
            rw [List.getElem?_drop, show 1 + (k - 1) = k by simp at hk; omega]
            exact hm
          have := List.all_eq_true.1 hall m' hmem
          simpa using this
        · simp at hg
        · simp at hg
      · rename_i hk1 hk2 hk3
        split at hg
        · rename_i v h' ha
          have hq : quiet (kindOf T o.op) = true := by
            generalize kindOf T o.op = kk at hk1 hk2 hk3
            cases kk with
            | pure => rfl
            | read => rfl
            | alloc => exact absurd rfl hk2
            | act => exact absurd rfl hk3
            | bad => exact absurd rfl hk1
          exact fin _ _ _ _ ⟨rfl, rfl, rfl, rfl, hw, .inr (.inl ⟨rfl, rfl, hq, ⟨h', ha⟩, rfl⟩)⟩ hg
        · simp at hg
        · simp at hg

theorem Chain.txt {rec : Task → Res} {nt : Nat} {all : List Oper} {ms : List Nat} {N : Nat} {l : List Oper} {mr : List Nat} {i : Nat} {tm : Tr AV} {h : Heap} {tmF : Tr AV} {hF : Heap} {es : List Ent}
    (hc : Chain T rec nt all ms N l mr i tm h tmF hF es) : ∃ (e : Nat → Ent) (tmA : Nat → Tr AV) (hA : Nat → Heap), tmA i = tm ∧ hA i = h ∧ tmA (i + l.length) = tmF ∧ hA (i + l.length) = hF ∧ es.length = l.length ∧
      (∀ k, k < l.length → es[k]? = some (e (i + k))) ∧
      ∀ k o, l[k]? = some o → EntOK T rec all ms N (i + k) o ((mr[k]?).getD 0) (tmA (i + k)) (hA (i + k)) (e (i + k)) ∧ (e (i + k)).h1 = hA (i + k + 1) ∧ tmA (i + k + 1) = nextTm o (tmA (i + k)) (e (i + k)).v ∧ (∀ d, o.dst = some d → d < nt) := by
  induction hc with
  | nil mr i tm h =>
    exact ⟨fun _ => ⟨default, 0, .pure, true, .nil, h, .nilmap, h⟩, fun _ => tm, fun _ => h, rfl, rfl, rfl, rfl, rfl, by simp, by simp⟩
  | cons o rest mr i tm h x tmF hF es hx hd hc ih =>
    obtain ⟨e, tmA, hA, a1, a2, a3, a4, a5, a6, a7⟩ := ih
    refine ⟨fun j => if j = i then x else e j, fun j => if j = i then tm else tmA j, fun j => if j = i then h else hA j, by simp, by simp, ?_, ?_, ?_, ?_, ?_⟩
    · simp only [List.length_cons]
      rw [if_neg (by omega), ← a3]; congr 1; omega
    · simp only [List.length_cons]
      rw [if_neg (by omega), ← a4]; congr 1; omega
    · simp [a5]
    · intro k hk
      cases k with
      | zero => simp
      | succ k =>
        have := a6 k (by simpa using hk)
        simp only [List.getElem?_cons_succ]
        rw [this, if_neg (by omega)]
        congr 2; omega
    · intro k o' ho
      cases k with
      | zero =>
        simp at ho; subst ho
        simp only [Nat.add_zero, if_true]
        rw [if_neg (by omega), if_neg (by omega), a1, a2]
        exact ⟨hx, rfl, rfl, hd⟩
      | succ k =>
        have hthis := a7 k o' (by simpa using ho)
        have e1 : i + (k + 1) = i + 1 + k := by omega
        rw [e1]
        simp only []
        rw [if_neg (by omega), if_neg (by omega), if_neg (by omega), if_neg (by omega), if_neg (by omega)]
        have hm : ((mr.drop 1)[k]?).getD 0 = (mr[k + 1]?).getD 0 := by
          rw [List.getElem?_drop, Nat.add_comm 1 k]
        rw [hm] at hthis
        exact hthis

structure Txt (T : Tabs) (rec : Task → Res) (nt : Nat) (ops : Array Oper) (n N : Nat) (e : Nat → Ent) (tmA : Nat → Tr AV) (hA : Nat → Heap) : Prop where
  hn : n ≤ ops.size
  ent : ∀ (i : Nat) (o : Oper), i < n → ops[i]? = some o → EntOK T rec ops.toList (masks ops.toList) N i o (mkB ops i) (tmA i) (hA i) (e i)
  h1 : ∀ i, i < n → (e i).h1 = hA (i + 1)
  tm1 : ∀ (i : Nat) (o : Oper), i < n → ops[i]? = some o → tmA (i + 1) = nextTm o (tmA i) (e i).v
  dlt : ∀ (i : Nat) (o : Oper) (d : Nat), i < n → ops[i]? = some o → o.dst = some d → d < nt
  edg : edgesAll ops.toList 0 = true
  pair : ∀ j k, j < k → k < n → pairOk T j (e j) (e k) = true

theorem pairsOk_get {j : Nat} {a : Ent} : ∀ {l : List Ent}, pairsOk T j a l = true → ∀ b ∈ l, pairOk T j a b = true
  | [], _, b, hb => by simp at hb
  | x :: l, h, b, hb => by
    simp only [pairsOk, Bool.and_eq_true] at h
    rcases List.mem_cons.1 hb with rfl | hb
    · exact h.1
    · exact pairsOk_get h.2 b hb
theorem okD_get : ∀ {l : List Ent} {j0 : Nat}, okD T l j0 = true → ∀ {j k : Nat} {a b : Ent}, j < k → l[j]? = some a → l[k]? = some b → pairOk T (j0 + j) a b = true
  | [], _, _, j, k, a, b, _, ha, _ => by simp at ha
  | x :: l, j0, h, j, k, a, b, hjk, ha, hb => by
    simp only [okD, Bool.and_eq_true] at h
    cases k with
    | zero => omega
    | succ k =>
      simp only [List.getElem?_cons_succ] at hb
      cases j with
      | zero =>
        simp at ha; subst ha
        exact pairsOk_get h.1 b (List.mem_of_getElem? hb)
      | succ j =>
        have := okD_get h.2 (j := j) (k := k) (by omega) (by simpa using ha) hb
        rw [show j0 + (j + 1) = j0 + 1 + j by omega]; exact this

theorem txt_of {rec : Task → Res} {nt : Nat} {ops : Array Oper} {N : Nat} {tm tmF : Tr AV} {h hF : Heap} {es : List Ent} (hE : edgesAll ops.toList 0 = true)
    (hg : goD T rec nt ops.toList (masks ops.toList) N ops.toList (masks ops.toList) 0 tm h = .fin tmF hF es) (ho : okD T es 0 = true) :
    ∃ e tmA hA, Txt T rec nt ops ops.size N e tmA hA ∧ tmA 0 = tm ∧ hA 0 = h ∧ tmA ops.size = tmF ∧ hA ops.size = hF := by
  obtain ⟨e, tmA, hA, a1, a2, a3, a4, a5, a6, a7⟩ := (goD_chain _ _ _ _ _ _ _ _ hg).txt
  simp only [Nat.zero_add, Array.length_toList] at a1 a2 a3 a4 a5 a6 a7
  refine ⟨e, tmA, hA, ⟨Nat.le_refl _, ?_, ?_, ?_, ?_, hE, ?_⟩, a1, a2, a3, a4⟩
  · intro i o _ hi
    exact (a7 i o (by simpa using hi)).1
  · intro i hi
    exact (a7 i ops[i] (by simp [hi])).2.1
  · intro i o _ hi
    exact (a7 i o (by simpa using hi)).2.2.1
  · intro i o d _ hi hd
    exact (a7 i o (by simpa using hi)).2.2.2 d hd
  · intro j k hjk hk
    have := okD_get ho hjk (a6 j (by omega)) (a6 k hk)
    simpa using this

theorem txt_of_pan {rec : Task → Res} {nt : Nat} {ops : Array Oper} {N : Nat} {tm : Tr AV} {h : Heap} {v : AV} {h' : Heap} {es : List Ent} (hE : edgesAll ops.toList 0 = true)
    (hg : goD T rec nt ops.toList (masks ops.toList) N ops.toList (masks ops.toList) 0 tm h = .pan v h' es) (ho : okD T es 0 = true) :
    ∃ p o e tmA hA, p < ops.size ∧ ops[p]? = some o ∧ Txt T rec nt ops p N e tmA hA ∧ tmA 0 = tm ∧ hA 0 = h ∧ (∀ j, j < p → (e j).kd = .act → Nat.testBit (mkB ops p) j = true) ∧
      wantedA ops.toList (unsetAll (tmA p) (slotsOut (mkB ops p) p ops.toList (masks ops.toList) 0)) o = some true ∧
      actA T rec (unsetAll (tmA p) (slotsOut (mkB ops p) p ops.toList (masks ops.toList) 0)) o (hA p) = .thrown v h' ∧ ∀ k, p < k → k < ops.size → Nat.testBit (mkB ops k) p = true := by
  obtain ⟨l1, o, l2, esP, x, tmP, hP, hl, rfl, hc, x1, x2, x3, x4, x5⟩ := goD_pan _ _ _ _ _ _ _ _ hg
  obtain ⟨e, tmA, hA, a1, a2, a3, a4, a5, a6, a7⟩ := hc.txt
  simp only [Nat.zero_add] at a1 a2 a3 a4 a5 a6 a7 x3 x4 x5
  have hsz : ops.size = l1.length + (l2.length + 1) := by
    have := congrArg List.length hl
    simpa using this
  have hp : l1.length < ops.size := by omega
  have hat : ∀ i, i < l1.length → ops[i]? = l1[i]? := fun i hi => by
    rw [← Array.getElem?_toList, hl, List.getElem?_append_left hi]
  have hop : ops[l1.length]? = some o := by
    rw [← Array.getElem?_toList, hl, List.getElem?_append_right (Nat.le_refl _)]
    simp
  refine ⟨l1.length, o, e, tmA, hA, hp, hop, ⟨by omega, ?_, ?_, ?_, ?_, hE, ?_⟩, a1, a2, ?_, ?_, ?_, ?_⟩
  · intro i o' hi hio
    exact (a7 i o' (by rw [← hat i hi]; exact hio)).1
  · intro i hi
    exact (a7 i l1[i] (by simp [hi])).2.1
  · intro i o' hi hio
    exact (a7 i o' (by rw [← hat i hi]; exact hio)).2.2.1
  · intro i o' d hi hio hd
    exact (a7 i o' (by rw [← hat i hi]; exact hio)).2.2.2 d hd
  · intro j k hjk hk
    have := okD_get ho hjk (a := e j) (b := e k) (by rw [List.getElem?_append_left (by omega)]; exact a6 j (by omega)) (by rw [List.getElem?_append_left (by omega)]; exact a6 k hk)
    simpa using this
  · intro j hj hk
    have := okD_get ho hj (a := e j) (b := x) (by rw [List.getElem?_append_left (by omega)]; exact a6 j hj) (by rw [List.getElem?_append_right (by omega), a5]; simp)
    unfold pairOk at this
    rw [x2, Bool.or_eq_true] at this
    rcases this with h1 | h1
    · simpa [mkB] using h1
    · rw [hk, x1] at h1
      simp [isAct] at h1
  · rw [a3]; exact x3
  · rw [a3, a4]; exact x4
  · intro k h1 h2
    have hm : (masks ops.toList)[k]? = some (mkB ops k) := by
      unfold mkB
      have : k < (masks ops.toList).length := by rw [masks_length]; simpa using h2
      rw [List.getElem?_eq_getElem this]; rfl
    exact x5 k _ h1 hm

def dstO (ops : Array Oper) (i : Nat) : Option Tmp := (ops[i]?).bind (·.dst)
section
variable {rec : Task → Res} {nt : Nat} {ops : Array Oper} {n N : Nat} {e : Nat → Ent} {tmA : Nat → Tr AV} {hA : Nat → Heap} (X : Txt T rec nt ops n N e tmA hA)
include X
theorem Txt.tm_get : ∀ (i : Nat), i ≤ n → ∀ t v, (tmA i).get t = some v →
    (∃ j, j < i ∧ dstO ops j = some t ∧ v = (e j).v ∧ ∀ j', j < j' → j' < i → dstO ops j' ≠ some t) ∨ ((∀ j, j < i → dstO ops j ≠ some t) ∧ (tmA 0).get t = some v)
  | 0, _, t, v, h => .inr ⟨by intro j hj; omega, h⟩
  | i + 1, hi, t, v, h => by
    have hio : i < ops.size := by have := X.hn; omega
    have ho : ops[i]? = some ops[i] := by simp [hio]
    rw [X.tm1 i _ (by omega) ho] at h
    have old : dstO ops i ≠ some t → (tmA i).get t = some v → (∃ j, j < i + 1 ∧ dstO ops j = some t ∧ v = (e j).v ∧ ∀ j', j < j' → j' < i + 1 → dstO ops j' ≠ some t) ∨ ((∀ j, j < i + 1 → dstO ops j ≠ some t) ∧ (tmA 0).get t = some v) := fun hne h => by
      rcases Txt.tm_get i (by omega) t v h with ⟨j, h1, h2, h3, h4⟩ | ⟨h1, h2⟩
      · exact Or.inl ⟨j, by omega, h2, h3, fun j' hj hj' => by
          by_cases e : j' = i
          · subst e; exact hne
          · exact h4 j' hj (by omega)⟩
      · exact Or.inr ⟨fun j hj => by
          by_cases e : j = i
          · subst e; exact hne
          · exact h1 j (by omega), h2⟩
    unfold nextTm at h
    split at h
    · rename_i hd
      exact old (by unfold dstO; rw [ho]; simp [hd]) h
    · rename_i d hd
      rw [Tr.get_set] at h
      have hdo : dstO ops i = some d := by unfold dstO; rw [ho]; simp [hd]
      by_cases ht : t = d
      · subst ht
        simp at h
        exact .inl ⟨i, by omega, hdo, h.symm, fun j' hj hj' => by omega⟩
      · rw [if_neg ht] at h
        exact old (by rw [hdo]; simpa using fun e => ht e.symm) h
theorem Txt.slots {i : Nat} (hi : i < ops.size) {t : Nat} {v : AV} (h : (unsetAll (tmA i) (slotsOut (mkB ops i) i ops.toList (masks ops.toList) 0)).get t = some v) :
    (tmA i).get t = some v ∧ ∀ j, j < ops.size → dstO ops j = some t → (j < i → Nat.testBit (mkB ops i) j = true) ∧ (i < j → Nat.testBit (mkB ops j) i = true) := by
  have _used := X.edg
  obtain ⟨h1, h2⟩ := unsetAll_get _ _ _ _ h
  refine ⟨h2, ?_⟩
  intro j hj hd
  have hoj : ops.toList[j]? = some ops[j] := by simp [hj]
  have hmj : (masks ops.toList)[j]? = some (mkB ops j) := by
    unfold mkB
    have : j < (masks ops.toList).length := by rw [masks_length]; simpa using hj
    rw [List.getElem?_eq_getElem this]; rfl
  have hdj : (ops[j]).dst = some t := by
    have : ops[j]? = some ops[j] := by simp [hj]
    unfold dstO at hd; rw [this] at hd; exact hd
  have := slotsOut_mem (m := mkB ops i) (i := i) ops.toList (masks ops.toList) 0 j _ t _ hoj hmj hdj h1
  simpa using this
/-- between two operations that act the memory gains new objects alone -/
theorem Txt.gap {x : Nat} : ∀ (y : Nat), x ≤ y → y ≤ n → (∀ k, x ≤ k → k < y → (e k).kd ≠ .act) →
    (∀ b, (∀ k, x ≤ k → k < y → (e k).kd = .alloc → b ≠ N + k) → (hA y).get b = (hA x).get b) ∧
    (∀ k, x ≤ k → k < y → (e k).kd = .alloc → ∃ o a, ops[k]? = some o ∧ newOf T (env (e k).tm) o (N + k) = some ((e k).v, a) ∧ (hA y).get (N + k) = some a) ∧ (hA y).next = (hA x).next
  | y, hxy, hy, hna => by
    rcases Nat.lt_or_ge x y with h | h
    · cases y with
      | zero => omega
      | succ y =>
        obtain ⟨g1, g2, g3⟩ := Txt.gap y (by omega) (by omega) (fun k h1 h2 => hna k h1 (by omega))
        have hyl : y < n := by omega
        have hyo : y < ops.size := by have := X.hn; omega
        have ho : ops[y]? = some ops[y] := by simp [hyo]
        obtain ⟨_, _, _, _, _, hk⟩ := X.ent y _ hyl ho
        have hh1 := X.h1 y hyl
        rcases hk with ⟨_, k2, _, k4⟩ | ⟨_, k2, _, _, k4⟩ | ⟨_, k2, a, k3, k4⟩ | ⟨_, k2, _⟩
        · rw [← hh1, k4]
          refine ⟨fun b hb => g1 b (fun k h1 h2 h3 => hb k h1 (by omega) h3), fun k h1 h2 h3 => ?_, g3⟩
          by_cases e0 : k = y
          · subst e0; rw [k2] at h3; cases h3
          · exact g2 k h1 (by omega) h3
        · rw [← hh1, k4]
          refine ⟨fun b hb => g1 b (fun k h1 h2 h3 => hb k h1 (by omega) h3), fun k h1 h2 h3 => ?_, g3⟩
          by_cases e0 : k = y
          · subst e0; rw [k2] at h3; cases h3
          · exact g2 k h1 (by omega) h3
        · rw [← hh1, k4]
          refine ⟨fun b hb => ?_, fun k h1 h2 h3 => ?_, by simpa using g3⟩
          · rw [Heap.get_set, if_neg (hb y (by omega) (by omega) k2)]
            exact g1 b (fun k h1 h2 h3 => hb k h1 (by omega) h3)
          · by_cases e0 : k = y
            · subst e0
              exact ⟨_, a, ho, k3, by rw [Heap.get_set, if_pos rfl]⟩
            · obtain ⟨o, a', q1, q2, q3⟩ := g2 k h1 (by omega) h3
              exact ⟨o, a', q1, q2, by rw [Heap.get_set, if_neg (by omega)]; exact q3⟩
        · exact absurd k2 (hna y (by omega) (by omega))
    · have : x = y := by omega
      subst this
      exact ⟨fun _ _ => rfl, fun k h1 h2 => by omega, rfl⟩
/-- the next operation that acts, from x on -/
theorem Txt.next (x : Nat) (hx : x ≤ n) : ∃ y, x ≤ y ∧ y ≤ n ∧ (∀ k, x ≤ k → k < y → (e k).kd ≠ .act) ∧ (y < n → (e y).kd = .act) := by
  have _used := X.edg
  have : ∀ d x, x + d = n → ∃ y, x ≤ y ∧ y ≤ n ∧ (∀ k, x ≤ k → k < y → (e k).kd ≠ .act) ∧ (y < n → (e y).kd = .act) := by
    intro d
    induction d with
    | zero => intro x h; exact ⟨x, Nat.le_refl _, by omega, fun k h1 h2 => by omega, fun h1 => by omega⟩
    | succ d ih =>
      intro x h
      by_cases hk : (e x).kd = .act
      · exact ⟨x, Nat.le_refl _, by omega, fun k h1 h2 => by omega, fun _ => hk⟩
      · obtain ⟨y, y1, y2, y3, y4⟩ := ih (x + 1) (by omega)
        refine ⟨y, by omega, y2, fun k h1 h2 => ?_, y4⟩
        by_cases e0 : k = x
        · subst e0; exact hk
        · exact y3 k (by omega) h2
  exact this (n - x) x (by omega)
end
end Ev
