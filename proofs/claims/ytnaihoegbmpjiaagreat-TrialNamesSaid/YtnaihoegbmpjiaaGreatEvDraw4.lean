/- A part of the proof that what the evaluator (EvDefs) says of a call is what the machine does: EvDraw4. Conditions: those that each theorem states. -/
import Derived.Test.YtnaihoegbmpjiaaGreatEvDraw3
set_option linter.unusedVariables false
set_option linter.unusedSimpArgs false
namespace Ev
open Go Go.RowKit

variable {P : Program} {T : Tabs} {base : Nat} {w0 : World}

theorem sub_le_self (E : En) (D : Nat → Prop) : (E.sub D).Le E := ⟨fun b hb => hb.1, fun _ _ => rfl, fun _ _ => rfl, fun _ _ => rfl⟩
theorem HR.fewer {E : En} {h h' : Heap} {w : World} (H : HR base w0 E h w) (hg : ∀ b o, E.dom b → h'.get b = some o → h.get b = some o) (hd : ∀ b, E.dom b → b < h'.next) : HR base w0 E h' w where
  dlt := hd
  obj b o hb ho := H.obj b o hb (hg b o hb ho)
  inj b b' o o' d d' g g' := H.inj b b' o o' d d' (hg b o d g) (hg b' o' d' g')
  wd := H.wd
  drawn := H.drawn
  bsz := H.bsz
  blt := H.blt
theorem HR.more {E : En} {D D' : Nat → Prop} {h : Heap} {w : World} (H : HR base w0 (E.sub D) h w) (hD : ∀ b, D b → D' b) (hn : ∀ b, E.dom b → D' b → ¬ D b → h.get b = none) (hd : ∀ b, E.dom b → b < h.next) (hb : ∀ b, E.dom b → E.blk b < w.heap.size) :
    HR base w0 (E.sub D') h w where
  dlt b hb := hd b hb.1
  obj b o hb ho := by
    by_cases h1 : D b
    · exact OR'.mono (sub_le_sub (.refl E) hD) (b := b) (⟨hb.1, h1⟩ : (E.sub D).dom b) (H.obj b o ⟨hb.1, h1⟩ ho)
    · rw [hn b hb.1 hb.2 h1] at ho; cases ho
  inj b b' o o' d d' g g' w1 w2 e := by
    have h1 : D b := Classical.byContradiction fun h => by rw [hn b d.1 d.2 h] at g; cases g
    have h2 : D b' := Classical.byContradiction fun h => by rw [hn b' d'.1 d'.2 h] at g'; cases g'
    exact H.inj b b' o o' ⟨d.1, h1⟩ ⟨d'.1, h2⟩ g g' w1 w2 e
  wd := H.wd
  drawn := H.drawn
  bsz := H.bsz
  blt b h := hb b h.1

theorem again_val {x : Ent} {h : Heap} (hw : x.want = true) (ha : again T x h = true) : ∃ h', opA T (env x.tm) x.o h = .val x.v h' := by
  unfold again at ha
  rw [hw] at ha
  simp only [Bool.not_true, Bool.false_or] at ha
  split at ha
  · rename_i v' h' heq
    have := aveq_eq _ _ ha
    subst this
    exact ⟨h', heq⟩
  · simp at ha

theorem lastAct (e : Nat → Ent) (x : Nat) : ∀ y, x ≤ y → (∀ k, x ≤ k → k < y → (e k).kd ≠ .act) ∨ ∃ a, x ≤ a ∧ a < y ∧ (e a).kd = .act ∧ ∀ k, a + 1 ≤ k → k < y → (e k).kd ≠ .act
  | 0, h => .inl fun k _ h2 => by omega
  | y + 1, h => by
    rcases Nat.lt_or_ge y x with h1 | h1
    · exact .inl fun k k1 k2 => by omega
    · by_cases hk : (e y).kd = .act
      · exact .inr ⟨y, h1, by omega, hk, fun k k1 k2 => by omega⟩
      · rcases lastAct e x y h1 with h2 | ⟨a, a1, a2, a3, a4⟩
        · exact .inl fun k k1 k2 => by
            by_cases e0 : k = y
            · subst e0; exact hk
            · exact h2 k k1 (by omega)
        · exact .inr ⟨a, a1, by omega, a3, fun k k1 k2 => by
            by_cases e0 : k = y
            · subst e0; exact hk
            · exact a4 k k1 (by omega)⟩

section
variable {rec : Task → Res} {nt : Nat} {ops : Array Oper} {n N : Nat} {e : Nat → Ent} {tmA : Nat → Tr AV} {hA : Nat → Heap}

/-- a memory in which a reading gives what it gave -/
theorem read_heap (X : Txt T rec nt ops n N e tmA hA) {E0 : En} {h00 : Heap} {w00 : World} {S : Nat → Prop} {nx : Nat} {E : En} {w : World} (IS : InvS ops n e S nx) (I : InvM T ops N e hA base w0 E0 h00 w00 S nx E w)
    {i : Nat} (hi : i < n) (hn : ¬ S i) (hr : ∀ j, Nat.testBit (mkB ops i) j = true → S j) (hk : (e i).kd = .read) (hw : (e i).want = true) (h0 : ∃ h', opA T (env (e i).tm) (e i).o (hA i) = .val (e i).v h') :
    ∃ hh h', HR base w0 (E.sub (Dm N ops.size (max i nx))) hh w ∧ opA T (env (e i).tm) (e i).o hh = .val (e i).v h' := by
  have hno := X.hn
  have hio : i < ops.size := by omega
  have hoi : ops[i]? = some ops[i] := by simp [hio]
  obtain ⟨ei1, ei2, _⟩ := X.ent i _ hi hoi
  rcases Nat.lt_or_ge i nx with h | h
  · have hM : max i nx = nx := by omega
    rw [hM]
    rcases lastAct e (i + 1) nx h with g | ⟨a, a1, a2, a3, a4⟩
    · obtain ⟨h', hv⟩ := h0
      refine ⟨hA i, h', ?_, hv⟩
      have hna : ∀ k, i ≤ k → k < nx → (e k).kd ≠ .act := fun k k1 k2 => by
        by_cases e0 : k = i
        · subst e0; rw [hk]; simp
        · exact g k (by omega) k2
      obtain ⟨q1, q2, q3⟩ := X.gap nx (x := i) (by omega) IS.nxle hna
      refine I.hr.fewer (fun b o hb ho => ?_) (fun b hb => by rw [← q3]; exact I.bd b hb.1)
      rw [q1 b ?_]
      · exact ho
      · intro k k1 k2 _ e0
        subst e0
        rw [I.nn i (by omega) k k1 (by have := IS.nxle; omega)] at ho
        cases ho
    · have hp := X.pair i a (by omega) (by have := IS.nxle; omega)
      have han : a < ops.size := by have := IS.nxle; omega
      have hoa : ops[a]? = some ops[a] := by simp [han]
      obtain ⟨_, f2, _⟩ := X.ent a _ (by have := IS.nxle; omega) hoa
      unfold pairOk at hp
      rw [f2, hk, a3] at hp
      have hbit : Nat.testBit (mkB ops a) i = false := by
        rcases Bool.eq_false_or_eq_true (Nat.testBit (mkB ops a) i) with hb | hb
        · exact absurd ((IS.clo a (IS.nxS a a2 a3)).2 i hb) hn
        · exact hb
      rw [hbit] at hp
      simp [isAct, isRead] at hp
      obtain ⟨h', hv⟩ := again_val hw hp.2
      rw [X.h1 a (by have := IS.nxle; omega)] at hv
      refine ⟨hA (a + 1), h', ?_, hv⟩
      obtain ⟨q1, q2, q3⟩ := X.gap nx (x := a + 1) (by omega) IS.nxle a4
      refine I.hr.fewer (fun b o hb ho => ?_) (fun b hb => by rw [← q3]; exact I.bd b hb.1)
      rw [q1 b ?_]
      · exact ho
      · intro k k1 k2 _ e0
        subst e0
        rw [I.nn (a + 1) (by omega) k k1 (by have := IS.nxle; omega)] at ho
        cases ho
  · have hM : max i nx = i := by omega
    rw [hM]
    have hnxn : nx < n := by omega
    have hnxo : nx < ops.size := by omega
    have hka := IS.nxa hnxn
    have hlt : nx < i := by
      rcases Nat.lt_or_ge nx i with h1 | h1
      · exact h1
      · have : nx = i := by omega
        subst this; rw [hk] at hka; cases hka
    have hp := X.pair nx i hlt hi
    unfold pairOk at hp
    rw [ei2, hk, hka] at hp
    have hbit : Nat.testBit (mkB ops i) nx = false := by
      rcases Bool.eq_false_or_eq_true (Nat.testBit (mkB ops i) nx) with hb | hb
      · exact absurd (hr nx hb) (IS.nxn nx (Nat.le_refl _) hnxn hka)
      · exact hb
    rw [hbit] at hp
    simp [isAct, isRead] at hp
    obtain ⟨h', hv⟩ := again_val hw hp.2
    have hon : ops[nx]? = some ops[nx] := by simp [hnxo]
    obtain ⟨_, _, _, f4, _⟩ := X.ent nx _ hnxn hon
    rw [f4] at hv
    refine ⟨hA nx, h', ?_, hv⟩
    refine I.hr.more (fun b => Dm_mono h) (fun b hb hD hnD => ?_) I.bd I.blt
    have h1 : ¬ b < N + nx := fun h => hnD (.inl h)
    have h2 : ¬ N + ops.size ≤ b := fun h => hnD (.inr h)
    obtain ⟨j, rfl⟩ : ∃ j, b = N + j := ⟨b - N, by omega⟩
    exact I.nn nx (Nat.le_refl _) j (by omega) (by omega)

theorem newOf_notDefer {ρ : Operand → Option AV} {o : Oper} {r : Nat} {x : AV × AObj} (h : newOf T ρ o r = some x) (c : Call) : o.op ≠ .defer c := by
  intro e0
  unfold newOf at h
  rw [e0] at h
  simp at h

/-- one operation of a drawn order -/
theorem one_op (ok : TabsOK P T) (ih : ∀ t, TaskOK P base w0 t (rec t)) (X : Txt T rec nt ops n N e tmA hA) {E0 : En} {h00 : Heap} {w00 : World} (hN : N = h00.next) {d0 : List Deferred} {S : Nat → Prop} {nx : Nat} {E : En} {w : World} {a : Act}
    (IS : InvS ops n e S nx) (I : InvM T ops N e hA base w0 E0 h00 w00 S nx E w) (IT : InvT ops N nt e (tmA 0) d0 S nx E a) {i : Nat} (hi : i < n) (hn : ¬ S i)
    (hedge : ∀ o, ops[i]? = some o → ∀ ed ∈ o.after.toList, Region.binds .any ed = true → S ed.on) (b : Frame) (js : List Nat) (k : List Item) (cs : List Frame) :
    ∃ nx' E' w' a', InvS ops n e (ext S i) nx' ∧ InvM T ops N e hA base w0 E0 h00 w00 (ext S i) nx' E' w' ∧ InvT ops N nt e (tmA 0) d0 (ext S i) nx' E' a' ∧
      Steps P (lone (b.atR a (.inRegion ops (i :: js) :: k)) cs w) (lone (b.atR a' (.inRegion ops js :: k)) cs w') := by
  have hno := X.hn
  have hio : i < ops.size := by omega
  have ho : ops[i]? = some ops[i] := by simp [hio]
  generalize ops[i] = o at ho
  have hr := IS.ready X.edg ho (hedge o ho)
  have ht := InvT.tr X IS IT hio (by omega) hn hr
  obtain ⟨ei1, ei2, ei3, ei4, hwant, hkind⟩ := X.ent i o hi ho
  rw [← ei3] at ht
  have hw' := wanted_sound ht hwant
  rcases hkind with ⟨q1, q2, q3, q4⟩ | ⟨q1, q2, q3, q4, q5⟩ | ⟨q1, q2, x, q3, q4⟩ | ⟨q1, q2, q3⟩
  · -- not wanted
    rw [q1] at hw'
    have hs := stepR_op_skip (P := P) (b := b) (a := a) (k := k) (cs := cs) (w := w) (ops := ops) (i := i) (rest := js) (by rw [ho]; simpa using hw')
    rw [ho] at hs
    refine ⟨nx, E, w, a.put o.dst undef, IS.quiet hi (by rw [q2]; simp) hr, I.quiet (by rw [q2]; simp), InvT.step X IS IT ho hi hn (Nat.le_refl _) (.refl E) ?_, .one hs⟩
    rw [q3]; exact undef_VR _
  · -- a reading
    rw [q1] at hw'
    rw [← ei1] at q4
    obtain ⟨hh, h', hhr, hval⟩ := read_heap X IS I hi hn hr q2 q1 q4
    rw [ei1] at hval
    have hq := op_quiet (P := P) ok hhr (rho_of ht) o q3
    rw [hval] at hq
    obtain ⟨_, v', r1, r2⟩ := hq
    have hsem : o.semAt b.roundOf a.eval = execOp a.eval o := Oper.semAt_eq _ _ _ (fun c => Out.notDefer (T := T) (E := E) (w := w) (ρ := env (e i).tm) (h := hh) (by rw [hval]; simp) (by rw [hval]; simp) c)
    exact ⟨nx, E, w, a.put o.dst v', IS.quiet hi (by rw [q2]; simp) hr, I.quiet (by rw [q2]; simp), InvT.step X IS IT ho hi hn (Nat.le_refl _) (.refl E) (r2.mono (sub_mono (by omega))), oper_value ho hw' (by rw [hsem]; exact r1)⟩
  · -- a new object
    rw [q1] at hw'
    obtain ⟨hown, ob, x0, d, v', r1, r2⟩ := newOf_sound (P := P) (base := base) (w0 := w0) (E := E.sub (Dm N ops.size (max i nx))) (h := ⟨.nil, N + ops.size + (hA nx).next⟩) (w := w) ok
      ⟨fun b hb => by have := I.bd b hb.1; show b < N + ops.size + (hA nx).next; omega, fun b o hb ho => by simp [Heap.get, Tr.get_nil] at ho, fun b b' o o' _ _ g => by simp [Heap.get, Tr.get_nil] at g, I.hr.wd, I.hr.drawn, I.hr.bsz, fun b hb => I.blt b hb.1⟩
      (rho_of ht) o q3
    obtain ⟨m1, m2, m3⟩ := I.alloc hN hio hn q2 (a := x) (by unfold NewE; rw [ei1]; exact q3) hown r2 (d := d)
    have hsem : o.semAt b.roundOf a.eval = execOp a.eval o := Oper.semAt_eq _ _ _ (newOf_notDefer q3)
    exact ⟨nx, _, _, a.put o.dst v', IS.quiet hi (by rw [q2]; simp) hr, m1, InvT.step X IS IT ho hi hn (Nat.le_refl _) m2 m3, oper_value ho hw' (by rw [hsem]; exact r1)⟩
  · -- an operation that acts
    rw [q1] at hw'
    obtain ⟨rfl, hIS⟩ := IS.act X hi hn q2 hr
    rw [Nat.max_self] at ht
    obtain ⟨nx', y1, y2, y3, y4⟩ := X.next (nx + 1) (by omega)
    have hh1 := X.h1 nx hi
    have hop := op_sound (base := base) (w0 := w0) ok I.hr (rho_of ht) o
    have sem : (∀ d, opA T (env (e nx).tm) o (hA nx) ≠ .defer d) → (∀ t, opA T (env (e nx).tm) o (hA nx) ≠ .no t) → o.semAt b.roundOf a.eval = execOp a.eval o := fun h1 h2 =>
      Oper.semAt_eq _ _ _ (fun c => Out.notDefer (E := E) (w := w) h1 h2 c)
    -- the step, then the invariants
    have fin : ∀ (E1 : En) (w1 : World) (v' : Value), VR E1 (e nx).v v' → HR base w0 E1 (hA (nx + 1)) w1 → Ste (E.sub (Dm N ops.size nx)) (hA nx) w E1 (hA (nx + 1)) w1 →
        Steps P (lone (b.atR a (.inRegion ops (nx :: js) :: k)) cs w) (lone (b.atR (a.put o.dst v') (.inRegion ops js :: k)) cs w1) →
        ∃ nx' E' w' a', InvS ops n e (ext S nx) nx' ∧ InvM T ops N e hA base w0 E0 h00 w00 (ext S nx) nx' E' w' ∧ InvT ops N nt e (tmA 0) d0 (ext S nx) nx' E' a' ∧
          Steps P (lone (b.atR a (.inRegion ops (nx :: js) :: k)) cs w) (lone (b.atR a' (.inRegion ops js :: k)) cs w') := by
      intro E1 w1 v' hv H1 st hs
      obtain ⟨E', m1, m2, m3⟩ := I.act X hN hi hn q2 y1 y2 y3 H1 st
      exact ⟨nx', E', w1, _, hIS nx' y1 y2 y3 y4, m1, InvT.step X IS IT ho hi hn (by omega) m2 ((hv.mono m3).mono (sub_mono (by omega))), hs⟩
    have hfin : ∀ v, (b.atR a (.inRegion ops (nx :: js) :: k)).finish v = b.atR (a.put o.dst v) (.inRegion ops js :: k) := by
      intro v; rw [Frame.finish_atR, ho]; rfl
    unfold actA at q3
    split at q3
    · rename_i v h' heq
      have hsem := sem (by rw [heq]; simp) (by rw [heq]; simp)
      rw [heq] at hop
      obtain ⟨E1, w1, v', r1, r2, r3, r4⟩ := hop
      simp at q3
      obtain ⟨rfl, rfl⟩ := q3
      rw [hh1] at r3 r4
      exact fin E1 w1 v' r2 r3 r4 (oper_value ho hw' (by rw [hsem]; exact r1))
    · rename_i h' heq
      have hsem := sem (by rw [heq]; simp) (by rw [heq]; simp)
      rw [heq] at hop
      obtain ⟨E1, w1, r1, r3, r4⟩ := hop
      simp at q3
      obtain ⟨q3, rfl⟩ := q3
      rw [hh1] at r3 r4
      exact fin E1 w1 undef (by rw [← q3]; exact undef_VR _) r3 r4 (oper_skip ho hw' (by rw [hsem]; exact r1))
    · rename_i f args h' heq
      have hsem := sem (by rw [heq]; simp) (by rw [heq]; simp)
      rw [heq] at hop
      obtain ⟨rfl, args', r1, r2⟩ := hop
      have hcall := ih (.call f args (hA nx)) _ args' w (b.atR a (.inRegion ops (nx :: js) :: k) :: cs) r2 I.hr
      have hent := oper_enter (P := P) (b := b) (js := js) (k := k) (cs := cs) ho hw' (by rw [hsem]; exact r1)
      have hret : rec (.call f args (hA nx)) = .ret (e nx).v (e nx).h1 := by
        generalize rec (.call f args (hA nx)) = r at q3
        cases r <;> simp_all [no1]
      rw [hret] at hcall
      obtain ⟨_, rfl, hcall⟩ := hcall
      obtain ⟨E2, w2, v', p1, p2, p3, p4⟩ := CallOK.elim_ret hcall
      rw [hfin] at p4
      rw [hh1] at p1 p2
      exact fin E2 w2 v' p3 p1 p2 (hent.trans p4)
    · rename_i l fn tm nt' as bd h' heq
      have hsem := sem (by rw [heq]; simp) (by rw [heq]; simp)
      rw [heq] at hop
      obtain ⟨rfl, hdl, tmps, r1, r2, r3⟩ := hop
      have hcall := ih (.round l fn tm nt' as bd (hA nx)) _ tmps w (b.atR a (.inRegion ops (nx :: js) :: k)) cs hdl r2 r3 I.hr
      have hent := oper_round (P := P) (b := b) (js := js) (k := k) (cs := cs) ho hw' (by rw [hsem]; exact r1)
      have hret : rec (.round l fn tm nt' as bd (hA nx)) = .ret (e nx).v (e nx).h1 := by
        generalize rec (.round l fn tm nt' as bd (hA nx)) = r at q3
        cases r <;> simp_all [no1]
      rw [hret] at hcall
      obtain ⟨_, rfl, hcall⟩ := hcall
      obtain ⟨E2, w2, v', p1, p2, p3, p4⟩ := hcall
      rw [hfin] at p4
      rw [hh1] at p1 p2
      exact fin E2 w2 v' p3 p1 p2 (hent.trans p4)
    · simp at q3
    · simp at q3

theorem sched_run (hfull : n = ops.size) (ok : TabsOK P T) (ih : ∀ t, TaskOK P base w0 t (rec t)) (X : Txt T rec nt ops n N e tmA hA) {E0 : En} {h00 : Heap} {w00 : World} (hN : N = h00.next) {d0 : List Deferred} (b : Frame) (k : List Item) (cs : List Frame) {S : Nat → Prop} {js : List Nat} (hs : Sched ops S js) :
    ∀ {nx : Nat} {E : En} {w : World} {a : Act}, InvS ops n e S nx → InvM T ops N e hA base w0 E0 h00 w00 S nx E w → InvT ops N nt e (tmA 0) d0 S nx E a →
    ∃ S' nx' E' w' a', (∀ i, i < ops.size → S' i) ∧ InvS ops n e S' nx' ∧ InvM T ops N e hA base w0 E0 h00 w00 S' nx' E' w' ∧ InvT ops N nt e (tmA 0) d0 S' nx' E' a' ∧
      Steps P (lone (b.atR a (.inRegion ops js :: k)) cs w) (lone (b.atR a' (.inRegion ops [] :: k)) cs w') := by
  induction hs with
  | nil S h => exact fun IS I IT => ⟨S, _, _, _, _, h, IS, I, IT, .refl _ _⟩
  | cons S i js hi hn hr h ih2 =>
    intro nx E w a IS I IT
    obtain ⟨nx1, E1, w1, a1, IS1, I1, IT1, s1⟩ := one_op ok ih X hN IS I IT (by rw [hfull]; exact hi) hn hr b js k cs
    obtain ⟨S', nx', E', w', a', c1, c2, c3, c4, c5⟩ := ih2 IS1 I1 IT1
    exact ⟨S', nx', E', w', a', c1, c2, c3, c4, s1.trans c5⟩

theorem sub_ste {E0 E : En} {D : Nat → Prop} {h00 h : Heap} {w00 w : World} (S : Ste E0 h00 w00 E h w) (hD : ∀ b, E0.dom b → D b) : Ste E0 h00 w00 (E.sub D) h w where
  le := ⟨fun b hb => ⟨S.le.dom b hb, hD b hb⟩, S.le.blk, S.le.off, S.le.ext⟩
  newd b hb := S.newd b hb.1
  nx := S.nx
  loc := S.loc
  sz := S.sz
  fr := S.fr
  img b hb := S.img b hb.1
theorem dstsOf_mem {l : List Oper} {t : Tmp} (h : t ∉ dstsOf l) : ∀ o ∈ l, o.dst ≠ some t := by
  induction l with
  | nil => simp
  | cons x l ih =>
    intro o ho hd
    unfold dstsOf at h
    rcases List.mem_cons.1 ho with rfl | ho
    · rw [hd] at h; simp at h
    · have : t ∉ dstsOf l := by
        split at h
        · exact fun hm => h (List.mem_cons_of_mem _ hm)
        · exact h
      exact ih this o ho hd

/-- the operation that panics -/
theorem sched_panic {p : Nat} (ok : TabsOK P T) (ih : ∀ t, TaskOK P base w0 t (rec t)) (X : Txt T rec nt ops p N e tmA hA) {E0 : En} {h00 : Heap} {w00 : World} (hN : N = h00.next) (hlow : ∀ b, E0.dom b → b < h00.next) {d0 : List Deferred} (hp : p < ops.size)
    {o : Oper} (hop : ops[p]? = some o) (hacts : ∀ j, j < p → (e j).kd = .act → Nat.testBit (mkB ops p) j = true)
    (hwant : wantedA ops.toList (unsetAll (tmA p) (slotsOut (mkB ops p) p ops.toList (masks ops.toList) 0)) o = some true) {v : AV} {h' : Heap}
    (hact : actA T rec (unsetAll (tmA p) (slotsOut (mkB ops p) p ops.toList (masks ops.toList) 0)) o (hA p) = .thrown v h') (hlater : ∀ k, p < k → k < ops.size → Nat.testBit (mkB ops k) p = true)
    (b : Frame) (k : List Item) (cs : List Frame) {S : Nat → Prop} {js : List Nat} (hs : Sched ops S js) :
    ∀ {nx : Nat} {E : En} {w : World} {a : Act}, InvS ops p e S nx → InvM T ops N e hA base w0 E0 h00 w00 S nx E w → InvT ops N nt e (tmA 0) d0 S nx E a →
    ∃ E2 w2 a2 v' todo, HR base w0 E2 h' w2 ∧ Ste E0 h00 w00 E2 h' w2 ∧ VR E2 v v' ∧ a2.tmps.size = nt ∧ a2.defers = d0 ∧ TR E2 (unsetAll (tmA 0) (dstsOf ops.toList)) a2.tmps ∧
      Steps P (lone (b.atR a (.inRegion ops js :: k)) cs w) (lone { b.atR a2 todo with mode := .panicking [{ v := v', recovered := false }] } cs w2) := by
  induction hs with
  | nil S h => exact fun IS _ _ => absurd (IS.clo p (h p hp)).1 (by omega)
  | cons S i js hi hn hr h ih2 =>
    intro nx E w a IS I IT
    rcases Nat.lt_trichotomy i p with hlt | rfl | hgt
    · obtain ⟨nx1, E1, w1, a1, IS1, I1, IT1, s1⟩ := one_op ok ih X hN IS I IT hlt hn hr b js k cs
      obtain ⟨E2, w2, a2, v', todo, c1, c2, c3, c4, c5, c6, c7⟩ := ih2 IS1 I1 IT1
      exact ⟨E2, w2, a2, v', todo, c1, c2, c3, c4, c5, c6, s1.trans c7⟩
    · -- here
      have hrd := IS.ready X.edg hop (hr o hop)
      have hnx : nx = i := by
        rcases Nat.lt_or_ge nx i with h1 | h1
        · exact absurd (hrd nx (hacts nx h1 (IS.nxa h1))) (IS.nxn nx (Nat.le_refl _) h1 (IS.nxa h1))
        · have := IS.nxle; omega
      subst hnx
      have ht := InvT.tr X IS IT hp (Nat.le_refl _) hn hrd
      rw [Nat.max_self] at ht
      have hw' := wanted_sound ht hwant
      have hopS := op_sound (base := base) (w0 := w0) ok I.hr (rho_of ht) o
      have hst : Ste E0 h00 w00 (E.sub (Dm N ops.size nx)) (hA nx) w := sub_ste I.ste (fun b hb => .inl (by have := hlow b hb; omega))
      have fin : ∀ (E2 : En) (w2 : World) (v' : Value), HR base w0 E2 h' w2 → Ste (E.sub (Dm N ops.size nx)) (hA nx) w E2 h' w2 → VR E2 v v' →
          Steps P (lone (b.atR a (.inRegion ops (nx :: js) :: k)) cs w) (lone { b.atR a (.inRegion ops (nx :: js) :: k) with mode := .panicking [{ v := v', recovered := false }] } cs w2) →
          ∃ E2 w2 a2 v' todo, HR base w0 E2 h' w2 ∧ Ste E0 h00 w00 E2 h' w2 ∧ VR E2 v v' ∧ a2.tmps.size = nt ∧ a2.defers = d0 ∧ TR E2 (unsetAll (tmA 0) (dstsOf ops.toList)) a2.tmps ∧
            Steps P (lone (b.atR a (.inRegion ops (nx :: js) :: k)) cs w) (lone { b.atR a2 todo with mode := .panicking [{ v := v', recovered := false }] } cs w2) := by
        intro E2 w2 v' H2 st hv hs
        refine ⟨E2, w2, a, v', _, H2, hst.trans st, hv, IT.sz, IT.df, ?_, hs⟩
        intro t x hx
        obtain ⟨g1, g2⟩ := unsetAll_get _ _ _ _ hx
        obtain ⟨x', q1, q2⟩ := IT.tm0 t x (fun j _ hd => by
          unfold dstO at hd
          cases hoj : ops[j]? with
          | none => rw [hoj] at hd; cases hd
          | some oj =>
            rw [hoj] at hd
            exact dstsOf_mem g1 oj (by rw [Array.mem_toList_iff]; exact Array.mem_of_getElem? hoj) hd) g2
        exact ⟨x', q1, q2.mono st.le⟩
      unfold actA at hact
      split at hact
      · cases hact
      · cases hact
      · rename_i f args h2 heq
        have hsem : o.semAt b.roundOf a.eval = execOp a.eval o := Oper.semAt_eq _ _ _ (fun c => Out.notDefer (E := E) (w := w) (by rw [heq]; simp) (by rw [heq]; simp) c)
        rw [heq] at hopS
        obtain ⟨rfl, args', r1, r2⟩ := hopS
        have hcall := ih (.call f args (hA nx)) _ args' w (b.atR a (.inRegion ops (nx :: js) :: k) :: cs) r2 I.hr
        have hent := oper_enter (P := P) (b := b) (js := js) (k := k) (cs := cs) hop hw' (by rw [hsem]; exact r1)
        have hret : rec (.call f args (hA nx)) = .thrown v h' := by
          generalize rec (.call f args (hA nx)) = r at hact
          cases r <;> simp_all [no1]
        rw [hret] at hcall
        obtain ⟨_, rfl, hcall⟩ := hcall
        obtain ⟨E2, w2, v', p1, p2, p3, p4⟩ := CallOK.elim_thrown hcall
        rw [Frame.raise_atR] at p4
        exact fin E2 w2 v' p1 p2 p3 (hent.trans p4)
      · rename_i l fn tm nt' as bd h2 heq
        have hsem : o.semAt b.roundOf a.eval = execOp a.eval o := Oper.semAt_eq _ _ _ (fun c => Out.notDefer (E := E) (w := w) (by rw [heq]; simp) (by rw [heq]; simp) c)
        rw [heq] at hopS
        obtain ⟨rfl, hdl, tmps, r1, r2, r3⟩ := hopS
        have hcall := ih (.round l fn tm nt' as bd (hA nx)) _ tmps w (b.atR a (.inRegion ops (nx :: js) :: k)) cs hdl r2 r3 I.hr
        have hent := oper_round (P := P) (b := b) (js := js) (k := k) (cs := cs) hop hw' (by rw [hsem]; exact r1)
        have hret : rec (.round l fn tm nt' as bd (hA nx)) = .thrown v h' := by
          generalize rec (.round l fn tm nt' as bd (hA nx)) = r at hact
          cases r <;> simp_all [no1]
        rw [hret] at hcall
        obtain ⟨_, rfl, hcall⟩ := hcall
        obtain ⟨E2, w2, v', p1, p2, p3, p4⟩ := hcall
        rw [Frame.raise_atR] at p4
        exact fin E2 w2 v' p1 p2 p3 (hent.trans p4)
      · cases hact
      · cases hact
    · -- later ones wait for it
      have ho : ops[i]? = some ops[i] := by simp [hi]
      have hrd := IS.ready X.edg ho (hr _ ho)
      exact absurd (IS.clo p (hrd p (hlater i hgt hi))).1 (by omega)
end

theorem allNone_get {h : Heap} {N : Nat} : ∀ {n : Nat}, allNone h N n = true → ∀ i, i < n → h.get (N + i) = none
  | 0, _, i, hi => by omega
  | n + 1, hh, i, hi => by
    simp only [allNone, Bool.and_eq_true] at hh
    by_cases e0 : i = n
    · subst e0
      generalize h.get (N + i) = g at hh
      cases g with
      | none => rfl
      | some o => simp at hh
    · exact allNone_get hh.2 i (by omega)

/-- the beginning of a region that draws its order -/
theorem start_inv {rec : Task → Res} {ops : Array Oper} {n : Nat} {e : Nat → Ent} {tmA : Nat → Tr AV} {hA : Nat → Heap} {E : En} {X : Cxt} {cx : Cx} {s : St} {a : Act} {u : FrameMode} {w : World} (S : SRel base w0 E X cx s a u w)
    (hnone : allNone s.h s.h.next ops.size = true) (TX : Txt T rec cx.nt ops n s.h.next e tmA hA) (t1 : tmA 0 = s.tm) (t2 : hA 0 = { s.h with next := s.h.next + ops.size }) :
    ∃ nx, InvS ops n e (fun _ => False) nx ∧ InvM T ops s.h.next e hA base w0 E s.h w (fun _ => False) nx E w ∧ InvT ops s.h.next cx.nt e (tmA 0) a.defers (fun _ => False) nx E a := by
  have hno := TX.hn
  obtain ⟨nx, n1, n2, n3, n4⟩ := TX.next 0 (Nat.zero_le _)
  obtain ⟨g1, g2, g3⟩ := TX.gap nx (x := 0) n1 n2 n3
  have hget0 : ∀ b, (hA 0).get b = s.h.get b := by intro b; rw [t2]; rfl
  have hnext0 : (hA 0).next = s.h.next + ops.size := by rw [t2]
  have leD : ∀ y, E.Le (E.sub (Dm s.h.next ops.size y)) := fun y =>
    ⟨fun b hb => ⟨hb, .inl (by have := S.hr.dlt b hb; omega)⟩, fun _ _ => rfl, fun _ _ => rfl, fun _ _ => rfl⟩
  have hgetlow : ∀ b, b < s.h.next → (hA nx).get b = s.h.get b := fun b hb => by
    rw [g1 b (fun k _ _ _ => by omega), hget0]
  have IS : InvS ops n e (fun _ => False) nx :=
    ⟨n2, fun i h1 h2 => absurd h2 (n3 i (Nat.zero_le _) h1), fun _ _ _ _ h => h, n4, fun _ h => h.elim⟩
  have I : InvM T ops s.h.next e hA base w0 E s.h w (fun _ => False) nx E w := by
    refine ⟨⟨?_, ?_, ?_, S.hr.wd, S.hr.drawn, S.hr.bsz, fun b hb => S.hr.blt b hb.1⟩, ?_, ⟨.refl E, fun _ h => .inl h, ?_, ?_, Nat.le_refl _, fun _ _ _ => rfl, fun _ h => .inl h⟩, S.hr.blt, ?_, ?_, ?_, ?_, ?_, ?_, ?_⟩
    · intro b hb; have := S.hr.dlt b hb.1; rw [g3, hnext0]; omega
    · intro b o hb ho
      rw [hgetlow b (S.hr.dlt b hb.1)] at ho
      exact OR'.mono (leD nx) hb.1 (S.hr.obj b o hb.1 ho)
    · intro b b' o o' d d' q q'
      rw [hgetlow b (S.hr.dlt b d.1)] at q
      rw [hgetlow b' (S.hr.dlt b' d'.1)] at q'
      exact S.hr.inj b b' o o' d.1 d'.1 q q'
    · rw [g3, hnext0]; omega
    · rw [g3, hnext0]; omega
    · intro b hb _; exact hgetlow b hb
    · intro i _ _ h; exact h.elim
    · intro i _ _ h; exact h.elim
    · intro i h1 h2; have := S.hr.dlt _ h2; omega
    · intro i _ h; exact h.elim
    · intro b hb; have := S.hr.dlt b hb; rw [g3, hnext0]; omega
    · intro i h1 h2 _ x hx
      obtain ⟨o', x', r1, r2, r3⟩ := g2 i (Nat.zero_le _) h1 h2
      have hoi : (e i).o = o' := (TX.ent i o' (by omega) r1).1
      unfold NewE at hx
      rw [hoi, r2] at hx
      cases hx
      exact r3
    · intro x hx i h1 h2
      obtain ⟨q1, _, _⟩ := TX.gap x (x := 0) (Nat.zero_le _) (by omega) (fun k k1 k2 => n3 k k1 (by omega))
      rw [q1 _ (fun k _ _ _ => by omega), hget0]
      exact allNone_get hnone i h2
  have IT : InvT ops s.h.next cx.nt e (tmA 0) a.defers (fun _ => False) nx E a := by
    refine ⟨?_, fun _ _ h => h.elim, S.sz, rfl⟩
    intro t v _ hv
    rw [t1] at hv
    obtain ⟨v', q1, q2⟩ := S.tm t v hv
    exact ⟨v', q1, q2.mono (leD nx)⟩
  exact ⟨nx, IS, I, IT⟩

theorem drawn_sound (ok : TabsOK P T) (rec : Task → Res) (ih : ∀ t, TaskOK P base w0 t (rec t)) : DrawnOK P T base w0 rec := by
  intro cx ops s t E X a u w k hX S
  unfold drawn
  simp only
  split
  · trivial
  · rename_i hc
    simp only [Bool.and_eq_true] at hc
    obtain ⟨hE, hnone⟩ := hc
    split
    · trivial
    · rename_i v h' es hg
      split
      · rename_i hok
        obtain ⟨p, o, e, tmA, hA, hp, hop, TX, t1, t2, hacts, hwant, hact, hlater⟩ := txt_of_pan hE hg hok
        have hlen : ops.toList.length = ops.size := by simp
        rw [hlen] at t2 hnone
        obtain ⟨nx, IS, I, IT⟩ := start_inv S hnone TX t1 t2
        have hsch : Region.schedule (P.follows .mixedOrders) ops t = Region.linearise .any ops t := by
          rw [ok.mix]; rfl
        rw [hsch]
        obtain ⟨E2, w2, a2, v', todo, c1, c2, c3, c4, c5, c6, c7⟩ := sched_panic ok ih TX rfl S.hr.dlt hp hop hacts hwant hact hlater X.b k (X.cs u) (linearise_sched hE t) IS I IT
        rw [t1] at c6
        exact ⟨E2, a2, u, w2, v', todo, ⟨c4, c6, by rw [c5]; exact S.df.mono c2.le, S.pan.mono c2.le, c1⟩, c2, c3, c7⟩
      · trivial
    · rename_i tmF hF es hg
      split
      · rename_i hok
        obtain ⟨e, tmA, hA, TX, t1, t2, t3, t4⟩ := txt_of hE hg hok
        have hlen : ops.toList.length = ops.size := by simp
        rw [hlen] at t2 hnone
        obtain ⟨nx, IS, I, IT⟩ := start_inv S hnone TX t1 t2
        have hsch : Region.schedule (P.follows .mixedOrders) ops t = Region.linearise .any ops t := by
          rw [ok.mix]; rfl
        rw [hsch]
        obtain ⟨S', nx', E', w', a', c1, c2, c3, c4, c5⟩ := sched_run rfl ok ih TX rfl X.b k (X.cs u) (linearise_sched hE t) IS I IT
        have hnx : nx' = ops.size := by
          rcases Nat.lt_or_ge nx' ops.size with h | h
          · exact absurd (c1 nx' h) (c2.nxn nx' (Nat.le_refl _) h (c2.nxa h))
          · have := c2.nxle; omega
        subst hnx
        have hEq : E'.sub (Dm s.h.next ops.size ops.size) = E' := by
          unfold En.sub
          congr
          funext b
          apply propext
          exact ⟨fun h => h.1, fun h => ⟨h, by unfold Dm; omega⟩⟩
        have hr := c3.hr
        rw [hEq, t4] at hr
        have hst := c3.ste
        rw [t4] at hst
        refine ⟨E', a', u, w', ⟨c4.sz, ?_, ?_, S.pan.mono hst.le, hr⟩, hst, c5.trans (.one stepR_region_end)⟩
        · intro tt v hv
          have hv : tmF.get tt = some v := hv
          rw [← t3] at hv
          rcases TX.tm_get ops.size (Nat.le_refl _) tt v hv with ⟨j, p1, p2, rfl, p4⟩ | ⟨p1, p2⟩
          · obtain ⟨v', q1, q2⟩ := c4.tmv j tt (c1 j p1) p2 (fun j' h1 h2 => p4 j' h2 (c2.clo j' h1).1)
            exact ⟨v', q1, q2.mono (sub_le_self _ _)⟩
          · obtain ⟨v', q1, q2⟩ := c4.tm0 tt v (fun j h1 => p1 j (c2.clo j h1).1) p2
            exact ⟨v', q1, q2.mono (sub_le_self _ _)⟩
        · rw [c4.df]; exact S.df.mono hst.le
      · trivial

/-! ### the whole -/
theorem ev_sound (ok : TabsOK P T) (hsm : ∀ f args h v h', T.sm f args h = some (v, h') → TaskOK P base w0 (.call f args h) (.ret v h')) : ∀ (n : Nat) (t : Task), TaskOK P base w0 t (ev T n t)
  | 0, t => no_ok _ _ t
  | n + 1, t => step_sound ok hsm (ev T n) (ev_sound ok hsm n) (drawn_sound ok (ev T n) (ev_sound ok hsm n)) t
end Ev
