/- A part of the proof that what the evaluator (EvDefs) says of a call is what the machine does: EvRun3. Conditions: those that each theorem states. -/
import Derived.Test.YtnaihoegbmpjiaaGreatEvRun2
set_option linter.unusedVariables false
set_option linter.unusedSimpArgs false
namespace Ev
open Go Go.RowKit

variable {P : Program} {T : Tabs} {base : Nat} {w0 : World}

/-! ### the operations of a region, in the text's order -/
theorem Out.notDefer {E : En} {h : Heap} {w : World} {ρ : Operand → Option AV} {o : Oper} (h1 : ∀ d, opA T ρ o h ≠ .defer d) (h2 : ∀ s, opA T ρ o h ≠ .no s) (c : Call) : o.op ≠ .defer c := by
  intro e
  rcases opA_defer (T := T) (ρ := ρ) (h := h) e with ⟨d, hd⟩ | ⟨s, hs⟩
  · exact h1 d hd
  · exact h2 s hs

theorem alt_choose {C : Res → Prop} (rec : Task → Res) (cx : Cx) (all rest : List Oper) (s : St) (dst : Option Tmp) : ∀ (l : List (AV × Heap)) (p : AV × Heap), p ∈ l →
    (∃ q, Lf (match putA cx { s with h := p.2 } dst p.1 with
      | some s' => rec (.ops cx all rest s')
      | none => .no "put" []) q ∧ C q) → ∃ q, Lf (altR (chooseA rec cx all rest s dst l)) q ∧ C q
  | [], p, hp, _ => by cases hp
  | x :: l, p, hp, H => by
    cases l with
    | nil =>
      rcases List.mem_cons.1 hp with rfl | hp
      · exact H
      · cases hp
    | cons y l =>
      rcases List.mem_cons.1 hp with rfl | hp
      · obtain ⟨q, h1, h2⟩ := H; exact ⟨q, .inl h1, h2⟩
      · obtain ⟨q, h1, h2⟩ := alt_choose rec cx all rest s dst (y :: l) p hp H; exact ⟨q, .inr h1, h2⟩
theorem ops_sound (ok : TabsOK P T) (rec : Task → Res) (ih : ∀ t, TaskOK P base w0 t (rec t)) (cx : Cx) (all rest : List Oper) (s : St) :
    TaskOK P base w0 (.ops cx all rest s) (Ev.step T rec (.ops cx all rest s)) := by
  intro E X a u w k ops i hall hrest hX S
  subst hall
  simp only [Ev.step]
  split
  · -- the end
    have hi : (List.range ops.size).drop i = [] := by
      apply List.drop_eq_nil_of_le
      have := congrArg List.length hrest
      simp at this
      simp; omega
    rw [hi]
    exact ⟨_, rfl, E, a, u, w, S, .refl _ _ _, .one stepR_region_end⟩
  · rename_i o rest'
    have hlt : i < ops.toList.length := by
      have := congrArg List.length hrest
      simp at this ⊢; omega
    have hd := List.drop_eq_getElem_cons hlt
    rw [hd] at hrest
    injection hrest with ho hr
    have ho' : ops[i]? = some o := by
      rw [← Array.getElem?_toList, List.getElem?_eq_getElem hlt, ho]
    have hrange : (List.range ops.size).drop i = i :: (List.range ops.size).drop (i + 1) := by
      rw [List.drop_eq_getElem_cons (by simpa using hlt)]
      simp
    rw [hrange]
    -- on with the rest
    have cont : ∀ (E1 : En) (a1 : Act) (u1 : FrameMode) (w1 : World) (s1 : St), SRel base w0 E1 X cx s1 a1 u1 w1 → Ste E s.h w E1 s1.h w1 →
        Steps P (lone (X.b.atR a (.inRegion ops (i :: (List.range ops.size).drop (i + 1)) :: k)) (X.cs u) w) (lone (X.b.atR a1 (.inRegion ops ((List.range ops.size).drop (i + 1)) :: k)) (X.cs u1) w1) →
        ∃ q, Lf (rec (.ops cx ops.toList rest' s1)) q ∧ CodeOK P base w0 (lone (X.b.atR a (.inRegion ops (i :: (List.range ops.size).drop (i + 1)) :: k)) (X.cs u) w) X cx k E s.h w q := by
      intro E1 a1 u1 w1 s1 S1 st hs
      have := ih (.ops cx ops.toList rest' s1) E1 X a1 u1 w1 k ops (i + 1) rfl hr (hX.mono st.le) S1
      exact ex_steps hs st this
    split
    · exact ⟨_, rfl, trivial⟩
    · -- not wanted
      rename_i hw
      have hw' := wanted_sound S.tm hw
      split
      · rename_i s' hp
        obtain ⟨S1, e⟩ := put_sound S hp (undef_VR E)
        have hs := stepR_op_skip (P := P) (b := X.b) (a := a) (k := k) (cs := X.cs u) (w := w) (ops := ops) (i := i) (rest := (List.range ops.size).drop (i + 1)) (by rw [ho']; simpa using hw')
        rw [ho'] at hs
        exact cont E _ u w s' S1 (by rw [e]; exact .refl _ _ _) (.one hs)
      · exact ⟨_, rfl, trivial⟩
    · rename_i hw
      have hw' := wanted_sound S.tm hw
      have hop := op_sound (base := base) (w0 := w0) ok S.hr (rho_of S.tm) o
      have sem : (∀ d, opA T (env s.tm) o s.h ≠ .defer d) → (∀ t, opA T (env s.tm) o s.h ≠ .no t) → o.semAt X.b.roundOf a.eval = execOp a.eval o := fun h1 h2 =>
        Oper.semAt_eq _ _ _ (fun c => Out.notDefer (E := E) (w := w) h1 h2 c)
      split
      · -- a value
        rename_i v h' heq
        have hsem := sem (by rw [heq]; simp) (by rw [heq]; simp)
        rw [heq] at hop
        obtain ⟨E1, w1, v', r1, r2, r3, r4⟩ := hop
        split
        · rename_i s' hp
          obtain ⟨S1, e⟩ := put_sound (S.mem r4.le r3) hp r2
          exact cont E1 _ u w1 s' S1 (by rw [e]; exact r4) (oper_value ho' hw' (by rw [hsem]; exact r1))
        · exact ⟨_, rfl, trivial⟩
      · rename_i h' heq
        have hsem := sem (by rw [heq]; simp) (by rw [heq]; simp)
        rw [heq] at hop
        obtain ⟨E1, w1, r1, r3, r4⟩ := hop
        split
        · rename_i s' hp
          obtain ⟨S1, e⟩ := put_sound (S.mem r4.le r3) hp (undef_VR E1)
          exact cont E1 _ u w1 s' S1 (by rw [e]; exact r4) (oper_skip ho' hw' (by rw [hsem]; exact r1))
        · exact ⟨_, rfl, trivial⟩
      · -- a call
        rename_i f args h' heq
        have hsem := sem (by rw [heq]; simp) (by rw [heq]; simp)
        rw [heq] at hop
        obtain ⟨rfl, args', r1, r2⟩ := hop
        obtain ⟨rr, m1, hcall⟩ := ih (.call f args s.h) E args' w (X.b.atR a (.inRegion ops (i :: (List.range ops.size).drop (i + 1)) :: k) :: X.cs u) r2 S.hr
        have hent := oper_enter (P := P) (b := X.b) (js := (List.range ops.size).drop (i + 1)) (k := k) (cs := X.cs u) ho' hw' (by rw [hsem]; exact r1)
        have hfin : ∀ v, (X.b.atR a (.inRegion ops (i :: (List.range ops.size).drop (i + 1)) :: k)).finish v = X.b.atR (a.put o.dst v) (.inRegion ops ((List.range ops.size).drop (i + 1)) :: k) := by
          intro v; rw [Frame.finish_atR, ho']; rfl
        refine Lf.bind m1 ?_
        split
        · rename_i v h2
          obtain ⟨E2, w2, v', p1, p2, p3, p4⟩ := CallOK.elim_ret hcall
          rw [hfin] at p4
          split
          · rename_i s' hp
            obtain ⟨S1, e⟩ := put_sound (S.mem p2.le p1) hp p3
            exact cont E2 _ u w2 s' S1 (by rw [e]; exact p2) (hent.trans p4)
          · exact ⟨_, rfl, trivial⟩
        · rename_i v h2
          obtain ⟨E2, w2, v', p1, p2, p3, p4⟩ := CallOK.elim_thrown hcall
          rw [Frame.raise_atR] at p4
          exact ⟨_, rfl, E2, a, u, w2, v', _, S.mem p2.le p1, p2, p3, hent.trans p4⟩
        · rename_i hn1 hn2
          cases rr with
          | ret v h4 => exact absurd rfl (hn1 v h4)
          | thrown v h4 => exact absurd rfl (hn2 v h4)
          | no => exact ⟨_, rfl, trivial⟩
          | _ => exact hcall.elim
      · -- a round
        rename_i l fn tm nt as bd h' heq
        have hsem := sem (by rw [heq]; simp) (by rw [heq]; simp)
        rw [heq] at hop
        obtain ⟨rfl, hdl, tmps, r1, r2, r3⟩ := hop
        obtain ⟨rr, m1, hcall⟩ := ih (.round l fn tm nt as bd s.h) E tmps w (X.b.atR a (.inRegion ops (i :: (List.range ops.size).drop (i + 1)) :: k)) (X.cs u) hdl r2 r3 S.hr
        have hent := oper_round (P := P) (b := X.b) (js := (List.range ops.size).drop (i + 1)) (k := k) (cs := X.cs u) ho' hw' (by rw [hsem]; exact r1)
        have hfin : ∀ v, (X.b.atR a (.inRegion ops (i :: (List.range ops.size).drop (i + 1)) :: k)).finish v = X.b.atR (a.put o.dst v) (.inRegion ops ((List.range ops.size).drop (i + 1)) :: k) := by
          intro v; rw [Frame.finish_atR, ho']; rfl
        refine Lf.bind m1 ?_
        split
        · rename_i v h2
          obtain ⟨E2, w2, v', p1, p2, p3, p4⟩ := hcall
          rw [hfin] at p4
          split
          · rename_i s' hp
            obtain ⟨S1, e⟩ := put_sound (S.mem p2.le p1) hp p3
            exact cont E2 _ u w2 s' S1 (by rw [e]; exact p2) (hent.trans p4)
          · exact ⟨_, rfl, trivial⟩
        · rename_i v h2
          obtain ⟨E2, w2, v', p1, p2, p3, p4⟩ := hcall
          rw [Frame.raise_atR] at p4
          exact ⟨_, rfl, E2, a, u, w2, v', _, S.mem p2.le p1, p2, p3, hent.trans p4⟩
        · rename_i hn1 hn2
          cases rr with
          | ret v h4 => exact absurd rfl (hn1 v h4)
          | thrown v h4 => exact absurd rfl (hn2 v h4)
          | no => exact ⟨_, rfl, trivial⟩
          | _ => exact hcall.elim
      · -- a deferred call
        rename_i d heq
        rw [heq] at hop
        obtain ⟨d', r1, r2⟩ := hop
        split
        · exact ⟨_, rfl, trivial⟩
        · rename_i hro
          have hsem : o.semAt X.b.roundOf a.eval = execOp a.eval o := by
            have : X.b.roundOf = none := by rw [hX.ro, hro]; rfl
            rw [this]; rfl
          split
          · rename_i s' hp
            have S1 : SRel base w0 E X cx { s with df := d :: s.df } { a with defers := d' :: a.defers } u w := ⟨S.sz, S.tm, .cons _ _ _ _ r2 S.df, S.pan, S.hr⟩
            obtain ⟨S2, e⟩ := put_sound S1 hp (undef_VR E)
            exact cont E _ u w s' S2 (by rw [e]; exact .refl _ _ _) (oper_defer ho' hw' (by rw [hsem]; exact r1))
          · exact ⟨_, rfl, trivial⟩
      · -- recover
        rename_i heq
        have hsem := sem (by rw [heq]; simp) (by rw [heq]; simp)
        rw [heq] at hop
        simp only [Out] at hop
        split
        · exact ⟨_, rfl, trivial⟩
        · rename_i hro
          have hro' : X.b.roundOf = none := by rw [hX.ro, hro]; rfl
          have hk : (X.b.atR a (.inRegion ops (i :: (List.range ops.size).drop (i + 1)) :: k)).kind = X.b.kind := rfl
          split
          · rename_i v hpan
            split
            · rename_i s' hp
              rcases S.pan with ⟨_, hp0⟩ | ⟨hkd, hpm⟩
              · rw [hpan] at hp0; simp at hp0
              · rcases hX.st with ⟨hk0, _⟩ | ⟨_, c, rest, hcs⟩
                · rw [hk0] at hkd; simp at hkd
                · rw [hpan] at hpm
                  cases hpm with | pan _ v' _ hv =>
                  have S1 : SRel base w0 E X cx { s with pan := some (v, true) } a (.panicking [{ v := v', recovered := true }]) w :=
                    ⟨S.sz, S.tm, S.df, .inr ⟨hkd, .pan _ _ _ hv⟩, S.hr⟩
                  obtain ⟨S2, e⟩ := put_sound S1 hp hv
                  refine cont E _ _ w s' S2 (by rw [e]; exact .refl _ _ _) ?_
                  refine oper_recover_some ho' hw' hro' ?_ (by rw [hsem]; exact hop)
                  simp [tryRecover, hk, hkd, hcs]
            · exact ⟨_, rfl, trivial⟩
          · rename_i hnp
            split
            · rename_i s' hp
              obtain ⟨S2, e⟩ := put_sound S hp (.niliface : VR E .niliface .nilIface)
              refine cont E _ u w s' S2 (by rw [e]; exact .refl _ _ _) ?_
              refine oper_recover_none ho' hw' hro' ?_ (by rw [hsem]; exact hop)
              rcases hX.st with ⟨hk0, _⟩ | ⟨hk0, c, rest, hcs⟩
              · simp [tryRecover, hk, hk0]
              · rcases S.pan with ⟨hkn, _⟩ | ⟨hkd, hpm⟩
                · rw [hk0] at hkn; simp at hkn
                · generalize hsp : s.pan = sp at hpm hnp
                  cases hpm with
                  | ret => simp [tryRecover, hk, hk0, hcs]
                  | pan v v' r hv =>
                    cases r with
                    | true => simp [tryRecover, hk, hk0, hcs]
                    | false => exact absurd rfl (hnp v)
            · exact ⟨_, rfl, trivial⟩
      · -- a panic
        rename_i v h' heq
        have hsem := sem (by rw [heq]; simp) (by rw [heq]; simp)
        rw [heq] at hop
        obtain ⟨rfl, v', r1, r2⟩ := hop
        exact ⟨_, rfl, E, a, u, w, v', _, S, .refl _ _ _, r2, oper_panic ho' hw' (by rw [hsem]; exact r1)⟩
      · -- one of several
        rename_i l heq
        have hsem := sem (by rw [heq]; simp) (by rw [heq]; simp)
        rw [heq] at hop
        obtain ⟨p, hp, E1, w1, v', r1, r2, r3, r4⟩ := hop
        refine alt_choose rec cx ops.toList rest' s o.dst l p hp ?_
        split
        · rename_i s' hp
          obtain ⟨S1, e⟩ := put_sound (S.mem r4.le r3) hp r2
          exact cont E1 _ u w1 s' S1 (by rw [e]; exact r4) (oper_value ho' hw' (by rw [hsem]; exact r1))
        · exact ⟨_, rfl, trivial⟩
      · exact ⟨_, rfl, trivial⟩
end Ev
