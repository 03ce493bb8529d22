/- A part of the proof that what the evaluator (EvDefs) says of a call is what the machine does: EvRun5. Conditions: those that each theorem states. -/
import Derived.Test.YtnaihoegbmpjiaaGreatEvRun4
set_option linter.unusedVariables false
set_option linter.unusedSimpArgs false
namespace Ev
open Go Go.RowKit

variable {P : Program} {T : Tabs} {base : Nat} {w0 : World}

theorem thr_leaf {fn : FuncId} {df : List ADef} {v : AV} {h : Heap} : Lf (match df, T.fn fn with
          | [], some _ => .thrown v h
          | _, _ => .no "round: defers" []) (match df, T.fn fn with
          | [], some _ => .thrown v h
          | _, _ => .no "round: defers" []) := by split <;> rfl
theorem round_sound (ok : TabsOK P T) (rec : Task → Res) (ih : ∀ t, TaskOK P base w0 t (rec t)) (l : Nat) (fn : FuncId) (tm : Tr AV) (nt : Nat) (as bd : Code) (h : Heap) :
    TaskOK P base w0 (.round l fn tm nt as bd h) (Ev.step T rec (.round l fn tm nt as bd h)) := by
  intro E tmps w c cs hdl hsz ht H
  simp only [Ev.step]
  let b : Frame := { (default : Frame) with fn := fn, kind := .normal, roundOf := some (E.blk l) }
  have hb0 : Frame.round (E.blk l) fn tmps as bd .normal = b.atR { tmps := tmps, defers := [] } [.code as, .beginRound, .code bd] := by
    simp [Frame.round, Frame.atR, b]
  rw [hb0]
  have hX : CxR E { b := b, cs := fun _ => c :: cs } { fn := fn, nt := nt, round := some l } :=
    ⟨rfl, rfl, by intro l' hl'; cases hl'; exact hdl, .inl ⟨rfl, _, rfl⟩⟩
  have S : SRel base w0 E { b := b, cs := fun _ => c :: cs } { fn := fn, nt := nt, round := some l } { tm := tm, df := [], pan := none, h := h } { tmps := tmps, defers := [] } .run w :=
    ⟨hsz, ht, .nil, .inl ⟨rfl, rfl⟩, H⟩
  obtain ⟨r1, m1, h1⟩ := ih (.code { fn := fn, nt := nt, round := some l } as { tm := tm, df := [], pan := none, h := h }) E _ _ .run w [.beginRound, .code bd] _ (.inl rfl) hX S
  -- a panic in the round
  have thrown : ∀ (E1 : En) (a1 : Act) (u1 : FrameMode) (w1 : World) (s1 : St) (v : AV) (v' : Value) (todo : List Item),
      SRel base w0 E1 { b := b, cs := fun _ => c :: cs } { fn := fn, nt := nt, round := some l } s1 a1 u1 w1 → Ste E h w E1 s1.h w1 → VR E1 v v' →
      Steps P (lone (b.atR { tmps := tmps, defers := [] } [.code as, .beginRound, .code bd]) (c :: cs) w) (lone { b.atR a1 todo with mode := .panicking [{ v := v', recovered := false }] } (c :: cs) w1) →
      RoundOK P base w0 (lone (b.atR { tmps := tmps, defers := [] } [.code as, .beginRound, .code bd]) (c :: cs) w) c cs E h w
        (match s1.df, T.fn fn with
          | [], some _ => .thrown v s1.h
          | _, _ => .no "round: defers" []) := by
    intro E1 a1 u1 w1 s1 v v' todo S1 st hv hs
    split
    · rename_i F hdf hF
      obtain ⟨hf, _⟩ := ok.fn fn F hF
      have hd := S1.df
      rw [hdf] at hd
      generalize had : a1.defers = ad at hd
      cases hd
      refine ⟨E1, w1, v', S1.hr, st, hv, hs.trans (.one (step_leave_panicked (chain := [{ v := v', recovered := false }]) ⟨rfl, had, F, hf⟩))⟩
    · trivial
  refine Lf.bind m1 ?_
  split
  · rename_i s1
    obtain ⟨E1, a1, u1, w1, p1, p2, p3⟩ := h1
    have hdl1 := p2.le.dom _ hdl
    have hblk := p2.le.blk _ hdl
    split
    · rename_i pend fn' tm' nt' ps' as' bd' d' hg
      obtain ⟨q0, q1, tmps1, q2, q3, q4⟩ := p1.hr.obj _ _ hdl1 hg
      rw [hblk] at q2
      have hbeg := run_beginRound (P := P) q2 rfl
      have K := HR.put p1.hr hdl1 hg trivial (.loop { state := .busy, pending := pend, fn := fn', tmps := tmps1, params := ps'.toArray, assign := as', body := bd', defers := E1.blk d' }) (.loop .busy pend fn' tm' nt' ps' as' bd' d')
        ⟨q0, q1, tmps1, World.putObj_heap_same (p1.hr.live hdl1 hg trivial), q3, q4⟩
      rw [hblk] at K
      have hs1 := stepR_beginRound (P := P) (b := b) (a := a1) (k := [.code bd]) (cs := c :: cs) (w := w1) rfl hbeg
      have S1 := p1.mem (.refl E1) K.1
      obtain ⟨r2, m2, h2⟩ := ih (.code { fn := fn, nt := nt, round := some l } bd { s1 with h := s1.h.set l (.loop .busy pend fn' tm' nt' ps' as' bd' d') }) E1 _ a1 u1 _ [] _ (.inl rfl) (hX.mono p2.le) S1
      refine Lf.bind m2 ?_
      split
      · rename_i e s2
        obtain ⟨E2, a2, u2, w2, r1, r2, r3⟩ := h2
        have st2 : Ste E h w E2 s2.h w2 := (p2.trans K.2).trans r2
        have hdl2 := r2.le.dom _ hdl1
        have hblk2 := (r2.le.blk _ hdl1).trans hblk
        split
        · rename_i st3 pend3 fn3 tm3 nt3 ps3 as3 bd3 d3 hdf hg2
          obtain ⟨t0, t1, tmps2, t2, t3, t4⟩ := r1.hr.obj _ _ hdl2 hg2
          rw [hblk2] at t2
          have fin : ∀ (j : Option Code), (∃ a3 todo, Steps P (lone (b.atR a1 [.code bd]) (c :: cs) (w1.putObj (E.blk l) (.loop { state := .busy, pending := pend, fn := fn', tmps := tmps1, params := ps'.toArray, assign := as', body := bd', defers := E1.blk d' }))) (lone (b.atR a3 todo) (c :: cs) w2) ∧
              ∀ (v : Value) (w3 : World), (Instr.endRound (E.blk l) j).run P w2 = .ok v w3 → Go.step P (lone (b.atR a3 todo) (c :: cs) w2) = .next (lone (c.finish v) cs w3)) →
              RoundOK P base w0 (lone (b.atR { tmps := tmps, defers := [] } [.code as, .beginRound, .code bd]) (c :: cs) w) c cs E h w
                (.ret (.bool j.isNone) (s2.h.set l (.loop (if j.isNone then .ready else .done) j fn3 tm3 nt3 ps3 as3 bd3 d3))) := by
            rintro j ⟨a3, todo, s3, s4⟩
            have hend := run_endRound (P := P) j t2
            have K2 := HR.put r1.hr hdl2 hg2 trivial (.loop { state := if j.isNone then .ready else .done, pending := j, fn := fn3, tmps := tmps2, params := ps3.toArray, assign := as3, body := bd3, defers := E2.blk d3 }) (.loop (if j.isNone then .ready else .done) j fn3 tm3 nt3 ps3 as3 bd3 d3)
              ⟨t0, t1, tmps2, World.putObj_heap_same (r1.hr.live hdl2 hg2 trivial), t3, t4⟩
            rw [hblk2] at K2
            exact ⟨E2, _, _, K2.1, st2.trans K2.2, .bool _, p3.trans (.head hs1 (s3.trans (.one (s4 _ _ hend))))⟩
          cases e with
          | normal => exact ex_leaf rfl <| fin none ⟨a2, [], r3, fun v w3 hr => stepR_round_end rfl rfl hr⟩
          | ret =>
            obtain ⟨k1, r3⟩ := r3
            exact ex_leaf rfl <| fin (some .ret) ⟨a2, _, r3, fun v w3 hr => stepR_round_ret rfl rfl hr⟩
          | exit id =>
            obtain ⟨k1, r3, r4⟩ := r3
            exact ex_leaf rfl <| fin (some (.exit id)) ⟨a2, _, r3, fun v w3 hr => stepR_round_exit rfl rfl (r4.trans rfl) hr⟩
          | goto t => exact r3.elim
        · exact ⟨_, rfl, trivial⟩
      · rename_i v s2
        obtain ⟨E2, a2, u2, w2, v', todo, r1, r2, r3, r4⟩ := h2
        exact ex_leaf thr_leaf <| thrown E2 a2 u2 w2 s2 v v' todo r1 ((p2.trans K.2).trans r2) r3 (p3.trans (.head hs1 r4))
      · rename_i hn1 hn2
        cases r2 with
        | fin e s => exact absurd rfl (hn1 e s)
        | pan v s => exact absurd rfl (hn2 v s)
        | no => exact ⟨_, rfl, trivial⟩
        | _ => exact h2.elim
    · exact ⟨_, rfl, trivial⟩
  · exact ⟨_, rfl, trivial⟩
  · rename_i v s1
    obtain ⟨E1, a1, u1, w1, v', todo, p1, p2, p3, p4⟩ := h1
    exact ex_leaf thr_leaf <| thrown E1 a1 u1 w1 s1 v v' todo p1 p2 p3 p4
  · rename_i hn1 hn2 hn3
    cases r1 with
    | fin e s => exact absurd rfl (hn2 e s)
    | pan v s => exact absurd rfl (hn3 v s)
    | no => exact ⟨_, rfl, trivial⟩
    | _ => exact h1.elim

theorem step_sound (ok : TabsOK P T) (hsm : ∀ f args h v h', T.sm f args h = some (v, h') → TaskOK P base w0 (.call f args h) (.ret v h')) (rec : Task → Res) (ih : ∀ t, TaskOK P base w0 t (rec t)) (hdr : DrawnOK P T base w0 rec) :
    ∀ t, TaskOK P base w0 t (Ev.step T rec t)
  | .code cx c s => code_sound ok rec ih hdr cx c s
  | .ops cx all rest s => ops_sound ok rec ih cx all rest s
  | .call f args h => call_sound ok hsm rec ih f args h
  | .round l fn tm nt as bd h => round_sound ok rec ih l fn tm nt as bd h
  | .leave f tm ds pan h => leave_sound ok rec ih f tm ds pan h
  | .dcall f args pan h => dcall_sound ok rec ih f args pan h

theorem no_ok (why : String) (l : List FuncId) : ∀ t, TaskOK P base w0 t (.no why l)
  | .code .. => fun _ _ _ _ _ _ _ _ _ _ => ⟨_, rfl, trivial⟩
  | .ops .. => fun _ _ _ _ _ _ _ _ _ _ _ _ => ⟨_, rfl, trivial⟩
  | .call .. => fun _ _ _ _ _ _ => ⟨_, rfl, trivial⟩
  | .round .. => fun _ _ _ _ _ _ _ _ _ => ⟨_, rfl, trivial⟩
  | .leave .. => fun _ _ _ _ _ _ _ _ _ _ => ⟨_, rfl, trivial⟩
  | .dcall .. => fun _ _ _ _ _ _ _ _ => ⟨_, rfl, trivial⟩
end Ev
