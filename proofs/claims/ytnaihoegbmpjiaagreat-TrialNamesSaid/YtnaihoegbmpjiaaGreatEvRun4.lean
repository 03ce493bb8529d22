/- A part of the proof that what the evaluator (EvDefs) says of a call is what the machine does: EvRun4. Conditions: those that each theorem states. -/
import Derived.Test.YtnaihoegbmpjiaaGreatEvRun3
set_option linter.unusedVariables false
set_option linter.unusedSimpArgs false
namespace Ev
open Go Go.RowKit

variable {P : Program} {T : Tabs} {base : Nat} {w0 : World}

/-! ### a frame's beginning and its end -/
theorem argsTm_get : ∀ (l : List AV) (n : Nat) (t : Tr AV) (m : Nat), (argsTm l n t).get m = if n ≤ m ∧ m < n + l.length then l[m - n]? else t.get m
  | [], n, t, m => by simp [argsTm]; omega
  | a :: l, n, t, m => by
    simp only [argsTm]
    rw [argsTm_get l (n + 1) (t.set n a) m, Tr.get_set]
    simp only [List.length_cons]
    by_cases h1 : m = n
    · subst h1; rw [if_neg (by omega), if_pos rfl, if_pos (by omega)]; simp
    · by_cases h2 : n + 1 ≤ m ∧ m < n + 1 + l.length
      · rw [if_pos h2, if_pos (by omega)]
        obtain ⟨q, rfl⟩ : ∃ q, m = n + 1 + q := ⟨m - (n + 1), by omega⟩
        have e : n + 1 + q - n = q + 1 := by omega
        rw [e]; simp
      · rw [if_neg h2, if_neg h1, if_neg (by omega)]
theorem args_TR {E : En} {args : List AV} {args' : List Value} (ha : VRs E args args') (n : Nat) : TR E (argsTm args 0 .nil) (args'.toArray ++ Array.replicate n undef) := by
  intro t v hv
  rw [argsTm_get] at hv
  split at hv
  · rename_i h
    obtain ⟨v', h1, h2⟩ := ha.get hv
    refine ⟨v', ?_, h2⟩
    have hl := ha.length
    rw [Array.getElem?_append_left (by simp; omega)]
    simpa using h1
  · rw [Tr.get_nil] at hv; simp at hv

theorem enter_at {f : FuncId} {F : Func} {c : Code} (hf : P.funcs[f]? = some F) (hb : F.body = some c) (args : Array Value) (kind : CallKind) :
    Frame.enter P f args kind = ({ (default : Frame) with fn := f, kind := kind } : Frame).atR { tmps := args ++ Array.replicate (F.ntmps - args.size) undef, defers := [] } [.code c] := by
  have hd : (default : Frame).roundOf = none := rfl
  simp [Frame.enter, Frame.atR, hf, hb, hd]

def resF (tmps : Array Value) : ResultVar → Sem Value
  | .tmp t => pure (tmps.getD t undef)
  | .cell a t => do loadVar t (← asAddr (tmps.getD a undef))
theorem results_eq (F : Func) (tmps : Array Value) : results F tmps = (do
    let vs ← F.results.mapM (resF tmps)
    pure (if h : vs.size = 1 then vs[0] else .tuple vs)) := by
  unfold results
  congr 1
theorem max_size (a b : Nat) : a + (b - a) = Nat.max b a := by
  show _ = max b a
  omega
theorem results_sound (ok : TabsOK P T) {E : En} {h : Heap} {w : World} (H : HR base w0 E h w) {tm : Tr AV} {tmps : Array Value} (ht : TR E tm tmps) :
    ∀ (rs : List ResultVar) (vs : List AV), resultsA T tm h rs = some vs → ∃ vs' : List Value,
      (rs.mapM (resF tmps)).run P w = .ok vs' w ∧ VRs E vs vs'
  | [], vs, hv => by
    simp [resultsA] at hv; subst hv
    exact ⟨[], by simp, .nil⟩
  | .tmp t :: l, vs, hv => by
    unfold resultsA at hv
    split at hv <;> simp at hv
    rename_i v r h1 h2
    subst hv
    obtain ⟨v', a1, a2⟩ := ht t v h1
    obtain ⟨r', b1, b2⟩ := results_sound ok H ht l r h2
    refine ⟨v' :: r', ?_, .cons _ _ _ _ a2 b2⟩
    have : tmps.getD t undef = v' := by simp [a1]
    rw [List.mapM_cons]
    simp only [Sem.run_bind, resF, Sem.run_pure, Result.andThen_ok, this]
    rw [b1]
    simp
  | .cell a t :: l, vs, hv => by
    unfold resultsA at hv
    split at hv
    · rename_i b off h0
      split at hv <;> simp at hv
      rename_i v r h1 h2
      subst hv
      obtain ⟨p', a1, a2⟩ := ht a _ h0
      cases a2 with | ptr _ _ hd =>
      obtain ⟨v', c1, c2⟩ := load_var (P := P) ok hd H h1
      obtain ⟨r', b1, b2⟩ := results_sound ok H ht l r h2
      refine ⟨v' :: r', ?_, .cons _ _ _ _ c2 b2⟩
      have : tmps.getD a undef = .pointer (some (E.at b off)) := by simp [a1]
      have had : (asAddr (tmps.getD a undef)).run P w = .ok (E.at b off) w := by rw [this]; rfl
      rw [List.mapM_cons]
      simp only [Sem.run_bind, resF, Sem.run_pure, Result.andThen_ok, had, c1]
      rw [b1]
      simp
    · simp at hv
theorem results_run (ok : TabsOK P T) {E : En} {h : Heap} {w : World} (H : HR base w0 E h w) {tm : Tr AV} {tmps : Array Value} (ht : TR E tm tmps) {F : Func} {vs : List AV} (hv : resultsA T tm h F.results.toList = some vs) :
    ∃ v', (results F tmps).run P w = .ok v' w ∧ VR E (oneOf vs) v' := by
  obtain ⟨vs', h1, h2⟩ := results_sound (P := P) ok H ht _ _ hv
  have hrun : (F.results.mapM (resF tmps)).run P w = .ok vs'.toArray w := by
    rw [Array.mapM_eq_mapM_toList]
    simp only [Sem.run_map, h1, Result.andThen_ok]
  refine ⟨if h : vs'.toArray.size = 1 then vs'.toArray[0] else .tuple vs'.toArray, ?_, ?_⟩
  · rw [results_eq]
    simp only [Sem.run_bind]
    rw [hrun]
    rfl
  · match vs, vs', h2 with
    | [], _, .nil => exact .tuple [] [] .nil
    | [v], _, .cons _ v' _ _ hv .nil => exact hv
    | v :: u :: l, _, .cons _ v' _ _ hv (.cons _ u' _ l' hu hl) =>
      rw [dif_neg (by simp)]
      exact .tuple _ _ (.cons _ _ _ _ hv (.cons _ _ _ _ hu hl))

theorem exc_steps {m m' : Machine} {f : FuncId} {cs : List Frame} {E E1 : En} {h h1 : Heap} {w w1 : World} {r : Res} (hs : Steps P m m') (st : Ste E h w E1 h1 w1)
    (H : ∃ q, Lf r q ∧ CallOK P base w0 m' f cs E1 h1 w1 q) : ∃ q, Lf r q ∧ CallOK P base w0 m f cs E h w q := by
  obtain ⟨q, hl, H⟩ := H
  exact ⟨q, hl, CallOK.of_steps hs st H⟩
theorem call_sound (ok : TabsOK P T) (hsm : ∀ f args h v h', T.sm f args h = some (v, h') → TaskOK P base w0 (.call f args h) (.ret v h')) (rec : Task → Res) (ih : ∀ t, TaskOK P base w0 t (rec t)) (f : FuncId) (args : List AV) (h : Heap) :
    TaskOK P base w0 (.call f args h) (Ev.step T rec (.call f args h)) := by
  simp only [Ev.step]
  split
  · rename_i v h' hs
    exact hsm _ _ _ _ _ hs
  · rename_i hs
    intro E args' w cs ha H
    split
    · rename_i F hF
      obtain ⟨hf, _⟩ := ok.fn f F hF
      split
      · rename_i c hb
        have hlen := ha.length
        rw [enter_at hf hb]
        have hX : CxR E { b := { (default : Frame) with fn := f, kind := .normal }, cs := fun _ => cs } { fn := f, nt := Nat.max F.ntmps args.length, round := none } :=
          ⟨rfl, rfl, by simp, .inl ⟨rfl, cs, rfl⟩⟩
        have S : SRel base w0 E { b := { (default : Frame) with fn := f, kind := .normal }, cs := fun _ => cs } { fn := f, nt := Nat.max F.ntmps args.length, round := none }
            { tm := argsTm args 0 .nil, df := [], pan := none, h := h } { tmps := args'.toArray ++ Array.replicate (F.ntmps - args'.toArray.size) undef, defers := [] } .run w :=
          ⟨by simp only [Array.size_append, Array.size_replicate, List.size_toArray]
              rw [← hlen]
              exact max_size _ _, args_TR ha _, .nil, .inl ⟨rfl, rfl⟩, H⟩
        obtain ⟨r1, m1, hc⟩ := ih (.code { fn := f, nt := Nat.max F.ntmps args.length, round := none } c { tm := argsTm args 0 .nil, df := [], pan := none, h := h }) E _ _ .run w [] _ (.inl rfl) hX S
        -- the end of the frame
        have out : ∀ (E1 : En) (a1 : Act) (u1 : FrameMode) (w1 : World) (s1 : St) (pn : Option (AV × Bool)) (todo : List Item) (md : FrameMode),
            SRel base w0 E1 { b := { (default : Frame) with fn := f, kind := .normal }, cs := fun _ => cs } { fn := f, nt := Nat.max F.ntmps args.length, round := none } s1 a1 u1 w1 → Ste E h w E1 s1.h w1 → PanM E1 pn md →
            Steps P (lone (({ (default : Frame) with fn := f, kind := .normal } : Frame).atR { tmps := args'.toArray ++ Array.replicate (F.ntmps - args'.toArray.size) undef, defers := [] } [.code c]) cs w)
              (lone { ({ (default : Frame) with fn := f, kind := .normal } : Frame).atR a1 todo with mode := md } cs w1) →
            ∃ q, Lf (rec (.leave f s1.tm s1.df pn s1.h)) q ∧ CallOK P base w0 (lone (({ (default : Frame) with fn := f, kind := .normal } : Frame).atR { tmps := args'.toArray ++ Array.replicate (F.ntmps - args'.toArray.size) undef, defers := [] } [.code c]) cs w) f cs E h w q := by
          intro E1 a1 u1 w1 s1 pn todo md S1 st hp hs
          have := ih (.leave f s1.tm s1.df pn s1.h) E1 { ({ (default : Frame) with fn := f, kind := .normal } : Frame).atR a1 todo with mode := md } w1 cs rfl rfl S1.tm S1.df hp S1.hr
          exact exc_steps hs st this
        refine Lf.bind m1 ?_
        split
        · rename_i s1
          obtain ⟨E1, a1, u1, w1, p1, p2, p3⟩ := hc
          exact out E1 a1 u1 w1 s1 none [] .returning p1 p2 .ret (p3.trans (.one (stepR_end rfl)))
        · rename_i s1
          obtain ⟨E1, a1, u1, w1, p1, p2, k1, p3⟩ := hc
          exact out E1 a1 u1 w1 s1 none _ .returning p1 p2 .ret (p3.trans (.one (stepR_ret rfl)))
        · rename_i v s1
          obtain ⟨E1, a1, u1, w1, v', todo, p1, p2, p3, p4⟩ := hc
          exact out E1 a1 u1 w1 s1 (some (v, false)) todo _ p1 p2 (.pan _ _ _ p3) p4
        · exact ⟨_, rfl, trivial⟩
        · rename_i hn1 hn2 hn3 hn4
          cases r1 with
          | fin e s => exact absurd rfl (hn4 e s)
          | pan v s => exact absurd rfl (hn3 v s)
          | no => exact ⟨_, rfl, trivial⟩
          | _ => exact hc.elim
      · exact ⟨_, rfl, trivial⟩
    · exact ⟨_, rfl, trivial⟩

def settleA : Option (AV × Bool) → Option (AV × Bool)
  | some (_, true) => none
  | p => p
theorem settle_of {E : En} {p : Option (AV × Bool)} {u : FrameMode} (h : PanM E p u) : PanM E (settleA p) (settle u) := by
  cases h with
  | ret => exact .ret
  | pan v v' r hv =>
    cases r with
    | true => simp only [settle, settleA, List.dropWhile_nil]; exact .ret
    | false => simp only [settle, settleA]; exact .pan _ _ _ hv

theorem leave_sound (ok : TabsOK P T) (rec : Task → Res) (ih : ∀ t, TaskOK P base w0 t (rec t)) (f : FuncId) (tm : Tr AV) (ds : List ADef) (pan : Option (AV × Bool)) (h : Heap) :
    TaskOK P base w0 (.leave f tm ds pan h) (Ev.step T rec (.leave f tm ds pan h)) := by
  intro E fr w cs hfn hk ht hd hp H
  simp only [Ev.step]
  have hrun : fr.mode ≠ .run := by
    intro e
    rw [e] at hp
    cases hp
  split
  · -- no deferred call left
    generalize hfd : fr.defers = fd at hd
    cases hd
    generalize hmd : fr.mode = md at hp
    cases hp with
    | ret =>
      simp only
      split
      · rename_i F hF
        obtain ⟨hf, _⟩ := ok.fn f F hF
        split
        · rename_i vs hv
          obtain ⟨v', r1, r2⟩ := results_run (P := P) ok H ht hv
          exact ⟨_, rfl, E, w, v', fr, H, .refl _ _ _, r2, .refl _ _, hfn, hmd, hfd, hk, F, by rw [hfn]; exact hf, r1⟩
        · exact ⟨_, rfl, trivial⟩
      · exact ⟨_, rfl, trivial⟩
    | pan v v' r hv =>
      cases r with
      | true => exact ⟨_, rfl, trivial⟩
      | false =>
        simp only
        split
        · rename_i F hF
          obtain ⟨hf, _⟩ := ok.fn f F hF
          exact ⟨_, rfl, E, w, v', fr, H, .refl _ _ _, hv, .refl _ _, hfn, hmd, hfd, F, by rw [hfn]; exact hf⟩
        · exact ⟨_, rfl, trivial⟩
  · -- the mark of a loop over a function
    rename_i b ds'
    generalize hfd : fr.defers = fd at hd
    cases hd with | cons _ d' _ l' hd0 hdl =>
    cases hd0 with | collected _ hdb =>
    split
    · rename_i l hg
      obtain ⟨hb, ds2, h1, l2, rfl, h2⟩ := H.obj b _ hdb hg
      have htake := run_takeDeferred (P := P) h1
      have K := HR.put H hdb hg trivial (.deferred none) (.dfr none) ⟨hb, none, World.putObj_heap_same (H.live hdb hg trivial), rfl⟩
      have hs := step_collected (cs := cs) hrun hfd rfl htake
      have := ih (.leave f tm (l ++ ds') pan (h.set b (.dfr none))) E { fr with defers := l2 ++ l' } _ cs hfn hk ht (h2.append hdl) hp K.1
      exact exc_steps (.one hs) K.2 this
    · exact ⟨_, rfl, trivial⟩
  · -- a function's call
    rename_i fn cap args ds'
    generalize hfd : fr.defers = fd at hd
    cases hd with | cons _ d' _ l' hd0 hdl =>
    cases hd0 with | fn _ f' hf _ _ cap' args' hc ha =>
    have hinv := invoke_sound (base := base) (w0 := w0) ok H hf hc ha
    split
    · rename_i g as h' heq
      rw [heq] at hinv
      obtain ⟨rfl, as', i1, i2⟩ := hinv
      have hs := step_defer (cs := cs) hrun hfd rfl i1
      obtain ⟨r1, m1, hdc⟩ := ih (.dcall g as pan h') E as' w { fr with defers := l' } cs i2 hp H
      refine Lf.bind m1 ?_
      split
      · rename_i p2 h2
        obtain ⟨E1, w1, u1, v1, frX, q1, q2, q3, q4, q5, q6⟩ := hdc
        have h3 := step_going_returned (c := { { fr with defers := l' } with mode := u1 }) (cs := cs) q5 q6
        have := ih (.leave f tm ds' (settleA p2) h2) E1 { { { fr with defers := l' } with mode := u1 } with mode := settle u1 } w1 cs hfn hk (ht.mono q2.le) (hdl.mono q2.le) (settle_of q3) q1
        have fin := exc_steps (.head hs (q4.trans (.one h3))) q2 this
        cases p2 with
        | none => exact fin
        | some x =>
          obtain ⟨v, r⟩ := x
          cases r <;> exact fin
      · exact ⟨_, rfl, trivial⟩
      · rename_i hn1 hn2
        cases r1 with
        | dret p h4 => exact absurd rfl (hn1 p h4)
        | thrown v h4 => exact absurd rfl (hn2 v h4)
        | no => exact ⟨_, rfl, trivial⟩
        | _ => exact hdc.elim
    · exact ⟨_, rfl, trivial⟩
    · exact ⟨_, rfl, trivial⟩

theorem dcall_sound (ok : TabsOK P T) (rec : Task → Res) (ih : ∀ t, TaskOK P base w0 t (rec t)) (f : FuncId) (args : List AV) (pan : Option (AV × Bool)) (h : Heap) :
    TaskOK P base w0 (.dcall f args pan h) (Ev.step T rec (.dcall f args pan h)) := by
  intro E args' w c0 cs ha hp H
  simp only [Ev.step]
  split
  · rename_i F hF
    obtain ⟨hf, _⟩ := ok.fn f F hF
    split
    · exact ⟨_, rfl, trivial⟩
    · rename_i hres
      split
      · rename_i c hb
        have hlen := ha.length
        rw [enter_at hf hb]
        have hc0 : ({ c0 with mode := c0.mode } : Frame) = c0 := rfl
        have hX : CxR E { b := { (default : Frame) with fn := f, kind := .deferred }, cs := fun u => { c0 with mode := u } :: cs } { fn := f, nt := Nat.max F.ntmps args.length, round := none } :=
          ⟨rfl, rfl, by simp, .inr ⟨rfl, c0, cs, rfl⟩⟩
        have S : SRel base w0 E { b := { (default : Frame) with fn := f, kind := .deferred }, cs := fun u => { c0 with mode := u } :: cs } { fn := f, nt := Nat.max F.ntmps args.length, round := none }
            { tm := argsTm args 0 .nil, df := [], pan := pan, h := h } { tmps := args'.toArray ++ Array.replicate (F.ntmps - args'.toArray.size) undef, defers := [] } c0.mode w :=
          ⟨by simp only [Array.size_append, Array.size_replicate, List.size_toArray]
              rw [← hlen]
              exact max_size _ _, args_TR ha _, .nil, .inr ⟨rfl, hp⟩, H⟩
        obtain ⟨r1, m1, hc⟩ := ih (.code { fn := f, nt := Nat.max F.ntmps args.length, round := none } c { tm := argsTm args 0 .nil, df := [], pan := pan, h := h }) E _ _ c0.mode w [] _ (.inl rfl) hX S
        have out : ∀ (E1 : En) (a1 : Act) (u1 : FrameMode) (w1 : World) (s1 : St) (todo : List Item), s1.df = [] →
            SRel base w0 E1 { b := { (default : Frame) with fn := f, kind := .deferred }, cs := fun u => { c0 with mode := u } :: cs } { fn := f, nt := Nat.max F.ntmps args.length, round := none } s1 a1 u1 w1 → Ste E h w E1 s1.h w1 →
            Steps P (lone (({ (default : Frame) with fn := f, kind := .deferred } : Frame).atR { tmps := args'.toArray ++ Array.replicate (F.ntmps - args'.toArray.size) undef, defers := [] } [.code c]) (c0 :: cs) w)
              (lone { ({ (default : Frame) with fn := f, kind := .deferred } : Frame).atR a1 todo with mode := .returning } ({ c0 with mode := u1 } :: cs) w1) →
            DcallOK P base w0 (lone (({ (default : Frame) with fn := f, kind := .deferred } : Frame).atR { tmps := args'.toArray ++ Array.replicate (F.ntmps - args'.toArray.size) undef, defers := [] } [.code c]) (c0 :: cs) w) c0 cs E h w (.dret s1.pan s1.h) := by
          intro E1 a1 u1 w1 s1 todo hdf S1 st hs
          have hdd := S1.df
          rw [hdf] at hdd
          have hpm : PanM E1 s1.pan u1 := by
            rcases S1.pan with ⟨hkn, _⟩ | ⟨_, h2⟩
            · simp at hkn
            · exact h2
          refine ⟨E1, w1, u1, .tuple #[], _, S1.hr, st, hpm, hs, rfl, rfl, ?_, F, hf, ?_⟩
          · show a1.defers = []
            generalize a1.defers = ad at hdd
            cases hdd; rfl
          · show (results F a1.tmps).run P w1 = _
            have : F.results = #[] := by
              apply Array.toList_inj.1; simpa using hres
            simp [results, this]
        refine Lf.bind m1 ?_
        split
        · rename_i e s1
          split
          · rename_i hdf
            obtain ⟨E1, a1, u1, w1, p1, p2, p3⟩ := hc
            exact ex_leaf rfl <| out E1 a1 u1 w1 s1 [] hdf p1 p2 (p3.trans (.one (stepR_end rfl)))
          · rename_i hdf
            obtain ⟨E1, a1, u1, w1, p1, p2, k1, p3⟩ := hc
            exact ex_leaf rfl <| out E1 a1 u1 w1 s1 _ hdf p1 p2 (p3.trans (.one (stepR_ret rfl)))
          · exact ⟨_, rfl, trivial⟩
        · exact ⟨_, rfl, trivial⟩
        · rename_i hn1 hn2
          cases r1 with
          | fin e s => exact absurd rfl (hn1 e s)
          | pan v s => exact absurd rfl (hn2 v s)
          | no => exact ⟨_, rfl, trivial⟩
          | _ => exact hc.elim
      · exact ⟨_, rfl, trivial⟩
  · exact ⟨_, rfl, trivial⟩
end Ev
