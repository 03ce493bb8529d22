/- 'DenCalls' answers true at any input, and nothing that was there before the call has turned: the given statement of the law DenCalls, with no condition of its own. Its walk by the rules over the evaluator (Dcm); lives() told by the evaluator in the kernel (Memo). -/
import Derived.Test.YtmnhbehmjaibgaaGreatRows
import Derived.Test.YtmnhbehmjaibgaaGreatMemo
import Derived.Test.YtmnhbehmjaibgaaGreatDcl
import Derived.Test.YtmnhbehmjaibgaaGreatGaj
import Derived.Test.YtmnhbehmjaibgaaGreatDnb
import Derived.Test.YtmnhbehmjaibgaaGreatGar
import Derived.WalkKit
import Derived.ProofKit
import Derived.OpenShut
import Derived.ChangeMaps5
namespace Go.Proofs.YtmnhbehmjaibgaaGreat.denCalls
open Go.ChangeShapes Go.WideShapes Go.ChangeAt Go.RowKit Go.ChangeMaps
set_option linter.unusedVariables false
theorem own : ownKnob Tryz.prog.godebug = none := by kernel_rfl
theorem laidOut : laidOutB Tryz.prog = true := by kernel_rfl
section
open Ev
theorem task_of_chk {P : Program} {T : a0n} (ok : a0v P T) (hT : ∀ (base : Nat) (w0 : World) f args h v h', T.sm f args h = some (v, h') → a1i P base w0 (.call f args h) (.ret v h')) {f : FuncId} {args : List AV} {v : AV} (hc : a7f T f args v = true) (base : Nat) (w0 : World) (h : a0a) : a1i P base w0 (.call f args h) (.ret v h) := by
  unfold a7f at hc
  split at hc
  · rename_i hp hv
    rw [c2b] at hc
    exact c5c ok hT hp hv hc base w0 h
  · cases hc
theorem lives_task (base : Nat) (w0 : World) (h : a0a) : a1i Tryz.prog base w0 (.call 7 [] h) (.ret (.bool true) h) :=
  task_of_chk (b0q.a2o _) (a9j f0h b0h) c5 base w0 h
theorem wordSm_ok (base : Nat) (w0 : World) : ∀ f args h v h', b9m f args h = some (v, h') → a1i Tryz.prog base w0 (.call f args h) (.ret v h') := by
  intro f args h v h' hs
  unfold b9m at hs
  split at hs
  · rename_i hf
    split at hs
    · cases hs
      have hf : a9p f [7] = true := hf
      simp only [a9p] at hf
      split at hf
      · rename_i e
        have e := Nat.eq_of_beq_eq_true e
        subst e
        exact lives_task _ _ _
      · cases hf
    · cases hs
  · split at hs
    · exact d8t base w0 hs
    · split at hs
      · exact b0h base w0 f args h v h' hs
      · cases hs
theorem TV_ok (n : Nat) : a0v Tryz.prog (TV n) := b0q.det.a2o _
theorem TVsm_ok (n : Nat) {W : World} : ∀ f args h v h', (TV n).sm f args h = some (v, h') → a1i Tryz.prog W.heap.size W (.call f args h) (.ret v h') :=
  c7m (wf := wf) (b0q.det.a2o b9m) (wordSm_ok _ _) n
theorem str_value {E : En} (s : ByteArray) : VR E (.str s.data.toList) (.string s) := by
  have := VR.str (E := E) s.data.toList
  have e : (⟨s.data.toList.toArray⟩ : ByteArray) = s := by cases s; simp
  rw [e] at this
  exact this
theorem walk {W : World} {E : En} {hh : a0a} (hr0 : HR Tryz.prog W.heap.size W E hh W) (hok : hh.ok) {a0 : Int} {s1 : ByteArray} {a2 : Int} {a3 : Int} {v4 : Value} {x4 : AV} {d4 : List (List UInt8 × List Pr)} {s5 : ByteArray} {s6 : ByteArray} (w0 : (Lit.int .i64 a0).wf = true) (l1 : s1.size ≤ maxLen) (w2 : (Lit.int .u32 a2).wf = true) (w3 : (Lit.int .i64 a3).wf = true) (y4 : VR E (.agg [x4]) v4) (z4 : a6c hh x4 d4) (f4 : e6s d4) (l5 : s5.size ≤ maxLen) (l6 : s6.size ≤ maxLen) :
    Calls Tryz.prog 5 #[.int .i64 a0, .string s1, .int .u32 a2, .int .i64 a3, v4, .string s5, .string s6] W fun e w' => e = .returned (.bool true) ∧ Below W.heap.size W w' := by
  have hm : maxLen < 9223372036854775808 := by decide +kernel
  have k0 : -9223372036854775808 ≤ a0 ∧ a0 < 9223372036854775808 := by
    simp only [Lit.wf, Bool.and_eq_true, decide_eq_true_eq] at w0
    have m1 : IntKind.min .i64 = -9223372036854775808 := rfl
    have m2 : IntKind.max .i64 = 9223372036854775807 := rfl
    rw [m1, m2] at w0
    omega
  have b1 : s1.data.toList.length < 9223372036854775808 := by
    have : s1.data.toList.length = s1.size := Array.length_toList
    omega
  have k2 : 0 ≤ a2 ∧ a2 < 4294967296 := by
    simp only [Lit.wf, Bool.and_eq_true, decide_eq_true_eq] at w2
    have m1 : IntKind.min .u32 = 0 := rfl
    have m2 : IntKind.max .u32 = 4294967295 := rfl
    rw [m1, m2] at w2
    omega
  obtain ⟨r2, rfl⟩ : ∃ r : Nat, a2 = r := ⟨a2.toNat, by omega⟩
  have k3 : -9223372036854775808 ≤ a3 ∧ a3 < 9223372036854775808 := by
    simp only [Lit.wf, Bool.and_eq_true, decide_eq_true_eq] at w3
    have m1 : IntKind.min .i64 = -9223372036854775808 := rfl
    have m2 : IntKind.max .i64 = 9223372036854775807 := rfl
    rw [m1, m2] at w3
    omega
  have b5 : s5.data.toList.length < 9223372036854775808 := by
    have : s5.data.toList.length = s5.size := Array.length_toList
    omega
  have b6 : s6.data.toList.length < 9223372036854775808 := by
    have : s6.data.toList.length = s6.size := Array.length_toList
    omega
  exact c9z (TV_ok 60) (TVsm_ok 60) (d5f (n := 60) (by omega) (z := a0) (img := s1.data.toList) (m := r2) (kd := a3) (v := x4) (bs := d4) (nm := s5.data.toList) (key := s6.data.toList) hok b1 (by omega) z4 f4.fit.1 f4.fit.2 b5 b6) (.cons _ _ _ _ (.int ..) (.cons _ _ _ _ (str_value s1) (.cons _ _ _ _ (.int ..) (.cons _ _ _ _ (.int ..) (.cons _ _ _ _ y4 (.cons _ _ _ _ (str_value s5) (.cons _ _ _ _ (str_value s6) .nil))))))) hr0
end
set_option maxRecDepth 100000 in
theorem lifted (os : Os) (started : os.Started) (H : Type) (enc : TypeId × Value → H) :
    ReturnsInHanded {} Tryz.checked os 5 .any (Rows.denCallsSpec.pre6 enc Tryz.prog Tryz.f5 Rows.denCallsRow.domain false) (Rows.denCallsSpec.post enc Tryz.prog Tryz.f5 false true false false) := by
  refine returnsInHanded_of_change (C := Tryz.checked) own started (by kernel_rfl) Tryz.func5
    (ChangeSpec.witness6 (enc := enc) (C := Tryz.checked) false ⟨#[], #[.int .i64 0, .string .empty, .int .u32 0, .int .i64 0, .agg #[.slice none 0 0], .string .empty, .string .empty], []⟩ 8 (by kernel_rfl) (by kernel_rfl) (by kernel_rfl) (by kernel_rfl)) ?_
  intro W base args ds gs before hval0 hW hcnd _
  have hval : ∀ (j : Nat) t v, Tryz.f5.params[j]? = some t → args[j]? = some v → Value.okWide Tryz.prog W .any base t v := hval0
  have hW' := hW
  obtain ⟨p, q, hA0, hV, rfl, hfz, hnd⟩ := hW
  have hA : DataW.TrodAll enc Tryz.prog W 0 (fun _ => true) true Tryz.f5.params.toList args.toList ds p := hA0
  rw [Tryz.params5] at hA hval
  obtain ⟨v0, vs0, d0, ds0, p0, q0, hargs, rfl, rfl, h0, r0⟩ := trodAll_cons hA
  obtain ⟨v1, vs1, d1, ds1, p1, q1, rfl, rfl, rfl, h1, r1⟩ := trodAll_cons r0
  obtain ⟨v2, vs2, d2, ds2, p2, q2, rfl, rfl, rfl, h2, r2⟩ := trodAll_cons r1
  obtain ⟨v3, vs3, d3, ds3, p3, q3, rfl, rfl, rfl, h3, r3⟩ := trodAll_cons r2
  obtain ⟨v4, vs4, d4, ds4, p4, q4, rfl, rfl, rfl, h4, r4⟩ := trodAll_cons r3
  obtain ⟨v5, vs5, d5, ds5, p5, q5, rfl, rfl, rfl, h5, r5⟩ := trodAll_cons r4
  obtain ⟨v6, vs6, d6, ds6, p6, q6, rfl, rfl, rfl, h6, r6⟩ := trodAll_cons r5
  obtain ⟨rfl, rfl, rfl⟩ := trodAll_nil r6
  obtain rfl : args = #[v0, v1, v2, v3, v4, v5, v6] := by cases args; simp_all
  obtain ⟨rfl, rfl⟩ := trodVars_none hV
  obtain ⟨a0, rfl, rfl, rfl, w0⟩ := open_int Tryz.underlying3 (hval 0 3 v0 rfl rfl) h0
  obtain ⟨s1, rfl, rfl, rfl, l1⟩ := open_string Tryz.underlying9 (hval 1 9 v1 rfl rfl) h1
  obtain ⟨a2, rfl, rfl, rfl, w2⟩ := open_int Tryz.underlying22 (hval 2 22 v2 rfl rfl) h2
  obtain ⟨a3, rfl, rfl, rfl, w3⟩ := open_int Tryz.underlying3 (hval 3 3 v3 rfl rfl) h3
  obtain ⟨m4, x4, d4v, o4, y4, z4, f4⟩ := e1n (Ev.f1o W) (hval 4 27 v4 rfl rfl) h4
  obtain ⟨s5, rfl, rfl, rfl, l5⟩ := open_string Tryz.underlying9 (hval 5 9 v5 rfl rfl) h5
  obtain ⟨s6, rfl, rfl, rfl, l6⟩ := open_string Tryz.underlying9 (hval 6 9 v6 rfl rfl) h6
  refine (walk (Ev.f4b o4) (Ev.b6s _).1 w0 l1 w2 w3 y4 z4 f4 l5 l6).mono fun e W' ⟨he, hb⟩ => ?_
  subst he
  exact ⟨_, rfl, Ev.d4a laidOut (by rw [Tryz.params5]; decide +kernel) rfl hW' hb (fun _ _ _ => (trodAll_cons_mk (shut_bool Tryz.underlying4 _) trodAll_mk0)) rfl rfl
    (ok_one (by kernel_rfl) rfl (okWide_bool_mk Tryz.underlying4 _))⟩
set_option maxHeartbeats 4000000 in
theorem closed : joinedFacts Tryz.pinned.checked.prog 5 Tryz.f5 Rows.denCallsSpec Rows.denCallsRow = true := by
  unfold joinedFacts
  repeat (rw [Bool.and_eq_true]; refine And.intro ?_ (by as_aux_lemma => kernel_rfl))
  as_aux_lemma => kernel_rfl
theorem over : Rows.denCallsRow.holds Tryz.pinned (OpenSpec.ofChange Rows.denCallsSpec) :=
  OpenClaim.holds_of_wide 5 Tryz.f5 rfl rfl rfl rfl rfl rfl rfl ⟨rfl, rfl, rfl, rfl, rfl⟩ rfl rfl rfl rfl rfl (by kernel_rfl) Tryz.func5 closed
    (of_decide_eq_true (by kernel_rfl)) (by unfold Func.isWrapper; first | (rw [if_pos (by decide +kernel)]; kernel_rfl) | (rw [if_neg (by decide +kernel)]; exact ⟨rfl, rfl⟩))
    (fun os started H enc _ => lifted os started H enc)
/-- THE STATEMENT -/
theorem proved : Rows.DenCallsSaid :=
  over
#print axioms proved
end Go.Proofs.YtmnhbehmjaibgaaGreat.denCalls
