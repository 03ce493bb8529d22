/- 'TrialSame' answers true at any input, and nothing that was there before the call has turned: the given statement of the law TrialSame, with no condition of its own. Its walk by the rules over the evaluator (Same); lives() told by the evaluator in the kernel (Memo). -/
import Derived.Test.YtcngecdjmmjlhaaGreatRows
import Derived.Test.YtcngecdjmmjlhaaGreatMemo
import Derived.Test.YtcngecdjmmjlhaaGreatSame
import Derived.Test.YtcngecdjmmjlhaaGreatEvArg
import Derived.WalkKit
import Derived.ProofKit
import Derived.OpenShut
import Derived.ChangeMaps5
namespace Go.Proofs.YtcngecdjmmjlhaaGreat.trialSame
open Go.ChangeShapes Go.WideShapes Go.ChangeAt Go.RowKit Go.ChangeMaps
set_option linter.unusedVariables false
theorem own : ownKnob Tryz.prog.godebug = none := by kernel_rfl
theorem laidOut : laidOutB Tryz.prog = true := by kernel_rfl
section
open Ev
theorem task_of_chk {P : Program} {T : Tabs} (ok : TabsOK P T) (hT : ∀ (base : Nat) (w0 : World) f args h v h', T.sm f args h = some (v, h') → TaskOK P base w0 (.call f args h) (.ret v h')) {f : FuncId} {args : List AV} {v : AV} (hc : memoChk T f args v = true) (base : Nat) (w0 : World) (h : Heap) : TaskOK P base w0 (.call f args h) (.ret v h) := by
  unfold memoChk at hc
  split at hc
  · rename_i hp hv
    rw [evR_eq] at hc
    exact sm_closed ok hT hp hv hc base w0 h
  · cases hc
theorem lives_task (base : Nat) (w0 : World) (h : Heap) : TaskOK Tryz.prog base w0 (.call 4 [] h) (.ret (.bool true) h) :=
  task_of_chk (TP_ok.withSm _) (memoSm_ok M17_ok trialSm_ok) c18 base w0 h
theorem TD_ok : TabsOK Tryz.prog TD := TP_ok.det.withSm livesSm
theorem livesSm_ok {W : World} : ∀ f args h v h', TD.sm f args h = some (v, h') → TaskOK Tryz.prog W.heap.size W (.call f args h) (.ret v h') := by
  intro f args h v h' hs
  replace hs : livesSm f args h = some (v, h') := hs
  unfold livesSm at hs
  split at hs
  · rename_i hf
    have hf := Nat.eq_of_beq_eq_true hf
    subst hf
    split at hs
    · cases hs
      exact lives_task _ _ _
    · cases hs
  · cases hs
theorem str_value {E : En} (s : ByteArray) : VR E (.str s.data.toList) (.string s) := by
  have := VR.str (E := E) s.data.toList
  have e : (⟨s.data.toList.toArray⟩ : ByteArray) = s := by cases s; simp
  rw [e] at this
  exact this
theorem walk {W : World} {s0 s2 : ByteArray} {a1 : Int} (w1 : (Lit.int .i64 a1).wf = true) (l0 : s0.size ≤ maxLen) (l2 : s2.size ≤ maxLen) :
    Calls Tryz.prog 3 #[.string s0, .int .i64 a1, .string s2] W fun e w' => e = .returned (.bool true) ∧ Below W.heap.size W w' := by
  have hk : -9223372036854775808 ≤ a1 ∧ a1 < 9223372036854775808 := by
    simp only [Lit.wf, Bool.and_eq_true, decide_eq_true_eq] at w1
    have m1 : IntKind.min .i64 = -9223372036854775808 := rfl
    have m2 : IntKind.max .i64 = 9223372036854775807 := rfl
    rw [m1, m2] at w1
    omega
  have hm : maxLen < 9223372036854775808 := by decide +kernel
  have b0 : s0.data.toList.length < 9223372036854775808 := by
    have : s0.data.toList.length = s0.size := Array.length_toList
    omega
  have b2 : s2.data.toList.length < 9223372036854775808 := by
    have : s2.data.toList.length = s2.size := Array.length_toList
    omega
  exact gives_calls TD_ok livesSm_ok (same_gives s0.data.toList s2.data.toList a1 ⟨.nil, 0⟩ (fun b _ => Ev.Tr.get_nil b) hk b2 b0) (.cons _ _ _ _ (str_value s0) (.cons _ _ _ _ (.int ..) (.cons _ _ _ _ (str_value s2) .nil))) (hr_none W)
end
set_option maxRecDepth 100000 in
theorem lifted (os : Os) (started : os.Started) (H : Type) (enc : TypeId × Value → H) :
    ReturnsInHanded {} Tryz.checked os 3 .any (Rows.trialSameSpec.pre6 enc Tryz.prog Tryz.f3 Rows.trialSameRow.domain false) (Rows.trialSameSpec.post enc Tryz.prog Tryz.f3 false true false false) := by
  refine returnsInHanded_of_change (C := Tryz.checked) own started (by kernel_rfl) Tryz.func3
    (ChangeSpec.witness6 (enc := enc) (C := Tryz.checked) false ⟨#[], #[.string .empty, .int .i64 0, .string .empty], []⟩ 8 (by kernel_rfl) (by kernel_rfl) (by kernel_rfl) (by kernel_rfl)) ?_
  intro W base args ds gs before hval0 hW hcnd _
  have hval : ∀ (j : Nat) t v, Tryz.f3.params[j]? = some t → args[j]? = some v → Value.okWide Tryz.prog W .any base t v := hval0
  have hW' := hW
  obtain ⟨p, q, hA0, hV, rfl, hfz, hnd⟩ := hW
  have hA : DataW.TrodAll enc Tryz.prog W 0 (fun _ => true) true Tryz.f3.params.toList args.toList ds p := hA0
  rw [Tryz.params3] at hA hval
  obtain ⟨v0, vs0, d0, ds0, p0, q0, hargs, rfl, rfl, h0, r0⟩ := trodAll_cons hA
  obtain ⟨v1, vs1, d1, ds1, p1, q1, rfl, rfl, rfl, h1, r1⟩ := trodAll_cons r0
  obtain ⟨v2, vs2, d2, ds2, p2, q2, rfl, rfl, rfl, h2, r2⟩ := trodAll_cons r1
  obtain ⟨rfl, rfl, rfl⟩ := trodAll_nil r2
  obtain rfl : args = #[v0, v1, v2] := by cases args; simp_all
  obtain ⟨rfl, rfl⟩ := trodVars_none hV
  obtain ⟨s0, rfl, rfl, rfl, l0⟩ := open_string Tryz.underlying9 (hval 0 9 v0 rfl rfl) h0
  obtain ⟨a1, rfl, rfl, rfl, w1⟩ := open_int Tryz.underlying3 (hval 1 3 v1 rfl rfl) h1
  obtain ⟨s2, rfl, rfl, rfl, l2⟩ := open_string Tryz.underlying9 (hval 2 9 v2 rfl rfl) h2
  refine (walk w1 l0 l2).mono fun e W' ⟨he, hb⟩ => ?_
  subst he
  exact ⟨_, rfl, Ev.post_below laidOut (by rw [Tryz.params3]; decide +kernel) rfl hW' hb (fun _ _ _ => (trodAll_cons_mk (shut_bool Tryz.underlying4 _) trodAll_mk0)) rfl rfl
    (ok_one (by kernel_rfl) rfl (okWide_bool_mk Tryz.underlying4 _))⟩
set_option maxHeartbeats 4000000 in
theorem closed : joinedFacts Tryz.pinned.checked.prog 3 Tryz.f3 Rows.trialSameSpec Rows.trialSameRow = true := by
  unfold joinedFacts
  repeat (rw [Bool.and_eq_true]; refine And.intro ?_ (by as_aux_lemma => kernel_rfl))
  as_aux_lemma => kernel_rfl
theorem over : Rows.trialSameRow.holds Tryz.pinned (OpenSpec.ofChange Rows.trialSameSpec) :=
  OpenClaim.holds_of_wide 3 Tryz.f3 rfl rfl rfl rfl rfl rfl rfl ⟨rfl, rfl, rfl, rfl, rfl⟩ rfl rfl rfl rfl rfl (by kernel_rfl) Tryz.func3 closed
    (of_decide_eq_true (by kernel_rfl)) (by unfold Func.isWrapper; first | (rw [if_pos (by decide +kernel)]; kernel_rfl) | (rw [if_neg (by decide +kernel)]; exact ⟨rfl, rfl⟩))
    (fun os started H enc _ => lifted os started H enc)
/-- THE STATEMENT -/
theorem proved : Rows.TrialSameSaid :=
  over
#print axioms proved
end Go.Proofs.YtcngecdjmmjlhaaGreat.trialSame
