/- 'ScanCands' answers true at any input, and nothing that was there before the call has turned: the given statement of the law ScanCands, with no condition of its own. Its walk by the rules over the evaluator (Cnl); lives() told by the evaluator in the kernel (Memo). -/
import Derived.Test.YtejfbaecadbdiaaGreatRows
import Derived.Test.YtejfbaecadbdiaaGreatMemo
import Derived.Test.YtejfbaecadbdiaaGreatCnp
import Derived.Test.YtejfbaecadbdiaaGreatGaj
import Derived.WalkKit
import Derived.ProofKit
import Derived.OpenShut
import Derived.ChangeMaps5
namespace Go.Proofs.YtejfbaecadbdiaaGreat.scanCands
open Go.ChangeShapes Go.WideShapes Go.ChangeAt Go.RowKit Go.ChangeMaps
set_option linter.unusedVariables false
theorem own : ownKnob Tryz.prog.godebug = none := by kernel_rfl
theorem laidOut : laidOutB Tryz.prog = true := by kernel_rfl
section
open Ev
theorem task_of_chk {P : Program} {T : a0k} (ok : a0v P T) (hT : ∀ (base : Nat) (w0 : World) f args h v h', T.sm f args h = some (v, h') → a1j P base w0 (.call f args h) (.ret v h')) {f : FuncId} {args : List AV} {v : AV} (hc : a7o T f args v = true) (base : Nat) (w0 : World) (h : a0a) : a1j P base w0 (.call f args h) (.ret v h) := by
  unfold a7o at hc
  split at hc
  · rename_i hp hv
    rw [c3d] at hc
    exact c5q ok hT hp hv hc base w0 h
  · cases hc
theorem lives_task (base : Nat) (w0 : World) (h : a0a) : a1j Tryz.prog base w0 (.call 6 [] h) (.ret (.bool true) h) :=
  task_of_chk (b0s.a2s _) (a9m e9y a9o) c5 base w0 h
theorem wordSm_ok (base : Nat) (w0 : World) : ∀ f args h v h', b8z f args h = some (v, h') → a1j Tryz.prog base w0 (.call f args h) (.ret v h') := by
  intro f args h v h' hs
  unfold b8z at hs
  split at hs
  · rename_i hf
    split at hs
    · cases hs
      have hf : b0h f [6] = true := hf
      simp only [b0h] at hf
      split at hf
      · rename_i e
        have e := Nat.eq_of_beq_eq_true e
        subst e
        exact lives_task _ _ _
      · cases hf
    · cases hs
  · split at hs
    · exact d7a base w0 hs
    · split at hs
      · exact a9o base w0 f args h v h' hs
      · cases hs
theorem TV_ok (n : Nat) : a0v Tryz.prog (TV n) := b0s.det.a2s _
theorem TVsm_ok (n : Nat) {W : World} : ∀ f args h v h', (TV n).sm f args h = some (v, h') → a1j Tryz.prog W.heap.size W (.call f args h) (.ret v h') :=
  c7d (wf := wf) (b0s.det.a2s b8z) (wordSm_ok _ _) n
theorem str_value {E : En} (s : ByteArray) : VR E (.str s.data.toList) (.string s) := by
  have := VR.str (E := E) s.data.toList
  have e : (⟨s.data.toList.toArray⟩ : ByteArray) = s := by cases s; simp
  rw [e] at this
  exact this
theorem walk {W : World} {a0 : Int} {s1 : ByteArray} (w0 : (Lit.int .i64 a0).wf = true) (l1 : s1.size ≤ maxLen) :
    Calls Tryz.prog 3 #[.int .i64 a0, .string s1] W fun e w' => e = .returned (.bool true) ∧ Below W.heap.size W w' := by
  have hm : maxLen < 9223372036854775808 := by decide +kernel
  have k0 : -9223372036854775808 ≤ a0 ∧ a0 < 9223372036854775808 := by
    simp only [Lit.wf, Bool.and_eq_true, decide_eq_true_eq] at w0
    have m1 : IntKind.min .i64 = -9223372036854775808 := rfl
    have m2 : IntKind.max .i64 = 9223372036854775807 := rfl
    rw [m1, m2] at w0
    omega
  have b1 : s1.data.toList.length < 9223372036854775808 := by
    have : s1.data.toList.length = s1.size := Array.length_toList
    omega
  exact d1a (TV_ok 60) (TVsm_ok 60) (d7v (n := 60) (by decide) (z := a0) (img := s1.data.toList) (h := ⟨.nil, 0⟩) a2f b1) (.cons _ _ _ _ (.int ..) (.cons _ _ _ _ (str_value s1) .nil)) (e8x W)
end
set_option maxRecDepth 100000 in
theorem lifted (os : Os) (started : os.Started) (H : Type) (enc : TypeId × Value → H) :
    ReturnsInHanded {} Tryz.checked os 3 .any (Rows.scanCandsSpec.pre6 enc Tryz.prog Tryz.f3 Rows.scanCandsRow.domain false) (Rows.scanCandsSpec.post enc Tryz.prog Tryz.f3 false true false false) := by
  refine returnsInHanded_of_change (C := Tryz.checked) own started (by kernel_rfl) Tryz.func3
    (ChangeSpec.witness6 (enc := enc) (C := Tryz.checked) false ⟨#[], #[.int .i64 0, .string .empty], []⟩ 8 (by kernel_rfl) (by kernel_rfl) (by kernel_rfl) (by kernel_rfl)) ?_
  intro W base args ds gs before hval0 hW hcnd _
  have hval : ∀ (j : Nat) t v, Tryz.f3.params[j]? = some t → args[j]? = some v → Value.okWide Tryz.prog W .any base t v := hval0
  have hW' := hW
  obtain ⟨p, q, hA0, hV, rfl, hfz, hnd⟩ := hW
  have hA : DataW.TrodAll enc Tryz.prog W 0 (fun _ => true) true Tryz.f3.params.toList args.toList ds p := hA0
  rw [Tryz.params3] at hA hval
  obtain ⟨v0, vs0, d0, ds0, p0, q0, hargs, rfl, rfl, h0, r0⟩ := trodAll_cons hA
  obtain ⟨v1, vs1, d1, ds1, p1, q1, rfl, rfl, rfl, h1, r1⟩ := trodAll_cons r0
  obtain ⟨rfl, rfl, rfl⟩ := trodAll_nil r1
  obtain rfl : args = #[v0, v1] := by cases args; simp_all
  obtain ⟨rfl, rfl⟩ := trodVars_none hV
  obtain ⟨a0, rfl, rfl, rfl, w0⟩ := open_int Tryz.underlying3 (hval 0 3 v0 rfl rfl) h0
  obtain ⟨s1, rfl, rfl, rfl, l1⟩ := open_string Tryz.underlying9 (hval 1 9 v1 rfl rfl) h1
  refine (walk w0 l1).mono fun e W' ⟨he, hb⟩ => ?_
  subst he
  exact ⟨_, rfl, Ev.d4g laidOut (by rw [Tryz.params3]; decide +kernel) rfl hW' hb (fun _ _ _ => (trodAll_cons_mk (shut_bool Tryz.underlying4 _) trodAll_mk0)) rfl rfl
    (ok_one (by kernel_rfl) rfl (okWide_bool_mk Tryz.underlying4 _))⟩
set_option maxHeartbeats 4000000 in
theorem closed : joinedFacts Tryz.pinned.checked.prog 3 Tryz.f3 Rows.scanCandsSpec Rows.scanCandsRow = true := by
  unfold joinedFacts
  repeat (rw [Bool.and_eq_true]; refine And.intro ?_ (by as_aux_lemma => kernel_rfl))
  as_aux_lemma => kernel_rfl
theorem over : Rows.scanCandsRow.holds Tryz.pinned (OpenSpec.ofChange Rows.scanCandsSpec) :=
  OpenClaim.holds_of_wide 3 Tryz.f3 rfl rfl rfl rfl rfl rfl rfl ⟨rfl, rfl, rfl, rfl, rfl⟩ rfl rfl rfl rfl rfl (by kernel_rfl) Tryz.func3 closed
    (of_decide_eq_true (by kernel_rfl)) (by unfold Func.isWrapper; first | (rw [if_pos (by decide +kernel)]; kernel_rfl) | (rw [if_neg (by decide +kernel)]; exact ⟨rfl, rfl⟩))
    (fun os started H enc _ => lifted os started H enc)
/-- THE STATEMENT -/
theorem proved : Rows.ScanCandsSaid :=
  over
#print axioms proved
end Go.Proofs.YtejfbaecadbdiaaGreat.scanCands
