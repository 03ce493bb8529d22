/- 'ScanMore' answers true at any input, and nothing that was there before the call has turned: the given statement of the law ScanMore, with no condition of its own. Its walk by the rules over the evaluator (Scm); lives() told by the evaluator in the kernel (Memo). -/
import Derived.Test.YtbmdcfehionkpaaGreatRows
import Derived.Test.YtbmdcfehionkpaaGreatMemo
import Derived.Test.YtbmdcfehionkpaaGreatScm
import Derived.Test.YtbmdcfehionkpaaGreatGaj
import Derived.Test.YtbmdcfehionkpaaGreatGaq
import Derived.WalkKit
import Derived.ProofKit
import Derived.OpenShut
import Derived.ChangeMaps5
namespace Go.Proofs.YtbmdcfehionkpaaGreat.scanMore
open Go.ChangeShapes Go.WideShapes Go.ChangeAt Go.RowKit Go.ChangeMaps
set_option linter.unusedVariables false
theorem own : ownKnob Tryz.prog.godebug = none := by kernel_rfl
theorem laidOut : laidOutB Tryz.prog = true := by kernel_rfl
section
open Ev
theorem task_of_chk {P : Program} {T : Tabs} (ok : TabsOK P T) (hT : ∀ (base : Nat) (w0 : World) f args h v h', T.sm f args h = some (v, h') → TaskOK P base w0 (.call f args h) (.ret v h')) {f : FuncId} {args : List AV} {v : AV} (hc : memoChk T f args v = true) (base : Nat) (w0 : World) (h : Heap) : TaskOK P base w0 (.call f args h) (.ret v h) := by
  unfold memoChk at hc
  split at hc
  · rename_i hp hv
    rw [evR_eq] at hc
    exact sm_closed ok hT hp hv hc base w0 h
  · cases hc
theorem lives_task (base : Nat) (w0 : World) (h : Heap) : TaskOK Tryz.prog base w0 (.call 8 [] h) (.ret (.bool true) h) :=
  task_of_chk (TB_ok.withSm _) (memoSm_ok M19_ok crcSm_ok) c20 base w0 h
theorem wordSm_ok (base : Nat) (w0 : World) : ∀ f args h v h', wordSm f args h = some (v, h') → TaskOK Tryz.prog base w0 (.call f args h) (.ret v h') := by
  intro f args h v h' hs
  unfold wordSm at hs
  split at hs
  · rename_i hf
    split at hs
    · cases hs
      have hf : memN f [8] = true := hf
      simp only [memN] at hf
      split at hf
      · rename_i e
        have e := Nat.eq_of_beq_eq_true e
        subst e
        exact lives_task _ _ _
      · cases hf
    · cases hs
  · split at hs
    · exact crcSm_ok base w0 f args h v h' hs
    · cases hs
theorem TV_ok (n : Nat) : TabsOK Tryz.prog (TV n) := TB_ok.det.withSm _
theorem TVsm_ok (n : Nat) {W : World} : ∀ f args h v h', (TV n).sm f args h = some (v, h') → TaskOK Tryz.prog W.heap.size W (.call f args h) (.ret v h') :=
  lev_ok (wf := wf) (TB_ok.det.withSm wordSm) (wordSm_ok _ _) n
theorem str_value {E : En} (s : ByteArray) : VR E (.str s.data.toList) (.string s) := by
  have := VR.str (E := E) s.data.toList
  have e : (⟨s.data.toList.toArray⟩ : ByteArray) = s := by cases s; simp
  rw [e] at this
  exact this
theorem walk {W : World} {a0 : Int} {s1 : ByteArray} {a20 : Int} {a21 : Int} {a22 : Int} {a23 : Int} {a24 : Int} {s25 : ByteArray} (w0 : (Lit.int .i64 a0).wf = true) (l1 : s1.size ≤ maxLen) (w20 : (Lit.int .i64 a20).wf = true) (w21 : (Lit.int .i64 a21).wf = true) (w22 : (Lit.int .u32 a22).wf = true) (w23 : (Lit.int .u32 a23).wf = true) (w24 : (Lit.int .u64 a24).wf = true) (l25 : s25.size ≤ maxLen) :
    Calls Tryz.prog 5 #[.int .i64 a0, .string s1, .agg #[.int .i64 a20, .int .i64 a21, .int .u32 a22, .int .u32 a23, .int .u64 a24, .string s25]] W fun e w' => e = .returned (.bool true) ∧ Below W.heap.size W w' := by
  have hm : maxLen < 9223372036854775808 := by decide +kernel
  have k0 : -9223372036854775808 ≤ a0 ∧ a0 < 9223372036854775808 := by
    simp only [Lit.wf, Bool.and_eq_true, decide_eq_true_eq] at w0
    have m1 : IntKind.min .i64 = -9223372036854775808 := rfl
    have m2 : IntKind.max .i64 = 9223372036854775807 := rfl
    rw [m1, m2] at w0
    omega
  have b1 : s1.data.toList.length < 9223372036854775808 := by
    have : s1.data.toList.length = s1.size := Array.length_toList
    omega
  have k20 : -9223372036854775808 ≤ a20 ∧ a20 < 9223372036854775808 := by
    simp only [Lit.wf, Bool.and_eq_true, decide_eq_true_eq] at w20
    have m1 : IntKind.min .i64 = -9223372036854775808 := rfl
    have m2 : IntKind.max .i64 = 9223372036854775807 := rfl
    rw [m1, m2] at w20
    omega
  have k21 : -9223372036854775808 ≤ a21 ∧ a21 < 9223372036854775808 := by
    simp only [Lit.wf, Bool.and_eq_true, decide_eq_true_eq] at w21
    have m1 : IntKind.min .i64 = -9223372036854775808 := rfl
    have m2 : IntKind.max .i64 = 9223372036854775807 := rfl
    rw [m1, m2] at w21
    omega
  have k22 : 0 ≤ a22 ∧ a22 < 4294967296 := by
    simp only [Lit.wf, Bool.and_eq_true, decide_eq_true_eq] at w22
    have m1 : IntKind.min .u32 = 0 := rfl
    have m2 : IntKind.max .u32 = 4294967295 := rfl
    rw [m1, m2] at w22
    omega
  obtain ⟨r22, rfl⟩ : ∃ r : Nat, a22 = r := ⟨a22.toNat, by omega⟩
  have k23 : 0 ≤ a23 ∧ a23 < 4294967296 := by
    simp only [Lit.wf, Bool.and_eq_true, decide_eq_true_eq] at w23
    have m1 : IntKind.min .u32 = 0 := rfl
    have m2 : IntKind.max .u32 = 4294967295 := rfl
    rw [m1, m2] at w23
    omega
  obtain ⟨r23, rfl⟩ : ∃ r : Nat, a23 = r := ⟨a23.toNat, by omega⟩
  have k24 : 0 ≤ a24 ∧ a24 < 18446744073709551616 := by
    simp only [Lit.wf, Bool.and_eq_true, decide_eq_true_eq] at w24
    have m1 : IntKind.min .u64 = 0 := rfl
    have m2 : IntKind.max .u64 = 18446744073709551615 := rfl
    rw [m1, m2] at w24
    omega
  obtain ⟨r24, rfl⟩ : ∃ r : Nat, a24 = r := ⟨a24.toNat, by omega⟩
  have b25 : s25.data.toList.length < 9223372036854775808 := by
    have : s25.data.toList.length = s25.size := Array.length_toList
    omega
  exact gives_calls (TV_ok 60) (TVsm_ok 60) (more_law (n := 60) (by omega) (z := a0) (img := s1.data.toList) (p := ⟨a20, a21, r22, r23, r24, s25.data.toList⟩) ok_nil k0 b1 b25) (.cons _ _ _ _ (.int ..) (.cons _ _ _ _ (str_value s1) (.cons _ _ _ _ (.agg _ _ (.cons _ _ _ _ (.int ..) (.cons _ _ _ _ (.int ..) (.cons _ _ _ _ (.int ..) (.cons _ _ _ _ (.int ..) (.cons _ _ _ _ (.int ..) (.cons _ _ _ _ (str_value s25) .nil))))))) .nil))) (hr_none W)
end
set_option maxRecDepth 100000 in
theorem lifted (os : Os) (started : os.Started) (H : Type) (enc : TypeId × Value → H) :
    ReturnsInHanded {} Tryz.checked os 5 .any (Rows.scanMoreSpec.pre6 enc Tryz.prog Tryz.f5 Rows.scanMoreRow.domain false) (Rows.scanMoreSpec.post enc Tryz.prog Tryz.f5 false true false false) := by
  refine returnsInHanded_of_change (C := Tryz.checked) own started (by kernel_rfl) Tryz.func5
    (ChangeSpec.witness6 (enc := enc) (C := Tryz.checked) false ⟨#[], #[.int .i64 0, .string .empty, .agg #[.int .i64 0, .int .i64 0, .int .u32 0, .int .u32 0, .int .u64 0, .string .empty]], []⟩ 8 (by kernel_rfl) (by kernel_rfl) (by kernel_rfl) (by kernel_rfl)) ?_
  intro W base args ds gs before hval0 hW hcnd _
  have hval : ∀ (j : Nat) t v, Tryz.f5.params[j]? = some t → args[j]? = some v → Value.okWide Tryz.prog W .any base t v := hval0
  have hW' := hW
  obtain ⟨p, q, hA0, hV, rfl, hfz, hnd⟩ := hW
  have hA : DataW.TrodAll enc Tryz.prog W 0 (fun _ => true) true Tryz.f5.params.toList args.toList ds p := hA0
  rw [Tryz.params5] at hA hval
  obtain ⟨v0, vs0, d0, ds0, p0, q0, hargs, rfl, rfl, h0, r0⟩ := trodAll_cons hA
  obtain ⟨v1, vs1, d1, ds1, p1, q1, rfl, rfl, rfl, h1, r1⟩ := trodAll_cons r0
  obtain ⟨v2, vs2, d2, ds2, p2, q2, rfl, rfl, rfl, h2, r2⟩ := trodAll_cons r1
  obtain ⟨rfl, rfl, rfl⟩ := trodAll_nil r2
  obtain rfl : args = #[v0, v1, v2] := by cases args; simp_all
  obtain ⟨rfl, rfl⟩ := trodVars_none hV
  obtain ⟨a0, rfl, rfl, rfl, w0⟩ := open_int Tryz.underlying3 (hval 0 3 v0 rfl rfl) h0
  obtain ⟨s1, rfl, rfl, rfl, l1⟩ := open_string Tryz.underlying9 (hval 1 9 v1 rfl rfl) h1
  obtain ⟨c2, rfl, hc2, n2, hf2⟩ := Ev.open_fields Tryz.underlying30 (hval 2 30 v2 rfl rfl) h2
  obtain ⟨x20, x21, x22, x23, x24, x25, rfl⟩ := Ev.six (hc2.trans (by kernel_rfl))
  obtain ⟨a20, rfl, w20⟩ := Ev.at_int (v := x20) hf2 0 rfl (by kernel_rfl) rfl Tryz.underlying3
  obtain ⟨a21, rfl, w21⟩ := Ev.at_int (v := x21) hf2 1 rfl (by kernel_rfl) rfl Tryz.underlying3
  obtain ⟨a22, rfl, w22⟩ := Ev.at_int (v := x22) hf2 2 rfl (by kernel_rfl) rfl Tryz.underlying27
  obtain ⟨a23, rfl, w23⟩ := Ev.at_int (v := x23) hf2 3 rfl (by kernel_rfl) rfl Tryz.underlying27
  obtain ⟨a24, rfl, w24⟩ := Ev.at_int (v := x24) hf2 4 rfl (by kernel_rfl) rfl Tryz.underlying28
  obtain ⟨s25, rfl, l25⟩ := Ev.at_str (v := x25) hf2 5 rfl (by kernel_rfl) rfl Tryz.underlying9
  refine (walk w0 l1 w20 w21 w22 w23 w24 l25).mono fun e W' ⟨he, hb⟩ => ?_
  subst he
  exact ⟨_, rfl, Ev.post_below laidOut (by rw [Tryz.params5]; decide +kernel) rfl hW' hb (fun _ _ _ => (trodAll_cons_mk (shut_bool Tryz.underlying4 _) trodAll_mk0)) rfl rfl
    (ok_one (by kernel_rfl) rfl (okWide_bool_mk Tryz.underlying4 _))⟩
set_option maxHeartbeats 4000000 in
theorem closed : joinedFacts Tryz.pinned.checked.prog 5 Tryz.f5 Rows.scanMoreSpec Rows.scanMoreRow = true := by
  unfold joinedFacts
  repeat (rw [Bool.and_eq_true]; refine And.intro ?_ (by as_aux_lemma => kernel_rfl))
  as_aux_lemma => kernel_rfl
theorem over : Rows.scanMoreRow.holds Tryz.pinned (OpenSpec.ofChange Rows.scanMoreSpec) :=
  OpenClaim.holds_of_wide 5 Tryz.f5 rfl rfl rfl rfl rfl rfl rfl ⟨rfl, rfl, rfl, rfl, rfl⟩ rfl rfl rfl rfl rfl (by kernel_rfl) Tryz.func5 closed
    (of_decide_eq_true (by kernel_rfl)) (by unfold Func.isWrapper; first | (rw [if_pos (by decide +kernel)]; kernel_rfl) | (rw [if_neg (by decide +kernel)]; exact ⟨rfl, rfl⟩))
    (fun os started H enc _ => lifted os started H enc)
/-- THE STATEMENT -/
theorem proved : Rows.ScanMoreSaid :=
  over
#print axioms proved
end Go.Proofs.YtbmdcfehionkpaaGreat.scanMore
