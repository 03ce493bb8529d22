/- 'DenEach' answers true at any input, and nothing that was there before the call has turned: the given statement of the law DenEach, with no condition of its own. Its walk by the rules over the evaluator (Del); lives() told by the evaluator in the kernel (Memo). -/
import Derived.Test.YtmnhbehmjaibgaaGreatRows
import Derived.Test.YtmnhbehmjaibgaaGreatMemo
import Derived.Test.YtmnhbehmjaibgaaGreatDel
import Derived.Test.YtmnhbehmjaibgaaGreatGaj
import Derived.Test.YtmnhbehmjaibgaaGreatDin
import Derived.Test.YtmnhbehmjaibgaaGreatGar
import Derived.WalkKit
import Derived.ProofKit
import Derived.OpenShut
import Derived.ChangeMaps5
namespace Go.Proofs.YtmnhbehmjaibgaaGreat.denEach
open Go.ChangeShapes Go.WideShapes Go.ChangeAt Go.RowKit Go.ChangeMaps
set_option linter.unusedVariables false
theorem own : ownKnob Tryz.prog.godebug = none := by kernel_rfl
theorem laidOut : laidOutB Tryz.prog = true := by kernel_rfl
section
open Ev
theorem task_of_chk {P : Program} {T : Tabs} (ok : TabsOK P T) (hT : ∀ (base : Nat) (w0 : World) f args h v h', T.sm f args h = some (v, h') → TaskOK P base w0 (.call f args h) (.ret v h')) {f : FuncId} {args : List AV} {v : AV} (hc : memoChk T f args v = true) (base : Nat) (w0 : World) (h : Heap) : TaskOK P base w0 (.call f args h) (.ret v h) := by
  unfold memoChk at hc
  split at hc
  · rename_i hp hv
    rw [evR_eq] at hc
    exact sm_closed ok hT hp hv hc base w0 h
  · cases hc
theorem lives_task (base : Nat) (w0 : World) (h : Heap) : TaskOK Tryz.prog base w0 (.call 7 [] h) (.ret (.bool true) h) :=
  task_of_chk (TB_ok.withSm _) (memoSm_ok M4_ok crcSm_ok) c5 base w0 h
theorem wordSm_ok (base : Nat) (w0 : World) : ∀ f args h v h', wordSm f args h = some (v, h') → TaskOK Tryz.prog base w0 (.call f args h) (.ret v h') := by
  intro f args h v h' hs
  unfold wordSm at hs
  split at hs
  · rename_i hf
    split at hs
    · cases hs
      have hf : memN f [7] = true := hf
      simp only [memN] at hf
      split at hf
      · rename_i e
        have e := Nat.eq_of_beq_eq_true e
        subst e
        exact lives_task _ _ _
      · cases hf
    · cases hs
  · split at hs
    · exact sortSm_ok base w0 hs
    · split at hs
      · exact crcSm_ok base w0 f args h v h' hs
      · cases hs
theorem TV_ok (n : Nat) : TabsOK Tryz.prog (TV n) := TB_ok.det.withSm _
theorem TVsm_ok (n : Nat) {W : World} : ∀ f args h v h', (TV n).sm f args h = some (v, h') → TaskOK Tryz.prog W.heap.size W (.call f args h) (.ret v h') :=
  lev_ok (wf := wf) (TB_ok.det.withSm wordSm) (wordSm_ok _ _) n
theorem str_value {E : En} (s : ByteArray) : VR E (.str s.data.toList) (.string s) := by
  have := VR.str (E := E) s.data.toList
  have e : (⟨s.data.toList.toArray⟩ : ByteArray) = s := by cases s; simp
  rw [e] at this
  exact this
theorem walk {W : World} {E : En} {hh : Heap} (hr0 : HR W.heap.size W E hh W) (hok : hh.ok) {v0 : Value} {x0 : AV} {d0 : List (List UInt8 × List Pr)} {s1 : ByteArray} {s2 : ByteArray} (y0 : VR E (.agg [x0]) v0) (z0 : DenL hh x0 d0) (f0 : DenF d0) (l1 : s1.size ≤ maxLen) (l2 : s2.size ≤ maxLen) :
    Calls Tryz.prog 6 #[v0, .string s1, .string s2] W fun e w' => e = .returned (.bool true) ∧ Below W.heap.size W w' := by
  have hm : maxLen < 9223372036854775808 := by decide +kernel
  have b1 : s1.data.toList.length < 9223372036854775808 := by
    have : s1.data.toList.length = s1.size := Array.length_toList
    omega
  have b2 : s2.data.toList.length < 9223372036854775808 := by
    have : s2.data.toList.length = s2.size := Array.length_toList
    omega
  exact gives_calls (TV_ok 60) (TVsm_ok 60) (deach_law (n := 60) (by omega) (v := x0) (bs := d0) (nm := s1.data.toList) (key := s2.data.toList) hok z0 f0.fit.1 f0.fit.2 b1 b2) (.cons _ _ _ _ y0 (.cons _ _ _ _ (str_value s1) (.cons _ _ _ _ (str_value s2) .nil))) hr0
end
set_option maxRecDepth 100000 in
theorem lifted (os : Os) (started : os.Started) (H : Type) (enc : TypeId × Value → H) :
    ReturnsInHanded {} Tryz.checked os 6 .any (Rows.denEachSpec.pre6 enc Tryz.prog Tryz.f6 Rows.denEachRow.domain false) (Rows.denEachSpec.post enc Tryz.prog Tryz.f6 false true false false) := by
  refine returnsInHanded_of_change (C := Tryz.checked) own started (by kernel_rfl) Tryz.func6
    (ChangeSpec.witness6 (enc := enc) (C := Tryz.checked) false ⟨#[], #[.agg #[.slice none 0 0], .string .empty, .string .empty], []⟩ 8 (by kernel_rfl) (by kernel_rfl) (by kernel_rfl) (by kernel_rfl)) ?_
  intro W base args ds gs before hval0 hW hcnd _
  have hval : ∀ (j : Nat) t v, Tryz.f6.params[j]? = some t → args[j]? = some v → Value.okWide Tryz.prog W .any base t v := hval0
  have hW' := hW
  obtain ⟨p, q, hA0, hV, rfl, hfz, hnd⟩ := hW
  have hA : DataW.TrodAll enc Tryz.prog W 0 (fun _ => true) true Tryz.f6.params.toList args.toList ds p := hA0
  rw [Tryz.params6] at hA hval
  obtain ⟨v0, vs0, d0, ds0, p0, q0, hargs, rfl, rfl, h0, r0⟩ := trodAll_cons hA
  obtain ⟨v1, vs1, d1, ds1, p1, q1, rfl, rfl, rfl, h1, r1⟩ := trodAll_cons r0
  obtain ⟨v2, vs2, d2, ds2, p2, q2, rfl, rfl, rfl, h2, r2⟩ := trodAll_cons r1
  obtain ⟨rfl, rfl, rfl⟩ := trodAll_nil r2
  obtain rfl : args = #[v0, v1, v2] := by cases args; simp_all
  obtain ⟨rfl, rfl⟩ := trodVars_none hV
  obtain ⟨m0, x0, d0v, o0, y0, z0, f0⟩ := read_den (Ev.in_nil W) (hval 0 27 v0 rfl rfl) h0
  obtain ⟨s1, rfl, rfl, rfl, l1⟩ := open_string Tryz.underlying9 (hval 1 9 v1 rfl rfl) h1
  obtain ⟨s2, rfl, rfl, rfl, l2⟩ := open_string Tryz.underlying9 (hval 2 9 v2 rfl rfl) h2
  refine (walk (Ev.hr_in o0) (Ev.heapIn_all _).1 y0 z0 f0 l1 l2).mono fun e W' ⟨he, hb⟩ => ?_
  subst he
  exact ⟨_, rfl, Ev.post_below laidOut (by rw [Tryz.params6]; decide +kernel) rfl hW' hb (fun _ _ _ => (trodAll_cons_mk (shut_bool Tryz.underlying4 _) trodAll_mk0)) rfl rfl
    (ok_one (by kernel_rfl) rfl (okWide_bool_mk Tryz.underlying4 _))⟩
set_option maxHeartbeats 4000000 in
theorem closed : joinedFacts Tryz.pinned.checked.prog 6 Tryz.f6 Rows.denEachSpec Rows.denEachRow = true := by
  unfold joinedFacts
  repeat (rw [Bool.and_eq_true]; refine And.intro ?_ (by as_aux_lemma => kernel_rfl))
  as_aux_lemma => kernel_rfl
theorem over : Rows.denEachRow.holds Tryz.pinned (OpenSpec.ofChange Rows.denEachSpec) :=
  OpenClaim.holds_of_wide 6 Tryz.f6 rfl rfl rfl rfl rfl rfl rfl ⟨rfl, rfl, rfl, rfl, rfl⟩ rfl rfl rfl rfl rfl (by kernel_rfl) Tryz.func6 closed
    (of_decide_eq_true (by kernel_rfl)) (by unfold Func.isWrapper; first | (rw [if_pos (by decide +kernel)]; kernel_rfl) | (rw [if_neg (by decide +kernel)]; exact ⟨rfl, rfl⟩))
    (fun os started H enc _ => lifted os started H enc)
/-- THE STATEMENT -/
theorem proved : Rows.DenEachSaid :=
  over
#print axioms proved
end Go.Proofs.YtmnhbehmjaibgaaGreat.denEach
