/- The given statement of the law RankBest, with no condition of its own: 'RankBest' answers true, and nothing that was there before the call has turned. Conditions: those that each theorem states. -/
import Derived.Test.YtebcbfpehalmjaaR4
import Derived.Test.YtebcbfpehalmjaaRows
import Derived.WalkKit
import Derived.ProofKit
import Derived.OpenShut
namespace Go.Proofs.Ytebcbfpehalmjaa.rankBest
open Go.ChangeShapes Go.WideShapes Go.ChangeAt Go.RowKit
set_option linter.unusedVariables false
theorem own : ownKnob Try.prog.godebug = none := by kernel_rfl
theorem laidOut : laidOutB Try.prog = true := by kernel_rfl
open Ev in
theorem walk {H : Type} {enc : TypeId × Value → H} {W : World} {v0 : Value} {d0 : DataW H} {p0 : List MemPlace} {a1 : Int} (ho : Value.okWide Try.prog W .any 0 22 v0) (h0 : DataW.Trod enc Try.prog W 0 (fun _ => true) true 22 v0 d0 p0) (w1 : (Lit.int .i64 a1).wf = true) :
    Calls Try.prog 3 #[v0, .int .i64 a1] W fun e w' => e = .returned (.bool true) ∧ Below W.heap.size W w' := by
  have hk : -9223372036854775808 ≤ a1 ∧ a1 < 9223372036854775808 := by
    simp only [Lit.wf, Bool.and_eq_true, decide_eq_true_eq] at w1
    have m1 : IntKind.min .i64 = -9223372036854775808 := rfl
    have m2 : IntKind.max .i64 = 9223372036854775807 := rfl
    rw [m1, m2] at w1
    omega
  obtain ⟨a, len, cap, rfl⟩ := okWide_slice Try.underlying22 ho
  obtain ⟨fuel, h0⟩ := h0
  rcases read_cands h0 with e | ⟨a, len, cap, l, e, hl, hm, hll, hc, htx⟩
  · cases e
    exact gives_calls TD_ok sortSm_ok (F3_nilslice a1 ⟨.nil, 0⟩ (fun b _ => Ev.Tr.get_nil b)) (.cons _ _ _ _ .nilslice (.cons _ _ _ _ (.int ..) .nil)) (hr_none W)
  · cases e
    have hbig : cap < 9223372036854775808 := Nat.lt_of_le_of_lt hm (by decide +kernel)
    by_cases h0 : len = 0
    · subst h0
      exact gives_calls TD_ok sortSm_ok (F3_eslice a1 ⟨.nil, 0⟩ (fun b _ => Ev.Tr.get_nil b)) (.cons _ _ _ _ (.eslice ..) (.cons _ _ _ _ (.int ..) .nil)) (hr_none W)
    · obtain ⟨E, h, hok, HH, hv, hx⟩ := lay_cands (Nat.pos_of_ne_zero h0) hll hc
      subst hll
      exact gives_calls TD_ok sortSm_ok (F3_gives l 0 0 cap a1 h hok hk hx hl (by omega)) (.cons _ _ _ _ hv (.cons _ _ _ _ (.int ..) .nil)) HH
set_option maxRecDepth 100000 in
theorem lifted (os : Os) (started : os.Started) (H : Type) (enc : TypeId × Value → H) :
    ReturnsInHanded {} Try.checked os 3 .any (Rows.rankBestSpec.pre6 enc Try.prog Try.f3 Rows.rankBestRow.domain false) (Rows.rankBestSpec.post enc Try.prog Try.f3 false true false false) := by
  refine returnsInHanded_of_change (C := Try.checked) own started (by kernel_rfl) Try.func3
    (ChangeSpec.witness6 (enc := enc) (C := Try.checked) false ⟨#[], #[.slice none 0 0, .int .i64 0], []⟩ 8 (by kernel_rfl) (by kernel_rfl) (by kernel_rfl) (by kernel_rfl)) ?_
  intro W base args ds gs before hval0 hW hcnd _
  have hval : ∀ (j : Nat) t v, Try.f3.params[j]? = some t → args[j]? = some v → Value.okWide Try.prog W .any base t v := hval0
  have hW' := hW
  obtain ⟨p, q, hA0, hV, rfl, hfz, hnd⟩ := hW
  have hA : DataW.TrodAll enc Try.prog W 0 (fun _ => true) true Try.f3.params.toList args.toList ds p := hA0
  rw [Try.params3] at hA hval
  obtain ⟨v0, vs0, d0, ds0, p0, q0, hargs, rfl, rfl, h0, r0⟩ := trodAll_cons hA
  obtain ⟨v1, vs1, d1, ds1, p1, q1, rfl, rfl, rfl, h1, r1⟩ := trodAll_cons r0
  obtain ⟨rfl, rfl, rfl⟩ := trodAll_nil r1
  obtain rfl : args = #[v0, v1] := by cases args; simp_all
  obtain ⟨rfl, rfl⟩ := trodVars_none hV
  obtain ⟨a1, rfl, rfl, rfl, w1⟩ := open_int Try.underlying3 (hval 1 3 v1 rfl rfl) h1
  refine (walk (hval 0 22 v0 rfl rfl) h0 w1).mono fun e W' ⟨he, hb⟩ => ?_
  subst he
  exact ⟨_, rfl, Ev.post_below laidOut (by rw [Try.params3]; decide +kernel) rfl hW' hb (fun _ _ _ => (trodAll_cons_mk (shut_bool Try.underlying4 _) trodAll_mk0)) rfl rfl
    (ok_one (by kernel_rfl) rfl (okWide_bool_mk Try.underlying4 _))⟩
set_option maxHeartbeats 4000000 in
theorem closed : joinedFacts Try.pinned.checked.prog 3 Try.f3 Rows.rankBestSpec Rows.rankBestRow = true := by
  unfold joinedFacts
  repeat (rw [Bool.and_eq_true]; refine And.intro ?_ (by as_aux_lemma => kernel_rfl))
  as_aux_lemma => kernel_rfl
theorem over : Rows.rankBestRow.holds Try.pinned (OpenSpec.ofChange Rows.rankBestSpec) :=
  OpenClaim.holds_of_wide 3 Try.f3 rfl rfl rfl rfl rfl rfl rfl ⟨rfl, rfl, rfl, rfl, rfl⟩ rfl rfl rfl rfl rfl (by kernel_rfl) Try.func3 closed
    (of_decide_eq_true (by kernel_rfl)) (by unfold Func.isWrapper; first | (rw [if_pos (by decide +kernel)]; kernel_rfl) | (rw [if_neg (by decide +kernel)]; exact ⟨rfl, rfl⟩))
    (fun os started H enc _ => lifted os started H enc)
theorem proved : Rows.RankBestSaid :=
  over
#print axioms proved
end Go.Proofs.Ytebcbfpehalmjaa.rankBest
