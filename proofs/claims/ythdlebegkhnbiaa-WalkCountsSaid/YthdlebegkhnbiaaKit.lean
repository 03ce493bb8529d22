/- What the functions of this part answer at any input, told by the rules over the evaluator. Conditions: those that each theorem states. -/
import Derived.Test.YthdlebegkhnbiaaWfl
open Go Ev
namespace Go.Proofs.Ythdlebegkhnbiaa
set_option maxRecDepth 10000
set_option linter.unusedVariables false
set_option linter.unusedSimpArgs false
set_option maxHeartbeats 4000000
set_option linter.unusedVariables false
/-! ### careenageref04.Pages; careenagekit -/
theorem rgood_w {n : Nat} (hn : 0 < n) (s : Int) (h : Heap) : (TV n).sm 19 [.int .i64 s] h = some (.bool (decide (Good s)), h) := by
  refine w_of hn rfl rfl rfl fun n hn => body_j rfl rfl ?_
  unfold Good
  exact auto
theorem rpages_w {n : Nat} (hn : 1 < n) (s : Int) (img : List UInt8) (hi : img.length < 1000000000) (h : Heap) : (TV n).sm 9 [.int .i64 s, .str img] h = some (.int .i64 (pages s img), h) := by
  refine w_of hn rfl rfl rfl fun n hn => body_j rfl rfl ?_
  have w1 := rgood_w (n := n) (by omega) s
  unfold pages
  by_cases g : Good s
  · rw [decide_eq_true g] at w1
    have g1 := g.1
    have g2 := g.2.1
    have e : (img.length : Int).tdiv s = ((img.length / s.toNat : Nat) : Int) := by
      obtain ⟨m, rfl⟩ := Int.eq_ofNat_of_zero_le (show 0 ≤ s by omega)
      rfl
    have hq : img.length / s.toNat ≤ img.length := Nat.div_le_self _ _
    rw [if_pos g, ← e]
    have hq0 : (0 : Int) ≤ (img.length / s.toNat : Nat) := Int.natCast_nonneg _
    rw [← Int.ofNat_le, ← e] at hq
    rw [← e] at hq0
    exact auto
  · rw [if_neg g]
    rw [decide_eq_false g] at w1
    exact auto
theorem pick_w {n : Nat} (hn : 0 < n) (x m : Int) (hx : -9223372036854775808 ≤ x ∧ x < 9223372036854775808) (hm : 1 ≤ m ∧ m < 1000000000) (h : Heap) : (TV n).sm 11 [.int .i64 x, .int .i64 m] h = some (.int .i64 (x % m), h) := by
  refine w_of hn rfl rfl rfl fun n hn => body_j rfl rfl ?_
  have e1 : x.tmod m < m := Int.tmod_lt_of_pos _ (by omega)
  have e2 : -m < x.tmod m := Int.lt_tmod_of_pos _ (by omega)
  have e3 : x % m = if x.tmod m < 0 then x.tmod m + m else x.tmod m := by
    split
    · rename_i c
      rw [Int.emod_eq_tmod]
      have : ¬ (0 ≤ x ∨ m ∣ x) := by
        rintro (q | q)
        · have := Int.tmod_nonneg m q; omega
        · rw [Int.tmod_eq_zero_of_dvd q] at c; omega
      rw [if_neg this]
      omega
    · rename_i c
      rw [Int.emod_eq_tmod]
      split
      · omega
      · rename_i q
        have : x < 0 := by omega
        have h0 := Int.neg_tmod (-x) m
        rw [Int.neg_neg] at h0
        have h1 := Int.tmod_nonneg m (show 0 ≤ -x by omega)
        have h2 : x.tmod m = 0 := by omega
        exact absurd (.inr (Int.dvd_of_tmod_eq_zero h2)) q
  rw [e3]

  by_cases c0 : x.tmod m < 0
  · rw [if_pos c0]
    exact auto
  · rw [if_neg c0]
    exact auto
end Go.Proofs.Ythdlebegkhnbiaa
