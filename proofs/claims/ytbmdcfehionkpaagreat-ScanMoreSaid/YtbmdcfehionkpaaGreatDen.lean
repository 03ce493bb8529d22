/- What the functions of this part answer at any input, told by the rules over the evaluator. Conditions: those that each theorem states. -/
import Derived.Test.YtbmdcfehionkpaaGreatLof
open Go Ev
namespace Go.Proofs.YtbmdcfehionkpaaGreat
set_option maxRecDepth 10000
set_option linter.unusedVariables false
set_option linter.unusedSimpArgs false
set_option maxHeartbeats 4000000
set_option linter.unusedVariables false
/-! ### den.Right -/
def rightP (p : Pg) : Prop := p.kind = 2 ∧ ofC p ≠ none ∨ p.kind = 3 ∧ ofB p ≠ none ∨ p.kind = 4 ∧ ofI p ≠ none ∨ p.kind = 5 ∧ okOf p ∨ p.kind = 6 ∧ ofR p ≠ none
noncomputable instance (p : Pg) : Decidable (rightP p) := Classical.propDecidable _
theorem right_w {n : Nat} (hn : 7 < n) {p : Pg} (hl : p.body.length ≤ 100000) (hc : p.count < 1000000000) (h : Heap) : (TV n).sm 119 [p.av] h = some (.bool (decide (rightP p)), h) := by
  refine w_of hn rfl rfl rfl fun n hn => body_j rfl rfl ?_
  have ok0 : Heap.ok ⟨.nil, 0⟩ := ok_nil
  generalize (⟨.nil, 0⟩ : Heap) = h at ok0 ⊢
  by_cases k2 : p.kind = 2
  case pos =>
    have key : rightP p ↔ ofC p ≠ none := by unfold rightP; simp [k2]
    refine walk ?_
    refine jo_call (catOf_g (n := n) (by omega) (p := p) (by exact hok) hl hc) rfl rfl rfl rfl ?_
    rintro v h3 ⟨x3, c3⟩
    cases e : ofC p with
    | none =>
      rw [e] at c3 key
      subst c3
      refine walk ?_
      exact jg_ret1 (by exact hres) (av_f (by simp [key]))
    | some l =>
      rw [e] at c3 key
      obtain ⟨u, rfl, ls⟩ := c3
      refine walk ?_
      exact jg_ret1 (by exact hres) (av_t (by simp [key]))
  by_cases k3 : p.kind = 3
  case pos =>
    have key : rightP p ↔ ofB p ≠ none := by unfold rightP; simp [k3]
    refine walk ?_
    refine jo_call (braOf_g (n := n) (by omega) (p := p) (by exact hok) hl hc) rfl rfl rfl rfl ?_
    rintro v h3 ⟨x3, c3⟩
    cases e : ofB p with
    | none =>
      rw [e] at c3 key
      subst c3
      refine walk ?_
      exact jg_ret1 (by exact hres) (av_f (by simp [key]))
    | some l =>
      rw [e] at c3 key
      obtain ⟨u, rfl, ls⟩ := c3
      refine walk ?_
      exact jg_ret1 (by exact hres) (av_t (by simp [key]))
  by_cases k4 : p.kind = 4
  case pos =>
    have key : rightP p ↔ ofI p ≠ none := by unfold rightP; simp [k4]
    refine walk ?_
    refine jo_call (leaOf_g (n := n) (by omega) (p := p) (by exact hok) hl hc) rfl rfl rfl rfl ?_
    rintro v h3 ⟨x3, c3⟩
    cases e : ofI p with
    | none =>
      rw [e] at c3 key
      subst c3
      refine walk ?_
      exact jg_ret1 (by exact hres) (av_f (by simp [key]))
    | some l =>
      rw [e] at c3 key
      obtain ⟨u, rfl, ls⟩ := c3
      refine walk ?_
      exact jg_ret1 (by exact hres) (av_t (by simp [key]))
  by_cases k5 : p.kind = 5
  case pos =>
    have key : rightP p ↔ okOf p := by unfold rightP; simp [k5]
    refine walk ?_
    refine jo_w (ovrOf_w (n := n) (by omega) (p := p) (by omega) _) rfl rfl rfl rfl ?_
    unfold ofO
    by_cases c : okOf p
    · rw [if_pos c]
      refine walk ?_
      exact jg_ret1 (by exact hres) (av_t (by simpa [key] using c))
    · rw [if_neg c]
      refine walk ?_
      exact jg_ret1 (by exact hres) (av_f (by simpa [key] using c))
  by_cases k6 : p.kind = 6
  case pos =>
    have key : rightP p ↔ ofR p ≠ none := by unfold rightP; simp [k6]
    refine walk ?_
    refine jo_call (freOf_g (n := n) (by omega) (p := p) (by exact hok) hl hc) rfl rfl rfl rfl ?_
    rintro v h3 ⟨x3, c3⟩
    cases e : ofR p with
    | none =>
      rw [e] at c3 key
      subst c3
      refine walk ?_
      exact jg_ret1 (by exact hres) (av_f (by simp [key]))
    | some l =>
      rw [e] at c3 key
      obtain ⟨u, rfl, ls⟩ := c3
      refine walk ?_
      exact jg_ret1 (by exact hres) (av_t (by simp [key]))
  have key : ¬ rightP p := by unfold rightP; simp [k2, k3, k4, k5, k6]
  refine walk ?_
  exact jg_ret1 (by exact hres) (av_f key)
theorem pages_len (z : Int) (img : List UInt8) (p : Nat) : ((readR z img p).2 = 0 → mayF z (readR z img p).1) := by
  unfold readR getR
  split
  · split
    · split
      · rename_i _ _ c
        exact fun _ => c.2.1
      · intro h; cases h
    · intro h; cases h
  · intro h; cases h
noncomputable def rightR (z : Int) (img : List UInt8) (p : Nat) (k : Int) : Pg × Bool := if (readR z img p).2 = 0 ∧ (readR z img p).1.kind = k ∧ rightP (readR z img p).1 then ((readR z img p).1, true) else (Pg.zero, false)
theorem Right_w {n : Nat} (hn : 8 < n) (z : Int) (img : List UInt8) (p : Nat) (k : Int) (hi : img.length < 1000000) (hp : p < 4294967296) (h : Heap) : (TV n).sm 89 [.int .i64 z, .str img, .int .u32 p, .int .i64 k] h = some (.tuple [(rightR z img p k).1.av, .bool (rightR z img p k).2], h) := by
  refine w_of hn rfl rfl rfl fun n hn => body_j rfl rfl ?_
  have w1 := read_w (n := n) (by omega) z img p hi hp
  have hm := pages_len z img p
  unfold rightR
  generalize readR z img p = r at w1 hm ⊢
  obtain ⟨g, e⟩ := r
  dsimp only at w1 hm ⊢
  by_cases c1 : e = 0
  case neg =>
    rw [if_neg fun c => c1 c.1]
    exact auto
  by_cases c2 : g.kind = k
  case neg =>
    rw [if_neg fun c => c2 c.2.1]
    exact auto
  have m := hm c1
  have rl := room_le z
  have w2 := right_w (n := n) (by omega) (p := g) (by unfold mayF at m; omega) (by unfold mayF at m; omega)
  by_cases c3 : rightP g
  · rw [if_pos ⟨c1, c2, c3⟩]
    rw [decide_eq_true c3] at w2
    exact auto
  · rw [if_neg fun c => c3 c.2.2]
    rw [decide_eq_false c3] at w2
    exact auto
end Go.Proofs.YtbmdcfehionkpaaGreat
