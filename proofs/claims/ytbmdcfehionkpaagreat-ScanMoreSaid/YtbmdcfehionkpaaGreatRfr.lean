/- What the functions of this part answer at any input, told by the rules over the evaluator. Conditions: those that each theorem states. -/
import Derived.Test.YtbmdcfehionkpaaGreatRf9
open Go Ev
namespace Go.Proofs.YtbmdcfehionkpaaGreat
set_option maxRecDepth 10000
set_option linter.unusedVariables false
set_option linter.unusedSimpArgs false
set_option maxHeartbeats 4000000
set_option linter.unusedVariables false
/-! ### the document's answer: is a page right -/
theorem rRight_w {n : Nat} (hn : 8 < n) (z : Int) (img : List UInt8) (p : Nat) (k : Int) (hi : img.length < 1000000) (hp : p < 4294967296) (h : Heap) : (TV n).sm 21 [.int .i64 z, .str img, .int .u32 p, .int .i64 k] h = some (.tuple [(rightR z img p k).1.av, .bool (rightR z img p k).2], h) := by
  refine w_of hn rfl rfl rfl fun n hn => body_j rfl rfl ?_
  have w1 := rread_w (n := n) (by omega) z img p hi hp
  have hm := pages_len z img p
  unfold rightR
  generalize readR z img p = r at w1 hm ⊢
  obtain ⟨g, e⟩ := r
  dsimp only at w1 hm ⊢
  by_cases c1 : e = 0
  case neg =>
    rw [if_neg fun c => c1 c.1]
    exact auto
  subst c1
  by_cases c2 : g.kind = k
  case neg =>
    rw [if_neg fun c => c2 c.2.1]
    exact auto
  have m := hm rfl
  have rl := room_le z
  have bl : g.body.length ≤ 100000 := by unfold mayF at m; omega
  have bc : g.count < 1000000000 := by unfold mayF at m; omega
  clear hm
  by_cases k2 : k = 2
  case pos =>
    have key : rightP g ↔ ofC g ≠ none := by unfold rightP; simp [c2, k2]
    refine walk ?_
    refine jo_call (rcatOf_g (n := n) (by omega) (p := g) (by exact hok) bl bc) rfl rfl rfl rfl ?_
    rintro v h3 ⟨x3, c3⟩
    cases e : ofC g with
    | none =>
      rw [e] at c3 key
      subst c3
      rw [if_neg fun c => by have := key.1 c.2.2; exact absurd rfl this]
      refine walk ?_
      exact jg_ret2 (by exact hres) rfl
    | some l =>
      rw [e] at c3 key
      obtain ⟨u, rfl, ls⟩ := c3
      rw [if_pos ⟨rfl, c2, key.2 (by simp)⟩]
      refine walk ?_
      exact jg_ret2 (by exact hres) rfl
  by_cases k3 : k = 3
  case pos =>
    have key : rightP g ↔ ofB g ≠ none := by unfold rightP; simp [c2, k3]
    refine walk ?_
    refine jo_call (rbraOf_g (n := n) (by omega) (p := g) (by exact hok) bl bc) rfl rfl rfl rfl ?_
    rintro v h3 ⟨x3, c3⟩
    cases e : ofB g with
    | none =>
      rw [e] at c3 key
      subst c3
      rw [if_neg fun c => by have := key.1 c.2.2; exact absurd rfl this]
      refine walk ?_
      exact jg_ret2 (by exact hres) rfl
    | some l =>
      rw [e] at c3 key
      obtain ⟨u, rfl, ls⟩ := c3
      rw [if_pos ⟨rfl, c2, key.2 (by simp)⟩]
      refine walk ?_
      exact jg_ret2 (by exact hres) rfl
  by_cases k4 : k = 4
  case pos =>
    have key : rightP g ↔ ofI g ≠ none := by unfold rightP; simp [c2, k4]
    refine walk ?_
    refine jo_call (rleaOf_g (n := n) (by omega) (p := g) (by exact hok) bl bc) rfl rfl rfl rfl ?_
    rintro v h3 ⟨x3, c3⟩
    cases e : ofI g with
    | none =>
      rw [e] at c3 key
      subst c3
      rw [if_neg fun c => by have := key.1 c.2.2; exact absurd rfl this]
      refine walk ?_
      exact jg_ret2 (by exact hres) rfl
    | some l =>
      rw [e] at c3 key
      obtain ⟨u, rfl, ls⟩ := c3
      rw [if_pos ⟨rfl, c2, key.2 (by simp)⟩]
      refine walk ?_
      exact jg_ret2 (by exact hres) rfl
  by_cases k5 : k = 5
  case pos =>
    have key : rightP g ↔ okOf g := by unfold rightP; simp [c2, k5]
    refine walk ?_
    refine jo_w (rovrOf_w (n := n) (by omega) (p := g) (by omega) _) rfl rfl rfl rfl ?_
    unfold ofO
    by_cases c : okOf g
    · rw [if_pos c, if_pos ⟨rfl, c2, key.2 c⟩]
      refine walk ?_
      exact jg_ret2 (by exact hres) rfl
    · rw [if_neg c, if_neg fun d => c (key.1 d.2.2)]
      refine walk ?_
      exact jg_ret2 (by exact hres) rfl
  by_cases k6 : k = 6
  case pos =>
    have key : rightP g ↔ ofR g ≠ none := by unfold rightP; simp [c2, k6]
    refine walk ?_
    refine jo_call (rfreOf_g (n := n) (by omega) (p := g) (by exact hok) bl bc) rfl rfl rfl rfl ?_
    rintro v h3 ⟨x3, c3⟩
    cases e : ofR g with
    | none =>
      rw [e] at c3 key
      subst c3
      rw [if_neg fun c => by have := key.1 c.2.2; exact absurd rfl this]
      refine walk ?_
      exact jg_ret2 (by exact hres) rfl
    | some l =>
      rw [e] at c3 key
      obtain ⟨u, rfl, ls⟩ := c3
      rw [if_pos ⟨rfl, c2, key.2 (by simp)⟩]
      refine walk ?_
      exact jg_ret2 (by exact hres) rfl
  have key : ¬ rightP g := by unfold rightP; simp [c2, k2, k3, k4, k5, k6]
  rw [if_neg fun d => key d.2.2]
  refine walk ?_
  exact jg_ret2 (by exact hres) rfl
end Go.Proofs.YtbmdcfehionkpaaGreat
