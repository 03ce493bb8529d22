/- What the functions of this part answer at any input, told by the rules over the evaluator. Conditions: those that each theorem states. -/
import Derived.Test.YtbmdcfehionkpaaGreatLv
open Go Ev
namespace Go.Proofs.YtbmdcfehionkpaaGreat
set_option maxRecDepth 10000
set_option linter.unusedVariables false
set_option linter.unusedSimpArgs false
set_option maxHeartbeats 4000000
set_option linter.unusedVariables false
def Good (n : Int) : Prop := 128 ≤ n ∧ n ≤ 4096 ∧ n % 64 = 0
instance (n : Int) : Decidable (Good n) := inferInstanceAs (Decidable (_ ∧ _ ∧ _))
def room (n : Int) : Int := if Good n then n - 24 else 0
theorem good_w {n : Nat} (hn : 0 < n) (s : Int) (h : Heap) : (TV n).sm 100 [.int .i64 s] h = some (.bool (decide (Good s)), h) := by
  refine w_of hn rfl rfl rfl fun n hn => body_j rfl rfl ?_
  unfold Good
  have e : 128 ≤ s → s.tmod 64 = s % 64 := fun h => Int.tmod_eq_emod_of_nonneg (by omega)
  exact auto
theorem room_w {n : Nat} (hn : 1 < n) (s : Int) (h : Heap) : (TV n).sm 158 [.int .i64 s] h = some (.int .i64 (room s), h) := by
  refine w_of hn rfl rfl rfl fun n hn => body_j rfl rfl ?_
  unfold room
  refine walk ?_
  refine jo_w (good_w (by omega) s _) rfl rfl rfl rfl ?_
  by_cases g : Good s
  all_goals
    have := g
    unfold Good at this
    exact auto
/-! ### pages of an image -/
def pages (n : Int) (img : List UInt8) : Nat := if Good n then img.length / n.toNat else 0
theorem pages_le (n : Int) (img : List UInt8) : pages n img ≤ img.length := by
  unfold pages
  split
  · exact Nat.div_le_self _ _
  · omega
theorem pages_w {n : Nat} (hn : 1 < n) (s : Int) (img : List UInt8) (hi : img.length < 1000000000) (h : Heap) : (TV n).sm 71 [.int .i64 s, .str img] h = some (.int .i64 (pages s img), h) := by
  refine w_of hn rfl rfl rfl fun n hn => body_j rfl rfl ?_
  refine walk ?_
  refine jo_w (good_w (by omega) s _) rfl rfl rfl rfl ?_
  unfold pages
  by_cases g : Good s
  · have g1 := g.1
    have g2 := g.2.1
    have e : (img.length : Int).tdiv s = ((img.length / s.toNat : Nat) : Int) := by
      obtain ⟨m, rfl⟩ := Int.eq_ofNat_of_zero_le (show 0 ≤ s by omega)
      rfl
    have hq : img.length / s.toNat ≤ img.length := Nat.div_le_self _ _
    rw [if_pos g, ← e]
    have hq0 : (0 : Int) ≤ (img.length / s.toNat : Nat) := Int.natCast_nonneg _
    rw [← Int.ofNat_le, ← e] at hq
    rw [← e] at hq0
    exact auto
  · rw [if_neg g]
    exact auto
/-- the bytes of a page -/
def atL (n : Int) (img : List UInt8) (p : Nat) : List UInt8 := (img.drop (p * n.toNat)).take n.toNat
theorem at_in {n : Int} {img : List UInt8} {p : Nat} (hp : p < pages n img) : Good n ∧ p * n.toNat + n.toNat ≤ img.length := by
  unfold pages at hp
  split at hp
  · rename_i g
    refine ⟨g, ?_⟩
    have h1 : (p + 1) * n.toNat ≤ img.length := Nat.le_trans (Nat.mul_le_mul_right _ (show (p + 1) ≤ img.length / n.toNat from hp)) (Nat.div_mul_le_self _ _)
    rw [Nat.succ_mul] at h1
    exact h1
  · omega
theorem at_w {n : Nat} (hn : 2 < n) (s : Int) (img : List UInt8) (p : Nat) (hi : img.length < 1000000000) (hp : p < 4294967296) (h : Heap) : (TV n).sm 104 [.int .i64 s, .str img, .int .u32 p] h =
    some (if p < pages s img then .tuple [.str (atL s img p), .bool true] else .tuple [.str [], .bool false], h) := by
  have hq := pages_le s img
  refine w_of hn rfl rfl (by split <;> rfl) fun n hn => body_j rfl rfl ?_
  refine walk ?_
  refine jo_w (pages_w (by omega) s img hi _) rfl rfl rfl rfl ?_
  by_cases hlt : p < pages s img
  · obtain ⟨g, hb⟩ := at_in hlt
    have g1 := g.1
    have g2 := g.2.1
    unfold atL
    obtain ⟨m, rfl⟩ := Int.eq_ofNat_of_zero_le (show 0 ≤ s by omega)
    rw [if_pos hlt]
    simp only [Int.toNat_natCast] at hb ⊢
    refine walk ?_
    exact jg_ret2 hres (by show AV.tuple [AV.str _, _] = _; rw [Nat.add_sub_cancel_left])
  · refine walk ?_
    rw [if_neg hlt]
    exact jg_ret2 hres rfl
/-! ### pages -/
structure Pg where
  kind : Int
  count : Int
  page : Nat
  link : Nat
  tx : Nat
  body : List UInt8
  deriving DecidableEq
def Pg.cs (p : Pg) : List AV := [.int .i64 p.kind, .int .i64 p.count, .int .u32 p.page, .int .u32 p.link, .int .u64 p.tx, .str p.body]
def Pg.av (p : Pg) : AV := .agg p.cs
def Pg.zero : Pg := ⟨0, 0, 0, 0, 0, []⟩
def mayF (n : Int) (p : Pg) : Prop := Good n ∧ 1 ≤ p.kind ∧ p.kind ≤ 6 ∧ 0 ≤ p.count ∧ p.count ≤ 65535 ∧ p.page ≤ 2147483647 ∧ p.link ≤ 2147483647 ∧ p.tx ≤ 4611686018427387904 ∧ (p.body.length : Int) = room n
instance (n : Int) (p : Pg) : Decidable (mayF n p) := inferInstanceAs (Decidable (_ ∧ _))
theorem may_w {n : Nat} (hn : 2 < n) (s : Int) (p : Pg) (hb : p.body.length < 1000000000) (h : Heap) : (TV n).sm 130 [.int .i64 s, p.av] h = some (.bool (decide (mayF s p)), h) := by
  refine w_of hn rfl rfl rfl fun n hn => body_j rfl rfl ?_
  have w1 := good_w (n := n) (by omega) s
  have w2 := room_w (n := n) (by omega) s
  refine walk ?_
  refine jg_drawn (q := 46) (ms := [0, 1, 3, 7, 15, 31, 63, 127, 255, 511, 1023, 2047, 4095, 8191, 16383, 32767, 65535, 131071, 262143, 524287, 1048575, 2097151, 4194303, 8388607, 16777215, 33554431, 67108863, 134217727, 268435455, 536870911, 1073741823, 2147483647, 4294967295, 8589934591, 17179869183, 34359738367, 68719476735, 137438953471, 274877906943, 549755813887, 1099511627775, 274877906943, 2473901162495, 8796093022207, 17592186044415, 35184372088831]) (hl := [[], [], [], [], [], [], [], [], [], [], [], [], [], [], [], [], [], [], [], [], [], [], [], [], [], [], [], [], [], [], [], [], [], [], [], [], [], [], [46, 47], [46, 47], [46, 47], [43, 44, 45], [43, 44, 45], [], [], []]) hok rfl (by kernel_rfl) (by kernel_rfl) rfl ?_
  unfold mayF
  exact auto
end Go.Proofs.YtbmdcfehionkpaaGreat
