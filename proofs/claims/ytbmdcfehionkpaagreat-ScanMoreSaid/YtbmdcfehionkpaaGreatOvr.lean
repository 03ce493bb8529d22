/- What the functions of this part answer at any input, told by the rules over the evaluator. Conditions: those that each theorem states. -/
import Derived.Test.YtbmdcfehionkpaaGreatBra
open Go Ev
namespace Go.Proofs.YtbmdcfehionkpaaGreat
set_option maxRecDepth 10000
set_option linter.unusedVariables false
set_option linter.unusedSimpArgs false
set_option maxHeartbeats 4000000
set_option linter.unusedVariables false
/-! ### overflow pages -/
theorem ovrNum_w {n : Nat} (hn : 0 < n) (p : Nat) (h : Heap) : (TV n).sm 189 [.int .u32 p] h = some (.bool (decide (num p)), h) := by
  refine w_of hn rfl rfl rfl fun n hn => body_j rfl rfl ?_
  unfold num
  exact auto
def okO (z : Int) (p nx tx : Nat) (s : List UInt8) : Prop := room z ≠ 0 ∧ s ≠ [] ∧ (s.length : Int) ≤ room z ∧ num p ∧ tx ≤ 4611686018427387904 ∧ (nx = 0 ∨ num nx ∧ ¬ (s.length : Int) < room z)
instance (z : Int) (p nx tx : Nat) (s : List UInt8) : Decidable (okO z p nx tx s) := inferInstanceAs (Decidable (_ ∧ _))
def pageO (z : Int) (p nx tx : Nat) (s : List UInt8) : Pg × Int := if okO z p nx tx s then (⟨5, s.length, p, nx, tx, bodyS z s⟩, 0) else (Pg.zero, 2)
theorem ovrPage_w {n : Nat} (hn : 4 < n) {z : Int} {p nx tx : Nat} {s : List UInt8} (hl : s.length ≤ 1000000) (h : Heap) : (TV n).sm 169 [.int .i64 z, .int .u32 p, .int .u32 nx, .int .u64 tx, .str s] h = some (.tuple [(pageO z p nx tx s).1.av, .int .i64 (pageO z p nx tx s).2], h) := by
  refine w_of hn rfl rfl rfl fun n hn => body_j rfl rfl ?_
  have w1 := room_w (n := n) (by omega) z
  have w2 := ovrNum_w (n := n) (by omega) p
  have w3 := ovrNum_w (n := n) (by omega) nx
  unfold pageO
  by_cases c : okO z p nx tx s
  case neg =>
    rw [if_neg c]
    by_cases c1 : room z = 0
    · exact auto
    by_cases c2 : s = []
    · exact auto
    by_cases c3 : (s.length : Int) ≤ room z
    case neg => exact auto
    by_cases c4 : num p
    case neg => exact auto
    by_cases c5 : tx ≤ 4611686018427387904
    case neg => exact auto
    have c6 : ¬ nx = 0 := fun e => c ⟨c1, c2, c3, c4, c5, .inl e⟩
    by_cases c7 : num nx
    case neg => exact auto
    have c8 : (s.length : Int) < room z := Decidable.byContradiction fun e => c ⟨c1, c2, c3, c4, c5, .inr ⟨c7, e⟩⟩
    exact auto
  rw [if_pos c]
  obtain ⟨c1, c2, c3, c4, c5, c6⟩ := c
  have fin : ∀ {k : List K} {L : List (Nat × AV)} {Q : Res → Prop}, True := trivial
  by_cases c7 : nx = 0
  · refine walk ?_
    refine jo_val rfl rfl rfl (k_bytes (d := .string) (by omega) rfl rfl rfl rfl rfl) ?_
    refine walk ?_
    refine jo_w (body_w (n := n) (by omega) (z := z) (by_bytes _ _ s) (by exact hok) rfl) rfl rfl rfl rfl ?_
    rw [bodyR_eq]
    refine walk ?_
    exact jg_ret2 (by exact hres) rfl
  · obtain ⟨c8, c9⟩ : num nx ∧ ¬ (s.length : Int) < room z := c6.resolve_left c7
    refine walk ?_
    refine jo_val rfl rfl rfl (k_bytes (d := .string) (by omega) rfl rfl rfl rfl rfl) ?_
    refine walk ?_
    refine jo_w (body_w (n := n) (by omega) (z := z) (by_bytes _ _ s) (by exact hok) rfl) rfl rfl rfl rfl ?_
    rw [bodyR_eq]
    refine walk ?_
    exact jg_ret2 (by exact hres) rfl
def okOf (p : Pg) : Prop := 0 ≤ p.count ∧ p.count ≤ p.body.length ∧ pageO (p.body.length + 24) p.page p.link p.tx (p.body.take p.count.toNat) = (p, 0)
instance (p : Pg) : Decidable (okOf p) := inferInstanceAs (Decidable (_ ∧ _))
def ofO (p : Pg) : AV := if okOf p then .tuple [.str (p.body.take p.count.toNat), .int .u32 p.link, .int .i64 0] else .tuple [.str [], .int .u32 0, .int .i64 4]
theorem ovrOf_w {n : Nat} (hn : 5 < n) {p : Pg} (hl : p.body.length ≤ 1000000) (h : Heap) : (TV n).sm 148 [p.av] h = some (ofO p, h) := by
  refine w_of hn rfl rfl (by unfold ofO; split <;> rfl) fun n hn => body_j rfl rfl ?_
  unfold ofO
  by_cases c1 : 0 ≤ p.count
  case neg => rw [if_neg fun c => c1 c.1]; exact auto
  by_cases c2 : p.count ≤ p.body.length
  case neg => rw [if_neg fun c => c2 c.2.1]; exact auto
  obtain ⟨m, hm⟩ := Int.eq_ofNat_of_zero_le c1
  have em : p.count.toNat = m := by omega
  have w1 := ovrPage_w (n := n) (by omega) (z := (p.body.length : Int) + 24) (p := p.page) (nx := p.link) (tx := p.tx) (s := p.body.take p.count.toNat) (by rw [List.length_take]; omega)
  have key : okOf p ↔ pageO ((p.body.length : Int) + 24) p.page p.link p.tx (p.body.take p.count.toNat) = (p, 0) := ⟨fun c => c.2.2, fun c => ⟨c1, c2, c⟩⟩
  generalize pageO ((p.body.length : Int) + 24) p.page p.link p.tx (p.body.take p.count.toNat) = r at key w1
  obtain ⟨r1, r2⟩ := r
  refine walk ?_
  by_cases c3 : r2 = 0
  case neg =>
    rw [if_neg fun q => c3 (congrArg Prod.snd (key.1 q))]
    refine walk ?_
    exact jg_ret2 (by exact hres) rfl
  subst c3
  refine walk ?_
  refine jo_val rfl rfl rfl (k_bin rfl rfl rfl (bin_ne (page_eqv r1 p) rfl) rfl) ?_
  by_cases c4 : r1 = p
  · rw [if_pos (key.2 (by rw [c4]))]
    refine walk ?_
    refine jg_drawn (q := 6) (ms := [0, 0, 2, 1, 15, 31]) (hl := [[47, 48], [46, 2], [46, 2], [47, 48], [], []]) hok rfl (by kernel_rfl) (by kernel_rfl) rfl ?_
    refine walk ?_
    exact jg_ret2 (by exact hres) rfl
  · rw [if_neg fun q => c4 (congrArg Prod.fst (key.1 q))]
    refine walk ?_
    exact jg_ret2 (by exact hres) rfl
end Go.Proofs.YtbmdcfehionkpaaGreat
