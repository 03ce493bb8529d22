/- What the functions of this part answer at any input, told by the rules over the evaluator. Conditions: those that each theorem states. -/
import Derived.Test.YtbmdcfehionkpaaGreatGap
import Derived.Test.YtbmdcfehionkpaaGreatRfr
open Go Ev
namespace Go.Proofs.YtbmdcfehionkpaaGreat
set_option maxRecDepth 10000
set_option linter.unusedVariables false
set_option linter.unusedSimpArgs false
set_option maxHeartbeats 4000000
set_option linter.unusedVariables false
/-! ### metas -/
structure Mt where
  tx : Nat
  size : Int
  root : Nat
  free : Nat
  pages : Nat
  deriving DecidableEq
def Mt.cs (m : Mt) : List AV := [.int .u64 m.tx, .int .i64 m.size, .int .u32 m.root, .int .u32 m.free, .int .u32 m.pages]
def Mt.av (m : Mt) : AV := .agg m.cs
def Mt.zero : Mt := ⟨0, 0, 0, 0, 0⟩
def inM (n p : Nat) : Prop := n < p ∧ ¬ n = 1
instance (n p : Nat) : Decidable (inM n p) := inferInstanceAs (Decidable (_ ∧ _))
def mayM (m : Mt) : Prop := m.tx ≤ 4611686018427387904 ∧ Good m.size ∧ 2 ≤ m.pages ∧ m.pages ≤ 2147483647 ∧ inM m.root m.pages ∧ inM m.free m.pages
instance (m : Mt) : Decidable (mayM m) := inferInstanceAs (Decidable (_ ∧ _))
theorem within_g {q b : Nat} {e : TypeId} {m : Mt} {n : Nat} {h : Heap} (g : h.get b = some (.cells e m.cs true)) (hb : b < h.next) : Gives (TV q) 161 [.int .u32 n, .ptr b 0] h (fun v h' => v = .bool (decide (inM n m.pages)) ∧ h' = h) := by
  refine call_j (no_w rfl rfl) rfl rfl ?_
  unfold inM
  by_cases c1 : n < m.pages
  · by_cases c2 : n = 1
    · refine walk ?_
      exact jg_ret1 (by exact hres) ⟨av_f (by omega), rfl⟩
    · refine walk ?_
      exact jg_ret1 (by exact hres) ⟨av_t (by omega), rfl⟩
  · refine walk ?_
    exact jg_ret1 (by exact hres) ⟨av_f (by omega), rfl⟩
theorem metMay_w {n : Nat} (hn : 1 < n) (m : Mt) (h : Heap) : (TV n).sm 134 [m.av] h = some (.bool (decide (mayM m)), h) := by
  refine w_of hn rfl rfl rfl fun n hn => body_j rfl rfl ?_
  have ok0 : Heap.ok ⟨.nil, 0⟩ := ok_nil
  generalize (⟨.nil, 0⟩ : Heap) = h at ok0 ⊢
  have w1 := good_w (n := n) (by omega) m.size
  by_cases c1 : m.tx ≤ 4611686018427387904
  case neg =>
    have bad : ¬ mayM m := fun c => c1 c.1
    refine walk ?_
    exact jg_ret1 (by exact hres) (av_f bad)
  by_cases c2 : Good m.size
  case neg =>
    have bad : ¬ mayM m := fun c => c2 c.2.1
    refine walk ?_
    exact jg_ret1 (by exact hres) (av_f bad)
  by_cases c3 : 2 ≤ m.pages
  case neg =>
    have bad : ¬ mayM m := fun c => c3 c.2.2.1
    refine walk ?_
    exact jg_ret1 (by exact hres) (av_f bad)
  by_cases c4 : m.pages ≤ 2147483647
  case neg =>
    have bad : ¬ mayM m := fun c => c4 c.2.2.2.1
    refine walk ?_
    exact jg_ret1 (by exact hres) (av_f bad)
  refine walk ?_
  refine jo_call (within_g (m := m) (by exact hget) (by exact hlt)) rfl rfl rfl rfl ?_
  rintro _ _ ⟨rfl, rfl⟩
  by_cases c5 : inM m.root m.pages
  case neg =>
    have bad : ¬ mayM m := fun c => c5 c.2.2.2.2.1
    refine walk ?_
    exact jg_ret1 (by exact hres) (av_f bad)
  refine walk ?_
  refine jo_call (within_g (m := m) (by exact hget) (by exact hlt)) rfl rfl rfl rfl ?_
  rintro _ _ ⟨rfl, rfl⟩
  have e : mayM m ↔ inM m.free m.pages := ⟨fun c => c.2.2.2.2.2, fun c => ⟨c1, c2, c3, c4, c5, c⟩⟩
  refine walk ?_
  exact jg_ret1 (by exact hres) (av_d e.symm)
theorem metSlot_w {n : Nat} (hn : 0 < n) (x : Nat) (hx : x < 2 ^ 64) (h : Heap) : (TV n).sm 137 [.int .u64 x] h = some (.int .u32 (x % 2 : Nat), h) := by
  refine w_of hn rfl rfl rfl fun n hn => body_j rfl rfl ?_
  have e : x &&& 1 = x % 2 := Nat.and_one_is_mod x
  refine walk ?_
  refine jo_val rfl rfl rfl (k_bin rfl rfl rfl (b_and (k := .u64) (y := 1) rfl hx (by decide)) rfl) ?_
  rw [e]
  refine walk ?_
  exact jg_ret1 (by exact hres) rfl
def magicM : List UInt8 := [99, 97, 114, 101, 101, 110, 48, 49]
def encM (m : Mt) : List UInt8 := magicM ++ leb m.size.toNat 2 ++ leb m.root 4 ++ leb m.free 4 ++ leb m.pages 4
theorem encM_len (m : Mt) : (encM m).length = 22 := by simp [encM, leb_len, magicM]
def pageM (m : Mt) : Pg × Int := if mayM m then (⟨1, 0, m.tx % 2, 0, m.tx, bodyS m.size (encM m)⟩, 0) else (Pg.zero, 2)
theorem metPage_w {n : Nat} (hn : 4 < n) (m : Mt) (h : Heap) : (TV n).sm 109 [m.av] h = some (.tuple [(pageM m).1.av, .int .i64 (pageM m).2], h) := by
  refine w_of hn rfl rfl rfl fun n hn => body_j rfl rfl ?_
  have ok0 : Heap.ok ⟨.nil, 0⟩ := ok_nil
  generalize (⟨.nil, 0⟩ : Heap) = h at ok0 ⊢
  have w1 := metMay_w (n := n) (by omega) m
  unfold pageM
  by_cases c : mayM m
  case neg =>
    rw [if_neg c]
    exact auto
  rw [if_pos c]
  obtain ⟨c1, c2, c3, c4, c5, c6⟩ := id c
  have g1 := c2.1
  have g2 := c2.2.1
  obtain ⟨k, hk'⟩ := Int.eq_ofNat_of_zero_le (show 0 ≤ m.size by omega)
  have kb : k ≤ 4096 := by omega
  have r1 := c5.1
  have r2 := c6.1
  have ek : m.size.toNat = k := by omega
  have w2 := metSlot_w (n := n) (by omega) m.tx (by omega)
  refine walk ?_
  refine jo_val rfl rfl rfl (k_convS rfl rfl rfl rfl rfl (by exact hget)) ?_
  have mcs : m.cs = [.int .u64 m.tx, .int .i64 (k : Nat), .int .u32 m.root, .int .u32 m.free, .int .u32 m.pages] := by unfold Mt.cs; rw [hk']
  have mav : m.av.cells = [.int .u64 m.tx, .int .i64 (k : Nat), .int .u32 m.root, .int .u32 m.free, .int .u32 m.pages] := mcs
  rw [mav]
  refine walk ?_
  refine jo_call (octet_put (v := .slice (h.next + 2) 0 8 8) (s := magicM) (x := k) ⟨rfl, by exact hlt, _, _, _, by exact get_new _ _, by decide, by rfl⟩ (by omega) (by decide) (by decide) (by decide) rfl) rfl rfl rfl rfl ?_
  rintro v1 g1 ⟨o1, x1⟩
  have n1 : h.next + 3 ≤ g1.next := x1.nx
  have ga : g1.get h.next = some (.cells 43 [.int .u64 m.tx, .int .i64 (k : Nat), .int .u32 m.root, .int .u32 m.free, .int .u32 m.pages] true) := by exact hget
  have gb : g1.get (h.next + 1) = some (.cells 30 Pg.zero.cs true) := by exact hget
  have okg : g1.ok := by exact hok
  clear x1
  refine walk ?_
  refine jg_loop1 ?_
  refine walk ?_
  refine jo_call (octet_put (o1.by.ext (by exact hext)) (by omega) (by decide) (by decide) (by simp [leb_len, magicM]) o1.by.ns) rfl rfl rfl rfl ?_
  rintro v2 g2 ⟨o2, x2⟩
  have n2 : g1.next + 1 ≤ g2.next := x2.nx
  have q2 : g2.get g1.next = some (.cells 27 [.int .u32 m.root, .int .u32 m.free, .int .u32 m.pages] true) := by exact hget
  have qa2 : g2.get h.next = some (.cells 43 [.int .u64 m.tx, .int .i64 (k : Nat), .int .u32 m.root, .int .u32 m.free, .int .u32 m.pages] true) := by exact hget
  have qb2 : g2.get (h.next + 1) = some (.cells 30 Pg.zero.cs true) := by exact hget
  have ok2 : g2.ok := by exact hok
  clear x2
  refine walk ?_
  refine jg_loop1 ?_
  refine walk ?_
  refine jo_call (octet_put o2.by (by omega) (by decide) (by decide) (by simp [leb_len, magicM]) o2.by.ns) rfl rfl rfl rfl ?_
  rintro v3 g3 ⟨o3, x3⟩
  have n3 := x3.nx
  refine walk ?_
  refine jg_loop1 ?_
  refine walk ?_
  refine jo_call (octet_put o3.by (by omega) (by decide) (by decide) (by simp [leb_len, magicM]) o3.by.ns) rfl rfl rfl rfl ?_
  rintro v4 g4 ⟨o4, x4⟩
  have n4 := x4.nx
  have ok4 : g4.ok := by exact hok
  refine walk ?_
  refine jg_loop1 ?_
  have enc : magicM ++ leb k 2 ++ leb m.root 4 ++ leb m.free 4 ++ leb m.pages 4 = encM m := by unfold encM; rw [ek]
  have w4 := body_w (n := n) (by omega) (z := (k : Int)) o4.by ok4 o4.by.ns
  rw [enc, bodyR_eq] at w4
  have hx : m.tx < 2 ^ 64 := by omega
  refine walk ?_
  refine jo_w w4 rfl rfl rfl rfl ?_
  refine walk ?_
  refine jg_drawn (q := 9) (ms := [0, 1, 3, 0, 8, 0, 63, 127, 255]) (hl := [[46, 47, 48], [46, 47, 48], [46, 47, 48], [43, 44, 45, 48], [43, 44, 45, 48], [43, 44, 45, 46, 47], [], [], []]) hok rfl (by kernel_rfl) (by kernel_rfl) rfl ?_
  refine walk ?_
  rw [hk']
  exact jg_ret2 (by exact hres) rfl
end Go.Proofs.YtbmdcfehionkpaaGreat
