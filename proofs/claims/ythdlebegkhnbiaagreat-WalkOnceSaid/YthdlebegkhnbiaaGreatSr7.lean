/- What the functions of this part answer at any input, told by the rules over the evaluator. Conditions: those that each theorem states. -/
import Derived.Test.YthdlebegkhnbiaaGreatSr6
import Derived.Test.YthdlebegkhnbiaaGreatSr0
open Go Ev
namespace Go.Proofs.YthdlebegkhnbiaaGreat
set_option maxRecDepth 10000
set_option linter.unusedVariables false
set_option linter.unusedSimpArgs false
set_option maxHeartbeats 4000000
set_option linter.unusedVariables false
theorem pow_w {n : Nat} (hn : 2 < n) (x : Nat) (hx : x < 50) (h : Heap) : (TV n).sm 81 [.int .i64 x] h = some (.int .u64 ((2 ^ len8 x : Nat) : Int), h) := by
  refine w_of hn rfl rfl rfl fun n hn => body_j rfl rfl ?_
  have w1 := len_w (n := n) (by omega) x hx
  have l6 : len8 x ≤ 6 := by unfold len8; (repeat' split) <;> omega
  refine walk ?_
  refine jo_val rfl rfl rfl (k_bin rfl rfl rfl (b_shl (x := 1) (y := len8 x) rfl (by show len8 x ≤ 64; omega) (by rw [Nat.one_mul]; exact Nat.pow_lt_pow_right (by decide) (show len8 x < 64 by omega))) rfl) ?_
  rw [Nat.one_mul]
  refine walk ?_
  exact jg_ret1 (by exact hres) rfl
theorem b_shl64 {T : Ev.Tabs} {t : TypeId} {k' : IntKind} (x y : Nat) : ∃ r : Nat, r < 18446744073709551616 ∧ binA T .shl t (.int .u64 (x : Int)) (.int k' (y : Int)) = some (.int .u64 (r : Int)) := by
  have h1 : ¬ ((y : Int) < 0) := by omega
  have h2 : 0 ≤ IntKind.u64.wrap ((x : Int) * 2 ^ (min ((y : Int).toNat) IntKind.u64.bits)) ∧ IntKind.u64.wrap ((x : Int) * 2 ^ (min ((y : Int).toNat) IntKind.u64.bits)) < 18446744073709551616 := by
    have e : ∀ z : Int, IntKind.u64.wrap z = z % 18446744073709551616 := fun z => rfl
    rw [e]
    exact ⟨Int.emod_nonneg _ (by decide), Int.emod_lt_of_pos _ (by decide)⟩
  refine ⟨(IntKind.u64.wrap ((x : Int) * 2 ^ (min ((y : Int).toNat) IntKind.u64.bits))).toNat, by omega, ?_⟩
  simp only [binA, shiftOp, if_neg h1]
  rw [Int.toNat_of_nonneg h2.1]
theorem next_g {n : Nat} {S x : Nat} {h : Heap} (hg : h.get S = some (.cells 140 [.int .u64 x] true)) (hl : S < h.next) (hx : x < 18446744073709551616) (hk : h.ok) : Gives (TV n) 82 [.ptr S 0] h (fun v' h' => ∃ r : Nat, r < 18446744073709551616 ∧ v' = .int .u64 r ∧ h'.get S = some (.cells 140 [.int .u64 r] true) ∧ Only S h h') := by
  refine call_j (no_w rfl rfl) rfl rfl ?_
  obtain ⟨r1, q1, e1⟩ := b_shl64 (T := TV n) (t := 140) (k' := .u64) x 13
  have x1 : Nat.xor x r1 < 18446744073709551616 := Nat.xor_lt_two_pow (n := 64) hx q1
  generalize hX1 : Nat.xor x r1 = X1 at x1
  obtain ⟨r3, q3, e3⟩ := b_shl64 (T := TV n) (t := 140) (k' := .u64) (Nat.xor X1 (X1 / 2 ^ 7)) 17
  have x2 : Nat.xor X1 (X1 / 2 ^ 7) < 18446744073709551616 := Nat.xor_lt_two_pow (n := 64) x1 (Nat.lt_of_le_of_lt (Nat.div_le_self _ _) x1)
  have e2 : binA (TV n) .shr 140 (.int .u64 (X1 : Nat)) (.int .u64 ((7 : Nat) : Int)) = some (.int .u64 ((X1 / 2 ^ 7 : Nat) : Int)) := Ev.b_shr (by decide)
  generalize hX2 : Nat.xor X1 (X1 / 2 ^ 7) = X2 at x2 e3
  have x3 : Nat.xor X2 r3 < 18446744073709551616 := Nat.xor_lt_two_pow (n := 64) x2 q3
  have k1 : Heap.ok { t := h.t, next := h.next + 10 } := Heap.ok_more hk 10
  refine walk ?_
  refine jg_drawn (q := 10) (ms := [0, 1, 3, 0, 8, 24, 56, 127, 255, 511]) (hl := [[6, 7, 8, 9], [6, 7, 8, 9], [6, 7, 8, 9], [3, 4, 5], [3, 4, 5], [3, 4, 5], [3, 4, 5], [], [], []]) hk rfl (by kernel_rfl) (by kernel_rfl) rfl ?_
  refine walk ?_
  refine jd_val rfl rfl rfl rfl (k_bin rfl rfl rfl e1 rfl) ?_
  refine jd_val rfl rfl rfl rfl (k_bin rfl rfl rfl (Ev.b_xor rfl hx q1) rfl) ?_
  rw [show ((x ^^^ r1 : Nat) : Int) = ((X1 : Nat) : Int) from congrArg _ hX1]
  refine walk ?_
  have K2 : Heap.ok (Heap.set { t := h.t, next := h.next + 10 } S (.cells 140 [.int .u64 (X1 : Nat)] true)) := ok_st k1 _ _ (by show S < h.next + 10; omega)
  refine jg_drawn (q := 10) (ms := [0, 1, 3, 0, 8, 24, 56, 127, 255, 511]) (hl := [[15, 16, 17, 18], [15, 16, 17, 18], [15, 16, 17, 18], [12, 13, 14], [12, 13, 14], [12, 13, 14], [12, 13, 14], [], [], []]) K2 rfl (by kernel_rfl) (by kernel_rfl) rfl ?_
  refine walk ?_
  refine jd_val rfl rfl rfl rfl (k_bin rfl rfl rfl e2 rfl) ?_
  refine jd_val rfl rfl rfl rfl (k_bin rfl rfl rfl (Ev.b_xor rfl x1 (Nat.lt_of_le_of_lt (Nat.div_le_self _ _) x1)) rfl) ?_
  rw [show ((X1 ^^^ X1 / 2 ^ 7 : Nat) : Int) = ((X2 : Nat) : Int) from congrArg _ hX2]
  refine walk ?_
  have K3 : Heap.ok (Heap.set (Heap.mk (Heap.set { t := h.t, next := h.next + 10 } S (.cells 140 [.int .u64 (X1 : Nat)] true)).t ((Heap.set { t := h.t, next := h.next + 10 } S (.cells 140 [.int .u64 (X1 : Nat)] true)).next + 10)) S (.cells 140 [.int .u64 (X2 : Nat)] true)) := ok_st (Heap.ok_more K2 10) _ _ (by show S < h.next + 10 + 10; omega)
  refine jg_drawn (q := 10) (ms := [0, 1, 3, 0, 8, 24, 56, 127, 255, 511]) (hl := [[24, 25, 26, 27], [24, 25, 26, 27], [24, 25, 26, 27], [21, 22, 23], [21, 22, 23], [21, 22, 23], [21, 22, 23], [], [], []]) K3 rfl (by kernel_rfl) (by kernel_rfl) rfl ?_
  refine walk ?_
  refine jd_val rfl rfl rfl rfl (k_bin rfl rfl rfl e3 rfl) ?_
  refine jd_val rfl rfl rfl rfl (k_bin rfl rfl rfl (Ev.b_xor rfl x2 q3) rfl) ?_
  refine walk ?_
  refine jg_ret1 (by exact hres) ⟨_, x3, rfl, Heap.gs _ _ _, ⟨by show h.next ≤ h.next + 10 + 10 + 10; omega, fun c hc hs => ?_, fun _ => ok_st (Heap.ok_more K3 10) _ _ (by show S < h.next + 10 + 10 + 10; omega)⟩⟩
  rw [Heap.gn _ _ _ _ hs]
  show Heap.get (Heap.set _ _ _) c = _
  rw [Heap.gn _ _ _ _ hs]
  show Heap.get (Heap.set _ _ _) c = _
  rw [Heap.gn _ _ _ _ hs]
  rfl
theorem break_g {n : Nat} (hn : 2 < n) {v : AV} {B a b : Nat} {d : Array Nat} {tl : List AV} {h : Heap} (D : Dat h v B d tl) (hk : h.ok) (hs : d.size < 50) (hab : a + 12 < b) (hb : b ≤ d.size) : Gives (TV n) 52 [v, .int .i64 a, .int .i64 b] h (fun _ h' => ∃ d', Go.Sort.PermIn a b d d' ∧ Dat h' v B d' tl ∧ Only B h h') := by
  refine call_j (no_w rfl rfl) rfl rfl ?_
  obtain ⟨l, hl⟩ : ∃ l, b - a = l := ⟨_, rfl⟩
  have e0 : ((b : Int) - a) = (l : Int) := by omega
  have w1 := pow_w (n := n) hn l (by omega)
  have M2 : ∀ l, l < 50 → 13 ≤ l → 2 ^ len8 l ≤ 2 * l ∧ 1 ≤ 2 ^ len8 l ∧ 2 ^ len8 l ≤ 64 := by decide
  have m2 := M2 l (by omega) (by omega)
  have eq : IntKind.i64.wrap ((l : Int).tdiv 4) = ((l / 4 : Nat) : Int) := by
    rw [show ((l : Int).tdiv 4) = ((l / 4 : Nat) : Int) from rfl, wrap_i64 (by omega) (by omega)]
  obtain ⟨Q, hQ⟩ : ∃ Q, a + l / 4 * 2 = Q := ⟨_, rfl⟩
  have eQ : (a : Int) + IntKind.i64.wrap ((l : Int).tdiv 4) * 2 = (Q : Int) := by rw [eq]; omega
  have eQ1 : ((Q : Int) - 1) = ((Q - 1 : Nat) : Int) := by omega
  have eQ2 : ((Q : Int) + 1) = ((Q + 1 : Nat) : Int) := by omega
  generalize hm : 2 ^ len8 l = m at w1 m2
  have em : ((m : Int) - 1) = ((m - 1 : Nat) : Int) := by omega
  have hBS : B ≠ h.next := by have := D.lt; omega
  have x1 : Ext h ((h.alloc (.cells 140 [.int .u64 0] true)).set h.next (.cells 140 [.int .u64 (l : Nat)] true)) := by exact hext
  refine walk ?_
  rw [e0]
  refine walk ?_
  rw [eQ, eQ1]
  refine jg_loop (ι := Nat × Array Nat) (fun x => Q + 2 - x.1) (fun x => [(0, v), (1, .int .i64 a), (6, .int .i64 (l : Nat)), (7, .ptr h.next 0), (8, .int .u64 (m : Nat)), (9, .int .i64 (x.1 : Nat))]) (fun x g => Q ≤ x.1 + 1 ∧ x.1 ≤ Q + 2 ∧ Go.Sort.PermIn a b d x.2 ∧ Dat g v B x.2 tl ∧ Only B h g ∧ h.next < g.next ∧ ∃ q : Nat, q < 18446744073709551616 ∧ g.get h.next = some (.cells 140 [.int .u64 q] true)) (Q - 1, d) hsub ⟨by simp only; omega, by simp only; omega, Go.Sort.permIn_refl _ _ _, D.ext x1, ⟨x1.nx, fun c hc _ => x1.old c hc, x1.ok⟩, by show h.next < h.next + 1; omega, l, by omega, Heap.gs _ _ _⟩ ?_
  rintro ⟨i, d2⟩ g ⟨h1, h2, pm, D2, O2, ln, q, hq, gq⟩ next
  dsimp only at h1 h2 pm D2 next ⊢
  have k2 := O2.ok hk
  have sz := pm.1
  by_cases c1 : (i : Int) ≤ ((Q + 1 : Nat) : Int)
  case neg =>
    refine walk ?_
    rw [eQ, eQ2]
    refine walk ?_
    exact jg_nil fun tm hs => ends_normal hs rfl ⟨d2, pm, D2, O2⟩
  refine walk ?_
  rw [eQ, eQ2]
  refine walk ?_
  refine jo_call (next_g (n := n) gq ln hq k2) rfl rfl rfl rfl ?_
  rintro _ g3 ⟨r, hr, rfl, g3q, O3⟩
  have D3 := D2.only O3 hBS
  have k3 := O3.ok k2
  have ol : r &&& (m - 1) ≤ m - 1 := Nat.and_le_right
  have hm64 : m - 1 < 2 ^ IntKind.u64.bits := Nat.lt_of_le_of_lt (show m - 1 ≤ 64 by omega) (by decide)
  refine walk ?_
  rw [em, show IntKind.u64.wrap ((m - 1 : Nat) : Int) = ((m - 1 : Nat) : Int) from wrap_u rfl _ hm64]
  refine jo_val rfl rfl rfl (k_bin rfl rfl rfl (Ev.b_and (x := r) (y := m - 1) rfl hr hm64) rfl) ?_
  generalize r &&& (m - 1) = o at ol ⊢
  refine walk ?_
  refine gj_cut1 (ι := Nat) (fun o => [(0, v), (1, .int .i64 a), (6, .int .i64 (l : Nat)), (7, .ptr h.next 0), (8, .int .u64 (m : Nat)), (9, .int .i64 (i : Nat)), (10, .int .i64 (o : Nat))]) (fun o g => o < l ∧ g = g3) ?_ ?_
  · intro k' join
    by_cases c2 : (l : Int) ≤ (o : Int)
    · refine walk ?_
      rw [show ((o : Int) - l) = ((o - l : Nat) : Int) by omega]
      exact join (o - l) hsub ⟨by omega, rfl⟩
    · refine walk ?_
      exact join o hsub ⟨by omega, rfl⟩
  clear ol
  rintro o g3 ⟨ol, rfl⟩
  have O4 : Only B h g3 := ⟨by have := O2.nx; have := O3.nx; omega, fun c hc hb => (O3.old c (by have := O2.nx; omega) (by omega)).trans (O2.old c hc hb), fun k => O3.ok (O2.ok k)⟩
  have nx3 := O3.nx
  have g_g3 := D3.get
  have a1 := @Dat.ix _ _ _ (i) _ _ D3 (by omega)
  have a2 := @Dat.ix _ _ _ (a + o) _ _ D3 (by omega)
  have he1 := D3.at (j := i) (by omega)
  have he2 := D3.at (j := a + o) (by omega)
  have s1 : 0 + (i) * 1 < (cel d2 tl).length := by rw [cel_len]; omega
  have s2 : 0 + (a + o) * 1 < ((cel d2 tl).set (0 + (i) * 1) (.int .u32 ((d2[a + o]! : Nat) : Int))).length := by rw [List.length_set, cel_len]; omega
  have D5 := D3.swp (i := i) (j := a + o) (h' := Heap.mk g3.t (g3.next + 20)) (by omega) (by omega) (by show g3.next ≤ g3.next + 20; omega) (.cells 22 ((cel d2 tl).set (0 + (i) * 1) (.int .u32 ((d2[a + o]! : Nat) : Int))) true)
  have O5 := O4.trans (Only.two (n := 20) D3.lt (O4.ok hk) (.cells 22 ((cel d2 tl).set (0 + (i) * 1) (.int .u32 ((d2[a + o]! : Nat) : Int))) true) (.cells 22 (((cel d2 tl).set (0 + (i) * 1) (.int .u32 ((d2[a + o]! : Nat) : Int))).set (0 + (a + o) * 1) (.int .u32 ((d2[i]! : Nat) : Int))) true))
  refine walk ?_
  refine jg_drawn (q := 20) (ms := [0, 0, 0, 0, 0, 24, 0, 0, 0, 384, 960, 1984, 0, 0, 12288, 28672, 65475, 131011, 262143, 524287]) (hl := [[48, 49, 50, 51, 52, 53, 54, 55, 56, 57, 58, 59, 60, 61, 62], [47, 49, 50, 51, 52, 53, 54, 55, 56, 57, 58, 59, 60, 61, 62], [47, 48, 50, 51, 52, 53, 54, 55, 56, 57, 58, 59, 60, 61, 62, 63], [47, 48, 49, 51, 53, 54, 55, 56, 57, 58, 59, 60, 61, 62, 63], [47, 48, 49, 50, 53, 54, 55, 56, 57, 58, 59, 60, 61, 62, 63], [47, 48, 49, 53, 54, 55, 56, 57, 58, 59, 60, 61, 62, 63], [47, 48, 49, 50, 51, 52, 54, 55, 56, 59, 60, 61, 62], [47, 48, 49, 50, 51, 52, 53, 55, 59, 60, 61, 62], [47, 48, 49, 50, 51, 52, 53, 54, 59, 60, 61, 62], [47, 48, 49, 50, 51, 52, 53, 59, 60, 61, 62], [47, 48, 49, 50, 51, 52, 59, 60, 61, 62], [47, 48, 49, 50, 51, 52, 59, 60, 61, 62], [47, 48, 49, 50, 51, 52, 53, 54, 55, 56, 57, 58, 60], [47, 48, 49, 50, 51, 52, 53, 54, 55, 56, 57, 58, 59], [47, 48, 49, 50, 51, 52, 53, 54, 55, 56, 57, 58], [47, 48, 49, 50, 51, 52, 53, 54, 55, 56, 57, 58], [49, 50, 51, 52], [49, 50, 51, 52], [], []]) (O4.ok hk) rfl (by kernel_rfl) (by kernel_rfl) rfl ?_
  refine walk ?_
  clear a1 a2 he1 he2 s1 s2
  exact next (i + 1, Go.Sort.swp d2 i (a + o)) (by simp only; omega) hsub ⟨by simp only; omega, by simp only; omega, Go.Sort.permIn_trans _ _ _ _ _ pm (Go.Sort.swp_permIn _ _ _ _ _ (by omega) (by omega) (by omega) (by omega) (by omega)), D5, O5, by show h.next < g3.next + 20; omega, r, hr, by
    rw [Heap.gn _ _ _ _ (fun e => hBS e.symm), Heap.gn _ _ _ _ (fun e => hBS e.symm)]
    exact g3q⟩
end Go.Proofs.YthdlebegkhnbiaaGreat
