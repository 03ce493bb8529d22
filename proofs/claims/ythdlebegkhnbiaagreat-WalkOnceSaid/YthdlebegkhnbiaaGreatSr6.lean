/- What the functions of this part answer at any input, told by the rules over the evaluator. Conditions: those that each theorem states. -/
import Derived.Test.YthdlebegkhnbiaaGreatSr5
open Go Ev
namespace Go.Proofs.YthdlebegkhnbiaaGreat
set_option maxRecDepth 10000
set_option linter.unusedVariables false
set_option linter.unusedSimpArgs false
set_option maxHeartbeats 4000000
set_option linter.unusedVariables false
theorem scanSorted_le (d : Array Nat) (b i : Nat) (h : i ≤ b) : Go.Sort.scanSorted ltN d b i ≤ b ∧ i ≤ Go.Sort.scanSorted ltN d b i := by
  induction hm : b - i generalizing i with
  | zero => rw [Go.Sort.scanSorted, if_neg (by simp; omega)]; omega
  | succ m ih =>
    rw [Go.Sort.scanSorted]
    split
    · have := ih (i + 1) (by omega) (by omega); omega
    · omega
/-- of fewer than fifty: it finds out whether they are sorted -/
theorem partial_g {n : Nat} (hn : 1 < n) {v : AV} {B a b : Nat} {d : Array Nat} {tl : List AV} {h : Heap} (D : Dat h v B d tl) (hk : h.ok) (hs : d.size < 50) (hab : a < b) (hb : b ≤ d.size) : Gives (TV n) 55 [v, .int .i64 a, .int .i64 b] h (fun v' h' => v' = .bool (Go.Sort.partialInsertionSort ltN d a b).2 ∧ (Go.Sort.partialInsertionSort ltN d a b).1 = d ∧ Dat h' v B d tl ∧ Only B h h') := by
  refine call_j (no_w rfl rfl) rfl rfl ?_
  unfold Go.Sort.partialInsertionSort
  rw [Go.Sort.partialIns_succ]
  obtain ⟨i2, hi2⟩ : ∃ u, Go.Sort.scanSorted ltN d b (a + 1) = u := ⟨_, rfl⟩
  have rng := scanSorted_le d b (a + 1) (by omega)
  rw [hi2] at rng
  simp only [hi2]
  rw [if_pos (show b - a < 50 by omega)]
  refine walk ?_
  refine jg_loop1 ?_
  refine walk ?_
  refine gj_cut2 (ι := Unit) (fun _ => [(0, v), (1, .int .i64 a), (2, .int .i64 b), (7, .int .i64 (i2 : Nat))]) (fun _ g => Dat g v B d tl ∧ Only B h g) ?_ ?_
  · intro k' join
    refine jg_loop (ι := Nat) (fun x => b - x) (fun x => [(0, v), (1, .int .i64 a), (2, .int .i64 b), (7, .int .i64 (x : Nat))]) (fun x g => a < x ∧ x ≤ b ∧ Go.Sort.scanSorted ltN d b x = i2 ∧ Dat g v B d tl ∧ Only B h g) (a + 1) hsub ⟨by omega, by omega, hi2, D, .refl _ _⟩ ?_
    rintro x g ⟨q1, q2, eU, Dx, Ox⟩ next
    have kx := Ox.ok hk
    have gx := Dx.get
    rw [Go.Sort.scanSorted] at eU
    by_cases c1 : (x : Int) < (b : Int)
    case neg =>
      rw [if_neg (by simp; omega)] at eU
      subst eU
      refine walk ?_
      refine jg_drawn (q := 16) (ms := [0, 0, 3, 7, 15, 15, 63, 127, 15, 15, 527, 1807, 3855, 8191, 16383, 32767]) (hl := [[18], [17], [], [], [22, 25, 26, 27, 28, 29], [21, 25, 26, 27, 28, 29], [25, 26, 27, 28, 29], [25, 26, 27, 28, 29], [21, 22, 23, 24, 26, 27], [21, 22, 23, 24, 25], [21, 22, 23, 24, 25], [21, 22, 23, 24], [21, 22, 23, 24], [], [], []]) kx rfl (by kernel_rfl) (by kernel_rfl) rfl ?_
      refine walk ?_
      exact join () hsub ⟨Dx.more, Ox.trans (.more kx)⟩
    have a1 := @Dat.ix _ _ _ x _ _ Dx (by omega)
    have a2 := @Dat.ix _ _ _ (x - 1) _ _ Dx (by omega)
    have he1 := Dx.at (j := x) (by omega)
    have he2 := Dx.at (j := x - 1) (by omega)
    have w1 := less_w (n := n) hn d[x]! d[x - 1]!
    cases c4 : ltN d[x]! d[x - 1]! with
    | true =>
      have c5 : d[x]! < d[x - 1]! := by simpa [ltN] using c4
      rw [c4] at w1
      rw [if_neg (by simp [c4])] at eU
      subst eU
      refine walk ?_
      refine jg_drawn (q := 16) (ms := [0, 0, 3, 7, 15, 15, 63, 127, 15, 15, 527, 1807, 3855, 8191, 16383, 32767]) (hl := [[18], [17], [], [], [22, 25, 26, 27, 28, 29], [21, 25, 26, 27, 28, 29], [25, 26, 27, 28, 29], [25, 26, 27, 28, 29], [21, 22, 23, 24, 26, 27], [21, 22, 23, 24, 25], [21, 22, 23, 24, 25], [21, 22, 23, 24], [21, 22, 23, 24], [], [], []]) kx rfl (by kernel_rfl) (by kernel_rfl) rfl ?_
      refine walk ?_
      exact join () hsub ⟨Dx.more, Ox.trans (.more kx)⟩
    | false =>
      have c5 : ¬ d[x]! < d[x - 1]! := by simpa [ltN] using c4
      rw [c4] at w1
      rw [if_pos (by simp [c4]; omega)] at eU
      refine walk ?_
      refine jg_drawn (q := 16) (ms := [0, 0, 3, 7, 15, 15, 63, 127, 15, 15, 527, 1807, 3855, 8191, 16383, 32767]) (hl := [[18], [17], [], [], [22, 25, 26, 27, 28, 29], [21, 25, 26, 27, 28, 29], [25, 26, 27, 28, 29], [25, 26, 27, 28, 29], [21, 22, 23, 24, 26, 27], [21, 22, 23, 24, 25], [21, 22, 23, 24, 25], [21, 22, 23, 24], [21, 22, 23, 24], [], [], []]) kx rfl (by kernel_rfl) (by kernel_rfl) rfl ?_
      refine walk ?_
      exact next (x + 1) (by omega) hsub ⟨by omega, by omega, eU, Dx.more, Ox.trans (.more kx)⟩
  rintro ⟨⟩ g ⟨D2, O2⟩
  by_cases c1 : (i2 : Int) = (b : Int)
  · rw [if_pos (by omega)]
    refine walk ?_
    exact jg_ret1 (by exact hres) ⟨rfl, rfl, D2, O2⟩
  · rw [if_neg (by omega)]
    have c2 : (b : Int) - (a : Int) < 50 := by omega
    refine walk ?_
    exact jg_ret1 (by exact hres) ⟨rfl, rfl, D2, O2⟩
/-- the number of swaps, in a block of its own -/
def Cnt (h : Heap) (S m : Nat) : Prop := S < h.next ∧ h.get S = some (.cells 3 [.int .i64 (m : Nat)] true)
theorem Dat.only {h h' : Heap} {v : AV} {B S : Nat} {d : Array Nat} {tl : List AV} (D : Dat h v B d tl) (o : Only S h h') (hn : B ≠ S) : Dat h' v B d tl := ⟨Nat.lt_of_lt_of_le D.lt o.nx, (o.old _ D.lt hn).trans D.get, D.hd⟩
theorem order2_g {n : Nat} (hn : 1 < n) {v : AV} {B S m a b : Nat} {d : Array Nat} {tl : List AV} {h : Heap} (D : Dat h v B d tl) (C : Cnt h S m) (hm : m ≤ 1000) (hk : h.ok) (ha : a < d.size) (hb : b < d.size) : Gives (TV n) 115 [v, .int .i64 a, .int .i64 b, .ptr S 0] h (fun v' h' => (v' = .tuple [.int .i64 a, .int .i64 b] ∨ v' = .tuple [.int .i64 b, .int .i64 a]) ∧ Only S h h' ∧ ∃ m', m' ≤ m + 1 ∧ Cnt h' S m') := by
  refine call_j (no_w rfl rfl) rfl rfl ?_
  have gD := D.get
  obtain ⟨sl, sg⟩ := C
  have a1 := @Dat.ix _ _ _ a _ _ D ha
  have a2 := @Dat.ix _ _ _ b _ _ D hb
  have he1 := D.at (j := a) ha
  have he2 := D.at (j := b) hb
  have w1 := less_w (n := n) hn d[b]! d[a]!
  refine walk ?_
  refine jg_drawn (q := 9) (ms := [0, 0, 3, 7, 0, 0, 48, 112, 255]) (hl := [[11, 14, 15, 16, 17], [10, 14, 15, 16, 17], [14, 15, 16, 17], [14, 15, 16, 17], [10, 11, 12, 13, 15], [10, 11, 12, 13, 14], [10, 11, 12, 13], [10, 11, 12, 13], []]) hk rfl (by kernel_rfl) (by kernel_rfl) rfl ?_
  refine walk ?_
  refine jg_bool rfl (fun c3 => ?_) (fun c3 => ?_)
  · refine walk ?_
    refine jg_ret2 (by exact hres) ⟨.inr rfl, ⟨by show h.next ≤ h.next + 9; omega, fun c hc hs => Heap.gn _ _ _ _ hs, fun _ => ok_st (Heap.ok_more hk 9) _ _ (by show S < h.next + 9; omega)⟩, m + 1, Nat.le_refl _, by show S < h.next + 9; omega, ?_⟩
    exact Heap.gs _ _ _
  · refine walk ?_
    exact jg_ret2 (by exact hres) ⟨.inl rfl, .more hk, m, by omega, by show S < h.next + 9; omega, sg⟩
theorem median_g {n : Nat} (hn : 1 < n) {v : AV} {B S m a b c : Nat} {d : Array Nat} {tl : List AV} {h : Heap} (D : Dat h v B d tl) (C : Cnt h S m) (hBS : B ≠ S) (hm : m ≤ 900) (hk : h.ok) (ha : a < d.size) (hb : b < d.size) (hc : c < d.size) : Gives (TV n) 84 [v, .int .i64 a, .int .i64 b, .int .i64 c, .ptr S 0] h (fun v' h' => (v' = .int .i64 a ∨ v' = .int .i64 b ∨ v' = .int .i64 c) ∧ Only S h h' ∧ ∃ m', m' ≤ m + 3 ∧ Cnt h' S m') := by
  refine call_j (no_w rfl rfl) rfl rfl ?_
  refine walk ?_
  refine jo_call (order2_g hn D C (by omega) hk ha hb) rfl rfl rfl rfl ?_
  rintro u h1 ⟨eu, o1, m1, l1, C1⟩
  obtain ⟨a', b', ea, eb⟩ : ∃ a' b', u = .tuple [.int .i64 (a' : Nat), .int .i64 (b' : Nat)] ∧ ((a' = a ∧ b' = b) ∨ (a' = b ∧ b' = a)) := by
    rcases eu with rfl | rfl
    · exact ⟨a, b, rfl, .inl ⟨rfl, rfl⟩⟩
    · exact ⟨b, a, rfl, .inr ⟨rfl, rfl⟩⟩
  subst ea
  have D1 := D.only o1 hBS
  have k1 := o1.ok hk
  refine walk ?_
  refine jo_call (order2_g hn D1 C1 (by omega) k1 (a := b') (b := c) (by rcases eb with e | e <;> omega) hc) rfl rfl rfl rfl ?_
  rintro u h2 ⟨eu, o2, m2, l2, C2⟩
  obtain ⟨b2, c2, ea, eb2⟩ : ∃ x y, u = .tuple [.int .i64 (x : Nat), .int .i64 (y : Nat)] ∧ ((x = b' ∧ y = c) ∨ (x = c ∧ y = b')) := by
    rcases eu with rfl | rfl
    · exact ⟨b', c, rfl, .inl ⟨rfl, rfl⟩⟩
    · exact ⟨c, b', rfl, .inr ⟨rfl, rfl⟩⟩
  subst ea
  have D2 := D1.only o2 hBS
  have k2 := o2.ok k1
  refine walk ?_
  refine jo_call (order2_g hn D2 C2 (by omega) k2 (a := a') (b := b2) (by rcases eb with e | e <;> omega) (by rcases eb with e | e <;> rcases eb2 with e2 | e2 <;> omega)) rfl rfl rfl rfl ?_
  rintro u h3 ⟨eu, o3, m3, l3, C3⟩
  obtain ⟨a3, b3, ea, eb3⟩ : ∃ x y, u = .tuple [.int .i64 (x : Nat), .int .i64 (y : Nat)] ∧ ((x = a' ∧ y = b2) ∨ (x = b2 ∧ y = a')) := by
    rcases eu with rfl | rfl
    · exact ⟨a', b2, rfl, .inl ⟨rfl, rfl⟩⟩
    · exact ⟨b2, a', rfl, .inr ⟨rfl, rfl⟩⟩
  subst ea
  refine walk ?_
  refine jg_ret1 (by exact hres) ⟨?_, (o1.trans o2).trans o3, m3, by omega, C3⟩
  rcases eb with e | e <;> rcases eb2 with e2 | e2 <;> rcases eb3 with e3 | e3 <;> (obtain ⟨rfl, rfl⟩ := e; obtain ⟨rfl, rfl⟩ := e2; obtain ⟨rfl, rfl⟩ := e3; simp)
theorem pivot_g {n : Nat} (hn : 1 < n) {v : AV} {B a b : Nat} {d : Array Nat} {tl : List AV} {h : Heap} (D : Dat h v B d tl) (hk : h.ok) (hs : d.size < 50) (hab : a + 12 < b) (hb : b ≤ d.size) : Gives (TV n) 53 [v, .int .i64 a, .int .i64 b] h (fun v' h' => ∃ p t : Nat, v' = .tuple [.int .i64 p, .int .i64 t] ∧ a ≤ p ∧ p < b ∧ Ext h h') := by
  refine call_j (no_w rfl rfl) rfl rfl ?_
  obtain ⟨l, hl⟩ : ∃ l, b - a = l := ⟨_, rfl⟩
  have e0 : ((b : Int) - a) = (l : Int) := by omega
  have eq : IntKind.i64.wrap ((l : Int).tdiv 4) = ((l / 4 : Nat) : Int) := by
    rw [show ((l : Int).tdiv 4) = ((l / 4 : Nat) : Int) from rfl, wrap_i64 (by omega) (by omega)]
  have pk : ∀ q : Nat, q ≤ 3 → IntKind.i64.wrap ((a : Int) + IntKind.i64.wrap (IntKind.i64.wrap (((b : Int) - a).tdiv 4) * (q : Int))) = ((a + l / 4 * q : Nat) : Int) := fun q hq => by
    have : l / 4 * q ≤ l / 4 * 3 := Nat.mul_le_mul_left _ hq
    rw [e0, eq, ← Int.natCast_mul, wrap_i64 (x := ((l / 4 * q : Nat) : Int)) (by omega) (by omega), wrap_i64 (by omega) (by omega)]
    omega
  have p1 := pk 1 (by omega)
  have p2 := pk 2 (by omega)
  have p3 := pk 3 (by omega)
  refine walk ?_
  rw [show (1 : Int) = ((1 : Nat) : Int) from rfl, show (2 : Int) = ((2 : Nat) : Int) from rfl, show (3 : Int) = ((3 : Nat) : Int) from rfl, p1, p2, p3]
  refine jo_call (median_g hn (D.ext (Ext.alloc h _)) (S := h.next) (m := 0) ⟨Nat.lt_succ_self _, get_new _ _⟩ (by have := D.lt; omega) (by omega) (by exact hok) (a := a + l / 4 * 1) (b := a + l / 4 * 2) (c := a + l / 4 * 3) (by omega) (by omega) (by omega)) rfl rfl rfl rfl ?_
  rintro u h2 ⟨eu, o2, m, hm, C⟩
  obtain ⟨p, rfl, hp1, hp2⟩ : ∃ p : Nat, u = .int .i64 p ∧ a ≤ p ∧ p < b := by
    rcases eu with rfl | rfl | rfl
    · exact ⟨_, rfl, by omega, by omega⟩
    · exact ⟨_, rfl, by omega, by omega⟩
    · exact ⟨_, rfl, by omega, by omega⟩
  obtain ⟨sl, sg⟩ := C
  have xt : Ext h h2 := ⟨by have := o2.nx; exact Nat.le_trans (Nat.le_succ _) this, fun c hc => (o2.old c (by show c < h.next + 1; omega) (by omega)).trans (Heap.ga _ _ _ (by omega)), fun k => o2.ok (ok_al k _)⟩
  refine walk ?_
  by_cases c1 : (m : Int) = 0
  · refine walk ?_
    exact jg_ret2 (by exact hres) ⟨p, 1, rfl, hp1, hp2, xt⟩
  by_cases c2 : (m : Int) = 12
  · refine walk ?_
    exact jg_ret2 (by exact hres) ⟨p, 2, rfl, hp1, hp2, xt⟩
  · refine walk ?_
    exact jg_ret2 (by exact hres) ⟨p, 0, rfl, hp1, hp2, xt⟩
end Go.Proofs.YthdlebegkhnbiaaGreat
