/- What the functions of this part answer at any input, told by the rules over the evaluator. Conditions: those that each theorem states. -/
import Derived.Test.YthdlebegkhnbiaaGreatSr2
open Go Ev
namespace Go.Proofs.YthdlebegkhnbiaaGreat
set_option maxRecDepth 10000
set_option linter.unusedVariables false
set_option linter.unusedSimpArgs false
set_option maxHeartbeats 4000000
set_option linter.unusedVariables false
theorem rev_g {n : Nat} {v : AV} {B a b : Nat} {d : Array Nat} {tl : List AV} {h : Heap} (D : Dat h v B d tl) (hk : h.ok) (hs : d.size ≤ 1000000) (hab : a < b) (hb : b ≤ d.size) : Gives (TV n) 54 [v, .int .i64 a, .int .i64 b] h (fun _ h' => Dat h' v B (Go.Sort.reverseRange d a b) tl ∧ Only B h h') := by
  refine call_j (no_w rfl rfl) rfl rfl ?_
  unfold Go.Sort.reverseRange
  generalize hR : Go.Sort.reverseLoop a (b - 1) d = R
  refine walk ?_
  rw [show ((b : Int) - 1) = ((b - 1 : Nat) : Int) by omega]
  refine jg_loop (ι := Nat × Nat × Array Nat) (fun x => x.2.1 + 1 - x.1) (fun x => [(0, v), (6, .int .i64 (x.1 : Nat)), (7, .int .i64 (x.2.1 : Nat))]) (fun x h2 => a ≤ x.1 ∧ x.2.1 < b ∧ x.1 ≤ b ∧ x.2.2.size = d.size ∧ Go.Sort.reverseLoop x.1 x.2.1 x.2.2 = R ∧ Dat h2 v B x.2.2 tl ∧ Only B h h2) (a, b - 1, d) hsub ⟨by simp only; omega, by simp only; omega, by simp only; omega, rfl, hR, D, .refl _ _⟩ ?_
  rintro ⟨i, j, d2⟩ h3 ⟨h1, h2, h4, sz, eR, D2, O2⟩ next
  dsimp only at h1 h2 h4 sz eR D2 next ⊢
  have k3 := O2.ok hk
  have g3 := D2.get
  rw [Go.Sort.reverseLoop] at eR
  by_cases c1 : (i : Int) < (j : Int)
  case neg =>
    rw [if_neg (by omega)] at eR
    subst eR
    refine walk ?_
    exact jg_nil fun tm hs => ends_normal hs rfl ⟨D2, O2⟩
  rw [if_pos (by omega)] at eR
  have a1 := @Dat.ix _ _ _ i _ _ D2 (by omega)
  have a2 := @Dat.ix _ _ _ j _ _ D2 (by omega)
  have he1 := D2.at (j := i) (by omega)
  have he2 := D2.at (j := j) (by omega)
  have s1 : 0 + i * 1 < (cel d2 tl).length := by rw [cel_len]; omega
  have s2 : 0 + j * 1 < ((cel d2 tl).set (0 + i * 1) (.int .u32 ((d2[j]! : Nat) : Int))).length := by rw [List.length_set, cel_len]; omega
  refine walk ?_
  refine jg_drawn (q := 16) (ms := [0, 0, 0, 0, 0, 0, 48, 112, 0, 0, 768, 1792, 4083, 8179, 16383, 32767]) (hl := [[15, 16, 17, 18, 19, 20, 21, 22, 23, 24, 25], [14, 16, 17, 18, 19, 20, 21, 22, 23, 24, 25], [14, 15, 17, 18, 19, 20, 21, 22, 23, 24, 25, 26], [14, 15, 16, 18, 19, 20, 21, 22, 23, 24, 25, 26], [14, 15, 16, 17, 19, 22, 23, 24, 25], [14, 15, 16, 17, 18, 22, 23, 24, 25], [14, 15, 16, 17, 22, 23, 24, 25], [14, 15, 16, 17, 22, 23, 24, 25], [14, 15, 16, 17, 18, 19, 20, 21, 23], [14, 15, 16, 17, 18, 19, 20, 21, 22], [14, 15, 16, 17, 18, 19, 20, 21], [14, 15, 16, 17, 18, 19, 20, 21], [16, 17], [16, 17], [], []]) k3 rfl (by kernel_rfl) (by kernel_rfl) rfl ?_
  refine walk ?_
  rw [show ((j : Int) - 1) = ((j - 1 : Nat) : Int) by omega]
  exact next (i + 1, j - 1, Go.Sort.swp d2 i j) (by simp only; omega) hsub ⟨by simp only; omega, by simp only; omega, by simp only; omega, by simp only [swp_size]; exact sz, eR, D2.swp (h' := Heap.mk h3.t (h3.next + 16)) (by omega) (by omega) (by show h3.next ≤ h3.next + 16; omega) _, O2.trans (Only.two (n := 16) D2.lt k3 _ _)⟩
theorem siftDown_size (hi first : Nat) : ∀ (m r : Nat) (d : Array Nat), hi - r ≤ m → (Go.Sort.siftDown ltN hi first r d).size = d.size := by
  intro m
  induction m with
  | zero => intro r d h; rw [Go.Sort.siftDown, dif_pos (by omega)]
  | succ m ih =>
    intro r d h
    rw [Go.Sort.siftDown]
    split
    · rfl
    · split
      · split
        · rfl
        · split
          · rw [ih _ _ (by omega), swp_size]
          · rfl
      · split
        · rfl
        · rw [ih _ _ (by omega), swp_size]
theorem heapBuild_size (hi first : Nat) : ∀ (k : Nat) (d : Array Nat), (Go.Sort.heapBuild ltN hi first k d).size = d.size
  | 0, d => rfl
  | k + 1, d => by rw [Go.Sort.heapBuild, heapBuild_size hi first k, siftDown_size _ _ _ _ _ (Nat.le_refl _)]
theorem heap_g {n : Nat} (hn : 1 < n) {v : AV} {B a b : Nat} {d : Array Nat} {tl : List AV} {h : Heap} (D : Dat h v B d tl) (hk : h.ok) (hs : d.size ≤ 1000000) (hab : a < b) (hb : b ≤ d.size) : Gives (TV n) 51 [v, .int .i64 a, .int .i64 b] h (fun _ h' => Dat h' v B (Go.Sort.heapSort ltN d a b) tl ∧ Only B h h') := by
  refine call_j (no_w rfl rfl) rfl rfl ?_
  unfold Go.Sort.heapSort
  generalize hR : Go.Sort.heapPop ltN a (b - a) (Go.Sort.heapBuild ltN (b - a) a ((b - a - 1) / 2 + 1) d) = R
  obtain ⟨H, hH⟩ : ∃ H, b - a = H := ⟨_, rfl⟩
  rw [hH] at hR
  refine walk ?_
  rw [show IntKind.i64.wrap (((b : Int) - a - 1).tdiv 2) = (((H - 1) / 2 + 1 : Nat) : Int) - 1 by
    rw [show ((b : Int) - a - 1) = ((H - 1 : Nat) : Int) by omega, show (((H - 1 : Nat) : Int).tdiv 2) = (((H - 1) / 2 : Nat) : Int) from rfl, wrap_i64 (by omega) (by omega)]
    omega, show ((b : Int) - a) = (H : Int) by omega]
  refine jg_loop (ι := Nat × Array Nat) (fun x => x.1) (fun x => [(0, v), (6, .int .i64 a), (7, .int .i64 0), (8, .int .i64 (H : Nat)), (9, .int .i64 ((x.1 : Nat) - 1))]) (fun x h2 => x.1 ≤ (H - 1) / 2 + 1 ∧ x.2.size = d.size ∧ Go.Sort.heapPop ltN a H (Go.Sort.heapBuild ltN H a x.1 x.2) = R ∧ Dat h2 v B x.2 tl ∧ Only B h h2) ((H - 1) / 2 + 1, d) hsub ⟨Nat.le_refl _, rfl, hR, D, .refl _ _⟩ ?_
  rintro ⟨k, d2⟩ h3 ⟨h1, sz, eR, D2, O2⟩ next
  dsimp only at h1 sz eR D2 next ⊢
  have k3 := O2.ok hk
  by_cases c1 : (k : Int) - 1 ≥ 0
  · obtain ⟨k, rfl⟩ : ∃ m, k = m + 1 := ⟨k - 1, by omega⟩
    rw [Go.Sort.heapBuild] at eR
    have e1 : (((k + 1 : Nat) : Int) - 1) = (k : Int) := by omega
    rw [e1] at c1 ⊢
    refine walk ?_
    refine jo_call (sift_g (n := n) hn D2 k3 (by omega) (lo := k) (hi := H) (first := a) (by omega) (by omega)) rfl rfl rfl rfl ?_
    rintro u h4 ⟨D3, O3⟩
    refine walk ?_
    exact next (k, _) (by simp only; omega) hsub ⟨by simp only; omega, by simp only [siftDown_size _ _ _ _ _ (Nat.le_refl _)]; exact sz, eR, D3, O2.trans O3⟩
  obtain rfl : k = 0 := by omega
  rw [Go.Sort.heapBuild] at eR
  clear next
  refine walk ?_
  refine jg_loop (ι := Nat × Array Nat) (fun x => x.1) (fun x => [(0, v), (6, .int .i64 a), (7, .int .i64 0), (8, .int .i64 (H : Nat)), (10, .int .i64 ((x.1 : Nat) - 1))]) (fun x h2 => x.1 ≤ H ∧ x.2.size = d.size ∧ Go.Sort.heapPop ltN a x.1 x.2 = R ∧ Dat h2 v B x.2 tl ∧ Only B h h2) (H, d2) hsub ⟨Nat.le_refl _, sz, eR, D2, O2⟩ ?_
  clear D2 O2 eR sz k3 h3 d2 h1
  rintro ⟨k, d2⟩ h3 ⟨h1, sz, eR, D2, O2⟩ next
  dsimp only at h1 sz eR D2 next ⊢
  have k3 := O2.ok hk
  have g3 := D2.get
  by_cases c2 : (k : Int) - 1 ≥ 0
  case neg =>
    obtain rfl : k = 0 := by omega
    rw [Go.Sort.heapPop] at eR
    subst eR
    refine walk ?_
    exact jg_nil fun tm hs => ends_normal hs rfl ⟨D2, O2⟩
  obtain ⟨k, rfl⟩ : ∃ m, k = m + 1 := ⟨k - 1, by omega⟩
  rw [Go.Sort.heapPop] at eR
  have e1 : (((k + 1 : Nat) : Int) - 1) = (k : Int) := by omega
  rw [e1] at c2 ⊢
  have a1 := @Dat.ix _ _ _ a _ _ D2 (by omega)
  have a2 := @Dat.ix _ _ _ (a + k) _ _ D2 (by omega)
  have he1 := D2.at (j := a) (by omega)
  have he2 := D2.at (j := a + k) (by omega)
  have s1 : 0 + a * 1 < (cel d2 tl).length := by rw [cel_len]; omega
  have s2 : 0 + (a + k) * 1 < ((cel d2 tl).set (0 + a * 1) (.int .u32 ((d2[a + k]! : Nat) : Int))).length := by rw [List.length_set, cel_len]; omega
  have D3 := D2.swp (i := a) (j := a + k) (h' := Heap.mk h3.t (h3.next + 20)) (by omega) (by omega) (by show h3.next ≤ h3.next + 20; omega) (.cells 22 ((cel d2 tl).set (0 + a * 1) (.int .u32 ((d2[a + k]! : Nat) : Int))) true)
  have O3 := Only.two (n := 20) D2.lt k3 (.cells 22 ((cel d2 tl).set (0 + a * 1) (.int .u32 ((d2[a + k]! : Nat) : Int))) true) (.cells 22 (((cel d2 tl).set (0 + a * 1) (.int .u32 ((d2[a + k]! : Nat) : Int))).set (0 + (a + k) * 1) (.int .u32 ((d2[a]! : Nat) : Int))) true)
  refine walk ?_
  refine jg_drawn (q := 20) (ms := [0, 0, 0, 0, 0, 24, 0, 0, 0, 384, 960, 1984, 0, 0, 12288, 28672, 65475, 131011, 262143, 524287]) (hl := [[34, 35, 36, 37, 38, 39, 40, 41, 42, 43, 44, 45, 46, 47, 48], [33, 35, 36, 37, 38, 39, 40, 41, 42, 43, 44, 45, 46, 47, 48], [33, 34, 36, 37, 38, 39, 40, 41, 42, 43, 44, 45, 46, 47, 48, 49], [33, 34, 35, 37, 39, 40, 41, 42, 43, 44, 45, 46, 47, 48, 49], [33, 34, 35, 36, 39, 40, 41, 42, 43, 44, 45, 46, 47, 48, 49], [33, 34, 35, 39, 40, 41, 42, 43, 44, 45, 46, 47, 48, 49], [33, 34, 35, 36, 37, 38, 40, 41, 42, 45, 46, 47, 48], [33, 34, 35, 36, 37, 38, 39, 41, 45, 46, 47, 48], [33, 34, 35, 36, 37, 38, 39, 40, 45, 46, 47, 48], [33, 34, 35, 36, 37, 38, 39, 45, 46, 47, 48], [33, 34, 35, 36, 37, 38, 45, 46, 47, 48], [33, 34, 35, 36, 37, 38, 45, 46, 47, 48], [33, 34, 35, 36, 37, 38, 39, 40, 41, 42, 43, 44, 46], [33, 34, 35, 36, 37, 38, 39, 40, 41, 42, 43, 44, 45], [33, 34, 35, 36, 37, 38, 39, 40, 41, 42, 43, 44], [33, 34, 35, 36, 37, 38, 39, 40, 41, 42, 43, 44], [35, 36, 37, 38], [35, 36, 37, 38], [], []]) k3 rfl (by kernel_rfl) (by kernel_rfl) rfl ?_
  refine walk ?_
  refine jo_call (sift_g (n := n) hn D3 (O3.ok k3) (by rw [swp_size]; omega) (lo := 0) (hi := k) (first := a) (by rw [swp_size]; omega) (by omega)) rfl rfl rfl rfl ?_
  rintro u h4 ⟨D4, O4⟩
  refine walk ?_
  exact next (k, _) (by simp only; omega) hsub ⟨by simp only; omega, by simp only [siftDown_size _ _ _ _ _ (Nat.le_refl _), swp_size]; exact sz, eR, D4, (O2.trans O3).trans O4⟩
end Go.Proofs.YthdlebegkhnbiaaGreat
