/- What the functions of this part answer at any input, told by the rules over the evaluator. Conditions: those that each theorem states. -/
import Derived.Test.YthdlebegkhnbiaaGreatSrt
open Go Ev
namespace Go.Proofs.YthdlebegkhnbiaaGreat
set_option maxRecDepth 10000
set_option linter.unusedVariables false
set_option linter.unusedSimpArgs false
set_option maxHeartbeats 4000000
set_option linter.unusedVariables false
theorem sift_g {n : Nat} (hn : 1 < n) {v : AV} {B lo hi first : Nat} {d : Array Nat} {tl : List AV} {h : Heap} (D : Dat h v B d tl) (hk : h.ok) (hs : d.size ≤ 1000000) (hb : first + hi ≤ d.size) (hlo : lo ≤ 1000000) : Gives (TV n) 80 [v, .int .i64 lo, .int .i64 hi, .int .i64 first] h (fun _ h' => Dat h' v B (Go.Sort.siftDown ltN hi first lo d) tl ∧ Only B h h') := by
  refine call_j (no_w rfl rfl) rfl rfl ?_
  generalize hR : Go.Sort.siftDown ltN hi first lo d = R
  refine walk ?_
  refine jg_loop (ι := Nat × Array Nat) (fun x => hi - x.1) (fun x => [(0, v), (2, .int .i64 hi), (3, .int .i64 first), (8, .int .i64 (x.1 : Nat))]) (fun x h2 => x.1 ≤ 1000000 ∧ x.2.size = d.size ∧ Go.Sort.siftDown ltN hi first x.1 x.2 = R ∧ Dat h2 v B x.2 tl ∧ Only B h h2) (lo, d) hsub ⟨hlo, rfl, hR, D, .refl _ _⟩ ?_
  rintro ⟨r, d2⟩ h3 ⟨hr, sz, eR, D2, O2⟩ next
  dsimp only at hr sz eR D2 next ⊢
  have k3 := O2.ok hk
  have g3 := D2.get
  rw [Go.Sort.siftDown] at eR
  by_cases c1 : ((2 * r + 1 : Nat) : Int) ≥ (hi : Int)
  · rw [dif_pos (by omega)] at eR
    subst eR
    refine walk ?_
    rw [show (2 * (r : Int) + 1) = ((2 * r + 1 : Nat) : Int) by omega]
    refine walk ?_
    exact jg_nil fun tm hs => ends_normal hs rfl ⟨D2, O2⟩
  rw [dif_neg (by omega)] at eR
  refine walk ?_
  rw [show (2 * (r : Int) + 1) = ((2 * r + 1 : Nat) : Int) by omega]
  refine walk ?_
  refine gj_cut2 (ι := Nat) (fun c => [(0, v), (2, .int .i64 hi), (3, .int .i64 first), (8, .int .i64 (r : Nat)), (9, .int .i64 (c : Nat))]) (fun c g => c < hi ∧ r < c ∧ (if (!ltN d2[first + r]! d2[first + c]!) = true then d2 else Go.Sort.siftDown ltN hi first c (Go.Sort.swp d2 (first + r) (first + c))) = R ∧ Dat g v B d2 tl ∧ Only B h g) ?_ ?_
  · intro k' join
    by_cases c2 : ((2 * r + 1 : Nat) : Int) + 1 < (hi : Int)
    case neg =>
      rw [if_neg (by simp; omega)] at eR
      refine jg_drawn (q := 20) (ms := [0, 1, 0, 7, 15, 31, 31, 31, 223, 511, 1023, 31, 31, 31, 12319, 28703, 63519, 129055, 262143, 524287]) (hl := [[19], [19], [17, 18], [], [], [23, 24, 25, 28, 29, 30, 31, 32, 33, 34], [22, 24, 28, 29, 30, 31, 32, 33, 34], [22, 23, 28, 29, 30, 31, 32, 33, 34], [22, 28, 29, 30, 31, 32, 33, 34], [28, 29, 30, 31, 32, 33, 34], [28, 29, 30, 31, 32, 33, 34], [22, 23, 24, 25, 26, 27, 29, 30, 31, 32], [22, 23, 24, 25, 26, 27, 28, 30], [22, 23, 24, 25, 26, 27, 28, 29], [22, 23, 24, 25, 26, 27, 28], [22, 23, 24, 25, 26, 27, 28], [22, 23, 24, 25, 26, 27], [22, 23, 24, 25, 26, 27], [], []]) k3 rfl (by kernel_rfl) (by kernel_rfl) rfl ?_
      refine walk ?_
      exact join (2 * r + 1) hsub ⟨by omega, by omega, eR, D2.more, O2.trans (.more k3)⟩
    have a1 := @Dat.ix _ _ _ (first + (2 * r + 1)) _ _ D2 (by omega)
    have a2 := @Dat.ix _ _ _ (first + (2 * r + 1) + 1) _ _ D2 (by omega)
    have he1 := D2.at (j := first + (2 * r + 1)) (by omega)
    have he2 := D2.at (j := first + (2 * r + 1) + 1) (by omega)
    have w1 := less_w (n := n) hn d2[first + (2 * r + 1)]! d2[first + (2 * r + 1) + 1]!
    refine jg_drawn (q := 20) (ms := [0, 1, 0, 7, 15, 31, 31, 31, 223, 511, 1023, 31, 31, 31, 12319, 28703, 63519, 129055, 262143, 524287]) (hl := [[19], [19], [17, 18], [], [], [23, 24, 25, 28, 29, 30, 31, 32, 33, 34], [22, 24, 28, 29, 30, 31, 32, 33, 34], [22, 23, 28, 29, 30, 31, 32, 33, 34], [22, 28, 29, 30, 31, 32, 33, 34], [28, 29, 30, 31, 32, 33, 34], [28, 29, 30, 31, 32, 33, 34], [22, 23, 24, 25, 26, 27, 29, 30, 31, 32], [22, 23, 24, 25, 26, 27, 28, 30], [22, 23, 24, 25, 26, 27, 28, 29], [22, 23, 24, 25, 26, 27, 28], [22, 23, 24, 25, 26, 27, 28], [22, 23, 24, 25, 26, 27], [22, 23, 24, 25, 26, 27], [], []]) k3 rfl (by kernel_rfl) (by kernel_rfl) rfl ?_
    refine walk ?_
    refine jg_bool rfl (fun c3 => ?_) (fun c3 => ?_)
    · rw [if_pos (by rw [c3]; simp; omega), dif_pos (by omega)] at eR
      refine walk ?_
      rw [show (((2 * r + 1 : Nat) : Int) + 1) = ((2 * r + 2 : Nat) : Int) by omega]
      exact join (2 * r + 2) hsub ⟨by omega, by omega, eR, D2.more, O2.trans (.more k3)⟩
    · rw [if_neg (by rw [c3]; simp)] at eR
      refine walk ?_
      exact join (2 * r + 1) hsub ⟨by omega, by omega, eR, D2.more, O2.trans (.more k3)⟩
  · rintro c g ⟨h1, h2, eR, D3, O3⟩
    have k4 := O3.ok hk
    have g4 := D3.get
    have a1 := @Dat.ix _ _ _ (first + r) _ _ D3 (by omega)
    have a2 := @Dat.ix _ _ _ (first + c) _ _ D3 (by omega)
    have he1 := D3.at (j := first + r) (by omega)
    have he2 := D3.at (j := first + c) (by omega)
    have w1 := less_w (n := n) hn d2[first + r]! d2[first + c]!
    refine walk ?_
    refine jg_drawn (q := 14) (ms := [0, 0, 0, 6, 15, 31, 0, 0, 0, 384, 960, 1984, 4095, 8191]) (hl := [[40, 41, 42, 45, 46, 47, 48, 49, 50], [39, 41, 45, 46, 47, 48, 49, 50], [39, 40, 45, 46, 47, 48, 49, 50], [39, 45, 46, 47, 48, 49, 50], [45, 46, 47, 48, 49, 50], [45, 46, 47, 48, 49, 50], [39, 40, 41, 42, 43, 44, 46, 47, 48], [39, 40, 41, 42, 43, 44, 45, 47], [39, 40, 41, 42, 43, 44, 45, 46], [39, 40, 41, 42, 43, 44, 45], [39, 40, 41, 42, 43, 44], [39, 40, 41, 42, 43, 44], [], []]) k4 rfl (by kernel_rfl) (by kernel_rfl) rfl ?_
    refine walk ?_
    have kx : Heap.ok { t := g.t, next := g.next + 14 } := Heap.ok_more k4 14
    cases c4 : ltN d2[first + r]! d2[first + c]! with
    | false =>
      rw [if_pos (by rw [c4]; rfl)] at eR
      subst eR
      have c5 : ¬ d2[first + r]! < d2[first + c]! := by simpa [ltN] using c4
      refine walk ?_
      exact jg_fin fun tm hs => ends_ret hs rfl ⟨D3.more, O3.trans (.more k4)⟩
    | true =>
      rw [if_neg (by rw [c4]; simp)] at eR
      have c5 : d2[first + r]! < d2[first + c]! := by simpa [ltN] using c4
      have s1 : 0 + (first + r) * 1 < (cel d2 tl).length := by rw [cel_len]; omega
      have s2 : 0 + (first + c) * 1 < ((cel d2 tl).set (0 + (first + r) * 1) (.int .u32 ((d2[first + c]! : Nat) : Int))).length := by rw [List.length_set, cel_len]; omega
      refine walk ?_
      refine jg_drawn (q := 24) (ms := [0, 0, 0, 6, 0, 0, 0, 96, 0, 0, 0, 1536, 3840, 7936, 0, 0, 0, 98304, 245760, 507904, 1048335, 2096911, 4194303, 8388607]) (hl := [[54, 55, 56, 57, 58, 59, 60, 61, 62, 63, 64, 65, 66, 67, 68, 69, 70, 71, 72], [53, 55, 57, 58, 59, 60, 61, 62, 63, 64, 65, 66, 67, 68, 69, 70, 71, 72], [53, 54, 57, 58, 59, 60, 61, 62, 63, 64, 65, 66, 67, 68, 69, 70, 71, 72], [53, 57, 58, 59, 60, 61, 62, 63, 64, 65, 66, 67, 68, 69, 70, 71, 72], [53, 54, 55, 56, 58, 59, 60, 61, 62, 63, 64, 65, 66, 67, 68, 69, 70, 71, 72, 73], [53, 54, 55, 56, 57, 59, 61, 62, 63, 64, 65, 66, 67, 68, 69, 70, 71, 72, 73], [53, 54, 55, 56, 57, 58, 61, 62, 63, 64, 65, 66, 67, 68, 69, 70, 71, 72, 73], [53, 54, 55, 56, 57, 61, 62, 63, 64, 65, 66, 67, 68, 69, 70, 71, 72, 73], [53, 54, 55, 56, 57, 58, 59, 60, 62, 63, 64, 67, 68, 69, 70, 71, 72], [53, 54, 55, 56, 57, 58, 59, 60, 61, 63, 67, 68, 69, 70, 71, 72], [53, 54, 55, 56, 57, 58, 59, 60, 61, 62, 67, 68, 69, 70, 71, 72], [53, 54, 55, 56, 57, 58, 59, 60, 61, 67, 68, 69, 70, 71, 72], [53, 54, 55, 56, 57, 58, 59, 60, 67, 68, 69, 70, 71, 72], [53, 54, 55, 56, 57, 58, 59, 60, 67, 68, 69, 70, 71, 72], [53, 54, 55, 56, 57, 58, 59, 60, 61, 62, 63, 64, 65, 66, 68, 69, 70], [53, 54, 55, 56, 57, 58, 59, 60, 61, 62, 63, 64, 65, 66, 67, 69], [53, 54, 55, 56, 57, 58, 59, 60, 61, 62, 63, 64, 65, 66, 67, 68], [53, 54, 55, 56, 57, 58, 59, 60, 61, 62, 63, 64, 65, 66, 67], [53, 54, 55, 56, 57, 58, 59, 60, 61, 62, 63, 64, 65, 66], [53, 54, 55, 56, 57, 58, 59, 60, 61, 62, 63, 64, 65, 66], [57, 58, 59, 60], [57, 58, 59, 60], [], []]) kx rfl (by kernel_rfl) (by kernel_rfl) rfl ?_
      refine walk ?_
      exact next (c, Go.Sort.swp d2 (first + r) (first + c)) (by simp only; omega) hsub ⟨by simp only; omega, by simp only [swp_size]; exact sz, eR, D3.swp (h' := Heap.mk g.t (g.next + 38)) (by omega) (by omega) (by show g.next ≤ g.next + 38; omega) _, O3.trans (Only.two (n := 38) D3.lt k4 _ _)⟩
end Go.Proofs.YthdlebegkhnbiaaGreat
