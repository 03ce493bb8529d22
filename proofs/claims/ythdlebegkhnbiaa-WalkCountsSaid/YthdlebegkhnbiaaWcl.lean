/- What the functions of this part answer at any input, told by the rules over the evaluator. Conditions: those that each theorem states. -/
import Derived.Test.YthdlebegkhnbiaaWct
open Go Ev
namespace Go.Proofs.Ythdlebegkhnbiaa
set_option maxRecDepth 10000
set_option linter.unusedVariables false
set_option linter.unusedSimpArgs false
set_option maxHeartbeats 4000000
set_option linter.unusedVariables false
/-! ### WalkCounts -/
theorem lsint_of {h : Heap} {B k c : Nat} {m : List Nat} (hg : h.get B = some (.cells 3 (m.flatMap i64c) true)) (hl : B < h.next) (hm : m.length = c) (hk : k ≤ c) : LsInt h (.slice B 0 k c) (m.take k) := by
  have e : (m.flatMap i64c).length = m.length * 1 := flat_len i64c_len m
  have e2 : (m.take k).length = k := by rw [List.length_take]; omega
  refine ⟨e2.symm, hl, 3, _, true, hg, by omega, ?_⟩
  rw [List.drop_zero, e2, ← flat_take i64c_len]
theorem counts_law {n : Nat} (hn : 9 < n) {z more : Int} {img : List UInt8} {root : Nat} {h : Heap} (hk : h.ok) (hi : img.length < 9223372036854775808) (hr : root < 4294967296) (hm : -9223372036854775808 ≤ more ∧ more < 9223372036854775808) : Gives (TV n) 4 [.int .i64 z, .str img, .int .u32 root, .int .i64 more] h (fun v h' => v = .bool true ∧ Ext h h') := by
  refine call_j (no_w rfl rfl) rfl rfl ?_
  have w1 := lives_n (n := n)
  have w2 := light_w (n := n) (by omega) img hi
  by_cases c1 : img.length ≤ 5000
  case neg =>
    rw [decide_eq_false c1] at w2
    exact auto
  rw [decide_eq_true c1] at w2
  have w3 := rpages_w (n := n) (by omega) z img (by omega)
  have w4 := pick_w (n := n) (by omega) more 50 hm (by decide)
  have p8 := pages_128 z img
  have m0 : 0 ≤ more % 50 := Int.emod_nonneg _ (by decide)
  have m1 : more % 50 < 50 := Int.emod_lt_of_pos _ (by decide)
  obtain ⟨q, hq⟩ : ∃ q : Nat, more % 50 = q := ⟨(more % 50).toNat, by omega⟩
  rw [hq] at w4 m0 m1
  have memp : ∀ acc, RunR z img root acc → ∀ s ∈ acc, (∃ m, s = seenP z img m s.visit) ∧ s.visit.page < 4294967296 := fun acc ψ => by
    rcases ψ with ⟨_, e⟩ | ⟨_, run⟩
    · rw [e]; intro s hs; cases hs
    · exact run_mem run fun v hv => by obtain rfl := List.mem_singleton.1 hv; exact hr
  refine walk ?_
  refine jo_call (walk_g (n := n) hn (z := z) (img := img) (root := root) (h := h) hk c1 hr) rfl rfl rfl rfl ?_
  rintro w h1 ⟨acc, x1, ow, la, ψ⟩
  have mp := memp acc ψ
  have ls := ow.ls
  have lw := ls.len
  have nw := ls.ns
  have k1 := x1.ok hk
  generalize hN : pages z img = N at *
  refine walk ?_
  refine jo_call (counts_g (n := n) (k := N) (h := h1) (by omega) ls la (fun s hs => (mp s hs).2) k1) rfl rfl rfl rfl ?_
  rintro _ h2 ⟨x2, rfl, n2, g2⟩
  have k2 := x2.ok k1
  refine walk ?_
  rw [show ((N : Int) + (q : Int)) = ((N + q : Nat) : Int) by omega]
  refine jo_call (counts_g (n := n) (k := N + q) (h := h2) (by omega) (ls.ext x2) la (fun s hs => (mp s hs).2) k2) rfl rfl rfl rfl ?_
  rintro _ h3 ⟨x3, rfl, n3, g3⟩
  have k3 := x3.ok k2
  have g23 := (x3.old _ n2).trans g2
  have ls3 := (ls.ext x2).ext x3
  have tot := cnts_total N acc
  refine walk ?_
  refine jg_loop (ι := Nat) (fun i => N - i) (fun i => [(9, .int .i64 (N : Nat)), (10, w), (11, .slice h1.next 0 N N), (12, .slice h2.next 0 (N + q) (N + q)), (13, .int .i64 (((cnts N acc).take i).sum : Nat)), (14, .int .i64 0), (15, .int .i64 (i : Nat))]) (fun i h4 => i ≤ N ∧ h4 = h3) 0 hsub ⟨by omega, rfl⟩ ?_
  rintro i h3 ⟨hi, rfl⟩ next
  by_cases hil : i < N
  · have hx := cnts_at (l := acc) hil
    have at1 := flat_at1 hx
    have sm : ((cnts N acc).take (i + 1)).sum = ((cnts N acc).take i).sum + cntF acc i := by rw [List.take_add_one, hx]; simp
    have sb : ((cnts N acc).take (i + 1)).sum ≤ (cnts N acc).sum := by
      have := congrArg List.sum (List.take_append_drop (i + 1) (cnts N acc))
      rw [List.sum_append] at this
      omega
    have fl : ((cnts N acc).flatMap i64c).length = N * 1 := by rw [flat_len i64c_len, cnts_len]
    refine walk ?_
    refine next (i + 1) (by omega) (by rw [sm]; exact hsub) ⟨by omega, rfl⟩
  have iN : i = N := by omega
  rw [iN, List.take_of_length_le (by rw [cnts_len]; exact Nat.le_refl _)]
  clear iN hil hi next i
  refine walk ?_
  refine jg_loop (ι := Nat) (fun i => acc.length - i) (fun i => [(9, .int .i64 (N : Nat)), (10, w), (11, .slice h1.next 0 N N), (12, .slice h2.next 0 (N + q) (N + q)), (13, .int .i64 ((cnts N acc).sum : Nat)), (14, .int .i64 (((acc.take i).filter fun s => decide (¬ s.visit.page < N)).length : Nat)), (16, .int .i64 (i : Nat))]) (fun i h4 => i ≤ acc.length ∧ h4 = h3) 0 hsub ⟨by omega, rfl⟩ ?_
  rintro i h3 ⟨hi, rfl⟩ next
  have sl := List.length_filter_le (fun s : Sn => decide (¬ s.visit.page < N)) (acc.take i)
  have tl : (acc.take i).length ≤ acc.length := by simp; omega
  by_cases hil : i < acc.length
  case neg =>
    have iN : i = acc.length := by omega
    rw [iN, List.take_length]
    have c6 : (((cnts N acc).sum : Nat) : Int) = (acc.length : Int) - ((acc.filter fun s => decide (¬ s.visit.page < N)).length : Nat) := by omega
    have c7 : ((N + q : Nat) : Int) ≥ (N : Int) := by omega
    have c8 : (N : Int) = (N : Int) := rfl
    have lb : ((acc.filter fun s => decide (¬ s.visit.page < N)).length : Nat) ≤ acc.length := List.length_filter_le _ _
    have sb : sliceS 1 h3 (.slice h2.next 0 (N + q) (N + q)) none (some (.int .i64 (N : Nat))) none = some (.slice h2.next 0 N (N + q)) := by
      have : (N : Int) ≤ ((N : Int) + (q : Int)) := by omega
      simp [sliceS, boundsA, mxA, hiA, loA, boundA, this]
    have l1 := lsint_of (k := N) g3 n3 (cnts_len _ _) (Nat.le_add_right N q)
    rw [cnts_take (Nat.le_add_right N q)] at l1
    have l2 := lsint_of (k := N) g23 (by have := x2.nx; have := x3.nx; omega) (cnts_len _ _) (Nat.le_refl _)
    rw [cnts_take (Nat.le_refl N)] at l2
    have w5 := same_int_w (n := n) (by omega) l1 l2 k3 (by rw [cnts_len]; omega) (by rw [cnts_len]; omega)
    rw [decide_eq_true rfl] at w5
    refine walk ?_
    refine jo_val rfl rfl rfl (k_sl3 rfl rfl rfl rfl rfl rfl rfl sb) ?_
    refine walk ?_
    refine jo_w w5 rfl rfl rfl rfl ?_
    refine walk ?_
    exact jg_ret1 (by exact hres) ⟨rfl, by exact hext⟩
  obtain ⟨s, hs⟩ : ∃ s, acc[i]? = some s := ⟨acc[i], List.getElem?_eq_getElem hil⟩
  obtain ⟨b, p', e', all, rw', hb, hg, hpl, he, a1⟩ := ls3.at Sn.csl hs
  obtain ⟨⟨mt, sq⟩, sp⟩ := mp s (List.mem_of_getElem? hs)
  have fl : ((cnts N acc).flatMap i64c).length = N * 1 := by rw [flat_len i64c_len, cnts_len]
  have tk : acc.take (i + 1) = acc.take i ++ [s] := by rw [List.take_add_one, hs]; rfl
  have cpos : 1 ≤ cntF acc s.visit.page := by
    unfold cntF
    exact List.length_pos_of_mem (a := s) (List.mem_filter.2 ⟨List.mem_of_getElem? hs, by simp⟩)
  refine walk ?_
  refine gj_cut1 (ι := Unit) (fun _ => [(9, .int .i64 (N : Nat)), (10, w), (11, .slice h1.next 0 N N), (12, .slice h2.next 0 (N + q) (N + q)), (13, .int .i64 ((cnts N acc).sum : Nat)), (14, .int .i64 (((acc.take (i + 1)).filter fun s => decide (¬ s.visit.page < N)).length : Nat)), (16, .int .i64 (i : Nat))]) (fun _ h4 => h4 = h3) ?_ ?_
  · intro k' join
    by_cases c2 : (s.visit.page : Int) ≥ (N : Int)
    · have e1 : ((acc.take (i + 1)).filter fun s => decide (¬ s.visit.page < N)).length = ((acc.take i).filter fun s => decide (¬ s.visit.page < N)).length + 1 := by
        rw [tk, List.filter_append, List.length_append, List.filter_cons, if_pos (by simp; omega)]; rfl
      rw [e1] at join
      refine walk ?_
      exact join () hsub rfl
    · have e1 : ((acc.take (i + 1)).filter fun s => decide (¬ s.visit.page < N)).length = ((acc.take i).filter fun s => decide (¬ s.visit.page < N)).length := by
        rw [tk, List.filter_append, List.length_append, List.filter_cons, if_neg (by simp; omega)]; rfl
      rw [e1] at join
      refine walk ?_
      exact join () hsub rfl
  rintro ⟨⟩ h3 rfl
  by_cases c3 : s.why = 0
  · have d := seen_deep (sq ▸ c3)
    rw [hN] at d
    have at1 := flat_at1 (cnts_at (l := acc) (p := s.visit.page) d.2.2.1)
    have c4 : ¬ (s.visit.page : Int) ≥ (N : Int) := by omega
    have c5 : ¬ ((cntF acc s.visit.page : Nat) : Int) < 1 := by omega
    refine walk ?_
    exact next (i + 1) (by omega) hsub ⟨by omega, rfl⟩
  · refine walk ?_
    exact next (i + 1) (by omega) hsub ⟨by omega, rfl⟩
end Go.Proofs.Ythdlebegkhnbiaa
