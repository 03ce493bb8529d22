/- What the functions of this part answer at any input, told by the rules over the evaluator. Conditions: those that each theorem states. -/
import Derived.Test.YtbmdcfehionkpaaGreatScp
import Derived.Test.YtbmdcfehionkpaaGreatScl
open Go Ev
namespace Go.Proofs.YtbmdcfehionkpaaGreat
set_option maxRecDepth 10000
set_option linter.unusedVariables false
set_option linter.unusedSimpArgs false
set_option maxHeartbeats 4000000
set_option linter.unusedVariables false
/-! ### ScanApart -/
theorem light_w {n : Nat} (hn : 0 < n) (img : List UInt8) (hi : img.length < 9223372036854775808) (h : Heap) : (TV n).sm 10 [.str img] h = some (.bool (decide (img.length ≤ 5000)), h) := by
  refine w_of hn rfl rfl rfl fun n hn => body_j rfl rfl ?_
  refine walk ?_
  exact jg_ret1 (by exact hres) (av_d (by omega))
theorem pick_w {n : Nat} (hn : 0 < n) (x m : Int) (hx : -9223372036854775808 ≤ x ∧ x < 9223372036854775808) (hm : 1 ≤ m ∧ m < 1000000000) (h : Heap) : (TV n).sm 11 [.int .i64 x, .int .i64 m] h = some (.int .i64 (x % m), h) := by
  refine w_of hn rfl rfl rfl fun n hn => body_j rfl rfl ?_
  have e1 : x.tmod m < m := Int.tmod_lt_of_pos _ (by omega)
  have e2 : -m < x.tmod m := Int.lt_tmod_of_pos _ (by omega)
  have e3 : x % m = if x.tmod m < 0 then x.tmod m + m else x.tmod m := by
    split
    · rename_i c
      rw [Int.emod_eq_tmod]
      have : ¬ (0 ≤ x ∨ m ∣ x) := by
        rintro (q | q)
        · have := Int.tmod_nonneg m q; omega
        · rw [Int.tmod_eq_zero_of_dvd q] at c; omega
      rw [if_neg this]
      omega
    · rename_i c
      rw [Int.emod_eq_tmod]
      split
      · omega
      · rename_i q
        have : x < 0 := by omega
        have h0 := Int.neg_tmod (-x) m
        rw [Int.neg_neg] at h0
        have h1 := Int.tmod_nonneg m (show 0 ≤ -x by omega)
        have h2 : x.tmod m = 0 := by omega
        exact absurd (.inr (Int.dvd_of_tmod_eq_zero h2)) q
  rw [e3]

  by_cases c0 : x.tmod m < 0
  · rw [if_pos c0]
    exact auto
  · rw [if_neg c0]
    exact auto
theorem times_w {n : Nat} (hn : 0 < n) (m : Nat) (hm : m ≤ 100000) (h : Heap) : (TV n).sm 12 [.str [0], .int .i64 m] h = some (.str (List.replicate m 0), h) := by
  refine w_of hn rfl rfl rfl fun n hn => body_j rfl rfl ?_
  refine walk ?_
  refine jg_loop (ι := Nat × Nat × Nat) (fun a => a.1) (fun a => [(0, .str (List.replicate a.2.1 0)), (1, .int .i64 a.1), (5, .str (List.replicate a.2.2 0))]) (fun a _ => a.1 ≤ m ∧ a.1 * a.2.1 + a.2.2 = m ∧ a.2.1 ≤ 2 * m + 1) (m, 1, 0) hsub ⟨Nat.le_refl _, by simp, by simp only; omega⟩ ?_
  rintro ⟨q, w, r⟩ g ⟨h1, h2, h3⟩ next
  dsimp only at h1 h2 h3 next ⊢
  by_cases c : 0 < q
  case neg =>
    have e : q = 0 := by omega
    rw [e, Nat.zero_mul, Nat.zero_add] at h2
    subst h2
    exact auto
  have hqw : w ≤ q * w := Nat.le_mul_of_pos_left w c
  have hr : r ≤ m := by omega
  have e2 : ((q : Nat) : Int).tmod 2 = ((q % 2 : Nat) : Int) := rfl
  have e3 : ((q : Nat) : Int).tdiv 2 = ((q / 2 : Nat) : Int) := rfl
  have hq := Nat.div_add_mod q 2
  have hw : q * w = (q / 2) * (w + w) + (q % 2) * w := by
    conv => lhs; rw [← hq]
    rw [Nat.add_mul, Nat.mul_assoc, Nat.mul_left_comm, Nat.two_mul]
  by_cases d : q % 2 = 1
  · rw [d, Nat.one_mul] at hw
    refine walk ?_
    refine jo_val rfl rfl rfl (k_bin rfl rfl rfl (b_cat (by simp; omega)) rfl) ?_
    rw [List.replicate_append_replicate]
    refine walk ?_
    refine jo_val rfl rfl rfl (k_bin rfl rfl rfl (b_cat (by simp; omega)) rfl) ?_
    rw [List.replicate_append_replicate]
    refine walk ?_
    rw [e3]
    exact next (q / 2, w + w, r + w) (by simp only; omega) (by exact hsub) ⟨by simp only; omega, by simp only; omega, by simp only; omega⟩
  · rw [show q % 2 = 0 by omega, Nat.zero_mul, Nat.add_zero] at hw
    refine walk ?_
    refine jo_val rfl rfl rfl (k_bin rfl rfl rfl (b_cat (by simp; omega)) rfl) ?_
    rw [List.replicate_append_replicate]
    refine walk ?_
    rw [e3]
    exact next (q / 2, w + w, r) (by simp only; omega) (by exact hsub) ⟨by simp only; omega, by simp only; omega, by simp only; omega⟩
theorem rt_eqv {q : Nat} (p r : Rt) : eqv (TV q) 100 37 (.agg p.cs) (.agg r.cs) = some (decide (p = r)) := by
  refine (eqv_agg rfl rfl (eqF_cons rfl rfl rfl (eqv_int rfl) (eqF_cons rfl rfl rfl (eqv_int rfl) (eqF_cons rfl rfl rfl (eqv_int rfl) eqF_nil)))).trans ?_
  congr 1
  rw [decide_eq_decide]
  cases p; cases r
  simp only [Rt.mk.injEq]
  constructor
  · rintro ⟨a, b, c, _⟩
    exact ⟨by omega, b, by omega⟩
  · rintro ⟨a, b, c⟩
    exact ⟨by omega, b, by omega, trivial⟩
theorem same_g {n : Nat} {h : Heap} {u v : AV} {l : List Rt} (hk : h.ok) (lu : Ls Rt.cs 3 h u l) (lv : Ls Rt.cs 3 h v l) (hl : l.length ≤ 1000000) : Gives (TV n) 15 [u, v] h (fun w h' => w = .bool true ∧ Ext h h') := by
  refine call_j (no_w rfl rfl) rfl rfl ?_
  have e1 := lu.len
  have e2 := lv.len
  have n1 := lu.ns
  have n2 := lv.ns
  refine walk ?_
  rw [show decide ((l.length : Int) ≠ (l.length : Int)) = false from decide_eq_false (fun c => c rfl)]
  refine walk ?_
  refine jg_loop (ι := Nat) (fun i => l.length - i) (fun i => [(0, u), (1, v), (5, .int .i64 i)]) (fun i h2 => i ≤ l.length ∧ Ext h h2) 0 hsub ⟨Nat.zero_le _, .refl _⟩ ?_
  rintro i h2 ⟨hi, x2⟩ next
  have k2 := x2.ok hk
  by_cases c : i < l.length
  case neg =>
    refine walk ?_
    exact jg_ret1 (by exact hres) ⟨rfl, x2⟩
  obtain ⟨y, hy⟩ : ∃ y, l[i]? = some y := ⟨_, List.getElem?_eq_getElem c⟩
  obtain ⟨B, p, e, all, rw', hb, hg, hpl, he, a1⟩ := (lu.ext x2).at (fun _ => rfl) hy
  obtain ⟨B2, p2, e2', all2, rw2, hb2, hg2, hpl2, he2, a2⟩ := (lv.ext x2).at (fun _ => rfl) hy
  refine walk ?_
  refine jg_drawn (q := 9) (ms := [0, 0, 3, 7, 0, 0, 48, 112, 255]) (hl := [[18, 21, 22, 23, 24], [17, 21, 22, 23, 24], [21, 22, 23, 24], [21, 22, 23, 24], [17, 18, 19, 20, 22], [17, 18, 19, 20, 21], [17, 18, 19, 20], [17, 18, 19, 20], []]) hok rfl (by kernel_rfl) (by kernel_rfl) rfl ?_
  refine walk ?_
  refine jd_val rfl rfl rfl rfl (k_bin rfl rfl rfl (bin_ne (rt_eqv y y) rfl) rfl) ?_
  rw [show decide (¬ y = y) = false from decide_eq_false (fun c => c rfl)]
  refine walk ?_
  exact next (i + 1) (by omega) (by exact hsub) ⟨by omega, by exact hext⟩
theorem lives23 {n : Nat} (h : Heap) : (TV n).sm 8 [] h = some (.bool true, h) := b_w rfl rfl
theorem apart_law {n : Nat} (hn : 9 < n) {z : Int} {img byt : List UInt8} {wh : Int} {h : Heap} (hk : h.ok) (hz : -9223372036854775808 ≤ z ∧ z < 9223372036854775808) (hi : img.length < 9223372036854775808) (hw : -9223372036854775808 ≤ wh ∧ wh < 9223372036854775808) (hb : byt.length < 9223372036854775808) : Gives (TV n) 3 [.int .i64 z, .str img, .int .i64 wh, .str byt] h (fun v h' => v = .bool true ∧ Ext h h') := by
  refine call_j (no_w rfl rfl) rfl rfl ?_
  have w1 := lives23 (n := n)
  have w2 := light_w (n := n) (by omega) img hi
  have w3 := rpages_w (n := n) (by omega) z img hi
  by_cases c1 : img.length ≤ 5000
  case neg =>
    rw [decide_eq_false c1] at w2
    exact auto
  rw [decide_eq_true c1] at w2
  have pl := pages_le z img
  by_cases c3 : ((pages z img : Nat) : Int) < 3
  case pos => exact auto
  by_cases c4 : (byt.length : Int) > 5000
  case pos => exact auto
  have g := (at_in (show 0 < pages z img by omega)).1
  have g1 := g.1
  have g2 := g.2.1
  obtain ⟨m, rfl⟩ := Int.eq_ofNat_of_zero_le (show 0 ≤ z by omega)
  obtain ⟨M, hM⟩ : ∃ M : Nat, pages m img = M + 2 := ⟨pages m img - 2, by omega⟩
  rw [hM] at w3 c3 pl
  have e0 : ((M + 2 : Nat) : Int) - 2 = (M : Int) := by omega
  have q0 := Int.emod_nonneg wh (show (M : Int) ≠ 0 by omega)
  have q1 := Int.emod_lt_of_pos wh (show (0 : Int) < (M : Int) by omega)
  have w4 := pick_w (n := n) (by omega) wh (M : Int) hw (by omega)
  obtain ⟨q, hq⟩ := Int.eq_ofNat_of_zero_le q0
  rw [hq] at w4 q1
  clear hq q0
  have w5 := times_w (n := n) (by omega) m (by omega)
  refine walk ?_
  rw [e0]
  refine walk ?_
  refine jo_val rfl rfl rfl (k_bin rfl rfl rfl (b_cat (by simp; omega)) rfl) ?_
  have bl : (byt ++ List.replicate m 0).length = byt.length + m := by simp
  have bm : ((byt ++ List.replicate m 0).take m).length = m := by rw [List.length_take, bl]; omega
  generalize hB : byt ++ List.replicate m 0 = B at bl bm
  clear w3 w4 w5
  have w6 := rget_w (n := n) (by omega) m (2 + q) (B.take m) (by omega)
  have kq : 2 + q < pages m img := by omega
  have hkl := (at_in kq).2
  rw [Int.toNat_natCast] at hkl
  have ap := apart_scan (z := m) (img := img) (block := B.take m) (k := 2 + q) (by rw [Int.toNat_natCast]; exact bm) kq
  rw [Int.toNat_natCast] at ap
  refine walk ?_
  generalize getR m (2 + q) (B.take m) = r at ap
  obtain ⟨r1, r2⟩ := r
  dsimp only at ap ⊢
  by_cases c7 : r2 = 0
  case pos =>
    refine walk ?_
    exact jg_ret1 (by exact hres) ⟨rfl, by exact hext⟩
  have ap := ap c7
  clear w6
  refine walk ?_
  refine jo_call (scan_g (n := n) (by omega) (z := m) (img := img) (by exact hok) (by omega)) rfl rfl rfl rfl ?_
  rintro w h1 ⟨x1, o1⟩
  have x01 : Ext h h1 := Ext.trans (by exact hext) x1
  have k1 := x01.ok hk
  have ls := o1.ls
  have lw := ls.len
  have nw := ls.ns
  have sll := scanTo_len m img (pages m img - 2)
  have es : scanR m img = scanTo m img (pages m img - 2) := rfl
  rw [← es] at sll
  refine walk ?_
  refine jg_loop (ι := Nat × (Nat → Prop) × AV) (fun a => (scanR m img).length - a.1) (fun a => [(0, .int .i64 m), (1, .str img), (10, .int .i64 (2 + q : Nat)), (11, .str (B.take m)), (14, a.2.2), (15, w), (16, .int .i64 a.1)]) (fun a h2 => a.1 ≤ (scanR m img).length ∧ Ext h1 h2 ∧ OwnLS Rt.cs 37 3 a.2.1 h2 a.2.2 (((scanR m img).take a.1).filter fun x => decide (x.page ≠ 2 + q)) ∧ (∀ c, a.2.1 c → h1.next ≤ c ∧ c < h2.next)) (0, (fun _ => False), .nilslice) hsub ⟨Nat.zero_le _, .refl _, .nil, fun c q => q.elim⟩ ?_
  rintro ⟨i, S, u⟩ h2 ⟨hi2, x2, ow, kc⟩ next
  dsimp only at hi2 ow kc next ⊢
  have k2 := x2.ok k1
  have nx2 := x2.nx
  by_cases c : i < (scanR m img).length
  case neg =>
    have ei : i = (scanR m img).length := by omega
    rw [ei, List.take_length] at ow
    clear next
    refine walk ?_
    refine jg_drawn (q := 19) (ms := [0, 0, 0, 0, 12, 30, 0, 126, 0, 0, 512, 0, 3584, 7936, 16382, 32767, 0, 131071, 262143]) (hl := [[80, 81, 82, 83, 84, 85, 86, 87, 88, 89, 90, 91, 92, 93, 95], [79, 81, 82, 83, 85, 87, 88, 89, 90, 91, 92, 95], [79, 80, 82, 85, 87, 88, 89, 90, 91, 92, 95], [79, 80, 81, 85, 87, 88, 89, 90, 91, 92, 95], [79, 80, 85, 87, 88, 89, 90, 91, 92, 95], [79, 85, 87, 88, 89, 90, 91, 92, 95], [79, 80, 81, 82, 83, 84, 87, 88, 89, 90, 91, 92, 95], [79, 87, 88, 89, 90, 91, 92, 95], [79, 80, 81, 82, 83, 84, 85, 86, 88, 89, 90, 91, 95], [79, 80, 81, 82, 83, 84, 85, 86, 87, 90, 95], [79, 80, 81, 82, 83, 84, 85, 86, 87, 90, 95], [79, 80, 81, 82, 83, 84, 85, 86, 87, 88, 89, 95], [79, 80, 81, 82, 83, 84, 85, 86, 87, 95], [79, 80, 81, 82, 83, 84, 85, 86, 95], [79, 95], [95], [79, 80, 81, 82, 83, 84, 85, 86, 87, 88, 89, 90, 91, 92, 93, 94], [], []]) hok rfl (by kernel_rfl) (by kernel_rfl) rfl ?_
    refine walk ?_
    have em : (((2 + q : Nat) : Int) + 1) * (m : Int) = (((2 + q) * m + m : Nat) : Int) := by rw [Int.add_mul, Int.one_mul]; push_cast; rfl
    have bt : ((img.take ((2 + q) * m)).length : Nat) ≤ 5000 := by rw [List.length_take]; omega
    have bd : (img.drop ((2 + q) * m + m)).length ≤ 5000 := by rw [List.length_drop]; omega
    have bc : (img.take ((2 + q) * m) ++ B.take m).length ≤ 9096 := by rw [List.length_append, bm]; omega
    refine jd_val rfl rfl rfl rfl (k_bin rfl rfl rfl (b_cat (by omega)) rfl) ?_
    refine walk ?_
    rw [em, Int.toNat_natCast]
    have il : (img.take ((2 + q) * m) ++ B.take m ++ img.drop ((2 + q) * m + m)).length = img.length := by rw [List.length_append, List.length_append, List.length_take, bm, List.length_drop]; omega
    refine jd_val rfl rfl rfl rfl (k_bin rfl rfl rfl (b_cat (by omega)) rfl) ?_
    have ap2 : scanR m (img.take ((2 + q) * m) ++ B.take m ++ img.drop ((2 + q) * m + m)) = (scanR m img).filter fun x => decide (x.page ≠ 2 + q) := by
      show scanTo _ _ (pages m _ - 2) = _
      rw [apart_pages il]
      exact ap _
    have fl := List.length_filter_le (fun x : Rt => decide (x.page ≠ 2 + q)) (scanR m img)
    generalize img.take ((2 + q) * m) ++ B.take m ++ img.drop ((2 + q) * m + m) = img2 at il ap2 ⊢
    refine walk ?_
    refine jd_call (scan_g (n := n) (by omega) (z := m) (img := img2) (by exact hok) (by omega)) rfl rfl rfl rfl rfl rfl ?_
    rintro w2 h3 ⟨x3, o3⟩
    rw [ap2] at o3
    have x23 : Ext h2 h3 := Ext.trans (by exact hext) x3
    have k3 := x23.ok k2
    refine walk ?_
    refine jd_call (same_g (n := n) (h := h3) k3 o3.ls (ow.ls.ext x23) (by omega)) rfl rfl rfl rfl rfl rfl ?_
    rintro _ h4 ⟨rfl, x4⟩
    refine walk ?_
    exact jg_ret1 (by exact hres) ⟨rfl, Ext.trans x01 (Ext.trans x2 (Ext.trans x23 x4))⟩
  obtain ⟨y, hy⟩ : ∃ y, (scanR m img)[i]? = some y := ⟨_, List.getElem?_eq_getElem c⟩
  have et : (scanR m img).take (i + 1) = (scanR m img).take i ++ [y] := by rw [List.take_add_one, hy]; rfl
  obtain ⟨B2, p2, e2', all2, rw2, hb2, hg2, hpl2, he2, a1⟩ := (ls.ext x2).at (fun _ => rfl) hy
  by_cases d : y.page = 2 + q
  · refine walk ?_
    exact next (i + 1, S, u) (by simp only; omega) (by exact hsub) ⟨by simp only; omega, x2, by simp only; rw [et, List.filter_append]; simpa [d] using ow, kc⟩
  have ef : ((scanR m img).take (i + 1)).filter (fun x => decide (x.page ≠ 2 + q)) = ((scanR m img).take i).filter (fun x => decide (x.page ≠ 2 + q)) ++ [y] := by rw [et, List.filter_append]; simp [d]
  have fl := List.length_filter_le (fun x : Rt => decide (x.page ≠ 2 + q)) ((scanR m img).take i)
  rw [List.length_take] at fl
  obtain ⟨v7, h7, e7, o7, t7⟩ := app_row_s (T := TV n) (st := 34) (rest := [34]) (h := h2.alloc (.cells 37 y.cs true)) (x := y) (ow.keep (h' := h2.alloc (.cells 37 y.cs true)) (fun c q hl => Heap.ga _ _ _ (by omega)) (Nat.le_succ _)) (get_new _ _) (by show h2.next < h2.next + 1; omega) (by omega) rfl rfl rfl rfl rfl (by exact Nat.le_of_ble_eq_true rfl) rfl (by decide) rfl
  have n7 : h2.next + 1 ≤ h7.next := t7.nx
  refine walk ?_
  refine next (i + 1, (fun c => (S c ∨ h2.next + 1 ≤ c) ∧ c < h7.next), v7) (by simp only; omega) (by exact hsub) ⟨by simp only; omega, ⟨by omega, fun c hc => (t7.old c (by show c < h2.next + 1; omega) (fun q => by have := (kc c q).1; omega)).trans ((Heap.ga _ _ _ (by omega)).trans (x2.old c hc)), fun _ => t7.ok (ok_al k2 _)⟩, ?_, ?_⟩
  · simp only
    rw [ef]
    exact o7.mono fun c q r => ⟨q, r⟩
  · rintro c ⟨q, r⟩
    refine ⟨?_, r⟩
    rcases q with q | q
    · exact (kc c q).1
    · omega
end Go.Proofs.YtbmdcfehionkpaaGreat
