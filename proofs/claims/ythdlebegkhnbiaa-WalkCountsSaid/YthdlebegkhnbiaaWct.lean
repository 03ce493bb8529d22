/- What the functions of this part answer at any input, told by the rules over the evaluator. Conditions: those that each theorem states. -/
import Derived.Test.YthdlebegkhnbiaaKit
import Derived.Test.YthdlebegkhnbiaaWfw
open Go Ev
namespace Go.Proofs.Ythdlebegkhnbiaa
set_option maxRecDepth 10000
set_option linter.unusedVariables false
set_option linter.unusedSimpArgs false
set_option maxHeartbeats 4000000
set_option linter.unusedVariables false
/-! ### walk.Counts -/
def i64c (n : Nat) : List AV := [.int .i64 n]
theorem i64c_len (n : Nat) : (i64c n).length = 1 := rfl
abbrev LsInt (h : Heap) (v : AV) (l : List Nat) : Prop := Ls i64c 1 h v l
def cntF (l : List Sn) (p : Nat) : Nat := (l.filter fun s => decide (s.visit.page = p)).length
def cnts (k : Nat) (l : List Sn) : List Nat := (List.range k).map (cntF l)
theorem cnts_len (k : Nat) (l : List Sn) : (cnts k l).length = k := by simp [cnts]
theorem cnts_at {k : Nat} {l : List Sn} {p : Nat} (h : p < k) : (cnts k l)[p]? = some (cntF l p) := by
  unfold cnts
  rw [List.getElem?_map, List.getElem?_range h]; rfl
theorem cntF_add (l : List Sn) (s : Sn) (p : Nat) : cntF (l ++ [s]) p = cntF l p + if s.visit.page = p then 1 else 0 := by
  unfold cntF
  rw [List.filter_append, List.length_append]
  by_cases c : s.visit.page = p <;> simp [c]
theorem cntF_le (l : List Sn) (p : Nat) : cntF l p ≤ l.length := List.length_filter_le _ _
theorem cnts_in {k : Nat} {l : List Sn} {s : Sn} (h : s.visit.page < k) : cnts k (l ++ [s]) = (cnts k l).set s.visit.page (cntF l s.visit.page + 1) := by
  refine List.ext_getElem? fun q => ?_
  rw [List.getElem?_set, cnts_len]
  by_cases c : q < k
  · rw [cnts_at c, cntF_add]
    by_cases d : s.visit.page = q
    · rw [if_pos d, if_pos d, if_pos h, d]
    · rw [if_neg d, if_neg d, cnts_at c]; simp
  · rw [List.getElem?_eq_none (by rw [cnts_len]; omega)]
    rw [if_neg (by omega), List.getElem?_eq_none (by rw [cnts_len]; omega)]
theorem cnts_out {k : Nat} {l : List Sn} {s : Sn} (h : ¬ s.visit.page < k) : cnts k (l ++ [s]) = cnts k l := by
  refine List.ext_getElem? fun q => ?_
  by_cases c : q < k
  · rw [cnts_at c, cnts_at c, cntF_add, if_neg (by omega), Nat.add_zero]
  · rw [List.getElem?_eq_none (by rw [cnts_len]; omega), List.getElem?_eq_none (by rw [cnts_len]; omega)]
theorem cnts_nil (k : Nat) : cnts k [] = List.replicate k 0 := by
  refine List.ext_getElem? fun q => ?_
  by_cases c : q < k
  · rw [cnts_at c, List.getElem?_replicate, if_pos c]; rfl
  · rw [List.getElem?_eq_none (by rw [cnts_len]; omega), List.getElem?_eq_none (by simpa using c)]
theorem times_i64 : ∀ n, times [AV.int .i64 0] n = (List.replicate n 0).flatMap i64c
  | 0 => rfl
  | n + 1 => by rw [List.replicate_succ, List.flatMap_cons, ← times_i64 n]; rfl
theorem set_flat (l : List Nat) (p x : Nat) : (l.flatMap i64c).set p (.int .i64 x) = (l.set p x).flatMap i64c := by
  induction l generalizing p with
  | nil => rfl
  | cons a l ih =>
    cases p with
    | zero => rfl
    | succ p =>
      show ((.int .i64 a : AV) :: l.flatMap i64c).set (p + 1) _ = (.int .i64 a : AV) :: (l.set p x).flatMap i64c
      rw [List.set_cons_succ, ih]
theorem flat_at1 {l : List Nat} {p x : Nat} (h : l[p]? = some x) : ((l.flatMap i64c).drop (0 + p * 1)).take 1 = [.int .i64 x] := by
  have := flat_at i64c_len l p x h
  rw [Nat.zero_add]
  exact this
theorem counts_g {n k : Nat} {w : AV} {acc : List Sn} {h : Heap} (hk : k ≤ 1048576) (ls : Ls Sn.cs 15 h w acc) (la : acc.length ≤ 300000) (lp : ∀ s ∈ acc, s.visit.page < 4294967296) (ok : h.ok) : Gives (TV n) 10 [.int .i64 k, w] h (fun v h' => Ext h h' ∧ v = .slice h.next 0 k k ∧ h.next < h'.next ∧ h'.get h.next = some (.cells 3 ((cnts k acc).flatMap i64c) true)) := by
  refine call_j (no_w rfl rfl) rfl rfl ?_
  have lw := ls.len
  have nw := ls.ns
  have c1 : ¬ (k : Int) < 0 := by omega
  have c2 : ¬ (1048576 : Int) < (k : Int) := by omega
  refine walk ?_
  refine jo_val rfl rfl rfl (k_make (n := k) (m := k) rfl rfl rfl rfl rfl rfl (Nat.le_of_ble_eq_true rfl) rfl rfl (Nat.le_refl _) (by omega)) ?_
  rw [show times (AV.int .i64 0).cells k = (List.replicate k 0).flatMap i64c from times_i64 _, ← cnts_nil]
  refine walk ?_
  refine jg_loop (ι := Nat) (fun i => acc.length - i) (fun i => [(0, .int .i64 k), (5, .slice h.next 0 k k), (16, w), (17, .int .i64 acc.length), (18, .int .i64 (i : Nat))]) (fun i h2 => i ≤ acc.length ∧ Ext h h2 ∧ h.next < h2.next ∧ h2.get h.next = some (.cells 3 ((cnts k (acc.take i)).flatMap i64c) true)) 0 hsub ⟨by omega, .alloc _ _, Nat.lt_succ_self _, by rw [List.take_zero]; exact get_new _ _⟩ ?_
  rintro i h2 ⟨hi, x2, n2, g2⟩ next
  by_cases hil : i < acc.length
  case neg =>
    obtain rfl : i = acc.length := by omega
    rw [List.take_length] at g2
    refine walk ?_
    exact jg_ret1 (by exact hres) ⟨x2, rfl, n2, g2⟩
  obtain ⟨s, hs⟩ : ∃ s, acc[i]? = some s := ⟨acc[i], List.getElem?_eq_getElem hil⟩
  obtain ⟨b, p', e', all, rw', hb, hg, hpl, he, a1⟩ := (ls.ext x2).at Sn.csl hs
  have tk : acc.take (i + 1) = acc.take i ++ [s] := by rw [List.take_add_one, hs]; rfl
  have sp := lp s (List.mem_of_getElem? hs)
  have cl := cntF_le (acc.take i) s.visit.page
  have cl2 : (acc.take i).length ≤ acc.length := by simp; omega
  by_cases c3 : (s.visit.page : Int) < (k : Int)
  · have at1 := flat_at1 (cnts_at (l := acc.take i) (k := k) (p := s.visit.page) (by omega))
    have fl : ((cnts k (acc.take i)).flatMap i64c).length = k * 1 := by rw [flat_len i64c_len, cnts_len]
    have s1 : 0 + s.visit.page * 1 < ((cnts k (acc.take i)).flatMap i64c).length := by omega
    refine walk ?_
    refine jo_skip rfl rfl (k_store1 rfl rfl rfl rfl rfl rfl (by exact hget) s1) ?_
    refine walk ?_
    refine next (i + 1) (by omega) hsub ⟨by omega, Ext.st (by exact hext) _ _ (Nat.le_refl _) (by show h.next < h2.next + 1; omega), ?_, ?_⟩
    · show h.next < h2.next + 1; omega
    · refine (Heap.gs _ _ _).trans ?_
      have e1 : ((cnts k (acc.take i)).flatMap i64c).set (0 + s.visit.page * 1) (.int .i64 (((cntF (acc.take i) s.visit.page : Nat) : Int) + 1)) = ((cnts k (acc.take i)).set s.visit.page (cntF (acc.take i) s.visit.page + 1)).flatMap i64c := by
        rw [← set_flat, Nat.zero_add, Nat.mul_one]
        rfl
      rw [tk, cnts_in (by omega), ← e1]
      rfl
  · refine walk ?_
    refine next (i + 1) (by omega) hsub ⟨by omega, by exact hext, ?_, ?_⟩
    · show h.next < h2.next + 1; omega
    · rw [tk, cnts_out (by omega)]
      exact (show Heap.get (Heap.set (Heap.alloc h2 _) h2.next _) h.next = _ by rw [Heap.gn _ _ _ _ (by omega), Heap.ga _ _ _ (by omega)]; exact g2)
/-! ### the law's plain side -/
theorem run_mem {z : Int} {img : List UInt8} {met : List Nat} {left : List Vis} {l : List Sn} (r : Run z img met left l) (hl : ∀ v ∈ left, v.page < 4294967296) : ∀ s ∈ l, (∃ m, s = seenP z img m s.visit) ∧ s.visit.page < 4294967296 := by
  induction r with
  | done => intro s hs; cases hs
  | @step m left v l r ih =>
    intro s hs
    have sv := seenP_visit z img m v
    rcases List.mem_cons.1 hs with rfl | hs
    · exact ⟨⟨m, by rw [sv]⟩, by rw [sv]; exact hl v (.head _)⟩
    · refine ih (fun w hw => ?_) s hs
      rcases List.mem_append.1 hw with hw | hw
      · exact (visits_mem (seenP_small z img m v).2.2 hw).2.1
      · exact hl w (.tail _ hw)
theorem sum_set : ∀ (l : List Nat) (p x : Nat), l[p]? = some x → (l.set p (x + 1)).sum = l.sum + 1
  | [], p, x, h => by simp at h
  | a :: l, 0, x, h => by simp at h; subst h; simp; omega
  | a :: l, p + 1, x, h => by
    have := sum_set l p x (by simpa using h)
    simp only [List.set_cons_succ, List.sum_cons, this]; omega
theorem cnts_sum (k : Nat) : ∀ (l r : List Sn), (cnts k (l ++ r)).sum + (r.filter fun s => decide (¬ s.visit.page < k)).length = (cnts k l).sum + r.length
  | l, [] => by simp
  | l, s :: r => by
    have ih := cnts_sum k (l ++ [s]) r
    rw [List.append_assoc, List.singleton_append] at ih
    rw [List.length_cons, List.filter_cons]
    by_cases c : s.visit.page < k
    · rw [cnts_in c, sum_set _ _ _ (cnts_at c)] at ih
      simp [c] at ih ⊢
      omega
    · rw [cnts_out c] at ih
      simp [c] at ih ⊢
      omega
theorem cnts_total (k : Nat) (l : List Sn) : (cnts k l).sum + (l.filter fun s => decide (¬ s.visit.page < k)).length = l.length := by
  have := cnts_sum k [] l
  rw [List.nil_append, cnts_nil] at this
  simpa using this
theorem cnts_take {k m : Nat} (h : k ≤ m) (l : List Sn) : (cnts m l).take k = cnts k l := by
  unfold cnts
  rw [← List.map_take, List.take_range, Nat.min_eq_left h]
theorem same_int_w {n : Nat} (hn : 0 < n) {v u : AV} {a b : List Nat} {h : Heap} (lv : LsInt h v a) (lu : LsInt h u b) (ok : h.ok) (la : a.length ≤ 1000000) (lb : b.length ≤ 1000000) : (TV n).sm 12 [v, u] h = some (.bool (decide (a = b)), h) := by
  refine w_in hn (fun h => LsInt h v a ∧ LsInt h u b ∧ h.ok) rfl rfl ⟨lv, lu, ok⟩ (fun hp => ⟨lv.any (by simp [AV.plains] at hp; exact hp.1), lu.any (by simp [AV.plains] at hp; exact hp.2), ok_nil⟩) ?_
  clear lv lu ok h
  rintro n hn h ⟨lv, lu, ok⟩
  refine body_j rfl rfl ?_
  have hv := lv.len
  have hu := lu.len
  have nv := lv.ns
  have nu := lu.ns
  by_cases c1 : a.length = b.length
  case neg =>
    have c2 : ¬ (a.length : Int) = (b.length : Int) := by omega
    rw [decide_eq_false (fun e => c1 (by rw [e]))]
    refine walk ?_
    exact jg_ret1 (by exact hres) ⟨rfl, by exact hext⟩
  have c2 : (a.length : Int) = (b.length : Int) := by omega
  refine walk ?_
  refine jg_loop (ι := Nat) (fun i => a.length - i) (fun i => [(0, v), (1, u), (5, .int .i64 (i : Nat))]) (fun i h2 => i ≤ a.length ∧ Ext h h2 ∧ a.take i = b.take i) 0 hsub ⟨by omega, .refl _, rfl⟩ ?_
  rintro i h2 ⟨hi, x2, eq⟩ next
  by_cases hil : i < a.length
  case neg =>
    obtain rfl : i = a.length := by omega
    have e : a = b := by rw [List.take_length] at eq; rw [eq, c1, List.take_length]
    rw [decide_eq_true e]
    refine walk ?_
    exact jg_ret1 (by exact hres) ⟨rfl, x2⟩
  obtain ⟨x, hx⟩ : ∃ x, a[i]? = some x := ⟨a[i], List.getElem?_eq_getElem hil⟩
  obtain ⟨y, hy⟩ : ∃ y, b[i]? = some y := ⟨b[i]'(by omega), List.getElem?_eq_getElem (by omega)⟩
  obtain ⟨q1, p1, e1, all1, rw1, hb1, hg1, hpl1, he1, a1⟩ := (lv.ext x2).at i64c_len hx
  obtain ⟨q2, p2, e2, all2, rw2, hb2, hg2, hpl2, he2, a2⟩ := (lu.ext x2).at i64c_len hy
  have he1 : (all1.drop p1).take 1 = [.int .i64 x] := he1
  have he2 : (all2.drop p2).take 1 = [.int .i64 y] := he2
  have ok2 := x2.ok ok
  refine walk ?_
  refine jg_drawn (q := 9) (ms := [0, 0, 3, 7, 0, 0, 48, 112, 255]) (hl := [[18, 21, 22, 23, 24], [17, 21, 22, 23, 24], [21, 22, 23, 24], [21, 22, 23, 24], [17, 18, 19, 20, 22], [17, 18, 19, 20, 21], [17, 18, 19, 20], [17, 18, 19, 20], []]) ok2 rfl (by kernel_rfl) (by kernel_rfl) rfl ?_
  refine walk ?_
  by_cases c3 : (x : Int) = (y : Int)
  · refine walk ?_
    refine next (i + 1) (by omega) hsub ⟨by omega, by exact hext, ?_⟩
    rw [List.take_add_one, List.take_add_one, eq, hx, hy, show x = y by omega]
  · rw [decide_eq_false (fun e : a = b => c3 (by rw [e, hy] at hx; cases hx; rfl))]
    refine walk ?_
    exact jg_ret1 (by exact hres) ⟨rfl, by exact hext⟩
end Go.Proofs.Ythdlebegkhnbiaa
