/- What the functions of this part answer at any input, told by the rules over the evaluator. Conditions: those that each theorem states. -/
import Derived.Test.YthdlebegkhnbiaaWfl
open Go Ev
namespace Go.Proofs.Ythdlebegkhnbiaa
set_option maxRecDepth 10000
set_option linter.unusedVariables false
set_option linter.unusedSimpArgs false
set_option maxHeartbeats 4000000
set_option linter.unusedVariables false
noncomputable instance (a b : Vis) : Decidable (a = b) := Classical.propDecidable _
theorem vis_eqv {q : Nat} (a b : Vis) : eqv (TV q) 100 30 (.agg a.cs) (.agg b.cs) = some (decide (a = b)) := by
  refine (eqv_agg rfl rfl (eqF_cons rfl rfl rfl (eqv_int rfl) (eqF_cons rfl rfl rfl (eqv_int rfl) (eqF_cons rfl rfl rfl (eqv_int rfl) (eqF_cons rfl rfl rfl (eqv_int rfl) (eqF_cons rfl rfl rfl (eqv_int rfl) (eqF_cons rfl rfl rfl (eqv_str rfl) (eqF_cons rfl rfl rfl (eqv_str rfl) (eqF_cons rfl rfl rfl (eqv_bool rfl) eqF_nil))))))))).trans ?_
  congr 1
  rw [decide_eq_decide]
  cases a; cases b
  simp only [Vis.mk.injEq]
  constructor
  · rintro ⟨a, b, c, d, e, f, g, h, _⟩
    exact ⟨by omega, by omega, c, d, e, f, g, h⟩
  · rintro ⟨a, b, c, d, e, f, g, h⟩
    exact ⟨by omega, by omega, c, d, e, f, g, h, trivial⟩
theorem lives_n {n : Nat} (h : Heap) : (TV n).sm 5 [] h = some (.bool true, h) := b_w rfl rfl
theorem from_g {n : Nat} (hn : 9 < n) {z : Int} {img : List UInt8} {root : Nat} {h : Heap} (hk : h.ok) (hi : img.length < 9223372036854775808) (hr : root < 4294967296) : Gives (TV n) 3 [.int .i64 z, .str img, .int .u32 root] h (fun v h' => v = .bool true ∧ Ext h h') := by
  refine call_j (no_w rfl rfl) rfl rfl ?_
  have w1 := lives_n (n := n)
  have w2 := light_w (n := n) (by omega) img hi
  by_cases c1 : img.length ≤ 5000
  case neg =>
    rw [decide_eq_false c1] at w2
    exact auto
  rw [decide_eq_true c1] at w2
  refine walk ?_
  refine jo_call (walk_g (n := n) hn (z := z) (img := img) (root := root) (h := h) hk c1 hr) rfl rfl rfl rfl ?_
  rintro w h1 ⟨acc, x1, ow, la, ψ⟩
  have ls := ow.ls
  have lw := ls.len
  have k1 := x1.ok hk
  have nw := ls.ns
  by_cases c2 : root = 0
  · have e0 : acc = [] := by
      rcases ψ with ⟨_, e⟩ | ⟨e, _⟩
      · exact e
      · exact absurd c2 e
    subst e0 c2
    refine walk ?_
    refine jg_loop1 ?_
    refine walk ?_
    exact jg_ret1 (by exact hres) ⟨by exact hval, by exact hext⟩
  have run : Run z img [] [root0 root] acc := by
    rcases ψ with ⟨e, _⟩ | ⟨_, e⟩
    · exact absurd e c2
    · exact e
  clear ψ
  refine walk ?_
  refine jg_loop (ι := Nat × Nat × List Nat × List Vis × (Nat → List Vis) × (Nat → Option AV) × Nat) (fun a => acc.length - a.1) (fun a => [(2, .int .u32 root), (7, w), (8, .map h1.next), (9, .int .i64 (a.2.1 : Nat)), (10, .int .i64 (a.1 : Nat))])
    (fun a h2 => FromI z img root acc a.1 a.2.1 a.2.2.1 a.2.2.2.1 a.2.2.2.2.1 ∧ Ext h1 h2 ∧ MapR k32 h2 h1.next a.2.2.2.2.2.1 a.2.2.2.2.2.2 ∧ ∀ q, LsV h2 ((a.2.2.2.2.2.1 q).getD .nilslice) (a.2.2.2.2.1 q) ∧ CapOK ((a.2.2.2.2.2.1 q).getD .nilslice)) (0, 0, [], [root0 root], fun _ => [], fun _ => none, 0) hsub ⟨.zero run, .alloc _ _, .new _, fun q => ⟨Ls.nil, trivial⟩⟩ ?_
  rintro ⟨i, c, met, left, sent, σ, m⟩ h2 ⟨fi, x2, mp, sl⟩ next
  dsimp only at fi mp sl next ⊢
  have le := fi.le
  have nx := x2.nx
  by_cases hil : i < acc.length
  case neg =>
    have fin := fi.fin hil
    have c3 : ¬ (acc.length : Int) = 0 := by omega
    refine walk ?_
    exact jg_ret1 (by exact hres) ⟨by exact hval, by exact hext⟩
  obtain ⟨s, rst, left', hs, rfl, q1, q2, q3, q4, q5, q6, q7, met', fi'⟩ := fi.step hil
  obtain ⟨b, p', e', all, rw', hb, hg, hpl, he, a1⟩ := (ls.ext x2).at Sn.csl hs
  have vcs : (all.drop (p' + 0)).take 8 = s.visit.cs := by
    have := congrArg (List.take 8) he
    rw [List.take_take] at this
    exact this
  refine walk ?_
  refine gj_cut1 (ι := (Nat → Option AV) × Nat) (fun _ => [(2, .int .u32 root), (7, w), (8, .map h1.next), (9, .int .i64 (c : Nat)), (10, .int .i64 (i : Nat))])
    (fun a g => Ext h1 g ∧ (∀ b, b < h2.next → b ≠ h1.next → g.get b = h2.get b) ∧ MapR k32 g h1.next a.1 a.2 ∧ ∀ q, LsV g ((a.1 q).getD .nilslice) (if 0 < i ∧ q = s.visit.from' then rst else sent q) ∧ CapOK ((a.1 q).getD .nilslice)) ?_ ?_
  · intro k' join
    by_cases c4 : (0 : Int) < (i : Int)
    case neg =>
      refine walk ?_
      refine join (σ, m) hsub ⟨x2, fun _ _ _ => rfl, mp, fun q => ?_⟩
      rw [if_neg (by omega)]
      exact sl q
    have e0 := q7 (by omega)
    obtain ⟨s0, ck0⟩ := sl s.visit.from'
    rw [e0] at s0
    refine walk ?_
    refine jo_val rfl rfl rfl (k_lookup k32_ok mp rfl rfl rfl rfl rfl rfl) ?_
    generalize (σ s.visit.from').getD .nilslice = u at s0 ck0
    obtain ⟨b3, p3, e3, all3, rw3, hb3, hg3, hpl3, he3, a2⟩ := s0.at Vis.csl (j := 0) rfl
    have lu : lenS u = some (rst.length + 1) := s0.len
    have nu := s0.ns
    have c5 : ¬ ((rst.length + 1 : Nat) : Int) = 0 := by omega
    have ok2 := x2.ok k1
    refine walk ?_
    refine jg_drawn (q := 14) (ms := [0, 1, 3, 7, 15, 31, 63, 15, 15, 399, 911, 1935, 4095, 8191]) (hl := [[], [], [], [], [46, 47, 48, 49, 50], [46, 47, 48, 49, 50], [46, 47, 48, 49, 50], [43, 44, 45, 47], [43, 44, 45, 46], [43, 44, 45], [43, 44, 45], [43, 44, 45], [], []]) (by exact hok) rfl (by kernel_rfl) (by kernel_rfl) rfl ?_
    refine walk ?_
    have vv : s.visit = s.visit := rfl
    refine jd_val rfl rfl rfl rfl (k_row rfl rfl rfl rfl hget vcs (by show p' + 0 + 8 ≤ _; omega)) ?_
    refine jd_val rfl rfl rfl rfl (k_bin rfl rfl rfl (bin_ne (vis_eqv _ _) rfl) rfl) ?_
    refine walk ?_
    have okx : Heap.ok { t := h2.t, next := h2.next + 14 } := by exact hok
    refine jg_drawn (q := 10) (ms := [0, 0, 0, 6, 14, 30, 62, 0, 128, 511]) (hl := [[54, 55, 56, 57, 58, 59, 60, 61], [53, 55, 60, 61], [53, 54, 60, 61], [53, 60, 61], [53, 60, 61], [53, 60, 61], [53, 60, 61], [53, 54, 55, 56, 57, 58, 59], [53, 54, 55, 56, 57, 58, 59], []]) okx rfl (by kernel_rfl) (by kernel_rfl) rfl ?_
    have x24 : Ext h2 { t := h2.t, next := h2.next + 14 + 10 } := Ext.mr (n := 24) rfl (Ext.refl _) ok2
    obtain ⟨u', eu, lu', cu'⟩ := Ls.tail (kd := .i64) (h := { t := h2.t, next := h2.next + 14 + 10 }) Vis.csl (by decide) (s0.ext x24) ck0
    obtain ⟨ob, eb, mb⟩ := update_map (T := TV n) (t := 27) (k := s.visit.from') (v := u') (h := { t := h2.t, next := h2.next + 14 + 10 }) k32_ok (mp.keep rfl (by show h2.next ≤ h2.next + 14 + 10; omega)) rfl rfl
    refine walk ?_
    refine jd_val rfl rfl rfl rfl (k_sl3 rfl rfl rfl rfl rfl rfl rfl eu) ?_
    refine jd_skip rfl rfl rfl (k_mapUpd eb rfl rfl rfl rfl) ?_
    refine walk ?_
    have hm24 : ∃ es c, Heap.get { t := h2.t, next := h2.next + 14 + 10 } h1.next = some (.map es c) := mp.is
    have nx24 : h2.next ≤ ({ t := h2.t, next := h2.next + 14 + 10 } : Heap).next := by show h2.next ≤ h2.next + 14 + 10; omega
    refine join (fun q => if q = s.visit.from' then some u' else σ q, _) hsub ⟨Ext.st (x2.trans x24) _ _ (Nat.le_refl _) (by show h1.next < h2.next + 14 + 10; have := mp.1; omega), fun b hb hn => Heap.gn _ _ _ _ hn, mb, fun q => ?_⟩
    by_cases cq : q = s.visit.from'
    · rw [if_pos ⟨by omega, cq⟩]
      simp only [if_pos cq, Option.getD_some]
      exact ⟨Sl.upm lu' hm24 (fun b hb hn => Heap.gn _ _ _ _ hn) (Nat.le_refl _), cu'⟩
    · rw [if_neg (fun k => cq k.2)]
      simp only [if_neg cq]
      exact ⟨Sl.upm (sl q).1 mp.is (fun b hb hn => Heap.gn _ _ _ _ hn) nx24, (sl q).2⟩
  rintro ⟨σ1, m1⟩ g ⟨xg, og, mg, sg⟩
  dsimp only at mg sg ⊢
  clear a1 he hpl hg hb rw' all e' p' b vcs
  obtain ⟨b, p', e', all, rw', hb, hg, hpl, he, a1⟩ := (ls.ext xg).at Sn.csl hs
  have kg := xg.ok k1
  have cb := fi'.bound
  refine walk ?_
  refine jo_call (visits_g (n := n) (s := s) (h := g) (by omega) kg (by omega) q3 (by omega) (by omega)) rfl rfl rfl rfl ?_
  rintro u g3 ⟨x3, o3⟩
  have lu : lenS u = some (visitsV s).length := o3.ls.len
  have nu := o3.ls.ns
  have n3 := x3.nx
  have hg3 : g3.get b = some (.cells e' all rw') := (x3.old _ hb).trans hg
  have l3 : ∀ q, LsV g3 ((σ1 q).getD .nilslice) (if 0 < i ∧ q = s.visit.from' then rst else sent q) := fun q => (sg q).1.ext x3
  have mg3 := mg.keep (x3.old _ mg.1) n3
  by_cases c6 : s.why = 0
  · obtain ⟨ob, eb, mb⟩ := update_map (T := TV n) (t := 27) (k := s.visit.page) (v := u) k32_ok mg3 rfl rfl
    refine walk ?_
    refine jo_skip rfl rfl (k_mapUpd eb rfl rfl rfl rfl) ?_
    refine walk ?_
    refine next (i + 1, c + (visitsV s).length, met', visitsV s ++ left', fun q => if s.why = 0 ∧ q = s.visit.page then visitsV s else if 0 < i ∧ q = s.visit.from' then rst else sent q, fun q => if q = s.visit.page then some u else σ1 q, _) (by simp only; omega) (by exact hsub) ⟨fi', Ext.st (xg.trans x3) _ _ (Nat.le_refl _) mg3.1, mb, fun q => ?_⟩
    simp only
    by_cases cq : q = s.visit.page
    · rw [if_pos cq, if_pos ⟨c6, cq⟩]
      exact ⟨Sl.upm o3.ls mg3.is (fun b hb hn => Heap.gn _ _ _ _ hn) (Nat.le_refl _), Own.capok o3⟩
    · rw [if_neg cq, if_neg (fun k => cq k.2)]
      exact ⟨Sl.upm (l3 q) mg3.is (fun b hb hn => Heap.gn _ _ _ _ hn) (Nat.le_refl _), (sg q).2⟩
  · have v0 := q6 c6
    rw [v0] at lu fi'
    have c7 : ¬ (0 : Int) < ((([] : List Vis).length : Nat) : Int) := by simp
    refine walk ?_
    refine next (i + 1, c + ([] : List Vis).length, met', [] ++ left', fun q => if s.why = 0 ∧ q = s.visit.page then [] else if 0 < i ∧ q = s.visit.from' then rst else sent q, σ1, m1) (by simp only; omega) (by exact hsub) ⟨fi', xg.trans x3, mg3, fun q => ?_⟩
    simp only
    rw [if_neg (fun k => c6 k.1)]
    exact ⟨l3 q, (sg q).2⟩
end Go.Proofs.Ythdlebegkhnbiaa
