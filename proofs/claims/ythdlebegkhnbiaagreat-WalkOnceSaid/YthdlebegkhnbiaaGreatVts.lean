/- What the functions of this part answer at any input, told by the rules over the evaluator. Conditions: those that each theorem states. -/
import Derived.Test.YthdlebegkhnbiaaGreatWlk
open Go Ev
namespace Go.Proofs.YthdlebegkhnbiaaGreat
set_option maxRecDepth 10000
set_option linter.unusedVariables false
set_option linter.unusedSimpArgs false
set_option maxHeartbeats 4000000
set_option linter.unusedVariables false
/-! ### walk.Visits -/
theorem stepC_len {s s' : List UInt8} {b : Bk} (h : stepC s = some (b, s')) : s'.length + 4 ≤ s.length := by
  unfold stepC at h
  split at h
  · rename_i c
    cases h
    have h1 := restV_len 1 s
    have h2 := restV_len (numV 1 s) (restV 1 s)
    have h3 := restV_len 4 (restV (numV 1 s) (restV 1 s))
    have h4 := restV_lt c
    omega
  · cases h
theorem parseC_len : ∀ (k : Nat) (s : List UInt8) (l : List Bk), parseC k s = some l → 4 * l.length ≤ s.length
  | 0, s, l, h => by cases h; simp
  | k + 1, s, l, h => by
    unfold parseC at h
    split at h
    · cases h
    · rename_i b s' e
      cases e2 : parseC k s' with
      | none => rw [e2] at h; cases h
      | some m =>
        rw [e2] at h
        cases h
        have ih := parseC_len k s' m e2
        have rl := stepC_len e
        rw [List.length_cons]
        omega
theorem ofC_len {p : Pg} {l : List Bk} (h : ofC p = some l) : 4 * l.length ≤ p.body.length := by
  unfold ofC at h
  split at h
  · cases h
  · rename_i l' e
    split at h
    · cases h; exact parseC_len _ _ _ e
    · cases h
def Bk.zero : Bk := ⟨[], 0, 0⟩
def vC (s : Sn) (l : List Bk) (i : Nat) : List Vis := match l[i]? with
  | some x => if x.root ≠ 0 then [⟨x.root, s.visit.page, i, 1, 3, [], [], false⟩] else []
  | none => []
theorem vC_le (s : Sn) (l : List Bk) (i : Nat) : (vC s l i).length ≤ 1 := by
  unfold vC
  split
  · split <;> simp
  · simp
theorem one_own {x : Vis} {lo b : Nat} {h : Heap} (hg : h.get b = some (.cells 29 x.cs true)) (hb : lo ≤ b) (hl : b < h.next) : OwnLV lo h (.slice b 0 1 1) [x] := by
  refine Own.sl hb hl (all := x.cs) hg (Nat.le_refl 1) rfl ?_
  simp
  rfl
noncomputable def visitsV (s : Sn) : List Vis := if s.why ≠ 0 then [] else if s.page.kind = 2 then (List.range ((ofC s.page).getD []).length).flatMap (vC s ((ofC s.page).getD [])) else if s.page.kind = 3 then ofBranchV s {s.visit with from' := s.visit.page} else if s.page.kind = 4 then ofLeafV s else if s.page.kind = 5 then (if s.page.link ≠ 0 then [chain s s.page.link] else []) else []
theorem visits_g {n : Nat} (hn : 6 < n) {s : Sn} {h : Heap} (hk : h.ok) (hl : s.page.body.length ≤ 100000) (hc : s.page.count < 1000000000) (d1 : -1000000 ≤ s.visit.depth) (d2 : s.visit.depth ≤ 1000000) : Gives (TV n) 28 [.agg s.cs] h (fun v h' => Ext h h' ∧ OwnLV h.next h' v (visitsV s)) := by
  refine call_j (no_w rfl rfl) rfl rfl ?_
  by_cases k0 : s.why = 0
  case neg =>
    have ev : visitsV s = [] := by unfold visitsV; rw [if_pos k0]
    rw [ev]
    refine walk ?_
    exact jg_ret1 (by exact hres) ⟨by exact hext, OwnL.nil⟩
  by_cases k2 : s.page.kind = 2
  case pos =>
    have ev : visitsV s = (List.range ((ofC s.page).getD []).length).flatMap (vC s ((ofC s.page).getD [])) := by unfold visitsV; rw [if_neg (fun c => c k0), if_pos k2]
    rw [ev]
    refine walk ?_
    refine jo_call (catOf_g (n := n) hn (p := s.page) (by exact hok) hl hc) rfl rfl rfl rfl ?_
    rintro v h3 ⟨x3, c3⟩
    have n3 : h.next + 1 ≤ h3.next := x3.nx
    have c4 : ∃ u e, v = .tuple [u, .int .i64 e] ∧ LsB h3 u ((ofC s.page).getD []) ∧ 4 * ((ofC s.page).getD []).length ≤ s.page.body.length := by
      cases e : ofC s.page with
      | none => rw [e] at c3; exact ⟨_, _, c3, Ls.nil, by simp⟩
      | some l => rw [e] at c3; obtain ⟨u, e', ls⟩ := c3; exact ⟨u, _, e', ls, ofC_len e⟩
    obtain ⟨u, e, rfl, ls, tm⟩ := c4
    clear c3 ev
    generalize (ofC s.page).getD [] = l at ls tm ⊢
    have hlen := ls.len
    have q0 : h3.get h.next = some (.cells 34 s.cs true) := (x3.old _ (by show h.next < h.next + 1; omega)).trans (get_new _ _)
    have x03 : Ext h h3 := (Ext.alloc h _).trans x3
    refine walk ?_
    refine jg_loop (ι := Nat × AV) (fun a => l.length - a.1) (fun a => [(1, .ptr h.next 0), (5, a.2), (23, u), (24, .int .i64 l.length), (25, .int .i64 (a.1 : Nat))]) (fun a h2 => a.1 ≤ l.length ∧ Ext h3 h2 ∧ OwnLV h3.next h2 a.2 ((List.range a.1).flatMap (vC s l))) (0, .nilslice) hsub ⟨by omega, .refl _, OwnL.nil⟩ ?_
    rintro ⟨i, w⟩ h2 ⟨hi, x2, ow⟩ next
    dsimp only at hi ow next ⊢
    have n2 := x2.nx
    have e1 : (List.range (i + 1)).flatMap (vC s l) = (List.range i).flatMap (vC s l) ++ vC s l i := flat_suc _ _
    have le := flat_le (vC s l) (vC_le s l) i
    have q02 : h2.get h.next = some (.cells 34 s.cs true) := (x2.old _ (by omega)).trans q0
    by_cases hil : i < l.length
    case neg =>
      obtain rfl : i = l.length := by omega
      refine walk ?_
      exact jg_ret1 (by exact hres) ⟨by exact hext, Own.lo ow (by omega)⟩
    obtain ⟨y, hy⟩ : ∃ y, l[i]? = some y := ⟨l[i], List.getElem?_eq_getElem hil⟩
    obtain ⟨b, p', e', all, rw', hb, hg, hpl, he, a1⟩ := (ls.ext x2).at Bk.len hy
    by_cases c1 : y.root = 0
    · have v1 : vC s l i = [] := by unfold vC; rw [hy]; exact if_neg (fun c => c c1)
      rw [v1, List.append_nil] at e1
      refine walk ?_
      refine next (i + 1, w) (by simp only; omega) (by exact hsub) ⟨by simp only; omega, by exact hext, ?_⟩
      simp only
      rw [e1]
      exact ow.ext (by exact hext)
    · have v1 : vC s l i = [⟨y.root, s.visit.page, i, 1, 3, [], [], false⟩] := by unfold vC; rw [hy]; exact if_pos c1
      rw [v1] at e1
      have x4 : Ext h2 (((h2.alloc (.cells 64 Bk.zero.cs true)).set h2.next (.cells 64 y.cs true)).alloc (.cells 29 (Vis.mk y.root s.visit.page i 1 3 [] [] false).cs true)) := by exact hext
      obtain ⟨v7, h7, e7, o7, k7⟩ := app_row (T := TV n) (st := 74) (rest := [74]) (h := ((h2.alloc (.cells 64 Bk.zero.cs true)).set h2.next (.cells 64 y.cs true)).alloc (.cells 29 (Vis.mk y.root s.visit.page i 1 3 [] [] false).cs true)) (x := Vis.mk y.root s.visit.page i 1 3 [] [] false) (c := h2.next + 1) (ow.ext x4) (get_new _ _) (by show h2.next + 1 < h2.next + 1 + 1; omega) (by show h3.next ≤ h2.next + 1 + 1; omega) (by omega) rfl rfl rfl rfl rfl (by exact Nat.le_of_ble_eq_true rfl) rfl (by decide) rfl
      refine walk ?_
      refine next (i + 1, v7) (by simp only; omega) (by exact hsub) ⟨by simp only; omega, by exact hext, ?_⟩
      simp only
      rw [e1]
      exact o7
  by_cases k3 : s.page.kind = 3
  case pos =>
    have ev : visitsV s = ofBranchV s {s.visit with from' := s.visit.page} := by unfold visitsV; rw [if_neg (fun c => c k0), if_neg k2, if_pos k3]
    rw [ev]
    refine walk ?_
    refine jo_call (ofBranch_g (n := n) (s := s) (f := {s.visit with from' := s.visit.page}) hn (by exact hok) hl hc d1 d2) rfl rfl rfl rfl ?_
    rintro v h3 ⟨x3, c3⟩
    refine walk ?_
    exact jg_ret1 (by exact hres) ⟨by exact hext, Own.lo c3 (by show h.next ≤ h.next + 1 + 1; omega)⟩
  by_cases k4 : s.page.kind = 4
  case pos =>
    have ev : visitsV s = ofLeafV s := by unfold visitsV; rw [if_neg (fun c => c k0), if_neg k2, if_neg k3, if_pos k4]
    rw [ev]
    refine walk ?_
    refine jo_call (ofLeaf_g (n := n) (s := s) (by omega) (by exact hok) hl hc) rfl rfl rfl rfl ?_
    rintro v h3 ⟨x3, c3⟩
    refine walk ?_
    exact jg_ret1 (by exact hres) ⟨by exact hext, Own.lo c3 (by show h.next ≤ h.next + 1; omega)⟩
  by_cases k5 : s.page.kind = 5
  case pos =>
    have ev : visitsV s = if s.page.link ≠ 0 then [chain s s.page.link] else [] := by unfold visitsV; rw [if_neg (fun c => c k0), if_neg k2, if_neg k3, if_neg k4, if_pos k5]
    rw [ev]
    have w1 := chained_w (n := n) (by omega) s s.page.link
    by_cases c : s.page.link = 0
    · rw [if_neg fun x => x c]
      refine walk ?_
      exact jg_ret1 (by exact hres) ⟨by exact hext, OwnL.nil⟩
    · rw [if_pos c]
      refine walk ?_
      refine jg_ret1 (by exact hres) ⟨by exact hext, ?_⟩
      exact one_own (x := chain s s.page.link) (by exact hget) (by show h.next ≤ h.next + 1; omega) (by show h.next + 1 < h.next + 1 + 1; omega)
  have ev : visitsV s = [] := by unfold visitsV; rw [if_neg (fun c => c k0), if_neg k2, if_neg k3, if_neg k4, if_neg k5]
  rw [ev]
  refine walk ?_
  exact jg_ret1 (by exact hres) ⟨by exact hext, OwnL.nil⟩
end Go.Proofs.YthdlebegkhnbiaaGreat
