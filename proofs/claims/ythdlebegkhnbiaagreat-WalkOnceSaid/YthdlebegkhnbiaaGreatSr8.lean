/- What the functions of this part answer at any input, told by the rules over the evaluator. Conditions: those that each theorem states. -/
import Derived.Test.YthdlebegkhnbiaaGreatSr7
open Go Ev
namespace Go.Proofs.YthdlebegkhnbiaaGreat
set_option maxRecDepth 10000
set_option linter.unusedVariables false
set_option linter.unusedSimpArgs false
set_option maxHeartbeats 2000000
set_option linter.unusedVariables false
theorem pdq_all {n : Nat} (hn : 2 < n) : ∀ (M : Nat) {v : AV} {B a b lim : Nat} {d : Array Nat} {tl : List AV} {h : Heap}, b - a < M → Dat h v B d tl → h.ok → d.size < 50 → a ≤ b → b ≤ d.size → lim ≤ 1000 → Go.Sort.Below ltN a b d → Gives (TV n) 30 [v, .int .i64 a, .int .i64 b, .int .i64 lim] h (fun _ h' => ∃ d', Go.Sort.PermIn a b d d' ∧ Go.Sort.SortedIn ltN a b d' ∧ Dat h' v B d' tl ∧ Only B h h') := by
  intro M
  induction M with
  | zero => intros; omega
  | succ M ih =>
  intro v B a b lim d tl h hM D hk hs hab hb hl hB
  refine call_j (no_w rfl rfl) rfl rfl ?_
  refine walk ?_
  refine jg_loop (ι := Nat × Nat × Nat × Array Nat × Bool × Bool) (fun x => x.2.1 - x.1) (fun x => [(0, v), (1, .int .i64 (x.1 : Nat)), (2, .int .i64 (x.2.1 : Nat)), (3, .int .i64 (x.2.2.1 : Nat)), (8, .bool x.2.2.2.2.1), (9, .bool x.2.2.2.2.2)])
    (fun x g => a ≤ x.1 ∧ x.1 ≤ x.2.1 ∧ x.2.1 ≤ b ∧ x.2.2.1 ≤ 1000 ∧ x.2.2.2.1.size = d.size ∧ Go.Sort.Below ltN x.1 x.2.1 x.2.2.2.1 ∧ (∀ R, Go.Sort.PermIn x.1 x.2.1 x.2.2.2.1 R → Go.Sort.SortedIn ltN x.1 x.2.1 R → Go.Sort.PermIn a b d R ∧ Go.Sort.SortedIn ltN a b R) ∧ Dat g v B x.2.2.2.1 tl ∧ Only B h g) (a, b, lim, d, true, true) hsub ⟨Nat.le_refl _, hab, Nat.le_refl _, hl, rfl, hB, fun R p q => ⟨p, q⟩, D, .refl _ _⟩ ?_
  rintro ⟨a1', b1, lim1, d1, wb, wp⟩ g ⟨p1, p2, p3, p4, sz, B1, close, D1, O1⟩ next
  dsimp only at p1 p2 p3 p4 sz B1 close D1 next ⊢
  have k1 := O1.ok hk
  by_cases c1 : (b1 : Int) - (a1' : Int) ≤ 12
  · refine walk ?_
    refine jo_call (ins_g (n := n) (by omega) D1 k1 (by omega) p2 (by omega)) rfl rfl rfl rfl ?_
    rintro u g2 ⟨D2, O2⟩
    refine walk ?_
    have hI := Go.Sort.insertionSort_holds swo_ltN d1 a1' b1 p2 (by omega)
    obtain ⟨f1, f2⟩ := close _ hI.1 hI.2
    exact jg_fin fun tm hs => ends_ret hs rfl ⟨_, f1, f2, D2, O1.trans O2⟩
  by_cases c2 : (lim1 : Int) = 0
  · refine walk ?_
    refine jo_call (heap_g (n := n) (by omega) D1 k1 (by omega) (by omega) (by omega)) rfl rfl rfl rfl ?_
    rintro u g2 ⟨D2, O2⟩
    refine walk ?_
    have hI := Go.Sort.heapSort_holds (lt := ltN) swo_ltN d1 a1' b1 p2 (by omega)
    obtain ⟨f1, f2⟩ := close _ hI.1 hI.2
    exact jg_fin fun tm hs => ends_ret hs rfl ⟨_, f1, f2, D2, O1.trans O2⟩
  refine walk ?_
  -- the patterns are broken, or not
  refine gj_cut1 (ι := Nat × Array Nat) (fun x => [(0, v), (1, .int .i64 (a1' : Nat)), (2, .int .i64 (b1 : Nat)), (3, .int .i64 (x.1 : Nat)), (8, .bool wb), (9, .bool wp), (10, .int .i64 ((b1 : Int) - (a1' : Int)))]) (fun x g2 => x.1 ≤ 1000 ∧ Go.Sort.PermIn a1' b1 d1 x.2 ∧ Dat g2 v B x.2 tl ∧ Only B h g2) ?_ ?_
  · intro k' join
    cases wb with
    | true =>
      refine walk ?_
      exact join (lim1, d1) hsub ⟨p4, Go.Sort.permIn_refl _ _ _, D1, O1⟩
    | false =>
      refine walk ?_
      refine jo_call (break_g (n := n) (by omega) D1 k1 (by omega) (by omega) (by omega)) rfl rfl rfl rfl ?_
      rintro u g2 ⟨d2, pm, D2, O2⟩
      refine walk ?_
      rw [show ((lim1 : Int) - 1) = ((lim1 - 1 : Nat) : Int) by omega]
      exact join (lim1 - 1, d2) hsub ⟨by simp only; omega, pm, D2, O1.trans O2⟩
  rintro ⟨lim2, d2⟩ g2 ⟨q4, pm2, D2, O2⟩
  dsimp only at q4 pm2 D2 ⊢
  have k2 := O2.ok hk
  have s2 := pm2.1
  refine walk ?_
  refine jo_call (pivot_g (n := n) (by omega) D2 k2 (by omega) (by omega) (by omega)) rfl rfl rfl rfl ?_
  rintro _ g3 ⟨p, t, rfl, pa, pb, x3⟩
  have D3 := D2.ext x3
  have O3 : Only B h g3 := O2.trans ⟨x3.nx, fun c hc _ => x3.old c hc, x3.ok⟩
  have k3 := O3.ok hk
  refine walk ?_
  refine gj_cut1 (ι := Nat × Nat × Array Nat) (fun x => [(0, v), (1, .int .i64 (a1' : Nat)), (2, .int .i64 (b1 : Nat)), (3, .int .i64 (lim2 : Nat)), (8, .bool wb), (9, .bool wp), (10, .int .i64 ((b1 : Int) - (a1' : Int))), (11, .int .i64 (x.1 : Nat)), (12, .int .i64 (x.2.1 : Nat))]) (fun x g2 => a1' ≤ x.1 ∧ x.1 < b1 ∧ Go.Sort.PermIn a1' b1 d1 x.2.2 ∧ Dat g2 v B x.2.2 tl ∧ Only B h g2) ?_ ?_
  · intro k' join
    by_cases c3 : (t : Int) = 2
    · refine walk ?_
      refine jo_call (rev_g (n := n) D3 k3 (by omega) (by omega) (by omega)) rfl rfl rfl rfl ?_
      rintro u g4 ⟨D4, O4⟩
      refine walk ?_
      rw [show ((b1 : Int) - 1 - ((p : Int) - a1')) = ((b1 - 1 - (p - a1') : Nat) : Int) by omega]
      exact join (b1 - 1 - (p - a1'), 1, _) hsub ⟨by simp only; omega, by simp only; omega, Go.Sort.permIn_trans _ _ _ _ _ pm2 (Go.Sort.reverseRange_holds d2 a1' b1 (by omega) (by omega)), D4, O3.trans O4⟩
    · refine walk ?_
      exact join (p, t, d2) hsub ⟨pa, pb, pm2, D3, O3⟩
  clear D2 O2 k2 s2 pm2 D3 O3 k3 x3 pa pb p t d2 g3 g2
  rintro ⟨pv, t, d3⟩ g3 ⟨pa, pb, pm3, D3, O3⟩
  dsimp only at pa pb pm3 D3 ⊢
  have k3 := O3.ok hk
  have s3 := pm3.1
  have B3 := B1.perm (by omega) pm3
  refine walk ?_
  refine oj_cut1 (ι := Unit) (fun x => [(0, v), (1, .int .i64 (a1' : Nat)), (2, .int .i64 (b1 : Nat)), (3, .int .i64 (lim2 : Nat)), (8, .bool wb), (9, .bool wp), (10, .int .i64 ((b1 : Int) - (a1' : Int))), (11, .int .i64 (pv : Nat))]) (fun x g2 => Dat g2 v B d3 tl ∧ Only B h g2) ?_ ?_
  · intro k' join
    have part : ∀ (hw : wb = true) (hp : wp = true) (ht : (t : Int) = 1), True := fun _ _ _ => trivial
    cases wb with
    | false =>
      refine walk ?_
      exact join () hsub ⟨D3, O3⟩
    | true =>
      cases wp with
      | false =>
        refine walk ?_
        exact join () hsub ⟨D3, O3⟩
      | true =>
        by_cases c3 : (t : Int) = 1
        case neg =>
          refine walk ?_
          exact join () hsub ⟨D3, O3⟩
        refine walk ?_
        refine jo_call (partial_g (n := n) (by omega) D3 k3 (by omega) (a := a1') (b := b1) (by omega) (by omega)) rfl rfl rfl rfl ?_
        rintro _ g4 ⟨rfl, e1, D4, O4⟩
        have hI := Go.Sort.partialInsertionSort_holds (lt := ltN) swo_ltN d3 a1' b1 (by omega) (by omega) B3
        cases e2 : (Go.Sort.partialInsertionSort ltN d3 a1' b1).2 with
        | true =>
          have hS := hI.2 e2
          rw [e1] at hS
          obtain ⟨f1, f2⟩ := close _ pm3 hS
          refine walk ?_
          exact jg_fin fun tm hs => ends_ret hs rfl ⟨_, f1, f2, D4, O3.trans O4⟩
        | false =>
          refine walk ?_
          exact join () hsub ⟨D4, O3.trans O4⟩
  clear D3 O3 k3 g3
  rintro ⟨⟩ g3 ⟨D3, O3⟩
  have k3 := O3.ok hk
  have gD := D3.get
  have close3 : ∀ R, Go.Sort.PermIn a1' b1 d3 R → Go.Sort.SortedIn ltN a1' b1 R → Go.Sort.PermIn a b d R ∧ Go.Sort.SortedIn ltN a b R := fun R h1 h2 => close R (Go.Sort.permIn_trans _ _ _ _ _ pm3 h1) h2
  refine walk ?_
  refine gj_cut1 (ι := Bool) (fun x => [(0, v), (1, .int .i64 (a1' : Nat)), (2, .int .i64 (b1 : Nat)), (3, .int .i64 (lim2 : Nat)), (8, .bool wb), (9, .bool wp), (10, .int .i64 ((b1 : Int) - (a1' : Int))), (11, .int .i64 (pv : Nat)), (87, .bool x)]) (fun x g2 => (x = true → 0 < a1' ∧ ltN d3[a1' - 1]! d3[pv]! = false) ∧ Dat g2 v B d3 tl ∧ Only B h g2) ?_ ?_
  · intro k' join
    by_cases c5 : (0 : Int) < (a1' : Int)
    case neg =>
      refine jg_drawn (q := 15) (ms := [0, 1, 3, 7, 7, 23, 63, 127, 7, 7, 775, 1799, 4095, 8191, 16383]) (hl := [[], [], [], [77, 78, 81, 82, 83, 84], [76, 81, 82, 83, 84], [76, 81, 82, 83, 84], [81, 82, 83, 84], [81, 82, 83, 84], [76, 77, 78, 79, 80, 82], [76, 77, 78, 79, 80, 81], [76, 77, 78, 79, 80], [76, 77, 78, 79, 80], [], [], []]) k3 rfl (by kernel_rfl) (by kernel_rfl) rfl ?_
      refine walk ?_
      exact join false hsub ⟨fun e => (by cases e), D3.more, O3.trans (.more k3)⟩
    have a1 := @Dat.ix _ _ _ (a1' - 1) _ _ D3 (by omega)
    have a2 := @Dat.ix _ _ _ pv _ _ D3 (by omega)
    have he1 := D3.at (j := a1' - 1) (by omega)
    have he2 := D3.at (j := pv) (by omega)
    have w1 := less_w (n := n) (by omega) d3[a1' - 1]! d3[pv]!
    cases c4 : ltN d3[a1' - 1]! d3[pv]! with
    | true =>
      have c6 : d3[a1' - 1]! < d3[pv]! := by simpa [ltN] using c4
      rw [c4] at w1
      refine jg_drawn (q := 15) (ms := [0, 1, 3, 7, 7, 23, 63, 127, 7, 7, 775, 1799, 4095, 8191, 16383]) (hl := [[], [], [], [77, 78, 81, 82, 83, 84], [76, 81, 82, 83, 84], [76, 81, 82, 83, 84], [81, 82, 83, 84], [81, 82, 83, 84], [76, 77, 78, 79, 80, 82], [76, 77, 78, 79, 80, 81], [76, 77, 78, 79, 80], [76, 77, 78, 79, 80], [], [], []]) k3 rfl (by kernel_rfl) (by kernel_rfl) rfl ?_
      refine walk ?_
      exact join false hsub ⟨fun e => (by cases e), D3.more, O3.trans (.more k3)⟩
    | false =>
      have c6 : ¬ d3[a1' - 1]! < d3[pv]! := by simpa [ltN] using c4
      rw [c4] at w1
      refine jg_drawn (q := 15) (ms := [0, 1, 3, 7, 7, 23, 63, 127, 7, 7, 775, 1799, 4095, 8191, 16383]) (hl := [[], [], [], [77, 78, 81, 82, 83, 84], [76, 81, 82, 83, 84], [76, 81, 82, 83, 84], [81, 82, 83, 84], [81, 82, 83, 84], [76, 77, 78, 79, 80, 82], [76, 77, 78, 79, 80, 81], [76, 77, 78, 79, 80], [76, 77, 78, 79, 80], [], [], []]) k3 rfl (by kernel_rfl) (by kernel_rfl) rfl ?_
      refine walk ?_
      exact join true hsub ⟨fun e => ⟨by omega, c4⟩, D3.more, O3.trans (.more k3)⟩
  clear D3 O3 k3 gD g3
  rintro x g3 ⟨hx, D3, O3⟩
  have k3 := O3.ok hk
  cases x with
  | true =>
    obtain ⟨a0, nl⟩ := hx rfl
    refine walk ?_
    refine jo_call (partEq_g (n := n) (by omega) D3 k3 (by omega) pa pb (by omega)) rfl rfl rfl rfl ?_
    rintro _ g4 ⟨rfl, D4, O4⟩
    generalize hpe : Go.Sort.partitionEqual ltN d3 a1' b1 pv = pe at D4 ⊢
    obtain ⟨mid, d4⟩ := pe
    dsimp only at D4 ⊢
    obtain ⟨m1, m2, sz4, B4, cl4⟩ := Go.Sort.round_eq swo_ltN (Go.Sort.partitionEqual_holds ltN) a0 pa pb (by omega) B3 nl hpe
    refine walk ?_
    exact next (mid, b1, lim2, d4, wb, wp) (by simp only; omega) hsub ⟨by simp only; omega, m2, p3, q4, by simp only; omega, B4, fun R r1 r2 => (fun x => close3 R x.1 x.2) (cl4 R r1 r2), D4, O3.trans O4⟩
  | false =>
    refine walk ?_
    refine jo_call (part_g (n := n) (by omega) D3 k3 (by omega) pa pb (by omega)) rfl rfl rfl rfl ?_
    rintro _ g4 ⟨rfl, D4, O4⟩
    generalize hpt : Go.Sort.partition ltN d3 a1' b1 pv = pt at D4 ⊢
    obtain ⟨mid, ap, d4⟩ := pt
    dsimp only at D4 ⊢
    obtain ⟨m1, m2, sz4, BL, BR, clL, clR⟩ := Go.Sort.round_part swo_ltN (Go.Sort.partition_holds ltN) pa pb (by omega) B3 hpt
    have k4 := (O3.trans O4).ok hk
    by_cases c7 : (mid : Int) - (a1' : Int) < (b1 : Int) - (mid : Int)
    · refine walk ?_
      refine jo_call (ih (a := a1') (b := mid) (lim := lim2) (by omega) D4 k4 (by omega) m1 (by omega) q4 BL) rfl rfl rfl rfl ?_
      rintro u g5 ⟨d5, pm5, so5, D5, O5⟩
      obtain ⟨B5, cl5⟩ := clL d5 pm5 so5
      have s5 := pm5.1
      refine walk ?_
      exact next (mid + 1, b1, lim2, d5, _, ap) (by simp only; omega) hsub ⟨by simp only; omega, by simp only; omega, p3, q4, by simp only; omega, B5, fun R r1 r2 => (fun x => close3 R x.1 x.2) (cl5 R r1 r2), D5, (O3.trans O4).trans O5⟩
    · refine walk ?_
      rw [show ((mid : Int) + 1) = ((mid + 1 : Nat) : Int) by omega]
      refine jo_call (ih (a := mid + 1) (b := b1) (lim := lim2) (by omega) D4 k4 (by omega) (by omega) (by omega) q4 BR) rfl rfl rfl rfl ?_
      rintro u g5 ⟨d5, pm5, so5, D5, O5⟩
      obtain ⟨B5, cl5⟩ := clR d5 pm5 so5
      have s5 := pm5.1
      refine walk ?_
      exact next (a1', mid, lim2, d5, _, ap) (by simp only; omega) hsub ⟨by simp only; omega, by simp only; omega, by simp only; omega, q4, by simp only; omega, B5, fun R r1 r2 => (fun x => close3 R x.1 x.2) (cl5 R r1 r2), D5, (O3.trans O4).trans O5⟩
theorem sort_g {n : Nat} (hn : 2 < n) {v : AV} {B : Nat} {d : Array Nat} {tl : List AV} {h : Heap} (D : Dat h v B d tl) (hk : h.ok) (hs : d.size < 50) : Gives (TV n) 15 [v] h (fun v' h' => v' = .tuple [] ∧ ∃ d', Go.Sort.PermIn 0 d.size d d' ∧ Go.Sort.SortedIn ltN 0 d.size d' ∧ Dat h' v B d' tl ∧ Only B h h') := by
  refine call_j (no_w rfl rfl) rfl rfl ?_
  have hl : lenS v = some d.size := by rcases D.hd with ⟨cap, rfl⟩ | rfl <;> rfl
  have hns : v.isStr = false := by rcases D.hd with ⟨cap, rfl⟩ | rfl <;> rfl
  have w1 := len_w (n := n) (by omega) d.size hs
  have l6 : len8 d.size ≤ 6 := by unfold len8; (repeat' split) <;> omega
  refine walk ?_
  refine jo_call (pdq_all (n := n) hn (d.size + 1) (a := 0) (b := d.size) (lim := len8 d.size) (by omega) D hk hs (by omega) (by omega) (by omega) (.inl rfl)) rfl rfl rfl rfl ?_
  rintro u h2 ⟨d', pm, so, D2, O2⟩
  refine walk ?_
  exact jg_nil fun tm hs => ends_normal hs rfl ⟨rfl, d', pm, so, D2, O2⟩
end Go.Proofs.YthdlebegkhnbiaaGreat
