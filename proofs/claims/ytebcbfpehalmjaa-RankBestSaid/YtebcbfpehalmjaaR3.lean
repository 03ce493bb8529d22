/- What slices.SortFunc does to candidates, by the kit's contract: the table of R1 is sound. Conditions: those that each theorem states. -/
import Derived.Test.YtebcbfpehalmjaaR2
import Derived.Test.YtebcbfpehalmjaaEvSum
import Derived.Test.YtebcbfpehalmjaaLay
open Go Ev
namespace Go.Proofs.Ytebcbfpehalmjaa
set_option maxRecDepth 10000
set_option linter.unusedVariables false
set_option linter.unusedSimpArgs false
/-! ### the order of candidates once more, under tables without words of their own -/
noncomputable def TC : Ev.Tabs := TB.det
theorem G23_gives (a : Int) (h : Heap) : Gives TC 23 [.int .u64 a] h (fun v h' => v = .bool false ∧ h' = h) := by
  refine call_of rfl rfl rfl fun tm hs => ?_
  refine go_seq (go_region ?_)
  refine ops_val hs rfl rfl rfl rfl fun tm hs => ?_
  refine ops_nil (go_seq (go_region ?_))
  refine ops_val hs rfl rfl rfl rfl fun tm hs => ?_
  refine ops_val hs rfl rfl rfl rfl fun tm hs => ?_
  refine ops_val hs rfl rfl rfl rfl fun tm hs => ?_
  refine ops_val hs rfl rfl rfl rfl fun tm hs => ?_
  refine ops_nil (go_ret (ends_ret hs rfl ⟨?_, rfl⟩))
  simp [oneOf]
theorem G17_gives (a b : Int) (h : Heap) : Gives TC 17 [.int .u64 a, .int .u64 b] h (fun v h' => v = .int .i64 (cmp3 a b) ∧ h' = h) := by
  refine call_of rfl rfl rfl fun tm hs => ?_
  refine go_seq (go_region ?_)
  refine ops_val hs rfl rfl rfl rfl fun tm hs => ?_
  refine ops_nil (go_seq (go_region ?_))
  refine ops_val hs rfl rfl rfl rfl fun tm hs => ?_
  refine ops_call hs rfl rfl rfl rfl (G23_gives ..) ?_
  rintro _ _ ⟨rfl, rfl⟩ tm hs
  refine ops_val hs rfl rfl rfl rfl fun tm hs => ?_
  refine ops_nil (go_seq (go_region ?_))
  refine ops_val hs rfl rfl rfl rfl fun tm hs => ?_
  refine ops_call hs rfl rfl rfl rfl (G23_gives ..) ?_
  rintro _ _ ⟨rfl, rfl⟩ tm hs
  refine ops_val hs rfl rfl rfl rfl fun tm hs => ?_
  refine ops_nil (go_seq (go_seq (go_region ?_)))
  refine ops_val hs rfl rfl rfl rfl fun tm hs => ?_
  refine ops_nil (go_if hs rfl (fun hc => by cases hc) (fun _ => ?_))
  refine go_skip (go_seq (go_seq (go_region ?_)))
  refine ops_val hs rfl rfl rfl rfl fun tm hs => ?_
  refine ops_nil (go_if hs rfl (fun hc => by cases hc) (fun _ => ?_))
  refine go_skip (go_seq (go_seq (go_region ?_)))
  refine ops_val hs rfl rfl rfl rfl fun tm hs => ?_
  refine ops_val hs rfl rfl rfl rfl fun tm hs => ?_
  refine ops_val hs rfl rfl rfl rfl fun tm hs => ?_
  refine ops_nil (go_if hs rfl (fun hc => ?_) (fun hc => ?_))
  · have hc : a < b := by simpa using hc
    refine go_seq (go_region ?_)
    refine ops_val hs rfl rfl rfl rfl fun tm hs => ?_
    refine ops_nil (go_ret (ends_ret hs rfl ⟨?_, rfl⟩))
    simp [oneOf, cmp3, hc]
  · have hc : ¬ a < b := by simpa using hc
    refine go_skip (go_seq (go_seq (go_region ?_)))
    refine ops_val hs rfl rfl rfl rfl fun tm hs => ?_
    refine ops_val hs rfl rfl rfl rfl fun tm hs => ?_
    refine ops_val hs rfl rfl rfl rfl fun tm hs => ?_
    refine ops_nil (go_if hs rfl (fun hc2 => ?_) (fun hc2 => ?_))
    · have hc2 : b < a := by simpa using hc2
      refine go_seq (go_region ?_)
      refine ops_val hs rfl rfl rfl rfl fun tm hs => ?_
      refine ops_nil (go_ret (ends_ret hs rfl ⟨?_, rfl⟩))
      simp [oneOf, cmp3, hc, hc2]
    · have hc2 : ¬ b < a := by simpa using hc2
      refine go_skip (go_seq (go_region ?_))
      refine ops_val hs rfl rfl rfl rfl fun tm hs => ?_
      refine ops_nil (go_ret (ends_ret hs rfl ⟨?_, rfl⟩))
      simp [oneOf, cmp3, hc, hc2]
theorem G24_gives (a : Int) (h : Heap) : Gives TC 24 [.int .i64 a] h (fun v h' => v = .bool false ∧ h' = h) := by
  refine call_of rfl rfl rfl fun tm hs => ?_
  refine go_seq (go_region ?_)
  refine ops_val hs rfl rfl rfl rfl fun tm hs => ?_
  refine ops_nil (go_seq (go_region ?_))
  refine ops_val hs rfl rfl rfl rfl fun tm hs => ?_
  refine ops_val hs rfl rfl rfl rfl fun tm hs => ?_
  refine ops_val hs rfl rfl rfl rfl fun tm hs => ?_
  refine ops_val hs rfl rfl rfl rfl fun tm hs => ?_
  refine ops_nil (go_ret (ends_ret hs rfl ⟨?_, rfl⟩))
  simp [oneOf]
theorem G18_gives (a b : Int) (h : Heap) : Gives TC 18 [.int .i64 a, .int .i64 b] h (fun v h' => v = .int .i64 (cmp3 a b) ∧ h' = h) := by
  refine call_of rfl rfl rfl fun tm hs => ?_
  refine go_seq (go_region ?_)
  refine ops_val hs rfl rfl rfl rfl fun tm hs => ?_
  refine ops_nil (go_seq (go_region ?_))
  refine ops_val hs rfl rfl rfl rfl fun tm hs => ?_
  refine ops_call hs rfl rfl rfl rfl (G24_gives ..) ?_
  rintro _ _ ⟨rfl, rfl⟩ tm hs
  refine ops_val hs rfl rfl rfl rfl fun tm hs => ?_
  refine ops_nil (go_seq (go_region ?_))
  refine ops_val hs rfl rfl rfl rfl fun tm hs => ?_
  refine ops_call hs rfl rfl rfl rfl (G24_gives ..) ?_
  rintro _ _ ⟨rfl, rfl⟩ tm hs
  refine ops_val hs rfl rfl rfl rfl fun tm hs => ?_
  refine ops_nil (go_seq (go_seq (go_region ?_)))
  refine ops_val hs rfl rfl rfl rfl fun tm hs => ?_
  refine ops_nil (go_if hs rfl (fun hc => by cases hc) (fun _ => ?_))
  refine go_skip (go_seq (go_seq (go_region ?_)))
  refine ops_val hs rfl rfl rfl rfl fun tm hs => ?_
  refine ops_nil (go_if hs rfl (fun hc => by cases hc) (fun _ => ?_))
  refine go_skip (go_seq (go_seq (go_region ?_)))
  refine ops_val hs rfl rfl rfl rfl fun tm hs => ?_
  refine ops_val hs rfl rfl rfl rfl fun tm hs => ?_
  refine ops_val hs rfl rfl rfl rfl fun tm hs => ?_
  refine ops_nil (go_if hs rfl (fun hc => ?_) (fun hc => ?_))
  · have hc : a < b := by simpa using hc
    refine go_seq (go_region ?_)
    refine ops_val hs rfl rfl rfl rfl fun tm hs => ?_
    refine ops_nil (go_ret (ends_ret hs rfl ⟨?_, rfl⟩))
    simp [oneOf, cmp3, hc]
  · have hc : ¬ a < b := by simpa using hc
    refine go_skip (go_seq (go_seq (go_region ?_)))
    refine ops_val hs rfl rfl rfl rfl fun tm hs => ?_
    refine ops_val hs rfl rfl rfl rfl fun tm hs => ?_
    refine ops_val hs rfl rfl rfl rfl fun tm hs => ?_
    refine ops_nil (go_if hs rfl (fun hc2 => ?_) (fun hc2 => ?_))
    · have hc2 : b < a := by simpa using hc2
      refine go_seq (go_region ?_)
      refine ops_val hs rfl rfl rfl rfl fun tm hs => ?_
      refine ops_nil (go_ret (ends_ret hs rfl ⟨?_, rfl⟩))
      simp [oneOf, cmp3, hc, hc2]
    · have hc2 : ¬ b < a := by simpa using hc2
      refine go_skip (go_seq (go_region ?_))
      refine ops_val hs rfl rfl rfl rfl fun tm hs => ?_
      refine ops_nil (go_ret (ends_ret hs rfl ⟨?_, rfl⟩))
      simp [oneOf, cmp3, hc, hc2]
theorem G25_gives (a : Int) (h : Heap) : Gives TC 25 [.int .u32 a] h (fun v h' => v = .bool false ∧ h' = h) := by
  refine call_of rfl rfl rfl fun tm hs => ?_
  refine go_seq (go_region ?_)
  refine ops_val hs rfl rfl rfl rfl fun tm hs => ?_
  refine ops_nil (go_seq (go_region ?_))
  refine ops_val hs rfl rfl rfl rfl fun tm hs => ?_
  refine ops_val hs rfl rfl rfl rfl fun tm hs => ?_
  refine ops_val hs rfl rfl rfl rfl fun tm hs => ?_
  refine ops_val hs rfl rfl rfl rfl fun tm hs => ?_
  refine ops_nil (go_ret (ends_ret hs rfl ⟨?_, rfl⟩))
  simp [oneOf]
theorem G20_gives (a b : Int) (h : Heap) : Gives TC 20 [.int .u32 a, .int .u32 b] h (fun v h' => v = .int .i64 (cmp3 a b) ∧ h' = h) := by
  refine call_of rfl rfl rfl fun tm hs => ?_
  refine go_seq (go_region ?_)
  refine ops_val hs rfl rfl rfl rfl fun tm hs => ?_
  refine ops_nil (go_seq (go_region ?_))
  refine ops_val hs rfl rfl rfl rfl fun tm hs => ?_
  refine ops_call hs rfl rfl rfl rfl (G25_gives ..) ?_
  rintro _ _ ⟨rfl, rfl⟩ tm hs
  refine ops_val hs rfl rfl rfl rfl fun tm hs => ?_
  refine ops_nil (go_seq (go_region ?_))
  refine ops_val hs rfl rfl rfl rfl fun tm hs => ?_
  refine ops_call hs rfl rfl rfl rfl (G25_gives ..) ?_
  rintro _ _ ⟨rfl, rfl⟩ tm hs
  refine ops_val hs rfl rfl rfl rfl fun tm hs => ?_
  refine ops_nil (go_seq (go_seq (go_region ?_)))
  refine ops_val hs rfl rfl rfl rfl fun tm hs => ?_
  refine ops_nil (go_if hs rfl (fun hc => by cases hc) (fun _ => ?_))
  refine go_skip (go_seq (go_seq (go_region ?_)))
  refine ops_val hs rfl rfl rfl rfl fun tm hs => ?_
  refine ops_nil (go_if hs rfl (fun hc => by cases hc) (fun _ => ?_))
  refine go_skip (go_seq (go_seq (go_region ?_)))
  refine ops_val hs rfl rfl rfl rfl fun tm hs => ?_
  refine ops_val hs rfl rfl rfl rfl fun tm hs => ?_
  refine ops_val hs rfl rfl rfl rfl fun tm hs => ?_
  refine ops_nil (go_if hs rfl (fun hc => ?_) (fun hc => ?_))
  · have hc : a < b := by simpa using hc
    refine go_seq (go_region ?_)
    refine ops_val hs rfl rfl rfl rfl fun tm hs => ?_
    refine ops_nil (go_ret (ends_ret hs rfl ⟨?_, rfl⟩))
    simp [oneOf, cmp3, hc]
  · have hc : ¬ a < b := by simpa using hc
    refine go_skip (go_seq (go_seq (go_region ?_)))
    refine ops_val hs rfl rfl rfl rfl fun tm hs => ?_
    refine ops_val hs rfl rfl rfl rfl fun tm hs => ?_
    refine ops_val hs rfl rfl rfl rfl fun tm hs => ?_
    refine ops_nil (go_if hs rfl (fun hc2 => ?_) (fun hc2 => ?_))
    · have hc2 : b < a := by simpa using hc2
      refine go_seq (go_region ?_)
      refine ops_val hs rfl rfl rfl rfl fun tm hs => ?_
      refine ops_nil (go_ret (ends_ret hs rfl ⟨?_, rfl⟩))
      simp [oneOf, cmp3, hc, hc2]
    · have hc2 : ¬ b < a := by simpa using hc2
      refine go_skip (go_seq (go_region ?_))
      refine ops_val hs rfl rfl rfl rfl fun tm hs => ?_
      refine ops_nil (go_ret (ends_ret hs rfl ⟨?_, rfl⟩))
      simp [oneOf, cmp3, hc, hc2]

theorem G19_gives (c : Cnd) (h : Heap) : Gives TC 19 [cnd c] h (fun v h' => v = .int .i64 (toldN c) ∧ Ext h h') := by
  refine call_of rfl rfl rfl fun tm hs => ?_
  refine go_seq (go_region ?_)
  refine ops_val (h' := h.alloc (.cells 27 (cells c) true)) hs rfl rfl rfl rfl fun tm hs => ?_
  refine ops_val hs rfl rfl rfl rfl fun tm hs => ?_
  refine ops_nil (go_seq (go_seq (go_region ?_)))
  refine ops_val hs rfl rfl rfl rfl fun tm hs => ?_
  refine ops_val hs rfl rfl (o_load (off := 2) (v := .bool c.mt) rfl rfl rfl (get_new _ _) rfl) rfl fun tm hs => ?_
  refine ops_nil (go_if hs rfl (fun hc => ?_) (fun hc => ?_))
  · refine go_seq (go_region ?_)
    refine ops_val hs rfl rfl rfl rfl fun tm hs => ?_
    refine ops_nil (go_ret (ends_ret hs rfl ⟨?_, Ext.alloc _ _⟩))
    simp [oneOf, toldN, hc]
  · refine go_skip (go_seq (go_region ?_))
    refine ops_val hs rfl rfl rfl rfl fun tm hs => ?_
    refine ops_nil (go_ret (ends_ret hs rfl ⟨?_, Ext.alloc _ _⟩))
    simp [oneOf, toldN, hc]

/-- cmp.Or of three numbers -/
theorem G16_gives (a b c : Int) (n : Nat) (h : Heap) (hg : h.get n = some (.cells 3 [.int .i64 a, .int .i64 b, .int .i64 c] true)) : Gives TC 16 [.slice n 0 3 3] h (fun v h' => v = .int .i64 (or3 a b c) ∧ h' = h) := by
  have get : ∀ i, i < 3 → [AV.int .i64 a, .int .i64 b, .int .i64 c][0 + i * 1]? = some (.int .i64 (if i = 0 then a else if i = 1 then b else c)) := by
    intro i hi
    match i, hi with
    | 0, _ => rfl
    | 1, _ => rfl
    | 2, _ => rfl
  refine call_of rfl rfl rfl fun tm hs => ?_
  refine go_seq (go_region ?_)
  refine ops_val hs rfl rfl rfl rfl fun tm hs => ?_
  refine ops_nil (go_seq (go_region ?_))
  refine ops_val hs rfl rfl rfl rfl fun tm hs => ?_
  refine ops_nil (go_seq (go_seq (go_region ?_)))
  refine ops_val hs rfl rfl rfl rfl fun tm hs => ?_
  refine ops_val hs rfl rfl rfl rfl fun tm hs => ?_
  refine ops_val hs rfl rfl rfl rfl fun tm hs => ?_
  refine ops_nil (go_block ?_)
  refine go_loop (fun m st => ∃ (i : Nat) (tm : Tr AV), i + m = 3 ∧ st = ⟨tm, [], none, h⟩ ∧ (0 < i → a = 0) ∧ (1 < i → b = 0) ∧ (2 < i → c = 0) ∧ Sees tm [(3, .int .i64 0), (6, .slice n 0 3 3), (7, .int .i64 3), (8, .int .i64 i)]) (m := 3)
    ⟨0, _, by omega, rfl, by omega, by omega, by omega, hs.cons rfl (hs.cons rfl (hs.cons rfl (hs.cons rfl (Sees.nil _))))⟩ ?_
  rintro m _ ⟨i, tm, him, rfl, ha, hb, hc, hs⟩ next
  refine go_seq (go_region ?_)
  refine ops_val hs rfl rfl rfl rfl fun tm hs => ?_
  refine ops_nil (go_seq ?_)
  refine go_if hs rfl (fun hlt => ?_) (fun hge => ?_)
  · have hlt : i < 3 := by simp at hlt; omega
    refine go_skip (go_seq (go_block (go_seq (go_region ?_))))
    refine ops_val hs rfl rfl (o_addr_slice (sz := 1) rfl rfl rfl rfl i rfl hlt) rfl fun tm hs => ?_
    refine ops_val hs rfl rfl (o_load rfl rfl rfl hg (get i hlt)) rfl fun tm hs => ?_
    refine ops_val hs rfl rfl rfl rfl fun tm hs => ?_
    refine ops_nil (go_seq (go_region ?_))
    refine ops_val hs rfl rfl rfl rfl fun tm hs => ?_
    refine ops_val hs rfl rfl rfl rfl fun tm hs => ?_
    refine ops_val hs rfl rfl rfl rfl fun tm hs => ?_
    refine ops_nil (go_if hs rfl (fun hne => ?_) (fun heq => ?_))
    · have hne : (if i = 0 then a else if i = 1 then b else c) ≠ 0 := by simpa using hne
      refine go_seq (go_region ?_)
      refine ops_val hs rfl rfl rfl rfl fun tm hs => ?_
      refine ops_val hs rfl rfl rfl rfl fun tm hs => ?_
      refine ops_nil (go_ret (ends_ret hs rfl ⟨?_, rfl⟩))
      have : i = 0 ∨ i = 1 ∨ i = 2 := by omega
      rcases this with rfl | rfl | rfl
      · simp [oneOf, or3] at hne ⊢; simp [hne]
      · have := ha (by omega); subst this; simp [oneOf, or3] at hne ⊢; simp [hne]
      · have := ha (by omega); subst this; have := hb (by omega); subst this; simp [oneOf, or3]
    · have heq : (if i = 0 then a else if i = 1 then b else c) = 0 := by simpa using heq
      refine go_skip (go_blk (go_region ?_))
      refine ops_val hs rfl rfl (o_bin rfl rfl (b_add_i64 (z := ((i + 1 : Nat) : Int)) (by simp) (by omega) (by omega)) rfl) rfl fun tm hs => ?_
      refine ops_val hs rfl rfl rfl rfl fun tm hs => ?_
      have h3 : i = 0 ∨ i = 1 ∨ i = 2 := by omega
      refine ops_nil (next (m - 1) _ (by omega) ⟨i + 1, tm, by omega, rfl, ?_, ?_, ?_, hs.cons rfl (hs.cons rfl (hs.cons rfl (hs.cons rfl (Sees.nil _))))⟩)
      · intro _; rcases h3 with rfl | rfl | rfl
        · simpa using heq
        · exact ha (by omega)
        · exact ha (by omega)
      · intro h1; rcases h3 with rfl | rfl | rfl
        · omega
        · simpa using heq
        · exact hb (by omega)
      · intro h1; rcases h3 with rfl | rfl | rfl
        · omega
        · omega
        · simpa using heq
  · have hge : i = 3 := by simp at hge; omega
    subst hge
    refine go_exit rfl (go_seq (go_region ?_))
    refine ops_val hs rfl rfl rfl rfl fun tm hs => ?_
    refine ops_val hs rfl rfl rfl rfl fun tm hs => ?_
    refine ops_nil (go_ret (ends_ret hs rfl ⟨?_, rfl⟩))
    simp [oneOf, or3, ha (by omega), hb (by omega), hc (by omega)]

theorem G10_gives (a b : Cnd) (h : Heap) (hok : h.ok) : Gives TC 10 [cnd a, cnd b] h (fun v h' => v = .int .i64 (compareN a b) ∧ Ext h h') := by
  refine call_of rfl rfl rfl fun tm hs => ?_
  refine go_seq (go_region ?_)
  refine ops_val (h' := h.alloc (.cells 27 (cells a) true)) hs rfl rfl rfl rfl fun tm hs => ?_
  refine ops_val (h' := (h.alloc (.cells 27 (cells a) true)).alloc (.cells 27 (cells b) true)) hs rfl rfl rfl rfl fun tm hs => ?_
  refine ops_val hs rfl rfl rfl rfl fun tm hs => ?_
  refine ops_nil (go_seq ?_)
  have hok2 : ((h.alloc (.cells 27 (cells a) true)).alloc (.cells 27 (cells b) true)).ok := Heap.ok_alloc (Heap.ok_alloc hok _) _
  have nx : ((h.alloc (.cells 27 (cells a) true)).alloc (.cells 27 (cells b) true)).next = h.next + 2 := rfl
  have ga : ((h.alloc (.cells 27 (cells a) true)).alloc (.cells 27 (cells b) true)).get h.next = some (.cells 27 (cells a) true) := by
    rw [Heap.get_alloc, if_neg (by show ¬ h.next = h.next + 1; omega)]; exact get_new _ _
  have gb : ((h.alloc (.cells 27 (cells a) true)).alloc (.cells 27 (cells b) true)).get (h.next + 1) = some (.cells 27 (cells b) true) := get_new _ _
  have he0 : Ext h ((h.alloc (.cells 27 (cells a) true)).alloc (.cells 27 (cells b) true)) := (Ext.alloc _ _).trans (Ext.alloc _ _)
  generalize ((h.alloc (.cells 27 (cells a) true)).alloc (.cells 27 (cells b) true)) = h0 at hok2 nx ga gb he0 ⊢
  refine go_drawn rfl hok2 ?_
  have ga : Heap.get { h0 with next := h0.next + 18 } h.next = some (.cells 27 (cells a) true) := ga
  have gb : Heap.get { h0 with next := h0.next + 18 } (h.next + 1) = some (.cells 27 (cells b) true) := gb
  have heR : Ext h { h0 with next := h0.next + 18 } := ⟨by show h.next ≤ h0.next + 18; omega, fun b hb => he0.old b hb, fun _ b hb => hok2 b (by have : h0.next + 18 ≤ b := hb; omega)⟩
  have nxR : (Heap.mk h0.t (h0.next + 18)).next = h.next + 20 := by show h0.next + 18 = _; omega
  show DG TC _ _ _ h0.next _ _ 0 tm (Heap.mk h0.t (h0.next + 18)) [] _
  generalize (Heap.mk h0.t (h0.next + 18)) = hR at ga gb heR nxR ⊢
  refine dg_val hs rfl rfl rfl rfl rfl fun tmr tm hr0 hs => ?_
  refine dg_val hs rfl rfl rfl rfl (o_load (v := .int .u64 a.tx) rfl rfl rfl ga rfl) fun tmr tm hr1 hs => ?_
  refine dg_val hs rfl rfl rfl rfl rfl fun tmr tm hr2 hs => ?_
  refine dg_val hs rfl rfl rfl rfl (o_load (v := .int .u64 b.tx) rfl rfl rfl gb rfl) fun tmr tm hr3 hs => ?_
  refine dg_call rfl hs rfl rfl rfl rfl rfl (G17_gives ..) ?_
  rintro _ _ ⟨rfl, rfl⟩ tmr tm hr4 hs
  refine dg_val hs rfl rfl rfl rfl (o_loadN (n := 3) rfl rfl rfl ga (Nat.le_refl 3)) fun tmr tm hr5 hs => ?_
  refine dg_call rfl hs rfl rfl rfl rfl rfl (G19_gives a _) ?_
  rintro _ h1 ⟨rfl, he1⟩ tmr tm hr6 hs
  have ga1 : h1.get h.next = some (.cells 27 (cells a) true) := (he1.old _ (by omega)).trans ga
  have gb1 : h1.get (h.next + 1) = some (.cells 27 (cells b) true) := (he1.old _ (by omega)).trans gb
  refine dg_val hs rfl rfl rfl rfl (o_loadN (n := 3) rfl rfl rfl gb1 (Nat.le_refl 3)) fun tmr tm hr7 hs => ?_
  refine dg_call rfl hs rfl rfl rfl rfl rfl (G19_gives b _) ?_
  rintro _ h2 ⟨rfl, he2⟩ tmr tm hr8 hs
  have nx1 := he1.nx
  have ga2 : h2.get h.next = some (.cells 27 (cells a) true) := (he2.old _ (by omega)).trans ga1
  have gb2 : h2.get (h.next + 1) = some (.cells 27 (cells b) true) := (he2.old _ (by omega)).trans gb1
  refine dg_call rfl hs rfl rfl rfl rfl rfl (G18_gives ..) ?_
  rintro _ _ ⟨rfl, rfl⟩ tmr tm hr9 hs
  refine dg_val hs rfl rfl rfl rfl rfl fun tmr tm hr10 hs => ?_
  refine dg_val hs rfl rfl rfl rfl (o_load (v := .int .u32 a.page) rfl rfl rfl ga2 rfl) fun tmr tm hr11 hs => ?_
  refine dg_val hs rfl rfl rfl rfl rfl fun tmr tm hr12 hs => ?_
  refine dg_val hs rfl rfl rfl rfl (o_load (v := .int .u32 b.page) rfl rfl rfl gb2 rfl) fun tmr tm hr13 hs => ?_
  refine dg_call rfl hs rfl rfl rfl rfl rfl (G20_gives ..) ?_
  rintro _ _ ⟨rfl, rfl⟩ tmr tm hr14 hs
  refine dg_alloc hs rfl rfl rfl rfl rfl fun tmr tm hr15 hs => ?_
  refine dg_call rfl hs rfl rfl rfl rfl rfl (G16_gives _ _ _ _ _ (by rw [Heap.get_set, if_pos rfl]; rfl)) ?_
  rintro _ _ ⟨rfl, rfl⟩ tmr tm hr16 hs
  refine dg_val hs rfl rfl rfl rfl rfl fun tmr tm hr17 hs => ?_
  refine dg_nil (by repeat' (first | exact trivial | refine And.intro rfl ?_)) rfl ?_ ?_
  · repeat' (first | exact trivial | refine And.intro ?_ ?_)
    all_goals first
      | exact again_of hr0 rfl
      | exact again_of hr2 rfl
      | exact again_of hr10 rfl
      | exact again_of hr12 rfl
      | exact again_of hr1 (o_load rfl rfl rfl (by assumption) rfl)
      | exact again_of hr3 (o_load rfl rfl rfl (by assumption) rfl)
      | exact again_of hr11 (o_load rfl rfl rfl (by assumption) rfl)
      | exact again_of hr13 (o_load rfl rfl rfl (by assumption) rfl)
      | exact again_of hr5 (o_loadN (n := 3) rfl rfl rfl (by assumption) (Nat.le_refl 3))
      | exact again_of hr7 (o_loadN (n := 3) rfl rfl rfl (by assumption) (Nat.le_refl 3))
  refine go_ret (ends_ret hs rfl ⟨rfl, ?_⟩)
  exact ((heR.trans he1).trans he2).setL (by omega) (by have := he2.nx; omega) _

theorem G15_gives (a b : Cnd) (h : Heap) (hok : h.ok) : Gives TC 15 [cnd a, cnd b] h (fun v h' => v = .int .i64 (compareN b a) ∧ Ext h h') := by
  refine call_of rfl rfl rfl fun tm hs => ?_
  refine go_seq (go_region ?_)
  refine ops_val (h' := h.alloc (.cells 27 (cells a) true)) hs rfl rfl rfl rfl fun tm hs => ?_
  refine ops_val (h' := (h.alloc (.cells 27 (cells a) true)).alloc (.cells 27 (cells b) true)) hs rfl rfl rfl rfl fun tm hs => ?_
  refine ops_val hs rfl rfl rfl rfl fun tm hs => ?_
  refine ops_nil (go_seq (go_region ?_))
  have ga : ((h.alloc (.cells 27 (cells a) true)).alloc (.cells 27 (cells b) true)).get h.next = some (.cells 27 (cells a) true) := by
    rw [Heap.get_alloc, if_neg (by show ¬ h.next = h.next + 1; omega)]; exact get_new _ _
  have gb : ((h.alloc (.cells 27 (cells a) true)).alloc (.cells 27 (cells b) true)).get (h.next + 1) = some (.cells 27 (cells b) true) := get_new _ _
  have he0 : Ext h ((h.alloc (.cells 27 (cells a) true)).alloc (.cells 27 (cells b) true)) := (Ext.alloc _ _).trans (Ext.alloc _ _)
  generalize ((h.alloc (.cells 27 (cells a) true)).alloc (.cells 27 (cells b) true)) = h0 at ga gb he0 ⊢
  refine ops_val hs rfl rfl (o_loadN (n := 3) rfl rfl rfl gb (Nat.le_refl 3)) rfl fun tm hs => ?_
  refine ops_val hs rfl rfl (o_loadN (n := 3) rfl rfl rfl ga (Nat.le_refl 3)) rfl fun tm hs => ?_
  refine ops_call hs rfl rfl rfl rfl (G10_gives b a _ (he0.ok hok)) ?_
  rintro _ h1 ⟨rfl, he1⟩ tm hs
  refine ops_val hs rfl rfl rfl rfl fun tm hs => ?_
  exact ops_nil (go_ret (ends_ret hs rfl ⟨rfl, he0.trans he1⟩))


end Go.Proofs.Ytebcbfpehalmjaa
namespace Go.Proofs.Ytebcbfpehalmjaa
open Go.Shelf Go.RowKit Go.Lib Go.Sort Go.Proofs
instance : Inhabited Cnd := ⟨⟨0, 0, false⟩⟩
theorem decC_inv : ∀ {cs : List AV} {l : List Cnd}, decC cs = some l → cs = cndCells l
  | cs, l, h => by
    unfold decC at h
    split at h
    · cases h; rfl
    · rename_i p t m k
      cases e : decC k with
      | none => rw [e] at h; cases h
      | some q =>
        rw [e] at h
        cases h
        rw [decC_inv e]
        rfl
    · cases h
theorem cndCells_get {l : List Cnd} {i r : Nat} {c : Cnd} (h : l[i]? = some c) (hr : r < 3) : (cndCells l)[i * 3 + r]? = (cells c)[r]? := by
  rw [← cndCells_at l i c h, List.getElem?_take, if_pos hr, List.getElem?_drop]
theorem flat_at (E : En) (l : List Cnd) (j : Nat) (hj : j < l.length * 3) : ∃ a, (cndCells l)[j]? = some a ∧ VR E a ((flatK encC 3 l.toArray)[j]!) ∧ ∀ v', VR E a v' → v' = (flatK encC 3 l.toArray)[j]! := by
  have hi : j / 3 < l.length := by omega
  have hl : l[j / 3]? = some l[j / 3] := by simp [hi]
  have e0 : l.toArray[j / 3]! = l[j / 3] := by rw [getElem!_pos l.toArray _ (by simpa using hi)]; simp
  rw [get_flatK encC 3 l.toArray j (by simpa using hj), e0]
  have hm : j % 3 < 3 := by omega
  have e1 := cndCells_get hl hm
  rw [show j / 3 * 3 + j % 3 = j by omega] at e1
  rw [e1]
  generalize l[j / 3] = c
  have : j % 3 = 0 ∨ j % 3 = 1 ∨ j % 3 = 2 := by omega
  rcases this with h | h | h <;> rw [h]
  · exact ⟨_, rfl, .int .., fun v' hv => by cases hv; rfl⟩
  · exact ⟨_, rfl, .int .., fun v' hv => by cases hv; rfl⟩
  · exact ⟨_, rfl, .bool _, fun v' hv => by cases hv; rfl⟩
theorem below_grow {W w' : World} (hb : Below W.heap.size W w') (hd : W.drawn ≤ w'.drawn) : ∃ q os, w' = grow (W.drewN q) os := by
  refine ⟨w'.drawn - W.drawn, w'.heap.extract W.heap.size w'.heap.size, ?_⟩
  obtain ⟨h1, h2, h3, h4, h5⟩ := hb
  obtain ⟨hp, tp, dr, os, ou⟩ := w'
  obtain ⟨hp0, tp0, dr0, os0, ou0⟩ := W
  simp only at h1 h2 h3 h4 h5 hd
  subst h1 h2 h3
  simp only [grow, World.drewN, World.mk.injEq, true_and, and_true]
  refine ⟨?_, by omega⟩
  apply Array.ext_getElem?
  intro k
  rw [Array.getElem?_append]
  split
  · rename_i hk
    exact h5 k hk
  · rename_i hk
    rw [Array.getElem?_extract]
    by_cases hk2 : k < hp.size
    · rw [if_pos (by omega), show hp0.size + (k - hp0.size) = k by omega]
    · rw [if_neg (by omega), Array.getElem?_eq_none (by omega)]
/-- the comparison, in any world -/
theorem cmp15 (ok : TabsOK Try.prog TC) (x y : Cnd) (W : World) : Calls Try.prog 15 #[.agg (encC x).toArray, .agg (encC y).toArray] W fun e w' => e = .returned (.int .i64 (compareN y x)) ∧ ∃ q os', w' = grow (W.drewN q) os' := by
  intro cs
  obtain ⟨r, hs, hl⟩ := G15_gives x y ⟨.nil, 0⟩ (fun b _ => by exact Ev.Tr.get_nil b)
  obtain ⟨n, hn⟩ := hs.ev
  have K := ev_sound (base := W.heap.size) (w0 := W) ok (fun f a h v h' hh => by cases hh) n (.call 15 [cnd x, cnd y] ⟨.nil, 0⟩)
  rw [hn] at K
  obtain ⟨q, hq, hc⟩ := K En.none [.agg (encC x).toArray, .agg (encC y).toArray] W cs (.cons _ _ _ _ (.agg _ _ (vrs_enc _ x)) (.cons _ _ _ _ (.agg _ _ (vrs_enc _ y)) .nil)) (HR.start W)
  obtain ⟨v', h2, rfl, rfl, he⟩ := hl.get hq
  obtain ⟨E', w', v'', fr, p1, p2, p3, p4, p5, p6⟩ := hc
  cases p3
  exact ⟨_, w', fr, ⟨rfl, below_grow p1.wd p1.drawn⟩, p4, p5, p6⟩
theorem hr_grow {base : Nat} {w0 : World} {E : En} {h : Heap} {w : World} (H : HR base w0 E h w) (os : Array Obj) : HR base w0 E h (grow w os) ∧ Ste E h w E h (grow w os) := by
  have hs : (grow w os).heap.size = w.heap.size + os.size := by simp [grow]
  have hk : ∀ k, k < w.heap.size → (grow w os).heap[k]? = w.heap[k]? := fun k hk => by
    show (w.heap ++ os)[k]? = _
    rw [Array.getElem?_append, if_pos hk]
  refine ⟨⟨H.dlt, fun b o hd hg => OR'.same (hk _ (H.blt b hd)) (H.obj b o hd hg), H.inj, H.wd.trans ⟨rfl, rfl, rfl, by omega, fun k h => hk k (Nat.lt_of_lt_of_le h H.bsz)⟩, H.drawn, by have := H.bsz; omega, fun b hd => by have := H.blt b hd; omega⟩,
    ⟨.refl E, fun _ h => .inl h, Nat.le_refl _, fun _ _ _ => rfl, by omega, fun k h _ => hk k h, fun _ h => .inl h⟩⟩
theorem hr_ahead {base : Nat} {w0 : World} {E : En} {h : Heap} {w : World} (H : HR base w0 E h w) (m : Nat) : HR base w0 E h (Sort.ahead w m) ∧ Ste E h w E h (Sort.ahead w m) :=
  ⟨⟨H.dlt, fun b o hd hg => OR'.same rfl (H.obj b o hd hg), H.inj, H.wd.trans ⟨rfl, rfl, rfl, Nat.le_refl _, fun _ _ => rfl⟩, Nat.le_trans H.drawn (Nat.le_add_right _ _), H.bsz, H.blt⟩,
    ⟨.refl E, fun _ h => .inl h, Nat.le_refl _, fun _ _ _ => rfl, Nat.le_refl _, fun _ _ _ => rfl, fun _ h => .inl h⟩⟩
/-- a row laid anew -/
theorem hr_putRow {base : Nat} {w0 : World} {E : En} {h : Heap} {w : World} (H : HR base w0 E h w) {b off : Nat} {e : TypeId} {all : List AV} (hd : E.dom b) (hg : h.get b = some (.cells e all true)) (l : List Cnd) (hlen : off + l.length * 3 ≤ all.length) :
    HR base w0 E (h.set b (.cells e (over all off (cndCells l)) true)) (putRowK encC 3 w (E.blk b) (E.off b + off) l.toArray) ∧ Ste E h w E (h.set b (.cells e (over all off (cndCells l)) true)) (putRowK encC 3 w (E.blk b) (E.off b + off) l.toArray) := by
  obtain ⟨c', z, h1, h2, h3, h4, h5, h6⟩ := H.obj b _ hd hg
  have hb := h5 rfl
  have hoth : ∀ k, k ≠ E.blk b → (putRowK encC 3 w (E.blk b) (E.off b + off) l.toArray).heap[k]? = w.heap[k]? := fun k hk => by
    show (w.heap.modify (E.blk b) _)[k]? = _
    rw [Array.getElem?_modify, if_neg (fun h => hk h.symm)]
  have hsame : (putRowK encC 3 w (E.blk b) (E.off b + off) l.toArray).heap[E.blk b]? = some (.cells (putCells id (E.off b + off) (flatK encC 3 l.toArray) c') e z) := by
    show (w.heap.modify (E.blk b) _)[E.blk b]? = _
    rw [Array.getElem?_modify, if_pos rfl, h1]
    rfl
  have hsz : (putRowK encC 3 w (E.blk b) (E.off b + off) l.toArray).heap.size = w.heap.size := by
    show (w.heap.modify (E.blk b) _).size = _
    rw [Array.size_modify]
  have hcl : (cndCells l).length = l.length * 3 := cndCells_len l
  refine put_obj H hd hg rfl ⟨rfl, rfl, rfl, by rw [hsz]; exact Nat.le_refl _, fun k hk => hoth k (by omega)⟩ (Nat.le_refl _) hsz hoth ?_
  refine ⟨_, z, hsame, by simp [putCells, h2], by rw [over_length _ _ _ (by omega)]; exact h3, ?_, fun _ => ⟨hb.1, by simpa [putCells] using hb.2⟩, fun hh => by cases hh⟩
  intro i v hv
  rw [over_get _ _ _ (by omega)] at hv
  have hf : (flatK encC 3 l.toArray).size = l.length * 3 := by simp
  by_cases hi : off ≤ i ∧ i < off + (cndCells l).length
  · rw [if_pos hi] at hv
    obtain ⟨a, k1, k2, k3⟩ := flat_at E l (i - off) (by omega)
    rw [k1] at hv
    cases hv
    have hil : i < all.length := by omega
    obtain ⟨v0, q1, q2⟩ := h4 i _ (List.getElem?_eq_getElem hil)
    refine ⟨_, ?_, k2⟩
    unfold putCells
    rw [Array.getElem?_mapIdx, q1]
    simp only [Option.map_some, id]
    rw [if_pos (by rw [hf]; omega), show E.off b + i - (E.off b + off) = i - off by omega]
  · rw [if_neg hi] at hv
    obtain ⟨v0, q1, q2⟩ := h4 i v hv
    refine ⟨v0, ?_, q2⟩
    unfold putCells
    rw [Array.getElem?_mapIdx, q1]
    simp only [Option.map_some]
    rw [if_neg (by rw [hf]; omega)]
theorem swoC : SWO (ltOf fun x y : Cnd => compareN y x) := {
  irrefl := fun x => by simp [ltOf, compareN_self]
  trans := fun x y z h1 h2 => by
    simp only [ltOf, decide_eq_true_eq] at *
    have k1 := compareN_neg y x
    have k2 := compareN_neg z y
    have k3 := compareN_trans (a := z) (b := y) (c := x) (by omega) (by omega)
    by_cases e : compareN z x = 0
    · have e := compareN_zero e
      subst e
      omega
    · omega
  ntrans := fun x y z h1 h2 => by
    simp only [ltOf, decide_eq_false_iff_not] at *
    have k1 := compareN_neg y x
    have k2 := compareN_neg z y
    have k3 := compareN_neg z x
    have := compareN_trans (a := x) (b := y) (c := z) (by omega) (by omega)
    omega }
/-- what slices.SortFunc does, by the kit's contract -/
theorem sort_task (ok : TabsOK Try.prog TC) {base : Nat} {w0 : World} {b off n : Nat} {a0 : AV} {h h' : Heap} {v : AV} (ha : (∃ c, a0 = .slice b off n c) ∨ a0 = .oslice b off n 3) (hr : sortRow h b off n = some (v, h')) : TaskOK Try.prog base w0 (.call 14 [a0, .func (.func 15) [] []] h) (.ret v h') := by
  unfold sortRow at hr
  split at hr
  case h_2 => cases hr
  rename_i e all hg
  split at hr
  case h_2 => cases hr
  rename_i l hle hle2 hdec
  cases hr
  rw [Nat.ble_eq] at hle hle2
  have hcs := decC_inv hdec
  have hln : l.length = n := by
    have := congrArg List.length hcs
    rw [cndCells_len, List.length_take, List.length_drop] at this
    omega
  intro E args' w cs hv H
  obtain ⟨va, vb, cap, rfl, ⟨rfl, rfl⟩, hd⟩ : ∃ va vb cap, args' = [va, vb] ∧ (va = .slice (some (E.at b off)) n cap ∧ vb = .func (.func 15) #[] #[]) ∧ E.dom b := by
    cases hv with
    | cons _ _ _ _ p1 q =>
      cases q with
      | cons _ _ _ _ p2 q2 =>
        cases q2
        cases p2 with
        | func _ _ hf _ _ _ _ m1 m2 =>
          cases m1; cases m2
          cases hf
          rcases ha with ⟨c, rfl⟩ | rfl
          · cases p1
            exact ⟨_, _, _, rfl, ⟨rfl, rfl⟩, by assumption⟩
          · cases p1
            exact ⟨_, _, _, rfl, ⟨rfl, rfl⟩, by assumption⟩
  obtain ⟨c', z, q1, q2, q3, q4, q5, q6⟩ := H.obj b _ hd hg
  have hbase := q5 rfl
  have hblk : E.blk b < w.heap.size := H.blt b hd
  have hHold : HoldsK encC 3 w (E.blk b) (E.off b + off) l.toArray := by
    intro j hj
    have hj : j < l.length * 3 := by simpa using hj
    obtain ⟨a, k1, k2, k3⟩ := flat_at E l j hj
    have ha : all[off + j]? = some a := by
      rw [← hcs, List.getElem?_take, if_pos (by omega), List.getElem?_drop] at k1
      exact k1
    obtain ⟨v', m1, m2⟩ := q4 (off + j) a ha
    have hv' := k3 v' m2
    subst hv'
    have hlt := (Array.getElem?_eq_some_iff.1 m1).1
    constructor
    · unfold World.cell?
      simp only [q1]
      rw [Nat.add_assoc]
      simpa using m1
    · unfold World.frozen?
      simp only [q1]
      have := hbase.2
      simp
      omega
  have eg : ∀ args w, (callFunc 15 args).run Try.prog w = .ok (.enter 15 args) w := enters_of Try.func15 (by kernel_rfl) rfl
  have hcl : CmpLays Try.prog 15 #[] encC 3 (fun x y => compareN y x) (E.blk b) (E.off b + off) l.toArray.size w := fun m os dk _ x y => cmp15 ok x y _
  have C := AnyQ.slices_SortFunc_total Try.sort14 3 Try.isAgg27 Try.sizeOf27 encC (fun _ => rfl) (fun x v hv => by simp [encC] at hv; rcases hv with rfl | rfl | rfl <;> rfl) (fun x y => compareN y x) swoC 15 #[] (E.blk b) (E.off b + off) cap l.toArray w eg hcl hHold hblk (by simp only [List.size_toArray]; omega)
    (fun x y h1 h2 => by
      simp only [ltOf, decide_eq_false_iff_not] at h1 h2
      have := compareN_neg x y
      exact compareN_zero (by omega))
  change Calls Try.prog 14 _ _ _ at C
  have hsz : l.toArray.size = n := by simpa using hln
  rw [hsz] at C
  obtain ⟨e', w', fr, ⟨rfl, m, os, rfl⟩, s1, s2, s3⟩ := C cs
  have A1 := hr_ahead H m
  have hlen2 : off + (sortC l).length * 3 ≤ all.length := by rw [sortC_len]; omega
  have A2 := hr_putRow A1.1 hd hg (sortC l) hlen2
  have A3 := hr_grow A2.1 os
  exact ⟨_, rfl, E, _, _, fr, A3.1, (A1.2.trans A2.2).trans A3.2, .tuple [] [] .nil, s1, s2, s3⟩
/-- nothing to sort -/
theorem sort_none {base : Nat} {w0 : World} {a0 : AV} {h : Heap} (ha : a0 = .nilslice ∨ a0 = .eslice ∨ (∃ b off c, a0 = .slice b off 0 c) ∨ ∃ b off sz, a0 = .oslice b off 0 sz) : TaskOK Try.prog base w0 (.call 14 [a0, .func (.func 15) [] []] h) (.ret (.tuple []) h) := by
  intro E args' w cs hv H
  obtain ⟨p, cap, rfl⟩ : ∃ p cap, args' = [.slice p 0 cap, .func (.func 15) #[] #[]] := by
    cases hv with
    | cons _ _ _ _ p1 q =>
      cases q with
      | cons _ _ _ _ p2 q2 =>
        cases q2
        cases p2 with
        | func _ _ hf _ _ _ _ m1 m2 =>
          cases m1; cases m2
          cases hf
          rcases ha with rfl | rfl | ⟨_, _, _, rfl⟩ | ⟨_, _, _, rfl⟩ <;> (cases p1; exact ⟨_, _, rfl⟩)
  have C := AnyF.slices_SortFunc_none Try.sort14 p cap (.func (.func 15) #[] #[]) w
  change Calls Try.prog 14 _ _ _ at C
  obtain ⟨e', w', fr, ⟨rfl, rfl⟩, s1, s2, s3⟩ := C cs
  exact ⟨_, rfl, E, _, _, fr, H, Ste.refl _ _ _, .tuple [] [] .nil, s1, s2, s3⟩
theorem TD_ok : TabsOK Try.prog TD := TB_ok.det.withSm sortSm
theorem sortSm_ok {W : World} : ∀ f args h v h', TD.sm f args h = some (v, h') → TaskOK Try.prog W.heap.size W (.call f args h) (.ret v h') := by
  intro f args h v h' hs
  replace hs : sortSm f args h = some (v, h') := hs
  unfold sortSm at hs
  split at hs
  case h_2 => cases hs
  rename_i hf
  have hf := Nat.eq_of_beq_eq_true hf
  subst hf
  split at hs
  · cases hs; exact sort_none (.inl rfl)
  · cases hs; exact sort_none (.inr (.inl rfl))
  · cases hs; exact sort_none (.inr (.inr (.inl ⟨_, _, _, rfl⟩)))
  · cases hs; exact sort_none (.inr (.inr (.inr ⟨_, _, _, rfl⟩)))
  · exact sort_task TB_ok.det (.inl ⟨_, rfl⟩) hs
  · exact sort_task TB_ok.det (.inr rfl) hs
  · cases hs
end Go.Proofs.Ytebcbfpehalmjaa
