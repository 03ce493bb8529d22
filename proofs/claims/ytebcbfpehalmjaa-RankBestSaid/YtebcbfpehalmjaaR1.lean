/- What the functions of rank answer at any candidates, told by the rules over the evaluator (EvWp). Conditions: those that each theorem states. -/
import Derived.Test.YtebcbfpehalmjaaEvLem
import Derived.Test.YtebcbfpehalmjaaEvWpD
import Derived.Test.YtebcbfpehalmjaaEvSl
import Derived.Test.YtebcbfpehalmjaaTab
open Go Ev
namespace Go.Proofs.Ytebcbfpehalmjaa
set_option maxRecDepth 10000
set_option linter.unusedVariables false
set_option linter.unusedSimpArgs false
/-- three ways -/
def cmp3 (a b : Int) : Int := if a < b then -1 else if a > b then 1 else 0
/-- a candidate -/
structure Cnd where
  page : Int
  tx : Int
  mt : Bool
def cnd (c : Cnd) : AV := .agg [.int .u32 c.page, .int .u64 c.tx, .bool c.mt]
def cells (c : Cnd) : List AV := [.int .u32 c.page, .int .u64 c.tx, .bool c.mt]
/-- the cells of candidates -/
def cndCells : List Cnd → List AV
  | [] => []
  | c :: l => cells c ++ cndCells l
def toldN (c : Cnd) : Int := if c.mt = true then 1 else 0
def or3 (a b c : Int) : Int := if a ≠ 0 then a else if b ≠ 0 then b else c
def compareN (a b : Cnd) : Int := or3 (cmp3 a.tx b.tx) (cmp3 (toldN a) (toldN b)) (cmp3 a.page b.page)
/-! ### what slices.SortFunc does to candidates, said as a table (its soundness: by the kit's AnyQ.slices_SortFunc_total, still to be shown) -/
def decC : List AV → Option (List Cnd)
  | [] => some []
  | .int .u32 p :: .int .u64 t :: .bool m :: l => (decC l).map (⟨p, t, m⟩ :: ·)
  | _ => none
theorem decC_of : ∀ l : List Cnd, decC (cndCells l) = some l
  | [] => rfl
  | c :: l => by
    have := decC_of l
    simp only [cndCells, cells, List.cons_append, List.nil_append, decC, this]
    rfl
/-- greatest first -/
def sortC (l : List Cnd) : List Cnd := l.mergeSort fun x y => !decide (compareN x y < 0)
def sortRow (h : Heap) (b off n : Nat) : Option (AV × Heap) := match h.get b with
  | some (.cells e all true) => match Nat.ble (off + n * 3) all.length, Nat.ble n 1000, decC ((all.drop off).take (n * 3)) with
    | true, true, some l => some (.tuple [], h.set b (.cells e (over all off (cndCells (sortC l))) true))
    | _, _, _ => none
  | _ => none
def sortSm (f : FuncId) (args : List AV) (h : Heap) : Option (AV × Heap) := match Nat.beq f 14 with
  | true => match args with
    | [.nilslice, .func (.func 15) [] []] => some (.tuple [], h)
    | [.eslice, .func (.func 15) [] []] => some (.tuple [], h)
    | [.slice _ _ 0 _, .func (.func 15) [] []] => some (.tuple [], h)
    | [.oslice _ _ 0 _, .func (.func 15) [] []] => some (.tuple [], h)
    | [.slice b off (n + 1) _, .func (.func 15) [] []] => sortRow h b off (n + 1)
    | [.oslice b off (n + 1) 3, .func (.func 15) [] []] => sortRow h b off (n + 1)
    | _ => none
  | false => none
noncomputable def TD : Ev.Tabs := { TB.det with sm := sortSm }
theorem F23_gives (a : Int) (h : Heap) : Gives TD 23 [.int .u64 a] h (fun v h' => v = .bool false ∧ h' = h) := by
  refine call_of rfl rfl rfl fun tm hs => ?_
  refine go_seq (go_region ?_)
  refine ops_val hs rfl rfl rfl rfl fun tm hs => ?_
  refine ops_nil (go_seq (go_region ?_))
  refine ops_val hs rfl rfl rfl rfl fun tm hs => ?_
  refine ops_val hs rfl rfl rfl rfl fun tm hs => ?_
  refine ops_val hs rfl rfl rfl rfl fun tm hs => ?_
  refine ops_val hs rfl rfl rfl rfl fun tm hs => ?_
  refine ops_nil (go_ret (ends_ret hs rfl ⟨?_, rfl⟩))
  simp [oneOf]
theorem F17_gives (a b : Int) (h : Heap) : Gives TD 17 [.int .u64 a, .int .u64 b] h (fun v h' => v = .int .i64 (cmp3 a b) ∧ h' = h) := by
  refine call_of rfl rfl rfl fun tm hs => ?_
  refine go_seq (go_region ?_)
  refine ops_val hs rfl rfl rfl rfl fun tm hs => ?_
  refine ops_nil (go_seq (go_region ?_))
  refine ops_val hs rfl rfl rfl rfl fun tm hs => ?_
  refine ops_call hs rfl rfl rfl rfl (F23_gives ..) ?_
  rintro _ _ ⟨rfl, rfl⟩ tm hs
  refine ops_val hs rfl rfl rfl rfl fun tm hs => ?_
  refine ops_nil (go_seq (go_region ?_))
  refine ops_val hs rfl rfl rfl rfl fun tm hs => ?_
  refine ops_call hs rfl rfl rfl rfl (F23_gives ..) ?_
  rintro _ _ ⟨rfl, rfl⟩ tm hs
  refine ops_val hs rfl rfl rfl rfl fun tm hs => ?_
  refine ops_nil (go_seq (go_seq (go_region ?_)))
  refine ops_val hs rfl rfl rfl rfl fun tm hs => ?_
  refine ops_nil (go_if hs rfl (fun hc => by cases hc) (fun _ => ?_))
  refine go_skip (go_seq (go_seq (go_region ?_)))
  refine ops_val hs rfl rfl rfl rfl fun tm hs => ?_
  refine ops_nil (go_if hs rfl (fun hc => by cases hc) (fun _ => ?_))
  refine go_skip (go_seq (go_seq (go_region ?_)))
  refine ops_val hs rfl rfl rfl rfl fun tm hs => ?_
  refine ops_val hs rfl rfl rfl rfl fun tm hs => ?_
  refine ops_val hs rfl rfl rfl rfl fun tm hs => ?_
  refine ops_nil (go_if hs rfl (fun hc => ?_) (fun hc => ?_))
  · have hc : a < b := by simpa using hc
    refine go_seq (go_region ?_)
    refine ops_val hs rfl rfl rfl rfl fun tm hs => ?_
    refine ops_nil (go_ret (ends_ret hs rfl ⟨?_, rfl⟩))
    simp [oneOf, cmp3, hc]
  · have hc : ¬ a < b := by simpa using hc
    refine go_skip (go_seq (go_seq (go_region ?_)))
    refine ops_val hs rfl rfl rfl rfl fun tm hs => ?_
    refine ops_val hs rfl rfl rfl rfl fun tm hs => ?_
    refine ops_val hs rfl rfl rfl rfl fun tm hs => ?_
    refine ops_nil (go_if hs rfl (fun hc2 => ?_) (fun hc2 => ?_))
    · have hc2 : b < a := by simpa using hc2
      refine go_seq (go_region ?_)
      refine ops_val hs rfl rfl rfl rfl fun tm hs => ?_
      refine ops_nil (go_ret (ends_ret hs rfl ⟨?_, rfl⟩))
      simp [oneOf, cmp3, hc, hc2]
    · have hc2 : ¬ b < a := by simpa using hc2
      refine go_skip (go_seq (go_region ?_))
      refine ops_val hs rfl rfl rfl rfl fun tm hs => ?_
      refine ops_nil (go_ret (ends_ret hs rfl ⟨?_, rfl⟩))
      simp [oneOf, cmp3, hc, hc2]
theorem F24_gives (a : Int) (h : Heap) : Gives TD 24 [.int .i64 a] h (fun v h' => v = .bool false ∧ h' = h) := by
  refine call_of rfl rfl rfl fun tm hs => ?_
  refine go_seq (go_region ?_)
  refine ops_val hs rfl rfl rfl rfl fun tm hs => ?_
  refine ops_nil (go_seq (go_region ?_))
  refine ops_val hs rfl rfl rfl rfl fun tm hs => ?_
  refine ops_val hs rfl rfl rfl rfl fun tm hs => ?_
  refine ops_val hs rfl rfl rfl rfl fun tm hs => ?_
  refine ops_val hs rfl rfl rfl rfl fun tm hs => ?_
  refine ops_nil (go_ret (ends_ret hs rfl ⟨?_, rfl⟩))
  simp [oneOf]
theorem F18_gives (a b : Int) (h : Heap) : Gives TD 18 [.int .i64 a, .int .i64 b] h (fun v h' => v = .int .i64 (cmp3 a b) ∧ h' = h) := by
  refine call_of rfl rfl rfl fun tm hs => ?_
  refine go_seq (go_region ?_)
  refine ops_val hs rfl rfl rfl rfl fun tm hs => ?_
  refine ops_nil (go_seq (go_region ?_))
  refine ops_val hs rfl rfl rfl rfl fun tm hs => ?_
  refine ops_call hs rfl rfl rfl rfl (F24_gives ..) ?_
  rintro _ _ ⟨rfl, rfl⟩ tm hs
  refine ops_val hs rfl rfl rfl rfl fun tm hs => ?_
  refine ops_nil (go_seq (go_region ?_))
  refine ops_val hs rfl rfl rfl rfl fun tm hs => ?_
  refine ops_call hs rfl rfl rfl rfl (F24_gives ..) ?_
  rintro _ _ ⟨rfl, rfl⟩ tm hs
  refine ops_val hs rfl rfl rfl rfl fun tm hs => ?_
  refine ops_nil (go_seq (go_seq (go_region ?_)))
  refine ops_val hs rfl rfl rfl rfl fun tm hs => ?_
  refine ops_nil (go_if hs rfl (fun hc => by cases hc) (fun _ => ?_))
  refine go_skip (go_seq (go_seq (go_region ?_)))
  refine ops_val hs rfl rfl rfl rfl fun tm hs => ?_
  refine ops_nil (go_if hs rfl (fun hc => by cases hc) (fun _ => ?_))
  refine go_skip (go_seq (go_seq (go_region ?_)))
  refine ops_val hs rfl rfl rfl rfl fun tm hs => ?_
  refine ops_val hs rfl rfl rfl rfl fun tm hs => ?_
  refine ops_val hs rfl rfl rfl rfl fun tm hs => ?_
  refine ops_nil (go_if hs rfl (fun hc => ?_) (fun hc => ?_))
  · have hc : a < b := by simpa using hc
    refine go_seq (go_region ?_)
    refine ops_val hs rfl rfl rfl rfl fun tm hs => ?_
    refine ops_nil (go_ret (ends_ret hs rfl ⟨?_, rfl⟩))
    simp [oneOf, cmp3, hc]
  · have hc : ¬ a < b := by simpa using hc
    refine go_skip (go_seq (go_seq (go_region ?_)))
    refine ops_val hs rfl rfl rfl rfl fun tm hs => ?_
    refine ops_val hs rfl rfl rfl rfl fun tm hs => ?_
    refine ops_val hs rfl rfl rfl rfl fun tm hs => ?_
    refine ops_nil (go_if hs rfl (fun hc2 => ?_) (fun hc2 => ?_))
    · have hc2 : b < a := by simpa using hc2
      refine go_seq (go_region ?_)
      refine ops_val hs rfl rfl rfl rfl fun tm hs => ?_
      refine ops_nil (go_ret (ends_ret hs rfl ⟨?_, rfl⟩))
      simp [oneOf, cmp3, hc, hc2]
    · have hc2 : ¬ b < a := by simpa using hc2
      refine go_skip (go_seq (go_region ?_))
      refine ops_val hs rfl rfl rfl rfl fun tm hs => ?_
      refine ops_nil (go_ret (ends_ret hs rfl ⟨?_, rfl⟩))
      simp [oneOf, cmp3, hc, hc2]
theorem F25_gives (a : Int) (h : Heap) : Gives TD 25 [.int .u32 a] h (fun v h' => v = .bool false ∧ h' = h) := by
  refine call_of rfl rfl rfl fun tm hs => ?_
  refine go_seq (go_region ?_)
  refine ops_val hs rfl rfl rfl rfl fun tm hs => ?_
  refine ops_nil (go_seq (go_region ?_))
  refine ops_val hs rfl rfl rfl rfl fun tm hs => ?_
  refine ops_val hs rfl rfl rfl rfl fun tm hs => ?_
  refine ops_val hs rfl rfl rfl rfl fun tm hs => ?_
  refine ops_val hs rfl rfl rfl rfl fun tm hs => ?_
  refine ops_nil (go_ret (ends_ret hs rfl ⟨?_, rfl⟩))
  simp [oneOf]
theorem F20_gives (a b : Int) (h : Heap) : Gives TD 20 [.int .u32 a, .int .u32 b] h (fun v h' => v = .int .i64 (cmp3 a b) ∧ h' = h) := by
  refine call_of rfl rfl rfl fun tm hs => ?_
  refine go_seq (go_region ?_)
  refine ops_val hs rfl rfl rfl rfl fun tm hs => ?_
  refine ops_nil (go_seq (go_region ?_))
  refine ops_val hs rfl rfl rfl rfl fun tm hs => ?_
  refine ops_call hs rfl rfl rfl rfl (F25_gives ..) ?_
  rintro _ _ ⟨rfl, rfl⟩ tm hs
  refine ops_val hs rfl rfl rfl rfl fun tm hs => ?_
  refine ops_nil (go_seq (go_region ?_))
  refine ops_val hs rfl rfl rfl rfl fun tm hs => ?_
  refine ops_call hs rfl rfl rfl rfl (F25_gives ..) ?_
  rintro _ _ ⟨rfl, rfl⟩ tm hs
  refine ops_val hs rfl rfl rfl rfl fun tm hs => ?_
  refine ops_nil (go_seq (go_seq (go_region ?_)))
  refine ops_val hs rfl rfl rfl rfl fun tm hs => ?_
  refine ops_nil (go_if hs rfl (fun hc => by cases hc) (fun _ => ?_))
  refine go_skip (go_seq (go_seq (go_region ?_)))
  refine ops_val hs rfl rfl rfl rfl fun tm hs => ?_
  refine ops_nil (go_if hs rfl (fun hc => by cases hc) (fun _ => ?_))
  refine go_skip (go_seq (go_seq (go_region ?_)))
  refine ops_val hs rfl rfl rfl rfl fun tm hs => ?_
  refine ops_val hs rfl rfl rfl rfl fun tm hs => ?_
  refine ops_val hs rfl rfl rfl rfl fun tm hs => ?_
  refine ops_nil (go_if hs rfl (fun hc => ?_) (fun hc => ?_))
  · have hc : a < b := by simpa using hc
    refine go_seq (go_region ?_)
    refine ops_val hs rfl rfl rfl rfl fun tm hs => ?_
    refine ops_nil (go_ret (ends_ret hs rfl ⟨?_, rfl⟩))
    simp [oneOf, cmp3, hc]
  · have hc : ¬ a < b := by simpa using hc
    refine go_skip (go_seq (go_seq (go_region ?_)))
    refine ops_val hs rfl rfl rfl rfl fun tm hs => ?_
    refine ops_val hs rfl rfl rfl rfl fun tm hs => ?_
    refine ops_val hs rfl rfl rfl rfl fun tm hs => ?_
    refine ops_nil (go_if hs rfl (fun hc2 => ?_) (fun hc2 => ?_))
    · have hc2 : b < a := by simpa using hc2
      refine go_seq (go_region ?_)
      refine ops_val hs rfl rfl rfl rfl fun tm hs => ?_
      refine ops_nil (go_ret (ends_ret hs rfl ⟨?_, rfl⟩))
      simp [oneOf, cmp3, hc, hc2]
    · have hc2 : ¬ b < a := by simpa using hc2
      refine go_skip (go_seq (go_region ?_))
      refine ops_val hs rfl rfl rfl rfl fun tm hs => ?_
      refine ops_nil (go_ret (ends_ret hs rfl ⟨?_, rfl⟩))
      simp [oneOf, cmp3, hc, hc2]

theorem F19_gives (c : Cnd) (h : Heap) : Gives TD 19 [cnd c] h (fun v h' => v = .int .i64 (toldN c) ∧ Ext h h') := by
  refine call_of rfl rfl rfl fun tm hs => ?_
  refine go_seq (go_region ?_)
  refine ops_val (h' := h.alloc (.cells 27 (cells c) true)) hs rfl rfl rfl rfl fun tm hs => ?_
  refine ops_val hs rfl rfl rfl rfl fun tm hs => ?_
  refine ops_nil (go_seq (go_seq (go_region ?_)))
  refine ops_val hs rfl rfl rfl rfl fun tm hs => ?_
  refine ops_val hs rfl rfl (o_load (off := 2) (v := .bool c.mt) rfl rfl rfl (get_new _ _) rfl) rfl fun tm hs => ?_
  refine ops_nil (go_if hs rfl (fun hc => ?_) (fun hc => ?_))
  · refine go_seq (go_region ?_)
    refine ops_val hs rfl rfl rfl rfl fun tm hs => ?_
    refine ops_nil (go_ret (ends_ret hs rfl ⟨?_, Ext.alloc _ _⟩))
    simp [oneOf, toldN, hc]
  · refine go_skip (go_seq (go_region ?_))
    refine ops_val hs rfl rfl rfl rfl fun tm hs => ?_
    refine ops_nil (go_ret (ends_ret hs rfl ⟨?_, Ext.alloc _ _⟩))
    simp [oneOf, toldN, hc]

/-- cmp.Or of three numbers -/
theorem F16_gives (a b c : Int) (n : Nat) (h : Heap) (hg : h.get n = some (.cells 3 [.int .i64 a, .int .i64 b, .int .i64 c] true)) : Gives TD 16 [.slice n 0 3 3] h (fun v h' => v = .int .i64 (or3 a b c) ∧ h' = h) := by
  have get : ∀ i, i < 3 → [AV.int .i64 a, .int .i64 b, .int .i64 c][0 + i * 1]? = some (.int .i64 (if i = 0 then a else if i = 1 then b else c)) := by
    intro i hi
    match i, hi with
    | 0, _ => rfl
    | 1, _ => rfl
    | 2, _ => rfl
  refine call_of rfl rfl rfl fun tm hs => ?_
  refine go_seq (go_region ?_)
  refine ops_val hs rfl rfl rfl rfl fun tm hs => ?_
  refine ops_nil (go_seq (go_region ?_))
  refine ops_val hs rfl rfl rfl rfl fun tm hs => ?_
  refine ops_nil (go_seq (go_seq (go_region ?_)))
  refine ops_val hs rfl rfl rfl rfl fun tm hs => ?_
  refine ops_val hs rfl rfl rfl rfl fun tm hs => ?_
  refine ops_val hs rfl rfl rfl rfl fun tm hs => ?_
  refine ops_nil (go_block ?_)
  refine go_loop (fun m st => ∃ (i : Nat) (tm : Tr AV), i + m = 3 ∧ st = ⟨tm, [], none, h⟩ ∧ (0 < i → a = 0) ∧ (1 < i → b = 0) ∧ (2 < i → c = 0) ∧ Sees tm [(3, .int .i64 0), (6, .slice n 0 3 3), (7, .int .i64 3), (8, .int .i64 i)]) (m := 3)
    ⟨0, _, by omega, rfl, by omega, by omega, by omega, hs.cons rfl (hs.cons rfl (hs.cons rfl (hs.cons rfl (Sees.nil _))))⟩ ?_
  rintro m _ ⟨i, tm, him, rfl, ha, hb, hc, hs⟩ next
  refine go_seq (go_region ?_)
  refine ops_val hs rfl rfl rfl rfl fun tm hs => ?_
  refine ops_nil (go_seq ?_)
  refine go_if hs rfl (fun hlt => ?_) (fun hge => ?_)
  · have hlt : i < 3 := by simp at hlt; omega
    refine go_skip (go_seq (go_block (go_seq (go_region ?_))))
    refine ops_val hs rfl rfl (o_addr_slice (sz := 1) rfl rfl rfl rfl i rfl hlt) rfl fun tm hs => ?_
    refine ops_val hs rfl rfl (o_load rfl rfl rfl hg (get i hlt)) rfl fun tm hs => ?_
    refine ops_val hs rfl rfl rfl rfl fun tm hs => ?_
    refine ops_nil (go_seq (go_region ?_))
    refine ops_val hs rfl rfl rfl rfl fun tm hs => ?_
    refine ops_val hs rfl rfl rfl rfl fun tm hs => ?_
    refine ops_val hs rfl rfl rfl rfl fun tm hs => ?_
    refine ops_nil (go_if hs rfl (fun hne => ?_) (fun heq => ?_))
    · have hne : (if i = 0 then a else if i = 1 then b else c) ≠ 0 := by simpa using hne
      refine go_seq (go_region ?_)
      refine ops_val hs rfl rfl rfl rfl fun tm hs => ?_
      refine ops_val hs rfl rfl rfl rfl fun tm hs => ?_
      refine ops_nil (go_ret (ends_ret hs rfl ⟨?_, rfl⟩))
      have : i = 0 ∨ i = 1 ∨ i = 2 := by omega
      rcases this with rfl | rfl | rfl
      · simp [oneOf, or3] at hne ⊢; simp [hne]
      · have := ha (by omega); subst this; simp [oneOf, or3] at hne ⊢; simp [hne]
      · have := ha (by omega); subst this; have := hb (by omega); subst this; simp [oneOf, or3]
    · have heq : (if i = 0 then a else if i = 1 then b else c) = 0 := by simpa using heq
      refine go_skip (go_blk (go_region ?_))
      refine ops_val hs rfl rfl (o_bin rfl rfl (b_add_i64 (z := ((i + 1 : Nat) : Int)) (by simp) (by omega) (by omega)) rfl) rfl fun tm hs => ?_
      refine ops_val hs rfl rfl rfl rfl fun tm hs => ?_
      have h3 : i = 0 ∨ i = 1 ∨ i = 2 := by omega
      refine ops_nil (next (m - 1) _ (by omega) ⟨i + 1, tm, by omega, rfl, ?_, ?_, ?_, hs.cons rfl (hs.cons rfl (hs.cons rfl (hs.cons rfl (Sees.nil _))))⟩)
      · intro _; rcases h3 with rfl | rfl | rfl
        · simpa using heq
        · exact ha (by omega)
        · exact ha (by omega)
      · intro h1; rcases h3 with rfl | rfl | rfl
        · omega
        · simpa using heq
        · exact hb (by omega)
      · intro h1; rcases h3 with rfl | rfl | rfl
        · omega
        · omega
        · simpa using heq
  · have hge : i = 3 := by simp at hge; omega
    subst hge
    refine go_exit rfl (go_seq (go_region ?_))
    refine ops_val hs rfl rfl rfl rfl fun tm hs => ?_
    refine ops_val hs rfl rfl rfl rfl fun tm hs => ?_
    refine ops_nil (go_ret (ends_ret hs rfl ⟨?_, rfl⟩))
    simp [oneOf, or3, ha (by omega), hb (by omega), hc (by omega)]

theorem F10_gives (a b : Cnd) (h : Heap) (hok : h.ok) : Gives TD 10 [cnd a, cnd b] h (fun v h' => v = .int .i64 (compareN a b) ∧ Ext h h') := by
  refine call_of rfl rfl rfl fun tm hs => ?_
  refine go_seq (go_region ?_)
  refine ops_val (h' := h.alloc (.cells 27 (cells a) true)) hs rfl rfl rfl rfl fun tm hs => ?_
  refine ops_val (h' := (h.alloc (.cells 27 (cells a) true)).alloc (.cells 27 (cells b) true)) hs rfl rfl rfl rfl fun tm hs => ?_
  refine ops_val hs rfl rfl rfl rfl fun tm hs => ?_
  refine ops_nil (go_seq ?_)
  have hok2 : ((h.alloc (.cells 27 (cells a) true)).alloc (.cells 27 (cells b) true)).ok := Heap.ok_alloc (Heap.ok_alloc hok _) _
  have nx : ((h.alloc (.cells 27 (cells a) true)).alloc (.cells 27 (cells b) true)).next = h.next + 2 := rfl
  have ga : ((h.alloc (.cells 27 (cells a) true)).alloc (.cells 27 (cells b) true)).get h.next = some (.cells 27 (cells a) true) := by
    rw [Heap.get_alloc, if_neg (by show ¬ h.next = h.next + 1; omega)]; exact get_new _ _
  have gb : ((h.alloc (.cells 27 (cells a) true)).alloc (.cells 27 (cells b) true)).get (h.next + 1) = some (.cells 27 (cells b) true) := get_new _ _
  have he0 : Ext h ((h.alloc (.cells 27 (cells a) true)).alloc (.cells 27 (cells b) true)) := (Ext.alloc _ _).trans (Ext.alloc _ _)
  generalize ((h.alloc (.cells 27 (cells a) true)).alloc (.cells 27 (cells b) true)) = h0 at hok2 nx ga gb he0 ⊢
  refine go_drawn rfl hok2 ?_
  have ga : Heap.get { h0 with next := h0.next + 18 } h.next = some (.cells 27 (cells a) true) := ga
  have gb : Heap.get { h0 with next := h0.next + 18 } (h.next + 1) = some (.cells 27 (cells b) true) := gb
  have heR : Ext h { h0 with next := h0.next + 18 } := ⟨by show h.next ≤ h0.next + 18; omega, fun b hb => he0.old b hb, fun _ b hb => hok2 b (by have : h0.next + 18 ≤ b := hb; omega)⟩
  have nxR : (Heap.mk h0.t (h0.next + 18)).next = h.next + 20 := by show h0.next + 18 = _; omega
  show DG TD _ _ _ h0.next _ _ 0 tm (Heap.mk h0.t (h0.next + 18)) [] _
  generalize (Heap.mk h0.t (h0.next + 18)) = hR at ga gb heR nxR ⊢
  refine dg_val hs rfl rfl rfl rfl rfl fun tmr tm hr0 hs => ?_
  refine dg_val hs rfl rfl rfl rfl (o_load (v := .int .u64 a.tx) rfl rfl rfl ga rfl) fun tmr tm hr1 hs => ?_
  refine dg_val hs rfl rfl rfl rfl rfl fun tmr tm hr2 hs => ?_
  refine dg_val hs rfl rfl rfl rfl (o_load (v := .int .u64 b.tx) rfl rfl rfl gb rfl) fun tmr tm hr3 hs => ?_
  refine dg_call rfl hs rfl rfl rfl rfl rfl (F17_gives ..) ?_
  rintro _ _ ⟨rfl, rfl⟩ tmr tm hr4 hs
  refine dg_val hs rfl rfl rfl rfl (o_loadN (n := 3) rfl rfl rfl ga (Nat.le_refl 3)) fun tmr tm hr5 hs => ?_
  refine dg_call rfl hs rfl rfl rfl rfl rfl (F19_gives a _) ?_
  rintro _ h1 ⟨rfl, he1⟩ tmr tm hr6 hs
  have ga1 : h1.get h.next = some (.cells 27 (cells a) true) := (he1.old _ (by omega)).trans ga
  have gb1 : h1.get (h.next + 1) = some (.cells 27 (cells b) true) := (he1.old _ (by omega)).trans gb
  refine dg_val hs rfl rfl rfl rfl (o_loadN (n := 3) rfl rfl rfl gb1 (Nat.le_refl 3)) fun tmr tm hr7 hs => ?_
  refine dg_call rfl hs rfl rfl rfl rfl rfl (F19_gives b _) ?_
  rintro _ h2 ⟨rfl, he2⟩ tmr tm hr8 hs
  have nx1 := he1.nx
  have ga2 : h2.get h.next = some (.cells 27 (cells a) true) := (he2.old _ (by omega)).trans ga1
  have gb2 : h2.get (h.next + 1) = some (.cells 27 (cells b) true) := (he2.old _ (by omega)).trans gb1
  refine dg_call rfl hs rfl rfl rfl rfl rfl (F18_gives ..) ?_
  rintro _ _ ⟨rfl, rfl⟩ tmr tm hr9 hs
  refine dg_val hs rfl rfl rfl rfl rfl fun tmr tm hr10 hs => ?_
  refine dg_val hs rfl rfl rfl rfl (o_load (v := .int .u32 a.page) rfl rfl rfl ga2 rfl) fun tmr tm hr11 hs => ?_
  refine dg_val hs rfl rfl rfl rfl rfl fun tmr tm hr12 hs => ?_
  refine dg_val hs rfl rfl rfl rfl (o_load (v := .int .u32 b.page) rfl rfl rfl gb2 rfl) fun tmr tm hr13 hs => ?_
  refine dg_call rfl hs rfl rfl rfl rfl rfl (F20_gives ..) ?_
  rintro _ _ ⟨rfl, rfl⟩ tmr tm hr14 hs
  refine dg_alloc hs rfl rfl rfl rfl rfl fun tmr tm hr15 hs => ?_
  refine dg_call rfl hs rfl rfl rfl rfl rfl (F16_gives _ _ _ _ _ (by rw [Heap.get_set, if_pos rfl]; rfl)) ?_
  rintro _ _ ⟨rfl, rfl⟩ tmr tm hr16 hs
  refine dg_val hs rfl rfl rfl rfl rfl fun tmr tm hr17 hs => ?_
  refine dg_nil (by repeat' (first | exact trivial | refine And.intro rfl ?_)) rfl ?_ ?_
  · repeat' (first | exact trivial | refine And.intro ?_ ?_)
    all_goals first
      | exact again_of hr0 rfl
      | exact again_of hr2 rfl
      | exact again_of hr10 rfl
      | exact again_of hr12 rfl
      | exact again_of hr1 (o_load rfl rfl rfl (by assumption) rfl)
      | exact again_of hr3 (o_load rfl rfl rfl (by assumption) rfl)
      | exact again_of hr11 (o_load rfl rfl rfl (by assumption) rfl)
      | exact again_of hr13 (o_load rfl rfl rfl (by assumption) rfl)
      | exact again_of hr5 (o_loadN (n := 3) rfl rfl rfl (by assumption) (Nat.le_refl 3))
      | exact again_of hr7 (o_loadN (n := 3) rfl rfl rfl (by assumption) (Nat.le_refl 3))
  refine go_ret (ends_ret hs rfl ⟨rfl, ?_⟩)
  exact ((heR.trans he1).trans he2).setL (by omega) (by have := he2.nx; omega) _

theorem F8_gives (a m : Int) (h : Heap) (ha : -9223372036854775808 ≤ a ∧ a < 9223372036854775808) (hm : 1 ≤ m ∧ m < 9223372036854775808) : Gives TD 8 [.int .i64 a, .int .i64 m] h (fun v h' => (∃ k : Nat, v = .int .i64 k ∧ (k : Int) < m) ∧ h' = h) := by
  have hr1 := Int.tmod_lt_of_pos a (show 0 < m by omega)
  have hr2 : -m < a.tmod m := by
    have := Int.lt_tmod_of_pos a (show 0 < m by omega)
    exact this
  refine call_of rfl rfl rfl fun tm hs => ?_
  refine go_seq (go_region ?_)
  refine ops_val hs rfl rfl rfl rfl fun tm hs => ?_
  refine ops_nil (go_seq (go_seq (go_region ?_)))
  refine ops_val hs rfl rfl rfl rfl fun tm hs => ?_
  refine ops_val hs rfl rfl rfl rfl fun tm hs => ?_
  refine ops_nil (go_if hs rfl (fun hc => ?_) (fun _ => ?_))
  · exfalso; simp at hc; omega
  refine go_skip (go_seq (go_region ?_))
  refine ops_val hs rfl rfl rfl rfl fun tm hs => ?_
  refine ops_val hs rfl rfl rfl rfl fun tm hs => ?_
  refine ops_val hs rfl rfl (o_bin (v := .int .i64 (a.tmod m)) rfl rfl (by simp [binA, intOp]; omega) rfl) rfl fun tm hs => ?_
  refine ops_val hs rfl rfl rfl rfl fun tm hs => ?_
  refine ops_nil (go_seq (go_seq (go_region ?_)))
  refine ops_val hs rfl rfl rfl rfl fun tm hs => ?_
  refine ops_val hs rfl rfl rfl rfl fun tm hs => ?_
  refine ops_nil (go_if hs rfl (fun hc => ?_) (fun hc => ?_))
  · have hc : a.tmod m < 0 := by simpa using hc
    refine go_region ?_
    refine ops_val hs rfl rfl rfl rfl fun tm hs => ?_
    refine ops_val hs rfl rfl rfl rfl fun tm hs => ?_
    refine ops_val hs rfl rfl (o_bin rfl rfl (b_add_i64 (z := a.tmod m + m) rfl (by omega) (by omega)) rfl) rfl fun tm hs => ?_
    refine ops_val hs rfl rfl rfl rfl fun tm hs => ?_
    refine ops_nil (go_seq (go_region ?_))
    refine ops_val hs rfl rfl rfl rfl fun tm hs => ?_
    refine ops_val hs rfl rfl rfl rfl fun tm hs => ?_
    refine ops_nil (go_ret (ends_ret hs rfl ⟨⟨(a.tmod m + m).toNat, ?_, by omega⟩, rfl⟩))
    show AV.int .i64 _ = _
    rw [Int.toNat_of_nonneg (by omega)]
  · have hc : ¬ a.tmod m < 0 := by simpa using hc
    refine go_skip (go_seq (go_region ?_))
    refine ops_val hs rfl rfl rfl rfl fun tm hs => ?_
    refine ops_val hs rfl rfl rfl rfl fun tm hs => ?_
    refine ops_nil (go_ret (ends_ret hs rfl ⟨⟨(a.tmod m).toNat, ?_, by omega⟩, rfl⟩))
    show AV.int .i64 _ = _
    rw [Int.toNat_of_nonneg (by omega)]
theorem F7_gives (v : AV) (n : Nat) (cs : List AV) (h : Heap) (hx : Sl h 3 v n cs) (hr : n ≤ 1000) : Gives TD 7 [v] h (fun v' h' => Sl h' 3 v' n cs ∧ Ext h h') := by
  obtain ⟨v', h', e1, e2, e3⟩ := append_fresh (T := TD) (st := 22) (elem := 27) (rest := [22]) (b := h.next) (h := h.alloc (.cells 27 [] true)) (ei := Try.t27) rfl rfl rfl rfl rfl (get_new _ _) (by show h.next < h.next + 1; omega) (hx.ext (Ext.alloc _ _)) (by
    unfold roomA
    rw [Nat.ble_eq]
    show (4 * n + 1000) * (24 + 1) ≤ _
    omega)
  refine call_of rfl rfl rfl fun tm hs => ?_
  refine go_seq (go_region ?_)
  refine ops_val hs rfl rfl rfl rfl fun tm hs => ?_
  refine ops_nil (go_seq (go_region ?_))
  refine ops_val hs rfl rfl rfl rfl fun tm hs => ?_
  refine ops_val hs rfl rfl rfl rfl fun tm hs => ?_
  refine ops_val hs rfl rfl ((o_append rfl rfl).trans e1) rfl fun tm hs => ?_
  refine ops_val hs rfl rfl rfl rfl fun tm hs => ?_
  exact ops_nil (go_ret (ends_ret hs rfl ⟨e2, (Ext.alloc _ _).trans e3⟩))

theorem cndCells_len : ∀ (l : List Cnd), (cndCells l).length = l.length * 3
  | [] => rfl
  | c :: l => by
    have := cndCells_len l
    simp only [cndCells, List.length_append, List.length_cons, this]
    show 3 + _ = _
    omega
theorem cndCells_at : ∀ (l : List Cnd) (i : Nat) (c : Cnd), l[i]? = some c → ((cndCells l).drop (i * 3)).take 3 = cells c
  | [], i, c, h => by simp at h
  | x :: l, 0, c, h => by
    simp at h
    subst h
    rfl
  | x :: l, i + 1, c, h => by
    have h := cndCells_at l i c (by simpa using h)
    have e : (i + 1) * 3 = (cells x).length + i * 3 := by show _ = 3 + _; omega
    simp only [cndCells]
    rw [e, List.drop_append, List.drop_eq_nil_of_le (Nat.le_add_right _ _), Nat.add_sub_cancel_left]
    exact h
/-- the first greatest -/
def maxGo : Cnd → List Cnd → Cnd
  | m, [] => m
  | m, c :: l => maxGo (if compareN c m > 0 then c else m) l
theorem maxGo_snoc : ∀ (l : List Cnd) (m c : Cnd), maxGo m (l ++ [c]) = if compareN c (maxGo m l) > 0 then c else maxGo m l
  | [], m, c => rfl
  | x :: l, m, c => maxGo_snoc l _ c
theorem F12_gives (c0 : Cnd) (l : List Cnd) (v : AV) (h : Heap) (hok : h.ok) (hx : Sl h 3 v (l.length + 1) (cndCells (c0 :: l))) (hl : l.length ≤ 1000) : Gives TD 12 [v, .func (.func 10) [] []] h (fun v' h' => v' = cnd (maxGo c0 l) ∧ Ext h h') := by
  have hlen := hx.len
  have hlenA : ∀ h', lenA TD 22 h' v = some (.int .i64 ((l.length + 1 : Nat) : Int)) := by
    intro h'
    have hu : TD.und 22 = some (.slice 27) := rfl
    cases v <;> simp only [Sl] at hx <;> (simp only [lenA, hu, hlen])
  refine call_of rfl rfl rfl fun tm hs => ?_
  refine go_seq (go_region ?_)
  refine ops_val (h' := h.alloc (.cells 27 (cells ⟨0, 0, false⟩) true)) hs rfl rfl rfl rfl fun tm hs => ?_
  refine ops_nil (go_seq (go_seq (go_region ?_)))
  refine ops_val hs rfl rfl rfl rfl fun tm hs => ?_
  refine ops_val hs rfl rfl ((show opA TD (envL _) _ _ = rv "len" _ (lenA TD 22 _ v) from rfl).trans (by rw [hlenA]; rfl)) rfl fun tm hs => ?_
  refine ops_val hs rfl rfl rfl rfl fun tm hs => ?_
  refine ops_nil (go_if hs rfl (fun hc => ?_) (fun _ => ?_))
  · exfalso; simp at hc; omega
  refine go_skip (go_seq (go_region ?_))
  have hg0 : (h.alloc (.cells 27 (cells ⟨0, 0, false⟩) true)).get h.next = some (.cells 27 (cells ⟨0, 0, false⟩) true) := get_new _ _
  have he0 : Ext h (h.alloc (.cells 27 (cells ⟨0, 0, false⟩) true)) := Ext.alloc _ _
  have nx0 : (h.alloc (.cells 27 (cells ⟨0, 0, false⟩) true)).next = h.next + 1 := rfl
  generalize (h.alloc (.cells 27 (cells ⟨0, 0, false⟩) true)) = h0 at hg0 he0 nx0 ⊢
  obtain ⟨b0, o0, r0, at0⟩ := (hx.ext he0).at 0 (by omega)
  rw [cndCells_at _ 0 c0 rfl] at r0
  refine ops_val hs rfl rfl rfl rfl fun tm hs => ?_
  refine ops_val hs rfl rfl (at0 rfl rfl rfl rfl rfl) rfl fun tm hs => ?_
  refine ops_val hs rfl rfl (r0.load rfl rfl rfl) rfl fun tm hs => ?_
  refine ops_val (h' := h0.alloc (.cells 27 (cells ⟨0, 0, false⟩) true)) hs rfl rfl rfl rfl fun tm hs => ?_
  refine ops_skip hs rfl rfl (o_storeN (n := 3) rfl rfl rfl rfl rfl (get_new _ _) (Nat.le_refl 3)) ?_
  refine ops_nil (go_seq (go_seq (go_region ?_)))
  refine ops_val hs rfl rfl rfl rfl fun tm hs => ?_
  refine ops_nil (go_block ?_)
  refine go_loop (fun m st => ∃ (i : Nat) (tm : Tr AV) (h1 : Heap), i + m = l.length ∧ st = ⟨tm, [], none, h1⟩ ∧ Ext h h1 ∧ h.next + 2 ≤ h1.next ∧ h1.get h.next = some (.cells 27 (cells ⟨0, 0, false⟩) true) ∧ h1.get (h.next + 1) = some (.cells 27 (cells (maxGo c0 (l.take i))) true) ∧
    Sees tm [(0, v), (1, .func (.func 10) [] []), (4, .ptr h.next 0), (5, .ptr (h.next + 1) 0), (6, .int .i64 ((i + 1 : Nat) : Int))]) (m := l.length)
    ⟨0, _, _, by omega, rfl, (he0.trans (Ext.alloc _ _)).setL (by omega) (by show h0.next < h0.next + 1; omega) _, by show h.next + 2 ≤ h0.next + 1; omega, ?_, ?_, hs.cons rfl (hs.cons rfl (hs.cons rfl (hs.cons (by rw [← nx0]; rfl) (hs.cons rfl (Sees.nil _)))))⟩ ?_
  · rw [Heap.get_set, if_neg (by omega), Heap.get_alloc, if_neg (by omega)]; exact hg0
  · rw [Heap.get_set, if_pos (by omega)]; rfl
  clear hs at0 r0
  rintro m _ ⟨i, tm, h1, him, rfl, he, nx1, hz, hg, hs⟩ next
  have hok1 := he.ok hok
  refine go_seq (go_seq (go_region ?_))
  refine ops_val hs rfl rfl rfl rfl fun tm hs => ?_
  refine ops_val hs rfl rfl rfl rfl fun tm hs => ?_
  refine ops_val hs rfl rfl ((show opA TD (envL _) _ _ = rv "len" _ (lenA TD 22 _ v) from rfl).trans (by rw [hlenA]; rfl)) rfl fun tm hs => ?_
  refine ops_val hs rfl rfl rfl rfl fun tm hs => ?_
  refine ops_nil (go_if hs rfl (fun hlt => ?_) (fun hge => ?_))
  · have hlt : i < l.length := by simp at hlt; omega
    have hci : l[i]? = some l[i] := by simp [hlt]
    refine go_skip (go_seq ?_)
    refine go_join (fun st => ∃ (tm : Tr AV) (h3 : Heap), st = ⟨tm, [], none, h3⟩ ∧ Ext h h3 ∧ h.next + 2 ≤ h3.next ∧ h3.get h.next = some (.cells 27 (cells ⟨0, 0, false⟩) true) ∧ h3.get (h.next + 1) = some (.cells 27 (cells (maxGo c0 (l.take (i + 1)))) true) ∧
      Sees tm [(0, v), (1, .func (.func 10) [] []), (4, .ptr h.next 0), (5, .ptr (h.next + 1) 0), (6, .int .i64 ((i + 1 : Nat) : Int))]) ?_ fun rest => ?_
    · rintro _ ⟨tm, h3, rfl, he3, nx3, hz3, hg3, hs⟩
      refine go_region ?_
      refine ops_val hs rfl rfl rfl rfl fun tm hs => ?_
      refine ops_val hs rfl rfl (o_bin rfl rfl (b_add_i64 (z := ((i + 1 + 1 : Nat) : Int)) (by simp) (by omega) (by omega)) rfl) rfl fun tm hs => ?_
      refine ops_val hs rfl rfl rfl rfl fun tm hs => ?_
      exact ops_nil (next (m - 1) _ (by omega) ⟨i + 1, tm, _, by omega, rfl, he3, nx3, hz3, hg3, hs.cons rfl (hs.cons rfl (hs.cons rfl (hs.cons rfl (hs.cons rfl (Sees.nil _)))))⟩)
    have etk : l.take (i + 1) = l.take i ++ [l[i]] := by rw [List.take_add_one, hci]; rfl
    rw [etk, maxGo_snoc] at rest
    generalize maxGo c0 (l.take i) = mx at hg rest
    refine go_block (go_seq ?_)
    refine go_drawn rfl hok1 ?_
    have hokR : Heap.ok { h1 with next := h1.next + 8 } := fun b hb => hok1 b (by have : h1.next + 8 ≤ b := hb; omega)
    have heR : Ext h { h1 with next := h1.next + 8 } := ⟨by show h.next ≤ h1.next + 8; omega, fun b hb => he.old b hb, fun _ => hokR⟩
    have hzR : Heap.get { h1 with next := h1.next + 8 } h.next = some (.cells 27 (cells ⟨0, 0, false⟩) true) := hz
    have hgR : Heap.get { h1 with next := h1.next + 8 } (h.next + 1) = some (.cells 27 (cells mx) true) := hg
    have nxR : h.next + 2 ≤ (Heap.mk h1.t (h1.next + 8)).next := by show h.next + 2 ≤ h1.next + 8; omega
    show DG TD _ _ _ h1.next _ _ 0 tm (Heap.mk h1.t (h1.next + 8)) [] _
    generalize (Heap.mk h1.t (h1.next + 8)) = hR at hokR heR hzR hgR nxR ⊢
    obtain ⟨bi, oi, ri, ati⟩ := (hx.ext heR).at (i + 1) (by omega)
    rw [cndCells_at (c0 :: l) (i + 1) l[i] (by simp [hlt])] at ri
    refine dg_val hs rfl rfl rfl rfl rfl fun tmr tm hr0 hs => ?_
    refine dg_val hs rfl rfl rfl rfl rfl fun tmr tm hr1 hs => ?_
    refine dg_val hs rfl rfl rfl rfl rfl fun tmr tm hr2 hs => ?_
    refine dg_val hs rfl rfl rfl rfl (ati rfl rfl rfl rfl rfl) fun tmr tm hr3 hs => ?_
    refine dg_val hs rfl rfl rfl rfl (ri.load rfl rfl rfl) fun tmr tm hr4 hs => ?_
    refine dg_val hs rfl rfl rfl rfl (o_loadN (n := 3) rfl rfl rfl hgR (Nat.le_refl 3)) fun tmr tm hr5 hs => ?_
    refine dg_call rfl hs rfl rfl rfl rfl rfl (F10_gives l[i] mx _ hokR) ?_
    rintro _ h2 ⟨rfl, he2⟩ tmr tm hr6 hs
    have ri2 := ri.ext he2
    have hg2 : h2.get (h.next + 1) = some (.cells 27 (cells mx) true) := (he2.old _ (by omega)).trans hgR
    have hz2 : h2.get h.next = some (.cells 27 (cells ⟨0, 0, false⟩) true) := (he2.old _ (by omega)).trans hzR
    have nx2 := he2.nx
    have heh2 := heR.trans he2
    refine dg_val hs rfl rfl rfl rfl rfl fun tmr tm hr7 hs => ?_
    refine dg_nil (by repeat' (first | exact trivial | refine And.intro rfl ?_)) rfl ?_ ?_
    · repeat' (first | exact trivial | refine And.intro ?_ ?_)
      all_goals first
        | exact again_of hr0 rfl
        | exact again_of hr1 rfl
        | exact again_of hr2 rfl
        | exact again_of hr3 (ati rfl rfl rfl rfl rfl)
        | exact again_of hr4 (ri2.load rfl rfl rfl)
        | exact again_of hr4 (ri.load rfl rfl rfl)
        | exact again_of hr5 (o_loadN (n := 3) rfl rfl rfl (by assumption) (Nat.le_refl 3))
        | exact again_of hr7 rfl
    refine go_if hs rfl (fun hgt => ?_) (fun hle => ?_)
    · have hgt : compareN l[i] mx > 0 := by simpa using hgt
      rw [if_pos hgt] at rest
      refine go_region ?_
      refine ops_val hs rfl rfl rfl rfl fun tm hs => ?_
      refine ops_val hs rfl rfl rfl rfl fun tm hs => ?_
      refine ops_val hs rfl rfl (ati rfl rfl rfl rfl rfl) rfl fun tm hs => ?_
      refine ops_val hs rfl rfl (ri2.load rfl rfl rfl) rfl fun tm hs => ?_
      refine ops_skip hs rfl rfl (o_storeN (n := 3) rfl rfl rfl rfl rfl hg2 (Nat.le_refl 3)) ?_
      refine ops_nil (go_blk (rest _ ⟨tm, _, rfl, heh2.setL (by omega) (by omega) _, by simpa using (by omega : h.next + 2 ≤ h2.next), ?_, ?_, hs.cons rfl (hs.cons rfl (hs.cons rfl (hs.cons rfl (hs.cons rfl (Sees.nil _)))))⟩))
      · rw [Heap.get_set, if_neg (by omega)]; exact hz2
      · rw [Heap.get_set, if_pos rfl]; rfl
    · have hle : ¬ compareN l[i] mx > 0 := by simpa using hle
      rw [if_neg hle] at rest
      exact go_skip (go_blk (rest _ ⟨tm, _, rfl, heh2, by omega, hz2, hg2, hs.cons rfl (hs.cons rfl (hs.cons rfl (hs.cons rfl (hs.cons rfl (Sees.nil _)))))⟩))
  · have hge : i = l.length := by simp at hge; omega
    subst hge
    rw [List.take_length] at hg
    refine go_exit rfl (go_seq (go_region ?_))
    refine ops_val hs rfl rfl (o_loadN (n := 3) rfl rfl rfl hg (Nat.le_refl 3)) rfl fun tm hs => ?_
    refine ops_skip hs rfl rfl (o_storeN (n := 3) rfl rfl rfl rfl rfl hz (Nat.le_refl 3)) ?_
    refine ops_nil (go_ret (ends_cell (v := cnd (maxGo c0 l)) hs rfl ?_ ⟨rfl, he.setL (Nat.le_refl _) (by omega) _⟩))
    exact loadVar_agg (n := 3) (cs := cells (maxGo c0 l)) rfl rfl (by rw [Heap.get_set, if_pos rfl]; rfl) (Nat.le_refl 3)

/-- the length of a slice of candidates -/
theorem lenA_cnd {v : AV} {n : Nat} {cs : List AV} {h : Heap} (hx : Sl h 3 v n cs) (h' : Heap) : lenA TD 22 h' v = some (.int .i64 (n : Int)) := by
  have hu : TD.und 22 = some (.slice 27) := rfl
  have hlen := hx.len
  cases v <;> simp only [Sl] at hx <;> (simp only [lenA, hu, hlen])
def bestGo : List Cnd → Cnd × Int
  | [] => (⟨0, 0, false⟩, 5)
  | c :: l => (maxGo c l, 0)
theorem F6_gives (l : List Cnd) (v : AV) (h : Heap) (hok : h.ok) (hx : Sl h 3 v l.length (cndCells l)) (hl : l.length ≤ 1000) : Gives TD 6 [v] h (fun v' h' => v' = .tuple [cnd (bestGo l).1, .int .i64 (bestGo l).2] ∧ Ext h h') := by
  refine call_of rfl rfl rfl fun tm hs => ?_
  refine go_seq (go_region ?_)
  refine ops_val (h' := h.alloc (.cells 27 (cells ⟨0, 0, false⟩) true)) hs rfl rfl rfl rfl fun tm hs => ?_
  refine ops_val hs rfl rfl rfl rfl fun tm hs => ?_
  refine ops_nil (go_seq (go_seq (go_region ?_)))
  refine ops_val hs rfl rfl rfl rfl fun tm hs => ?_
  refine ops_val hs rfl rfl ((show opA TD (envL _) _ _ = rv "len" _ (lenA TD 22 _ v) from rfl).trans (by rw [lenA_cnd hx]; rfl)) rfl fun tm hs => ?_
  refine ops_val hs rfl rfl rfl rfl fun tm hs => ?_
  have hg0 : (h.alloc (.cells 27 (cells ⟨0, 0, false⟩) true)).get h.next = some (.cells 27 (cells ⟨0, 0, false⟩) true) := get_new _ _
  have he0 : Ext h (h.alloc (.cells 27 (cells ⟨0, 0, false⟩) true)) := Ext.alloc _ _
  have nx0 : (h.alloc (.cells 27 (cells ⟨0, 0, false⟩) true)).next = h.next + 1 := rfl
  generalize (h.alloc (.cells 27 (cells ⟨0, 0, false⟩) true)) = h0 at hg0 he0 nx0 ⊢
  have fin : ∀ (h1 : Heap) (c : Cnd), h1.get h.next = some (.cells 27 (cells c) true) → loadVarA TD 27 h1 h.next 0 = some (cnd c) := fun h1 c hg => loadVar_agg (n := 3) (cs := cells c) rfl rfl hg (Nat.le_refl 3)
  refine ops_nil (go_if hs rfl (fun hc => ?_) (fun hc => ?_))
  · have hc : l = [] := by simpa using hc
    subst hc
    refine go_seq (go_region ?_)
    refine ops_val (v := cnd ⟨0, 0, false⟩) hs rfl rfl rfl rfl fun tm hs => ?_
    refine ops_skip hs rfl rfl (o_storeN (n := 3) rfl rfl rfl rfl rfl hg0 (Nat.le_refl 3)) ?_
    refine ops_val hs rfl rfl rfl rfl fun tm hs => ?_
    refine ops_nil (go_ret (ends_ret (vs := [cnd ⟨0, 0, false⟩, .int .i64 5]) hs ?_ ⟨rfl, he0.setL (by omega) (by omega) _⟩))
    show (match loadVarA TD 27 _ h.next 0, some [AV.int .i64 5] with | some v, some r => some (v :: r) | _, _ => none) = _
    rw [fin _ ⟨0, 0, false⟩ (by rw [Heap.get_set, if_pos rfl]; rfl)]
  · have hc : l ≠ [] := by intro e; subst e; simp at hc
    obtain ⟨c, l, rfl⟩ := List.exists_cons_of_ne_nil hc
    refine go_skip (go_seq (go_region ?_))
    refine ops_val hs rfl rfl rfl rfl fun tm hs => ?_
    refine ops_call hs rfl rfl rfl rfl (F12_gives c l v _ (he0.ok hok) (hx.ext he0) (by simp at hl; omega)) ?_
    rintro _ h1 ⟨rfl, he1⟩ tm hs
    have hg1 : h1.get h.next = some (.cells 27 (cells ⟨0, 0, false⟩) true) := (he1.old _ (by omega)).trans hg0
    have nx1 := he1.nx
    refine ops_skip hs rfl rfl (o_storeN (n := 3) rfl rfl rfl rfl rfl hg1 (Nat.le_refl 3)) ?_
    refine ops_val hs rfl rfl rfl rfl fun tm hs => ?_
    refine ops_nil (go_ret (ends_ret (vs := [cnd (maxGo c l), .int .i64 0]) hs ?_ ⟨rfl, (he0.trans he1).setL (by omega) (by omega) _⟩))
    show (match loadVarA TD 27 _ h.next 0, some [AV.int .i64 0] with | some v, some r => some (v :: r) | _, _ => none) = _
    rw [fin _ (maxGo c l) (by rw [Heap.get_set, if_pos rfl]; rfl)]
theorem F15_gives (a b : Cnd) (h : Heap) (hok : h.ok) : Gives TD 15 [cnd a, cnd b] h (fun v h' => v = .int .i64 (compareN b a) ∧ Ext h h') := by
  refine call_of rfl rfl rfl fun tm hs => ?_
  refine go_seq (go_region ?_)
  refine ops_val (h' := h.alloc (.cells 27 (cells a) true)) hs rfl rfl rfl rfl fun tm hs => ?_
  refine ops_val (h' := (h.alloc (.cells 27 (cells a) true)).alloc (.cells 27 (cells b) true)) hs rfl rfl rfl rfl fun tm hs => ?_
  refine ops_val hs rfl rfl rfl rfl fun tm hs => ?_
  refine ops_nil (go_seq (go_region ?_))
  have ga : ((h.alloc (.cells 27 (cells a) true)).alloc (.cells 27 (cells b) true)).get h.next = some (.cells 27 (cells a) true) := by
    rw [Heap.get_alloc, if_neg (by show ¬ h.next = h.next + 1; omega)]; exact get_new _ _
  have gb : ((h.alloc (.cells 27 (cells a) true)).alloc (.cells 27 (cells b) true)).get (h.next + 1) = some (.cells 27 (cells b) true) := get_new _ _
  have he0 : Ext h ((h.alloc (.cells 27 (cells a) true)).alloc (.cells 27 (cells b) true)) := (Ext.alloc _ _).trans (Ext.alloc _ _)
  generalize ((h.alloc (.cells 27 (cells a) true)).alloc (.cells 27 (cells b) true)) = h0 at ga gb he0 ⊢
  refine ops_val hs rfl rfl (o_loadN (n := 3) rfl rfl rfl gb (Nat.le_refl 3)) rfl fun tm hs => ?_
  refine ops_val hs rfl rfl (o_loadN (n := 3) rfl rfl rfl ga (Nat.le_refl 3)) rfl fun tm hs => ?_
  refine ops_call hs rfl rfl rfl rfl (F10_gives b a _ (he0.ok hok)) ?_
  rintro _ h1 ⟨rfl, he1⟩ tm hs
  refine ops_val hs rfl rfl rfl rfl fun tm hs => ?_
  exact ops_nil (go_ret (ends_ret hs rfl ⟨rfl, he0.trans he1⟩))

theorem F13_gives (v : AV) (n : Nat) (cs : List AV) (h : Heap) (hx : Sl h 3 v n cs) (hr : n ≤ 1000) : Gives TD 13 [v] h (fun v' h' => Sl h' 3 v' n cs ∧ Ext h h') := by
  by_cases hn : v = .nilslice
  · subst hn
    refine call_of rfl rfl rfl fun tm hs => ?_
    refine go_seq (go_region ?_)
    refine ops_val hs rfl rfl rfl rfl fun tm hs => ?_
    refine ops_nil (go_seq (go_seq (go_region ?_)))
    refine ops_val hs rfl rfl rfl rfl fun tm hs => ?_
    refine ops_val hs rfl rfl rfl rfl fun tm hs => ?_
    refine ops_nil (go_if hs rfl (fun _ => ?_) (fun hc => ?_))
    · refine go_seq (go_region ?_)
      refine ops_val hs rfl rfl rfl rfl fun tm hs => ?_
      exact ops_nil (go_ret (ends_ret hs rfl ⟨hx, Ext.refl _⟩))
    · cases hc
  obtain ⟨v', h', e1, e2, e3⟩ := append_fresh (T := TD) (st := 22) (elem := 27) (rest := [22]) (b := h.next) (h := h.alloc (.cells 27 [] true)) (ei := Try.t27) rfl rfl rfl rfl rfl (get_new _ _) (by show h.next < h.next + 1; omega) (hx.ext (Ext.alloc _ _)) (by
    unfold roomA
    rw [Nat.ble_eq]
    show (4 * n + 1000) * (24 + 1) ≤ _
    omega)
  have hne : ∀ {ρ : Operand → Option AV} {dst : Option Tmp} {ty : TypeId} {pos : String} {aft : Array Edge} {gd : Option (Nat × Bool)} {x y : Operand} {u : TypeId} {hh : Heap}, ρ x = some v → ρ y = some .nilslice → opA TD ρ ⟨dst, .binOp .eql 22 x y u, ty, pos, aft, gd⟩ hh = .val (.bool false) hh := by
    intro ρ dst ty pos aft gd x y u hh hx1 hy1
    cases v <;> first
      | exact absurd rfl hn
      | (simp only [Sl] at hx; done)
      | exact o_bin hx1 hy1 rfl rfl
  refine call_of rfl rfl rfl fun tm hs => ?_
  refine go_seq (go_region ?_)
  refine ops_val hs rfl rfl rfl rfl fun tm hs => ?_
  refine ops_nil (go_seq (go_seq (go_region ?_)))
  refine ops_val hs rfl rfl rfl rfl fun tm hs => ?_
  refine ops_val hs rfl rfl (hne rfl rfl) rfl fun tm hs => ?_
  refine ops_nil (go_if hs rfl (fun hc => ?_) (fun _ => ?_))
  · cases hc
  refine go_skip (go_seq (go_region ?_))
  refine ops_val hs rfl rfl rfl rfl fun tm hs => ?_
  refine ops_val hs rfl rfl rfl rfl fun tm hs => ?_
  refine ops_val hs rfl rfl ((o_append rfl rfl).trans e1) rfl fun tm hs => ?_
  refine ops_val hs rfl rfl rfl rfl fun tm hs => ?_
  exact ops_nil (go_ret (ends_ret hs rfl ⟨e2, (Ext.alloc _ _).trans e3⟩))

/-- append of something to a new slice of no room: a new block -/
theorem append_new {T : Tabs} {h : Heap} {st elem : TypeId} {rest : List TypeId} {sz n b : Nat} {ei : TypeInfo} {v : AV} {cs all : List AV} {e : TypeId} (hu : T.und st = some (.slice elem)) (hsz : T.size elem = some sz) (hti : T.ti elem = some ei) (hz : zeroOk T elem sz = true)
    (hm : isMake T rest = some false) (hb : h.get b = some (.cells e all true)) (hx : Sl h sz v n cs) (hr : roomA n ei.bytes = true) (h0 : n ≠ 0) :
    appendA T [.slice b 0 0 0, v] (st :: rest) h = .val (.oslice h.next 0 n sz) (h.alloc (.cells elem cs true)) := by
  have hc : countA T rest v = some n := by
    unfold countA
    rw [hm]
    cases v <;> first | exact hx.len | (simp only [Sl] at hx)
  have hn : newA T elem sz n h rest v = some cs := by unfold newA; rw [hm]; exact hx.first
  have hf : firstA sz 0 h (.slice b 0 0 0) = some [] := by simp [firstA, readCells, hb, cutE, cut]
  have hlen : Nat.beq cs.length (n * sz) = true := by rw [hx.length]; simp
  unfold appendA
  simp only [hu, hsz, lenS, hc, hti, hn, hf]
  simp [hr, hz, hlen, h0]
/-- a clone of what is not empty: a new block -/
theorem F13_new (v : AV) (n : Nat) (cs : List AV) (h : Heap) (hx : Sl h 3 v n cs) (hr : n ≤ 1000) (h0 : n ≠ 0) : Gives TD 13 [v] h (fun v' h' => v' = .oslice (h.next + 1) 0 n 3 ∧ h' = (h.alloc (.cells 27 [] true)).alloc (.cells 27 cs true)) := by
  have hn : v ≠ .nilslice := by rintro rfl; exact h0 hx.1
  have e1 := append_new (T := TD) (st := 22) (elem := 27) (rest := [22]) (b := h.next) (h := h.alloc (.cells 27 [] true)) (ei := Try.t27) rfl rfl rfl rfl rfl (get_new _ _) (hx.ext (Ext.alloc _ _)) (by
    unfold roomA
    rw [Nat.ble_eq]
    show (4 * n + 1000) * (24 + 1) ≤ _
    omega) h0
  have hne : ∀ {ρ : Operand → Option AV} {dst : Option Tmp} {ty : TypeId} {pos : String} {aft : Array Edge} {gd : Option (Nat × Bool)} {x y : Operand} {u : TypeId} {hh : Heap}, ρ x = some v → ρ y = some .nilslice → opA TD ρ ⟨dst, .binOp .eql 22 x y u, ty, pos, aft, gd⟩ hh = .val (.bool false) hh := by
    intro ρ dst ty pos aft gd x y u hh hx1 hy1
    cases v <;> first
      | exact absurd rfl hn
      | (simp only [Sl] at hx; done)
      | exact o_bin hx1 hy1 rfl rfl
  refine call_of rfl rfl rfl fun tm hs => ?_
  refine go_seq (go_region ?_)
  refine ops_val hs rfl rfl rfl rfl fun tm hs => ?_
  refine ops_nil (go_seq (go_seq (go_region ?_)))
  refine ops_val hs rfl rfl rfl rfl fun tm hs => ?_
  refine ops_val hs rfl rfl (hne rfl rfl) rfl fun tm hs => ?_
  refine ops_nil (go_if hs rfl (fun hc => ?_) (fun _ => ?_))
  · cases hc
  refine go_skip (go_seq (go_region ?_))
  refine ops_val hs rfl rfl rfl rfl fun tm hs => ?_
  refine ops_val hs rfl rfl rfl rfl fun tm hs => ?_
  refine ops_val hs rfl rfl ((o_append rfl rfl).trans e1) rfl fun tm hs => ?_
  refine ops_val hs rfl rfl rfl rfl fun tm hs => ?_
  exact ops_nil (go_ret (ends_ret hs rfl ⟨rfl, rfl⟩))
theorem sortC_len (l : List Cnd) : (sortC l).length = l.length := List.length_mergeSort _
theorem F14_gives (l : List Cnd) (b : Nat) (e : TypeId) (h : Heap) (hg : h.get b = some (.cells e (cndCells l) true)) (h0 : l.length ≠ 0) (h1 : l.length ≤ 1000) : Gives TD 14 [.oslice b 0 l.length 3, .func (.func 15) [] []] h (fun v' h' => v' = .tuple [] ∧ h' = h.set b (.cells e (over (cndCells l) 0 (cndCells (sortC l))) true)) := by
  have hs : TD.sm 14 [.oslice b 0 l.length 3, .func (.func 15) [] []] h = some (.tuple [], h.set b (.cells e (over (cndCells l) 0 (cndCells (sortC l))) true)) := by
    have hd : TD.sm 14 [.oslice b 0 l.length 3, .func (.func 15) [] []] h = sortRow h b 0 l.length := by
      cases hn : l.length with
      | zero => exact absurd hn h0
      | succ n => rfl
    rw [hd]
    unfold sortRow
    have hl := cndCells_len l
    have hle : Nat.ble (0 + l.length * 3) (cndCells l).length = true := by rw [Nat.ble_eq]; omega
    have ht : ((cndCells l).drop 0).take (l.length * 3) = cndCells l := by rw [List.drop_zero, ← hl, List.take_length]
    have hle2 : Nat.ble l.length 1000 = true := by rw [Nat.ble_eq]; exact h1
    simp only [hg, hle, hle2, ht, decC_of]
  refine Wp.now (r := .ret (.tuple []) (h.set b (.cells e (over (cndCells l) 0 (cndCells (sortC l))) true))) (fun rec => ?_) ⟨_, _, rfl, rfl, rfl⟩
  simp only [Ev.step, hs]
theorem F14_zero (v : AV) (h : Heap) (hx : Sl h 3 v 0 []) : Gives TD 14 [v, .func (.func 15) [] []] h (fun v' h' => v' = .tuple [] ∧ h' = h) := by
  have hs : TD.sm 14 [v, .func (.func 15) [] []] h = some (.tuple [], h) := by
    cases v <;> simp only [Sl] at hx <;> first
      | rfl
      | (obtain ⟨rfl, _⟩ := hx; rfl)
  refine Wp.now (r := .ret (.tuple []) h) (fun rec => ?_) ⟨_, _, rfl, rfl, rfl⟩
  simp only [Ev.step, hs]
theorem over_whole (l : List Cnd) : over (cndCells l) 0 (cndCells (sortC l)) = cndCells (sortC l) := over_all _ _ (by rw [cndCells_len, cndCells_len, sortC_len])
theorem F9_gives (l : List Cnd) (v : AV) (h : Heap) (hx : Sl h 3 v l.length (cndCells l)) (hl : l.length ≤ 1000) (h0 : l ≠ []) : Gives TD 9 [v] h (fun v' h' => Sl h' 3 v' l.length (cndCells (sortC l)) ∧ Ext h h') := by
  have hn : l.length ≠ 0 := fun e => h0 (List.length_eq_zero_iff.mp e)
  refine call_of rfl rfl rfl fun tm hs => ?_
  refine go_seq (go_region ?_)
  refine ops_val hs rfl rfl rfl rfl fun tm hs => ?_
  refine ops_nil (go_seq (go_region ?_))
  refine ops_val hs rfl rfl rfl rfl fun tm hs => ?_
  refine ops_call hs rfl rfl rfl rfl (F13_new v _ _ h hx hl hn) ?_
  rintro _ _ ⟨rfl, rfl⟩ tm hs
  refine ops_val hs rfl rfl rfl rfl fun tm hs => ?_
  refine ops_nil (go_seq (go_region ?_))
  refine ops_val hs rfl rfl rfl rfl fun tm hs => ?_
  refine ops_call hs rfl rfl rfl rfl (F14_gives l (h.next + 1) 27 _ (get_new _ _) hn hl) ?_
  rintro _ _ ⟨rfl, rfl⟩ tm hs
  refine ops_nil (go_seq (go_region ?_))
  refine ops_val hs rfl rfl rfl rfl fun tm hs => ?_
  refine ops_val hs rfl rfl rfl rfl fun tm hs => ?_
  refine ops_nil (go_ret (ends_ret hs rfl ⟨⟨rfl, rfl, ?_⟩, ((Ext.alloc _ _).trans (Ext.alloc _ _)).setL (by omega) (by show h.next + 1 < h.next + 1 + 1; omega) _⟩))
  rw [over_whole]
  refine ⟨by show h.next + 1 < h.next + 1 + 1; omega, 27, cndCells (sortC l), true, by rw [Heap.get_set, if_pos rfl], ?_, ?_⟩
  · rw [cndCells_len, sortC_len]; omega
  · rw [List.drop_zero]; exact List.take_of_length_le (by rw [cndCells_len, sortC_len]; omega)

theorem F9_zero (v : AV) (h : Heap) (hx : Sl h 3 v 0 []) : Gives TD 9 [v] h (fun v' h' => Sl h' 3 v' 0 [] ∧ Ext h h') := by
  refine call_of rfl rfl rfl fun tm hs => ?_
  refine go_seq (go_region ?_)
  refine ops_val hs rfl rfl rfl rfl fun tm hs => ?_
  refine ops_nil (go_seq (go_region ?_))
  refine ops_val hs rfl rfl rfl rfl fun tm hs => ?_
  refine ops_call hs rfl rfl rfl rfl (F13_gives v 0 [] h hx (by omega)) ?_
  rintro v1 h1 ⟨x1, e1⟩ tm hs
  refine ops_val hs rfl rfl rfl rfl fun tm hs => ?_
  refine ops_nil (go_seq (go_region ?_))
  refine ops_val hs rfl rfl rfl rfl fun tm hs => ?_
  refine ops_call hs rfl rfl rfl rfl (F14_zero v1 h1 x1) ?_
  rintro _ _ ⟨rfl, rfl⟩ tm hs
  refine ops_nil (go_seq (go_region ?_))
  refine ops_val hs rfl rfl rfl rfl fun tm hs => ?_
  refine ops_val hs rfl rfl rfl rfl fun tm hs => ?_
  exact ops_nil (go_ret (ends_ret hs rfl ⟨x1, e1⟩))
theorem F9_all (l : List Cnd) (v : AV) (h : Heap) (hx : Sl h 3 v l.length (cndCells l)) (hl : l.length ≤ 1000) : Gives TD 9 [v] h (fun v' h' => Sl h' 3 v' l.length (cndCells (sortC l)) ∧ Ext h h') := by
  by_cases h0 : l = []
  · subst h0
    have e : sortC [] = [] := List.mergeSort_nil
    rw [e]
    exact F9_zero v h hx
  · exact F9_gives l v h hx hl h0

def three : List Cnd := [⟨9, 4, false⟩, ⟨5, 4, true⟩, ⟨12, 3, false⟩]
theorem F11_gives (h : Heap) : Gives TD 11 [] h (fun v' h' => Sl h' 3 v' 3 (cndCells three) ∧ Ext h h') := by
  refine call_of rfl rfl rfl fun tm hs => ?_
  refine go_seq (go_region ?_)
  refine ops_val hs rfl rfl rfl rfl fun tm hs => ?_
  refine ops_nil (go_seq (go_region ?_))
  refine ops_val hs rfl rfl rfl rfl fun tm hs => ?_
  refine ops_val hs rfl rfl rfl rfl fun tm hs => ?_
  refine ops_val hs rfl rfl rfl rfl fun tm hs => ?_
  refine ops_val (v := .slice h.next 0 3 3) (h' := h.alloc (.cells 27 (cndCells three) true)) hs rfl rfl rfl rfl fun tm hs => ?_
  refine ops_val hs rfl rfl rfl rfl fun tm hs => ?_
  exact ops_nil (go_ret (ends_ret hs rfl ⟨⟨rfl, by show h.next < h.next + 1; omega, 27, cndCells three, true, get_new _ _, Nat.le_refl 9, rfl⟩, Ext.alloc _ _⟩))
theorem F5_gives (h : Heap) (hok : h.ok) : Gives TD 5 [] h (fun v' h' => v' = .bool true ∧ Ext h h') := by
  refine call_of rfl rfl rfl fun tm hs => ?_
  refine go_seq (go_region ?_)
  refine ops_val hs rfl rfl rfl rfl fun tm hs => ?_
  refine ops_nil (go_seq (go_region ?_))
  refine ops_call hs rfl rfl rfl rfl (F11_gives h) ?_
  rintro v1 h1 ⟨x1, e1⟩ tm hs
  refine ops_call hs rfl rfl rfl rfl (F6_gives three v1 h1 (e1.ok hok) x1 (by decide)) ?_
  rintro _ h2 ⟨rfl, e2⟩ tm hs
  have e2 := e1.trans e2
  have b1 : bestGo three = (⟨5, 4, true⟩, 0) := rfl
  rw [b1] at hs
  refine ops_val hs rfl rfl rfl rfl fun tm hs => ?_
  refine ops_val hs rfl rfl rfl rfl fun tm hs => ?_
  refine ops_val hs rfl rfl rfl rfl fun tm hs => ?_
  refine ops_val (h' := h2.alloc (.cells 27 (cells ⟨0, 0, false⟩) true)) hs rfl rfl rfl rfl fun tm hs => ?_
  refine ops_skip hs rfl rfl (o_storeN (n := 3) rfl rfl rfl rfl rfl (get_new _ _) (Nat.le_refl 3)) ?_
  refine ops_val hs rfl rfl rfl rfl fun tm hs => ?_
  have g3 : ((h2.alloc (.cells 27 (cells ⟨0, 0, false⟩) true)).set h2.next (.cells 27 (cells ⟨5, 4, true⟩) true)).get h2.next = some (.cells 27 (cells ⟨5, 4, true⟩) true) := by rw [Heap.get_set, if_pos rfl]
  have e3 : Ext h ((h2.alloc (.cells 27 (cells ⟨0, 0, false⟩) true)).set h2.next (.cells 27 (cells ⟨5, 4, true⟩) true)) := (e2.trans (Ext.alloc _ _)).setL e2.nx (by show h2.next < h2.next + 1; omega) _
  have n3 : h2.next < ((h2.alloc (.cells 27 (cells ⟨0, 0, false⟩) true)).set h2.next (.cells 27 (cells ⟨5, 4, true⟩) true)).next := by show h2.next < h2.next + 1; omega
  refine ops_nil (go_seq (go_region ?_))
  show Ops TD _ _ _ _ ⟨tm, [], none, (h2.alloc (.cells 27 (cells ⟨0, 0, false⟩) true)).set h2.next (.cells 27 (cells ⟨5, 4, true⟩) true)⟩ _
  generalize ((h2.alloc (.cells 27 (cells ⟨0, 0, false⟩) true)).set h2.next (.cells 27 (cells ⟨5, 4, true⟩) true)) = h3 at g3 e3 n3 ⊢
  refine ops_call hs rfl rfl rfl rfl (F6_gives [] .nilslice h3 (e3.ok hok) ⟨rfl, rfl⟩ (by decide)) ?_
  rintro _ h4 ⟨rfl, e4⟩ tm hs
  have g4 : h4.get h2.next = some (.cells 27 (cells ⟨5, 4, true⟩) true) := (e4.old _ n3).trans g3
  have n4 : h2.next < h4.next := Nat.lt_of_lt_of_le n3 e4.nx
  have e5 := e3.trans e4
  have b2 : bestGo [] = (⟨0, 0, false⟩, 5) := rfl
  rw [b2] at hs
  refine ops_val hs rfl rfl rfl rfl fun tm hs => ?_
  refine ops_val hs rfl rfl rfl rfl fun tm hs => ?_
  refine ops_val hs rfl rfl rfl rfl fun tm hs => ?_
  refine ops_val (h' := h4.alloc (.cells 27 (cells ⟨0, 0, false⟩) true)) hs rfl rfl rfl rfl fun tm hs => ?_
  refine ops_skip hs rfl rfl (o_storeN (n := 3) rfl rfl rfl rfl rfl (get_new _ _) (Nat.le_refl 3)) ?_
  refine ops_val hs rfl rfl rfl rfl fun tm hs => ?_
  have e6 : Ext h ((h4.alloc (.cells 27 (cells ⟨0, 0, false⟩) true)).set h4.next (.cells 27 (over (cells ⟨0, 0, false⟩) 0 (cells ⟨0, 0, false⟩)) true)) := (e5.trans (Ext.alloc _ _)).setL e5.nx (by show h4.next < h4.next + 1; omega) _
  have g6 : ((h4.alloc (.cells 27 (cells ⟨0, 0, false⟩) true)).set h4.next (.cells 27 (over (cells ⟨0, 0, false⟩) 0 (cells ⟨0, 0, false⟩)) true)).get h2.next = some (.cells 27 (cells ⟨5, 4, true⟩) true) := by
    rw [Heap.get_set, if_neg (by omega), Heap.get_alloc, if_neg (by omega)]; exact g4
  refine ops_nil (go_seq (go_region ?_))
  refine ops_val hs rfl rfl rfl rfl fun tm hs => ?_
  refine ops_val hs rfl rfl rfl rfl fun tm hs => ?_
  refine ops_val hs rfl rfl rfl rfl fun tm hs => ?_
  refine ops_val hs rfl rfl rfl rfl fun tm hs => ?_
  refine ops_val hs rfl rfl (o_load (v := .int .u32 5) rfl rfl rfl g6 rfl) rfl fun tm hs => ?_
  refine ops_val hs rfl rfl rfl rfl fun tm hs => ?_
  refine ops_val hs rfl rfl rfl rfl fun tm hs => ?_
  refine ops_val hs rfl rfl rfl rfl fun tm hs => ?_
  refine ops_val hs rfl rfl rfl rfl fun tm hs => ?_
  refine ops_val hs rfl rfl rfl rfl fun tm hs => ?_
  refine ops_val hs rfl rfl rfl rfl fun tm hs => ?_
  refine ops_val hs rfl rfl rfl rfl fun tm hs => ?_
  exact ops_nil (go_ret (ends_ret hs rfl ⟨rfl, e6⟩))

/-! ### the plain law: the order of candidates -/
theorem cmp3_neg (a b : Int) : cmp3 b a = - cmp3 a b := by unfold cmp3; split <;> split <;> (try split) <;> omega
theorem cmp3_lt {a b : Int} : cmp3 a b < 0 ↔ a < b := by unfold cmp3; split <;> (try split) <;> omega
theorem cmp3_zero {a b : Int} : cmp3 a b = 0 ↔ a = b := by unfold cmp3; split <;> (try split) <;> omega
theorem compareN_neg (a b : Cnd) : compareN b a = - compareN a b := by
  unfold compareN or3
  rw [cmp3_neg a.tx, cmp3_neg (toldN a), cmp3_neg a.page]
  repeat' split
  all_goals omega
theorem compareN_zero {a b : Cnd} (h : compareN a b = 0) : a = b := by
  unfold compareN or3 at h
  split at h
  · omega
  · split at h
    · omega
    · rename_i h1 h2
      have h1 : a.tx = b.tx := cmp3_zero.mp (by omega)
      have h2 : toldN a = toldN b := cmp3_zero.mp (by omega)
      have h3 : a.page = b.page := cmp3_zero.mp h
      obtain ⟨p, t, m⟩ := a
      obtain ⟨p', t', m'⟩ := b
      simp only [toldN] at h1 h2 h3
      subst h1; subst h3
      cases m <;> cases m' <;> simp_all
theorem compareN_le {a b : Cnd} : compareN a b ≤ 0 ↔ a.tx < b.tx ∨ (a.tx = b.tx ∧ (toldN a < toldN b ∨ (toldN a = toldN b ∧ a.page ≤ b.page))) := by
  unfold compareN or3 cmp3
  repeat' split
  all_goals (constructor <;> intro h <;> omega)
theorem compareN_trans {a b c : Cnd} (h1 : compareN a b ≤ 0) (h2 : compareN b c ≤ 0) : compareN a c ≤ 0 := by
  rw [compareN_le] at *
  omega
theorem compareN_self (a : Cnd) : compareN a a = 0 := by have := compareN_neg a a; omega
theorem maxGo_ge : ∀ (l : List Cnd) (m : Cnd), compareN m (maxGo m l) ≤ 0 ∧ ∀ x ∈ l, compareN x (maxGo m l) ≤ 0
  | [], m => ⟨Int.le_of_eq (compareN_self m), fun x hx => by simp at hx⟩
  | c :: l, m => by
    have ih := maxGo_ge l (if compareN c m > 0 then c else m)
    have hm : compareN m (if compareN c m > 0 then c else m) ≤ 0 := by
      split
      · have := compareN_neg c m; omega
      · exact Int.le_of_eq (compareN_self m)
    have hc : compareN c (if compareN c m > 0 then c else m) ≤ 0 := by
      split
      · exact Int.le_of_eq (compareN_self c)
      · omega
    refine ⟨compareN_trans hm ih.1, fun x hx => ?_⟩
    cases List.mem_cons.mp hx with
    | inl e => subst e; exact compareN_trans hc ih.1
    | inr hx => exact ih.2 x hx
theorem maxGo_mem : ∀ (l : List Cnd) (m : Cnd), maxGo m l ∈ m :: l
  | [], m => by simp [maxGo]
  | c :: l, m => by
    have ih := maxGo_mem l (if compareN c m > 0 then c else m)
    show maxGo (if compareN c m > 0 then c else m) l ∈ m :: c :: l
    generalize maxGo (if compareN c m > 0 then c else m) l = r at ih
    by_cases h : compareN c m > 0
    · rw [if_pos h] at ih
      exact List.mem_cons_of_mem _ ih
    · rw [if_neg h] at ih
      cases List.mem_cons.mp ih with
      | inl e => subst e; simp
      | inr e => simp [e]
/-- the greatest is the same however they lie -/
theorem maxGo_perm {c d : Cnd} {l k : List Cnd} (p : (c :: l).Perm (d :: k)) : maxGo c l = maxGo d k := by
  have g : ∀ {c d : Cnd} {l k : List Cnd}, (c :: l).Perm (d :: k) → compareN (maxGo c l) (maxGo d k) ≤ 0 := by
    intro c d l k p
    have := p.subset (maxGo_mem l c)
    cases List.mem_cons.mp this with
    | inl e => rw [e]; exact (maxGo_ge k d).1
    | inr e => exact (maxGo_ge k d).2 _ e
  have h1 := g p
  have h2 := g p.symm
  have := compareN_neg (maxGo c l) (maxGo d k)
  exact compareN_zero (by omega)
theorem sortC_perm (l : List Cnd) : (sortC l).Perm l := List.mergeSort_perm _ _
theorem sortC_sorted (l : List Cnd) : (sortC l).Pairwise fun x y => compareN y x ≤ 0 := by
  have h := List.pairwise_mergeSort (le := fun x y : Cnd => !decide (compareN x y < 0)) (by
    intro a b c h1 h2
    simp only [Bool.not_eq_true', decide_eq_false_iff_not] at *
    have k1 := compareN_neg a b
    have k2 := compareN_neg b c
    have k3 := compareN_neg a c
    have := compareN_trans (a := c) (b := b) (c := a) (by omega) (by omega)
    omega) (by
    intro a b
    have := compareN_neg a b
    simp only [Bool.or_eq_true, Bool.not_eq_true', decide_eq_false_iff_not]
    omega) l
  refine h.imp ?_
  intro a b hab
  have := compareN_neg a b
  simp only [Bool.not_eq_true', decide_eq_false_iff_not] at hab
  omega

/-! ### a slice of a slice -/
theorem slice_from {h : Heap} {sz len cap b off j : Nat} (hj : j < len) (hc : len ≤ cap) : sliceS sz h (.slice b off len cap) (some (.int .i64 j)) none none = some (.slice b (off + j * sz) (len - j) (cap - j)) := by
  have e : ¬ cap = j := by omega
  have e1 : (j : Int) ≤ len := by omega
  have e2 : (len : Int) ≤ cap := by omega
  simp [sliceS, boundsA, mxA, hiA, loA, boundA, e, e1, Nat.le_of_lt hj]
theorem slice_upto {h : Heap} {sz len cap b off j : Nat} (hj : j < len) (hc : len ≤ cap) : sliceS sz h (.slice b off len cap) none (some (.int .i64 j)) none = some (.slice b off j cap) := by
  have e : ¬ cap = 0 := by omega
  have e1 : (j : Int) ≤ cap := by omega
  have e2 : j ≤ cap := by omega
  simp [sliceS, boundsA, mxA, hiA, loA, boundA, e, e2]

/-! ### append to what append has made -/
theorem append_more {T : Tabs} {h : Heap} {st elem : TypeId} {rest : List TypeId} {sz n m b : Nat} {ei : TypeInfo} {v : AV} {cs ds : List AV} (hu : T.und st = some (.slice elem)) (hsz : T.size elem = some sz) (hti : T.ti elem = some ei) (hz : zeroOk T elem sz = true)
    (hm : isMake T rest = some false) (hb : h.get b = some (.cells elem cs true)) (hl : cs.length = n * sz) (hs0 : sz ≠ 0) (hx : Sl h sz v m ds) (hr : roomA (n + m) ei.bytes = true) (h1 : ds.all AV.one = true) (h0 : m ≠ 0) :
    appendA T [.oslice b 0 n sz, v] (st :: rest) h = .val (.oslice h.next 0 (n + m) sz) ((h.set b .dead).alloc (.cells elem (cs ++ ds) true)) := by
  have hc : countA T rest v = some m := by
    unfold countA
    rw [hm]
    cases v <;> first | exact hx.len | (simp only [Sl] at hx)
  have hn : newA T elem sz m h rest v = some ds := by unfold newA; rw [hm]; exact hx.first
  have hf : firstA sz n h (.oslice b 0 n sz) = some cs := by
    simp [firstA, readCells, hb, cutE, cut, hl]
    rw [← hl, List.take_length]
  have hlen : Nat.beq ds.length (m * sz) = true := by rw [hx.length]; simp
  have hlen2 : Nat.beq cs.length (n * sz) = true := by rw [hl]; simp
  have hlt : ¬ (0 + (n + m) * sz ≤ cs.length) := by
    rw [hl, Nat.add_mul]
    have : 0 < m * sz := Nat.mul_pos (by omega) (by omega)
    omega
  unfold appendA
  simp only [hu, hsz, lenS, hc, hti, hn, hf]
  rw [if_neg (by simp [hr, hz, hlen, hlen2])]
  simp only [hb]
  rw [if_neg (by simp only [h1]; simp [hs0]), if_neg hlt]

theorem over_nil (cs : List AV) (i : Nat) : over cs i [] = cs := by
  simp [over]
theorem append_none {T : Tabs} {h : Heap} {st elem : TypeId} {rest : List TypeId} {sz n b : Nat} {ei : TypeInfo} {v : AV} {cs : List AV} (hu : T.und st = some (.slice elem)) (hsz : T.size elem = some sz) (hti : T.ti elem = some ei) (hz : zeroOk T elem sz = true)
    (hm : isMake T rest = some false) (hb : h.get b = some (.cells elem cs true)) (hl : cs.length = n * sz) (hs0 : sz ≠ 0) (hx : Sl h sz v 0 []) (hr : roomA n ei.bytes = true) :
    appendA T [.oslice b 0 n sz, v] (st :: rest) h = .val (.oslice b 0 n sz) (h.set b (.cells elem cs true)) := by
  have hc : countA T rest v = some 0 := by
    unfold countA
    rw [hm]
    cases v <;> first | exact hx.len | (simp only [Sl] at hx)
  have hn : newA T elem sz 0 h rest v = some [] := by unfold newA; rw [hm]; exact hx.first
  have hf : firstA sz n h (.oslice b 0 n sz) = some cs := by
    simp [firstA, readCells, hb, cutE, cut, hl]
    rw [← hl, List.take_length]
  have hlen2 : Nat.beq cs.length (n * sz) = true := by rw [hl]; simp
  have hw : writeCells h b (0 + n * sz) [] = some (h.set b (.cells elem cs true)) := by
    simp [writeCells, hb, over_nil, hl]
  unfold appendA
  simp only [hu, hsz, lenS, hc, hti, hn, hf]
  rw [if_neg (by simp [hr, hz, hlen2])]
  simp only [hb]
  rw [if_neg (by simp [hs0]), if_pos (by rw [hl]; simp)]
  simp only [hw, Nat.add_zero]

theorem cndCells_append : ∀ l k : List Cnd, cndCells (l ++ k) = cndCells l ++ cndCells k
  | [], _ => rfl
  | c :: l, k => by
    have := cndCells_append l k
    simp only [List.cons_append, cndCells, this, List.append_assoc]
theorem cndCells_drop (l : List Cnd) (j : Nat) (hj : j ≤ l.length) : (cndCells l).drop (j * 3) = cndCells (l.drop j) := by
  have e : cndCells l = cndCells (l.take j) ++ cndCells (l.drop j) := by rw [← cndCells_append, List.take_append_drop]
  have n : (cndCells (l.take j)).length = j * 3 := by rw [cndCells_len, List.length_take, Nat.min_eq_left hj]
  rw [e, ← n, List.drop_left]
theorem cndCells_take (l : List Cnd) (j : Nat) (hj : j ≤ l.length) : (cndCells l).take (j * 3) = cndCells (l.take j) := by
  have e : cndCells l = cndCells (l.take j) ++ cndCells (l.drop j) := by rw [← cndCells_append, List.take_append_drop]
  have n : (cndCells (l.take j)).length = j * 3 := by rw [cndCells_len, List.length_take, Nat.min_eq_left hj]
  rw [e, ← n, List.take_left]
theorem cndCells_one : ∀ l : List Cnd, (cndCells l).all AV.one = true
  | [] => rfl
  | c :: l => by
    have := cndCells_one l
    simp only [cndCells, List.all_append, this, Bool.and_true]
    rfl
theorem F7_new (v : AV) (n : Nat) (cs : List AV) (h : Heap) (hx : Sl h 3 v n cs) (hr : n ≤ 1000) (h0 : n ≠ 0) : Gives TD 7 [v] h (fun v' h' => v' = .oslice (h.next + 1) 0 n 3 ∧ h' = (h.alloc (.cells 27 [] true)).alloc (.cells 27 cs true)) := by
  have e1 := append_new (T := TD) (st := 22) (elem := 27) (rest := [22]) (b := h.next) (h := h.alloc (.cells 27 [] true)) (ei := Try.t27) rfl rfl rfl rfl rfl (get_new _ _) (hx.ext (Ext.alloc _ _)) (by
    unfold roomA
    rw [Nat.ble_eq]
    show (4 * n + 1000) * (24 + 1) ≤ _
    omega) h0
  refine call_of rfl rfl rfl fun tm hs => ?_
  refine go_seq (go_region ?_)
  refine ops_val hs rfl rfl rfl rfl fun tm hs => ?_
  refine ops_nil (go_seq (go_region ?_))
  refine ops_val hs rfl rfl rfl rfl fun tm hs => ?_
  refine ops_val hs rfl rfl rfl rfl fun tm hs => ?_
  refine ops_val hs rfl rfl ((o_append rfl rfl).trans e1) rfl fun tm hs => ?_
  refine ops_val hs rfl rfl rfl rfl fun tm hs => ?_
  exact ops_nil (go_ret (ends_ret hs rfl ⟨rfl, rfl⟩))
theorem Sl_from {h : Heap} {b off cap j : Nat} {l : List Cnd} (hx : Sl h 3 (.slice b off l.length cap) l.length (cndCells l)) (hj : j ≤ l.length) : Sl h 3 (.slice b (off + j * 3) (l.length - j) (cap - j)) (l.length - j) (cndCells (l.drop j)) := by
  have r := hx.2.sub (j * 3) ((l.length - j) * 3) (by omega)
  rw [cndCells_drop l j hj, List.take_of_length_le (by rw [cndCells_len, List.length_drop]; omega)] at r
  exact ⟨rfl, r⟩
theorem Sl_upto {h : Heap} {b off cap j : Nat} {l : List Cnd} (hx : Sl h 3 (.slice b off l.length cap) l.length (cndCells l)) (hj : j ≤ l.length) : Sl h 3 (.slice b off j cap) j (cndCells (l.take j)) := by
  have r := hx.2.sub 0 (j * 3) (by omega)
  rw [List.drop_zero, cndCells_take l j hj] at r
  exact ⟨rfl, r⟩

theorem eqv_cnd (c : Cnd) : eqv TD 100 27 (cnd c) (cnd c) = some true := by
  have h1 : eqv TD 99 24 (.int .u32 c.page) (.int .u32 c.page) = some true := by show some (c.page == c.page) = _; simp
  have h2 : eqv TD 99 25 (.int .u64 c.tx) (.int .u64 c.tx) = some true := by show some (c.tx == c.tx) = _; simp
  have h3 : eqv TD 99 4 (.bool c.mt) (.bool c.mt) = some true := by show some (c.mt == c.mt) = _; simp
  show (match eqv TD 99 24 (.int .u32 c.page) (.int .u32 c.page) with
    | some true => (match eqv TD 99 25 (.int .u64 c.tx) (.int .u64 c.tx) with
      | some true => (match eqv TD 99 4 (.bool c.mt) (.bool c.mt) with
        | some true => some true
        | some false => some false
        | none => none)
      | some false => some false
      | none => none)
    | some false => some false
    | none => none) = some true
  rw [h1, h2, h3]
theorem neq_cnd (c : Cnd) : binA TD .neq 27 (cnd c) (cnd c) = some (.bool false) := by
  show (match eqv TD 100 27 (cnd c) (cnd c) with | some r => some (AV.bool (!r)) | none => none) = _
  rw [eqv_cnd]
  rfl

theorem bestGo_two : ∀ {l : List Cnd}, l ≠ [] → (bestGo l).2 = 0
  | [], h => absurd rfl h
  | _ :: _, _ => rfl
theorem bestGo_perm : ∀ {l k : List Cnd}, l.Perm k → bestGo l = bestGo k
  | [], k, p => by rw [List.nil_perm.mp p]
  | c :: l, [], p => absurd p.length_eq (by simp)
  | c :: l, d :: k, p => by
    show (maxGo c l, (0 : Int)) = (maxGo d k, 0)
    rw [maxGo_perm p]
theorem bestGo_turn (l : List Cnd) (j : Nat) : bestGo (l.drop j ++ l.take j) = bestGo l := bestGo_perm (List.perm_append_comm.trans (by rw [List.take_append_drop]))
/-- the greatest stands first -/
theorem sortC_head {l : List Cnd} (h : l ≠ []) : (sortC l)[0]? = some (bestGo l).1 := by
  have p := sortC_perm l
  have o := sortC_sorted l
  rw [← bestGo_perm p]
  cases e : sortC l with
  | nil => rw [e] at p; exact absurd (List.nil_perm.mp p) h
  | cons c k =>
    rw [e] at o
    have hc := (List.pairwise_cons.mp o).1
    have g1 := (maxGo_ge k c).1
    have g2 : compareN (maxGo c k) c ≤ 0 := by
      cases List.mem_cons.mp (maxGo_mem k c) with
      | inl h => rw [h, compareN_self]; exact Int.le_refl 0
      | inr h => exact hc _ h
    have := compareN_neg c (maxGo c k)
    show some c = some (maxGo c k)
    exact congrArg some (compareN_zero (show compareN c (maxGo c k) = 0 by omega))

def eqC (a b : Cnd) : Bool := a.page == b.page && (a.tx == b.tx && a.mt == b.mt)
theorem eqC_iff {a b : Cnd} : eqC a b = true ↔ a = b := by
  obtain ⟨p, t, m⟩ := a
  obtain ⟨p', t', m'⟩ := b
  simp [eqC]
theorem eqv_cnd2 (a b : Cnd) : eqv TD 100 27 (cnd a) (cnd b) = some (eqC a b) := by
  have h1 : eqv TD 99 24 (.int .u32 a.page) (.int .u32 b.page) = some (a.page == b.page) := rfl
  have h2 : eqv TD 99 25 (.int .u64 a.tx) (.int .u64 b.tx) = some (a.tx == b.tx) := rfl
  have h3 : eqv TD 99 4 (.bool a.mt) (.bool b.mt) = some (a.mt == b.mt) := rfl
  show (match eqv TD 99 24 (.int .u32 a.page) (.int .u32 b.page) with
    | some true => (match eqv TD 99 25 (.int .u64 a.tx) (.int .u64 b.tx) with
      | some true => (match eqv TD 99 4 (.bool a.mt) (.bool b.mt) with
        | some true => some true
        | some false => some false
        | none => none)
      | some false => some false
      | none => none)
    | some false => some false
    | none => none) = some (eqC a b)
  rw [h1, h2, h3]
  unfold eqC
  cases a.page == b.page <;> cases a.tx == b.tx <;> cases a.mt == b.mt <;> rfl
theorem eql_cnd (a b : Cnd) : binA TD .eql 27 (cnd a) (cnd b) = some (.bool (eqC a b)) := by
  show (match eqv TD 100 27 (cnd a) (cnd b) with | some r => some (AV.bool r) | none => none) = _
  rw [eqv_cnd2]

theorem compareN_range (a b : Cnd) : compareN a b = -1 ∨ compareN a b = 0 ∨ compareN a b = 1 := by
  unfold compareN or3 cmp3
  repeat' split
  all_goals omega
theorem bestGo_ge : ∀ {l : List Cnd} {x : Cnd}, x ∈ l → compareN x (bestGo l).1 ≤ 0
  | c :: l, x, h => by
    cases List.mem_cons.mp h with
    | inl e => subst e; exact (maxGo_ge l _).1
    | inr e => exact (maxGo_ge l c).2 _ e
theorem sortC_next {l : List Cnd} {k : Nat} {x y : Cnd} (hx : (sortC l)[k]? = some x) (hy : (sortC l)[k + 1]? = some y) : ¬ compareN x y < 0 := by
  have o := sortC_sorted l
  obtain ⟨h1, e1⟩ := List.getElem?_eq_some_iff.mp hx
  obtain ⟨h2, e2⟩ := List.getElem?_eq_some_iff.mp hy
  have := List.pairwise_iff_getElem.mp o k (k + 1) h1 h2 (by omega)
  rw [e1, e2] at this
  have := compareN_neg x y
  omega
end Go.Proofs.Ytebcbfpehalmjaa
