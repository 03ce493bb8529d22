/- RankBest's own walk: it answers true at any candidates. Conditions: those that each theorem states. -/
import Derived.Test.YtebcbfpehalmjaaR1
open Go Ev
namespace Go.Proofs.Ytebcbfpehalmjaa
set_option maxRecDepth 10000
set_option linter.unusedVariables false
set_option linter.unusedSimpArgs false
set_option maxHeartbeats 4000000
/-- a candidate's three cells -/
def encC (c : Cnd) : List Value := [.int .u32 c.page, .int .u64 c.tx, .bool c.mt]
theorem vrs_enc (E : En) (c : Cnd) : VRs E (cells c) (encC c) := .cons _ _ _ _ (.int ..) (.cons _ _ _ _ (.int ..) (.cons _ _ _ _ (.bool _) .nil))
theorem any_take (l : List Cnd) (i : Nat) (c : Cnd) (h : l[i]? = some c) (f : Cnd → Bool) : (l.take (i + 1)).any f = ((l.take i).any f || f c) := by
  rw [List.take_add_one, h]
  simp only [List.any_append, Option.toList_some, List.any_cons, List.any_nil, Bool.or_false]
theorem F10_eq (a b : Cnd) {c : Int} (h : Heap) (hok : h.ok) (hc : compareN a b = c) : Gives TD 10 [cnd a, cnd b] h (fun v h' => v = .int .i64 c ∧ Ext h h') := by
  subst hc
  exact F10_gives a b h hok

theorem o_from {b off len cap j : Nat} {ρ : Operand → Option AV} {dst : Option Tmp} {ty : TypeId} {pos : String} {aft : Array Edge} {gd : Option (Nat × Bool)} {x y : Operand} {hh : Heap} (hx : ρ x = some (.slice b off len cap)) (hy : ρ y = some (.int .i64 j)) (hj : j < len) (hc : len ≤ cap) :
    opA TD ρ ⟨dst, .slice 22 x (some y) none none, ty, pos, aft, gd⟩ hh = .val (.slice b (off + j * 3) (len - j) (cap - j)) hh := by
  have hu : TD.und 22 = some (.slice 27) := rfl
  have hz : TD.size 27 = some 3 := rfl
  simp only [opA, optOp, hx, hy, sliceA, hu, hz, slice_from hj hc, rv]
theorem o_upto {b off len cap j : Nat} {ρ : Operand → Option AV} {dst : Option Tmp} {ty : TypeId} {pos : String} {aft : Array Edge} {gd : Option (Nat × Bool)} {x y : Operand} {hh : Heap} (hx : ρ x = some (.slice b off len cap)) (hy : ρ y = some (.int .i64 j)) (hj : j < len) (hc : len ≤ cap) :
    opA TD ρ ⟨dst, .slice 22 x none (some y) none, ty, pos, aft, gd⟩ hh = .val (.slice b off j cap) hh := by
  have hu : TD.und 22 = some (.slice 27) := rfl
  have hz : TD.size 27 = some 3 := rfl
  simp only [opA, optOp, hx, hy, sliceA, hu, hz, slice_upto hj hc, rv]

theorem F3_gives (l : List Cnd) (b off cap : Nat) (k : Int) (h : Heap) (hok : h.ok) (hk : -9223372036854775808 ≤ k ∧ k < 9223372036854775808) (hx : Sl h 3 (.slice b off l.length cap) l.length (cndCells l)) (hcap : l.length ≤ cap) (hbig : l.length < 9223372036854775808) : Gives TD 3 [.slice b off l.length cap, .int .i64 k] h (fun v' h' => v' = .bool true ∧ Ext h h') := by
  refine call_of rfl rfl rfl fun tm hs => ?_
  refine go_seq (go_region ?_)
  refine ops_val hs rfl rfl rfl rfl fun tm hs => ?_
  refine ops_nil (go_seq (go_seq (go_region ?_)))
  refine ops_call hs rfl rfl rfl rfl (F5_gives h hok) ?_
  rintro _ h1 ⟨rfl, e1⟩ tm hs
  refine ops_val hs rfl rfl rfl rfl fun tm hs => ?_
  refine ops_nil (go_if hs rfl (fun hc => ?_) (fun _ => ?_))
  · cases hc
  refine go_skip (go_seq (go_seq (go_region ?_)))
  refine ops_val hs rfl rfl rfl rfl fun tm hs => ?_
  refine ops_val hs rfl rfl rfl rfl fun tm hs => ?_
  refine ops_val hs rfl rfl rfl rfl fun tm hs => ?_
  refine ops_nil (go_if hs rfl (fun hc => ?_) (fun hc => ?_))
  · refine go_seq (go_region ?_)
    refine ops_val hs rfl rfl rfl rfl fun tm hs => ?_
    exact ops_nil (go_ret (ends_ret hs rfl ⟨rfl, e1⟩))
  have hl60 : l.length ≤ 60 := by simp at hc; omega
  refine go_skip (go_seq (go_region ?_))
  refine ops_val hs rfl rfl rfl rfl fun tm hs => ?_
  refine ops_call hs rfl rfl rfl rfl (F7_gives _ l.length (cndCells l) h1 (hx.ext e1) (by omega)) ?_
  rintro v2 h2 ⟨x2, e2⟩ tm hs
  have e2 := e1.trans e2
  refine ops_call hs rfl rfl rfl rfl (F6_gives l v2 h2 (e2.ok hok) x2 (by omega)) ?_
  rintro _ h3 ⟨rfl, e3⟩ tm hs
  have e3 := e2.trans e3
  refine ops_val hs rfl rfl rfl rfl fun tm hs => ?_
  refine ops_val hs rfl rfl rfl rfl fun tm hs => ?_
  refine ops_val hs rfl rfl rfl rfl fun tm hs => ?_
  refine ops_val (h' := h3.alloc (.cells 27 (cells ⟨0, 0, false⟩) true)) hs rfl rfl rfl rfl fun tm hs => ?_
  refine ops_skip hs rfl rfl (o_storeN (n := 3) rfl rfl rfl rfl rfl (get_new _ _) (Nat.le_refl 3)) ?_
  refine ops_val hs rfl rfl rfl rfl fun tm hs => ?_
  have g4 : ((h3.alloc (.cells 27 (cells ⟨0, 0, false⟩) true)).set h3.next (.cells 27 (over (cells ⟨0, 0, false⟩) 0 (cells (bestGo l).1)) true)).get h3.next = some (.cells 27 (cells (bestGo l).1) true) := by rw [Heap.get_set, if_pos rfl]; rfl
  have e4 : Ext h ((h3.alloc (.cells 27 (cells ⟨0, 0, false⟩) true)).set h3.next (.cells 27 (over (cells ⟨0, 0, false⟩) 0 (cells (bestGo l).1)) true)) := (e3.trans (Ext.alloc _ _)).setL e3.nx (by show h3.next < h3.next + 1; omega) _
  have n4 : h3.next < ((h3.alloc (.cells 27 (cells ⟨0, 0, false⟩) true)).set h3.next (.cells 27 (over (cells ⟨0, 0, false⟩) 0 (cells (bestGo l).1)) true)).next := by show h3.next < h3.next + 1; omega
  refine ops_nil ?_
  show Goes TD _ _ ⟨tm, [], none, (h3.alloc (.cells 27 (cells ⟨0, 0, false⟩) true)).set h3.next (.cells 27 (over (cells ⟨0, 0, false⟩) 0 (cells (bestGo l).1)) true)⟩ _
  have n3 := e3.nx
  generalize h3.next = q at g4 e4 n4 n3 hs ⊢
  generalize ((h3.alloc (.cells 27 (cells ⟨0, 0, false⟩) true)).set q (.cells 27 (over (cells ⟨0, 0, false⟩) 0 (cells (bestGo l).1)) true)) = h4 at g4 e4 n4 ⊢
  refine go_seq (go_seq (go_region ?_))
  refine ops_val hs rfl rfl rfl rfl fun tm hs => ?_
  refine ops_val hs rfl rfl rfl rfl fun tm hs => ?_
  refine ops_val hs rfl rfl rfl rfl fun tm hs => ?_
  refine ops_nil (go_if hs rfl (fun hc => ?_) (fun hc => ?_))
  · have hc : l = [] := by simpa using hc
    subst hc
    refine go_seq (go_region ?_)
    refine ops_val hs rfl rfl rfl rfl fun tm hs => ?_
    refine ops_val hs rfl rfl rfl rfl fun tm hs => ?_
    refine ops_val hs rfl rfl rfl rfl fun tm hs => ?_
    exact ops_nil (go_ret (ends_ret hs rfl ⟨rfl, e4⟩))
  have hl0 : l.length ≠ 0 := by intro e; simp [e] at hc
  refine go_skip (go_seq (go_region ?_))
  refine ops_val hs rfl rfl rfl rfl fun tm hs => ?_
  refine ops_val hs rfl rfl rfl rfl fun tm hs => ?_
  refine ops_val hs rfl rfl rfl rfl fun tm hs => ?_
  refine ops_call hs rfl rfl rfl rfl (F8_gives k l.length h4 hk (by omega)) ?_
  rintro _ h4' ⟨⟨j, rfl, hj⟩, e44⟩ tm hs
  subst h4'
  have hj : j < l.length := by omega
  refine ops_val hs rfl rfl rfl rfl fun tm hs => ?_
  refine ops_nil (go_seq ?_)
  have hok4 := e4.ok hok
  refine go_drawn rfl hok4 ?_
  have hokR : Heap.ok { h4 with next := h4.next + 15 } := fun x hb => hok4 x (by have : h4.next + 15 ≤ x := hb; omega)
  have nx4 := e4.nx
  have eR : Ext h { h4 with next := h4.next + 15 } := ⟨by show h.next ≤ h4.next + 15; omega, fun x hb => e4.old x hb, fun _ => hokR⟩
  have gR : Heap.get { h4 with next := h4.next + 15 } q = some (.cells 27 (cells (bestGo l).1) true) := g4
  have nR : (Heap.mk h4.t (h4.next + 15)).next = h4.next + 15 := rfl
  show DG TD _ _ _ h4.next _ _ 0 tm (Heap.mk h4.t (h4.next + 15)) [] _
  generalize (Heap.mk h4.t (h4.next + 15)) = hR at hokR eR gR nR ⊢
  refine dg_val hs rfl rfl rfl rfl rfl fun tmr tm hr0 hs => ?_
  refine dg_val hs rfl rfl rfl rfl rfl fun tmr tm hr1 hs => ?_
  refine dg_val hs rfl rfl rfl rfl (o_from rfl rfl hj hcap) fun tmr tm hr2 hs => ?_
  refine dg_call rfl hs rfl rfl rfl rfl rfl (F7_new _ (l.length - j) (cndCells (l.drop j)) hR (Sl_from (hx.ext eR) (by omega)) (by omega) (by omega)) ?_
  rintro _ _ ⟨rfl, rfl⟩ tmr tm hr3 hs
  refine dg_val hs rfl rfl rfl rfl rfl fun tmr tm hr4 hs => ?_
  refine dg_val hs rfl rfl rfl rfl rfl fun tmr tm hr5 hs => ?_
  refine dg_val hs rfl rfl rfl rfl (o_upto rfl rfl hj hcap) fun tmr tm hr6 hs => ?_
  have e5 : Ext hR ((hR.alloc (.cells 27 [] true)).alloc (.cells 27 (cndCells (l.drop j)) true)) := (Ext.alloc _ _).trans (Ext.alloc _ _)
  have g5 : ((hR.alloc (.cells 27 [] true)).alloc (.cells 27 (cndCells (l.drop j)) true)).get (hR.next + 1) = some (.cells 27 (cndCells (l.drop j)) true) := get_new _ _
  have n5 : ((hR.alloc (.cells 27 [] true)).alloc (.cells 27 (cndCells (l.drop j)) true)).next = hR.next + 2 := rfl
  generalize ((hR.alloc (.cells 27 [] true)).alloc (.cells 27 (cndCells (l.drop j)) true)) = h5 at e5 g5 n5 ⊢
  have app : ∃ v' h', appendA TD [.oslice (hR.next + 1) 0 (l.length - j) 3, .slice b off j cap] [22, 22] h5 = .val v' h' ∧ Sl h' 3 v' (l.length - j + j) (cndCells (l.drop j ++ l.take j)) ∧ Ext hR h' := by
    have hdl : (cndCells (l.drop j)).length = (l.length - j) * 3 := by rw [cndCells_len, List.length_drop]
    have htl : (cndCells (l.take j)).length = j * 3 := by rw [cndCells_len, List.length_take, Nat.min_eq_left (by omega)]
    have room : roomA (l.length - j + j) Try.t27.bytes = true := by
      unfold roomA
      rw [Nat.ble_eq]
      show (4 * (l.length - j + j) + 1000) * (24 + 1) ≤ _
      omega
    have su := Sl_upto ((hx.ext eR).ext e5) (j := j) (by omega)
    by_cases j0 : j = 0
    · subst j0
      have a := append_none (T := TD) (st := 22) (elem := 27) (rest := [22]) (ei := Try.t27) rfl rfl rfl rfl rfl g5 hdl (by decide) su room
      refine ⟨_, _, a, ⟨rfl, rfl, by show hR.next + 1 < h5.next; omega, 27, _, true, by rw [Heap.get_set, if_pos rfl], by rw [hdl]; omega, ?_⟩, e5.setL (by omega) (by omega) _⟩
      rw [List.drop_zero, List.take_of_length_le (by rw [hdl]; omega)]
      simp
    · have a := append_more (T := TD) (st := 22) (elem := 27) (rest := [22]) (ei := Try.t27) rfl rfl rfl rfl rfl g5 hdl (by decide) su room (cndCells_one _) j0
      refine ⟨_, _, a, ⟨rfl, rfl, by show h5.next < h5.next + 1; omega, 27, _, true, get_new _ _, by rw [List.length_append, hdl, htl]; omega, ?_⟩, (e5.setL (by omega) (by omega) _).trans (Ext.alloc _ _)⟩
      rw [List.drop_zero, cndCells_append, List.take_of_length_le (by rw [List.length_append, hdl, htl]; omega)]
  obtain ⟨v6, h6, a6, x6, e6⟩ := app
  refine dg_act hs rfl rfl rfl rfl ((o_append rfl rfl).trans a6) fun tmr tm hr7 hs => ?_
  have ln : (l.drop j ++ l.take j).length = l.length - j + j := by simp; omega
  rw [← ln] at x6
  have hok6 := e6.ok hokR
  refine dg_call rfl hs rfl rfl rfl rfl rfl (F6_gives _ v6 h6 hok6 x6 (by omega)) ?_
  rintro _ h7 ⟨rfl, e7⟩ tmr tm hr8 hs
  have e7R : Ext hR h7 := e6.trans e7
  have g7 : h7.get q = some (.cells 27 (cells (bestGo l).1) true) := (e7R.old _ (by omega)).trans gR
  have n7 := e7R.nx
  refine dg_val hs rfl rfl rfl rfl rfl fun tmr tm hr9 hs => ?_
  refine dg_val hs rfl rfl rfl rfl rfl fun tmr tm hr10 hs => ?_
  refine dg_val hs rfl rfl rfl rfl rfl fun tmr tm hr11 hs => ?_
  refine dg_alloc (a := .cells 27 (cells ⟨0, 0, false⟩) true) hs rfl rfl rfl rfl rfl fun tmr tm hr12 hs => ?_
  refine dg_skip hs rfl rfl rfl (o_storeN (n := 3) (cs := cells ⟨0, 0, false⟩) (e := 27) rfl rfl rfl rfl rfl (by rw [Heap.get_set, if_pos rfl]) (Nat.le_refl 3)) fun tmr hr13 => ?_
  refine dg_val hs rfl rfl rfl rfl rfl fun tmr tm hr14 hs => ?_
  refine dg_nil (by repeat' (first | exact trivial | refine And.intro rfl ?_)) rfl ?_ ?_
  · repeat' (first | exact trivial | refine And.intro ?_ ?_)
    all_goals first
      | exact again_of hr0 rfl
      | exact again_of hr1 rfl
      | exact again_of hr2 (o_from rfl rfl hj hcap)
      | exact again_of hr4 rfl
      | exact again_of hr5 rfl
      | exact again_of hr6 (o_upto rfl rfl hj hcap)
      | exact again_of hr9 rfl
      | exact again_of hr10 rfl
      | exact again_of hr11 rfl
      | exact again_of hr14 rfl
  have g8 : ((h7.set (h4.next + 12) (.cells 27 (cells ⟨0, 0, false⟩) true)).set (h4.next + 12) (.cells 27 (over (cells ⟨0, 0, false⟩) 0 (cells (bestGo (l.drop j ++ l.take j)).1)) true)).get q = some (.cells 27 (cells (bestGo l).1) true) := by rw [Heap.get_set, if_neg (by omega), Heap.get_set, if_neg (by omega)]; exact g7
  have k8 : ((h7.set (h4.next + 12) (.cells 27 (cells ⟨0, 0, false⟩) true)).set (h4.next + 12) (.cells 27 (over (cells ⟨0, 0, false⟩) 0 (cells (bestGo (l.drop j ++ l.take j)).1)) true)).get (h4.next + 12) = some (.cells 27 (cells (bestGo (l.drop j ++ l.take j)).1) true) := by rw [Heap.get_set, if_pos rfl]; rfl
  have e8 : Ext h ((h7.set (h4.next + 12) (.cells 27 (cells ⟨0, 0, false⟩) true)).set (h4.next + 12) (.cells 27 (over (cells ⟨0, 0, false⟩) 0 (cells (bestGo (l.drop j ++ l.take j)).1)) true)) := ((eR.trans e7R).setL (by omega) (by omega) _).setL (by omega) (by show h4.next + 12 < h7.next; omega) _
  have n8 : h4.next + 12 < ((h7.set (h4.next + 12) (.cells 27 (cells ⟨0, 0, false⟩) true)).set (h4.next + 12) (.cells 27 (over (cells ⟨0, 0, false⟩) 0 (cells (bestGo (l.drop j ++ l.take j)).1)) true)).next := by show h4.next + 12 < h7.next; omega
  show Goes TD _ _ ⟨tm, [], none, ((h7.set (h4.next + 12) (.cells 27 (cells ⟨0, 0, false⟩) true)).set (h4.next + 12) (.cells 27 (over (cells ⟨0, 0, false⟩) 0 (cells (bestGo (l.drop j ++ l.take j)).1)) true))⟩ _
  have nq : q < h4.next + 12 := by omega
  generalize ((h7.set (h4.next + 12) (.cells 27 (cells ⟨0, 0, false⟩) true)).set (h4.next + 12) (.cells 27 (over (cells ⟨0, 0, false⟩) 0 (cells (bestGo (l.drop j ++ l.take j)).1)) true)) = h8 at g8 k8 e8 n8 ⊢
  generalize h4.next + 12 = q2 at *
  refine go_seq (go_region ?_)
  refine ops_val hs rfl rfl rfl rfl fun tm hs => ?_
  refine ops_call hs rfl rfl rfl rfl (F7_gives _ l.length (cndCells l) h8 (hx.ext e8) (by omega)) ?_
  rintro v9 h9 ⟨x9, e9⟩ tm hs
  refine ops_call hs rfl rfl rfl rfl (F9_gives l v9 h9 x9 (by omega) (by intro e; simp [e] at hl0)) ?_
  rintro v10 h10 ⟨x10, e10⟩ tm hs
  refine ops_val hs rfl rfl rfl rfl fun tm hs => ?_
  refine ops_nil (go_seq (go_seq ?_))
  have lne : l ≠ [] := by intro e; simp [e] at hl0
  simp only [bestGo_turn, bestGo_two lne] at hs k8
  have e11 := e8.trans (e9.trans e10)
  have g11 : h10.get q = some (.cells 27 (cells (bestGo l).1) true) := ((e9.trans e10).old _ (by omega)).trans g8
  have k11 : h10.get q2 = some (.cells 27 (cells (bestGo l).1) true) := ((e9.trans e10).old _ n8).trans k8
  have n11 : q2 < h10.next := Nat.lt_of_lt_of_le n8 (e9.trans e10).nx
  obtain ⟨b2, o2, r2, at2⟩ := x10.at 0 (by omega)
  rw [cndCells_at _ 0 _ (sortC_head lne)] at r2
  have hok10 := e11.ok hok
  refine go_drawn rfl hok10 ?_
  have eX : Ext h10 { h10 with next := h10.next + 25 } := ⟨Nat.le_add_right _ _, fun _ _ => rfl, fun _ x hb => hok10 x (by have : h10.next + 25 ≤ x := hb; omega)⟩
  have r3 := r2.ext eX
  have x11 := x10.ext eX
  have g12 : Heap.get { h10 with next := h10.next + 25 } q = some (.cells 27 (cells (bestGo l).1) true) := g11
  have k12 : Heap.get { h10 with next := h10.next + 25 } q2 = some (.cells 27 (cells (bestGo l).1) true) := k11
  have e12 := e11.trans eX
  show DG TD _ _ _ h10.next _ _ 0 tm (Heap.mk h10.t (h10.next + 25)) [] _
  generalize (Heap.mk h10.t (h10.next + 25)) = h12 at r3 x11 g12 k12 e12 ⊢
  have ol : ∀ {tm : Tr AV} {L : List (Nat × AV)} {dst ty pos aft gd x} {hh : Heap}, envL L x = some v10 → opA TD (envL L) ⟨dst, .call { callee := .builtin .len, args := #[x], argTypes := #[22] }, ty, pos, aft, gd⟩ hh = .val (.int .i64 (l.length : Int)) hh := by
    intro tm L dst ty pos aft gd x hh hx1
    simp only [opA, argMap, hx1, lenA_cnd x10, rv]
  have on : ∀ {L : List (Nat × AV)} {dst ty pos aft gd x y u} {hh : Heap}, envL L x = some (cnd (bestGo l).1) → envL L y = some (cnd (bestGo l).1) → opA TD (envL L) ⟨dst, .binOp .neq 27 x y u, ty, pos, aft, gd⟩ hh = .val (.bool false) hh := fun hx1 hy1 => o_bin hx1 hy1 (neq_cnd _) rfl
  have oi : ∀ {L : List (Nat × AV)} {dst ty pos aft gd x y u} {hh : Heap}, envL L x = some (.int .i64 (l.length : Int)) → envL L y = some (.int .i64 (l.length : Int)) → opA TD (envL L) ⟨dst, .binOp .neq 3 x y u, ty, pos, aft, gd⟩ hh = .val (.bool false) hh := fun hx1 hy1 => o_bin hx1 hy1 (by simp [binA, intOp]) rfl
  refine dg_val hs rfl rfl rfl rfl rfl fun tmr tm hr0 hs => ?_
  refine dg_val hs rfl rfl rfl rfl rfl fun tmr tm hr1 hs => ?_
  refine dg_val hs rfl rfl rfl rfl rfl fun tmr tm hr2 hs => ?_
  refine dg_val hs rfl rfl rfl rfl rfl fun tmr tm hr3 hs => ?_
  refine dg_val hs rfl rfl rfl rfl rfl fun tmr tm hr4 hs => ?_
  refine dg_val hs rfl rfl rfl rfl rfl fun tmr tm hr5 hs => ?_
  refine dg_val hs rfl rfl rfl rfl rfl fun tmr tm hr6 hs => ?_
  refine dg_val hs rfl rfl rfl rfl (o_loadN (n := 3) rfl rfl rfl g12 (Nat.le_refl 3)) fun tmr tm hr7 hs => ?_
  refine dg_val hs rfl rfl rfl rfl (o_loadN (n := 3) rfl rfl rfl k12 (Nat.le_refl 3)) fun tmr tm hr8 hs => ?_
  refine dg_val hs rfl rfl rfl rfl (on rfl rfl) fun tmr tm hr9 hs => ?_
  refine dg_val hs rfl rfl rfl rfl rfl fun tmr tm hr10 hs => ?_
  refine dg_val hs rfl rfl rfl rfl rfl fun tmr tm hr11 hs => ?_
  refine dg_val hs rfl rfl rfl rfl rfl fun tmr tm hr12 hs => ?_
  refine dg_val hs rfl rfl rfl rfl (ol (tm := tm) rfl) fun tmr tm hr13 hs => ?_
  refine dg_val hs rfl rfl rfl rfl rfl fun tmr tm hr14 hs => ?_
  refine dg_val hs rfl rfl rfl rfl rfl fun tmr tm hr15 hs => ?_
  refine dg_val hs rfl rfl rfl rfl (oi rfl rfl) fun tmr tm hr16 hs => ?_
  refine dg_val hs rfl rfl rfl rfl rfl fun tmr tm hr17 hs => ?_
  refine dg_val hs rfl rfl rfl rfl rfl fun tmr tm hr18 hs => ?_
  refine dg_val hs rfl rfl rfl rfl rfl fun tmr tm hr19 hs => ?_
  refine dg_val hs rfl rfl rfl rfl (at2 rfl rfl rfl rfl rfl) fun tmr tm hr20 hs => ?_
  refine dg_val hs rfl rfl rfl rfl (r3.load rfl rfl rfl) fun tmr tm hr21 hs => ?_
  refine dg_val hs rfl rfl rfl rfl (o_loadN (n := 3) rfl rfl rfl g12 (Nat.le_refl 3)) fun tmr tm hr22 hs => ?_
  refine dg_val hs rfl rfl rfl rfl (on rfl rfl) fun tmr tm hr23 hs => ?_
  refine dg_val hs rfl rfl rfl rfl rfl fun tmr tm hr24 hs => ?_
  refine dg_nil (by repeat' (first | exact trivial | refine And.intro rfl ?_)) rfl ?_ ?_
  · repeat' (first | exact trivial | refine And.intro ?_ ?_)
    all_goals first
      | exact again_of hr0 rfl
      | exact again_of hr1 rfl
      | exact again_of hr2 rfl
      | exact again_of hr3 rfl
      | exact again_of hr4 rfl
      | exact again_of hr5 rfl
      | exact again_of hr6 rfl
      | exact again_of hr10 rfl
      | exact again_of hr11 rfl
      | exact again_of hr12 rfl
      | exact again_of hr14 rfl
      | exact again_of hr15 rfl
      | exact again_of hr17 rfl
      | exact again_of hr18 rfl
      | exact again_of hr19 rfl
      | exact again_of hr24 rfl
      | exact again_of hr7 (o_loadN (n := 3) rfl rfl rfl g12 (Nat.le_refl 3))
      | exact again_of hr8 (o_loadN (n := 3) rfl rfl rfl k12 (Nat.le_refl 3))
      | exact again_of hr22 (o_loadN (n := 3) rfl rfl rfl g12 (Nat.le_refl 3))
      | exact again_of hr9 (on rfl rfl)
      | exact again_of hr23 (on rfl rfl)
      | exact again_of hr13 (ol (tm := tm) rfl)
      | exact again_of hr16 (oi rfl rfl)
      | exact again_of hr20 (at2 rfl rfl rfl rfl rfl)
      | exact again_of hr21 (r3.load rfl rfl rfl)
  refine go_if hs rfl (fun hc => ?_) (fun _ => ?_)
  · cases hc
  refine go_skip ?_
  refine go_seq (go_region ?_)
  refine ops_val hs rfl rfl rfl rfl fun tm hs => ?_
  refine ops_nil (go_seq (go_seq (go_region ?_)))
  refine ops_val hs rfl rfl rfl rfl fun tm hs => ?_
  have q12 : q < h12.next := Heap.ok.lt (e12.ok hok) g12
  refine ops_nil (go_block ?_)
  refine go_loop (fun m st => ∃ (i : Nat) (tm : Tr AV) (h1 : Heap), i + m = l.length ∧ st = ⟨tm, [], none, h1⟩ ∧ Ext h h1 ∧ q < h1.next ∧ h1.get q = some (.cells 27 (cells (bestGo l).1) true) ∧ Sl h1 3 v10 l.length (cndCells (sortC l)) ∧
    Sees tm [(0, .slice b off l.length cap), (5, .ptr q 0), (10, v10), (11, .bool ((l.take i).any fun x => eqC x (bestGo l).1)), (12, .int .i64 (i : Int))]) (m := l.length)
    ⟨0, _, _, by omega, rfl, e12, q12, g12, x11, hs.cons rfl (hs.cons rfl (hs.cons rfl (hs.cons rfl (hs.cons rfl (Sees.nil _)))))⟩ ?_
  clear hs
  rintro m _ ⟨i, tm, h1, him, rfl, he, hq, hg, hv, hs⟩ next
  refine go_seq (go_seq (go_region ?_))
  refine ops_val hs rfl rfl rfl rfl fun tm hs => ?_
  refine ops_val hs rfl rfl rfl rfl fun tm hs => ?_
  refine ops_val hs rfl rfl rfl rfl fun tm hs => ?_
  refine ops_val hs rfl rfl rfl rfl fun tm hs => ?_
  refine ops_nil (go_if hs rfl (fun hlt => ?_) (fun hge => ?_))
  · have hlt : i < l.length := by simp at hlt; omega
    obtain ⟨y, hci⟩ : ∃ y, l[i]? = some y := ⟨l[i], by simp [hlt]⟩
    refine go_skip (go_seq (go_block (go_seq ?_)))
    have hok1 := he.ok hok
    refine go_drawn rfl hok1 ?_
    have eY : Ext h1 { h1 with next := h1.next + 7 } := ⟨Nat.le_add_right _ _, fun _ _ => rfl, fun _ x hb => hok1 x (by have : h1.next + 7 ≤ x := hb; omega)⟩
    have gY : Heap.get { h1 with next := h1.next + 7 } q = some (.cells 27 (cells (bestGo l).1) true) := hg
    show DG TD _ _ _ h1.next _ _ 0 tm (Heap.mk h1.t (h1.next + 7)) [] _
    have hqY : q < (Heap.mk h1.t (h1.next + 7)).next := Nat.lt_of_lt_of_le hq eY.nx
    generalize (Heap.mk h1.t (h1.next + 7)) = hY at eY gY hqY ⊢
    have hYe := he.trans eY
    obtain ⟨bi, oi', ri, ati⟩ := (hx.ext hYe).at i hlt
    rw [cndCells_at l i y hci] at ri
    refine dg_val hs rfl rfl rfl rfl rfl fun tmr tm hr0 hs => ?_
    refine dg_val hs rfl rfl rfl rfl rfl fun tmr tm hr1 hs => ?_
    refine dg_val hs rfl rfl rfl rfl (ati rfl rfl rfl rfl rfl) fun tmr tm hr2 hs => ?_
    refine dg_val hs rfl rfl rfl rfl (ri.load rfl rfl rfl) fun tmr tm hr3 hs => ?_
    refine dg_val hs rfl rfl rfl rfl (o_loadN (n := 3) rfl rfl rfl gY (Nat.le_refl 3)) fun tmr tm hr4 hs => ?_
    refine dg_call rfl hs rfl rfl rfl rfl rfl (F10_gives y (bestGo l).1 _ (hYe.ok hok)) ?_
    rintro _ h2 ⟨rfl, e2⟩ tmr tm hr5 hs
    have ri2 := ri.ext e2
    have gY2 : h2.get q = some (.cells 27 (cells (bestGo l).1) true) := (e2.old _ hqY).trans gY
    refine dg_val hs rfl rfl rfl rfl rfl fun tmr tm hr6 hs => ?_
    refine dg_nil (by repeat' (first | exact trivial | refine And.intro rfl ?_)) rfl ?_ ?_
    · repeat' (first | exact trivial | refine And.intro ?_ ?_)
      all_goals first
        | exact again_of hr0 rfl
        | exact again_of hr1 rfl
        | exact again_of hr6 rfl
        | exact again_of hr2 (ati rfl rfl rfl rfl rfl)
        | exact again_of hr3 (ri2.load rfl rfl rfl)
        | exact again_of hr3 (ri.load rfl rfl rfl)
        | exact again_of hr4 (o_loadN (n := 3) rfl rfl rfl (by assumption) (Nat.le_refl 3))
    have hcb : compareN y (bestGo l).1 = 0 ∨ compareN y (bestGo l).1 = -1 := by
      have h1 := bestGo_ge (l := l) (x := y) (List.mem_of_getElem? hci)
      have h2 := compareN_range y (bestGo l).1
      omega
    have hneg := compareN_neg y (bestGo l).1
    have hok2 := (hYe.trans e2).ok hok
    have hq2 : q < h2.next := Nat.lt_of_lt_of_le hqY e2.nx
    have hv2 := hv.ext (eY.trans e2)
    refine go_seq (go_seq ?_)
    refine go_join (fun st => ∃ (tm : Tr AV) (h3 : Heap), st = ⟨tm, [], none, h3⟩ ∧ Ext h h3 ∧ q < h3.next ∧ h3.get q = some (.cells 27 (cells (bestGo l).1) true) ∧ Sl h3 3 v10 l.length (cndCells (sortC l)) ∧
      Sees tm [(0, .slice b off l.length cap), (5, .ptr q 0), (10, v10), (11, .bool ((l.take i).any fun x => eqC x (bestGo l).1)), (12, .int .i64 (i : Int)), (127, .bool false)]) ?_ fun rest => ?_
    · rintro _ ⟨tm, h3, rfl, he3, hq3, hg3, hv3, hs⟩
      refine go_if hs rfl (fun hc => by cases hc) (fun _ => ?_)
      refine go_skip ?_
      have hok3 := he3.ok hok
      have eW : Ext h3 { h3 with next := h3.next + 10 } := ⟨Nat.le_add_right _ _, fun _ _ => rfl, fun _ x hb => hok3 x (by have : h3.next + 10 ≤ x := hb; omega)⟩
      have gW : Heap.get { h3 with next := h3.next + 10 } q = some (.cells 27 (cells (bestGo l).1) true) := hg3
      have etk : ((l.take (i + 1)).any fun x => eqC x (bestGo l).1) = (((l.take i).any fun x => eqC x (bestGo l).1) || eqC y (bestGo l).1) := by
        exact any_take l i y hci _
      refine go_join (fun st => ∃ (tm : Tr AV) (h4 : Heap), st = ⟨tm, [], none, h4⟩ ∧ Ext h h4 ∧ q < h4.next ∧ h4.get q = some (.cells 27 (cells (bestGo l).1) true) ∧ Sl h4 3 v10 l.length (cndCells (sortC l)) ∧
        Sees tm [(0, .slice b off l.length cap), (5, .ptr q 0), (10, v10), (11, .bool ((l.take (i + 1)).any fun x => eqC x (bestGo l).1)), (12, .int .i64 (i : Int))]) ?_ fun rest2 => ?_
      · rintro _ ⟨tm, h4, rfl, he4, hq4, hg4, hv4, hs⟩
        refine go_blk (go_region ?_)
        refine ops_val hs rfl rfl rfl rfl fun tm hs => ?_
        refine ops_val hs rfl rfl (o_bin rfl rfl (b_add_i64 (z := ((i + 1 : Nat) : Int)) (by simp) (by omega) (by omega)) rfl) rfl fun tm hs => ?_
        refine ops_val hs rfl rfl rfl rfl fun tm hs => ?_
        exact ops_nil (next (m - 1) _ (by omega) ⟨i + 1, tm, _, by omega, rfl, he4, hq4, hg4, hv4, hs.cons rfl (hs.cons rfl (hs.cons rfl (hs.cons rfl (hs.cons rfl (Sees.nil _)))))⟩)
      rw [etk] at rest2
      refine go_drawn rfl hok3 ?_
      have hqW : q < (Heap.mk h3.t (h3.next + 10)).next := Nat.lt_of_lt_of_le hq3 eW.nx
      show DG TD _ _ _ h3.next _ _ 0 tm (Heap.mk h3.t (h3.next + 10)) [] _
      generalize (Heap.mk h3.t (h3.next + 10)) = hW at eW gW hqW ⊢
      have hWe := he3.trans eW
      have hvW := hv3.ext eW
      obtain ⟨bi3, oi3, ri3, ati3⟩ := (hx.ext hWe).at i hlt
      rw [cndCells_at l i y hci] at ri3
      generalize ((l.take i).any fun x => eqC x (bestGo l).1) = B at hs rest2
      cases B with
      | true =>
        refine dg_val hs rfl rfl rfl rfl rfl fun tmr tm hr0 hs => ?_
        refine dg_val hs rfl rfl rfl rfl rfl fun tmr tm hr1 hs => ?_
        refine dg_no hs rfl rfl rfl fun tmr tm _ hs => ?_
        refine dg_no hs rfl rfl rfl fun tmr tm _ hs => ?_
        refine dg_no hs rfl rfl rfl fun tmr tm _ hs => ?_
        refine dg_no hs rfl rfl rfl fun tmr tm _ hs => ?_
        refine dg_no hs rfl rfl rfl fun tmr tm _ hs => ?_
        refine dg_no hs rfl rfl rfl fun tmr tm _ hs => ?_
        refine dg_val hs rfl rfl rfl rfl rfl fun tmr tm hr8 hs => ?_
        refine dg_val hs rfl rfl rfl rfl rfl fun tmr tm hr9 hs => ?_
        refine dg_nil (by repeat' (first | exact trivial | refine And.intro rfl ?_)) rfl ?_ ?_
        · repeat' (first | exact trivial | refine And.intro ?_ ?_)
          all_goals first
            | exact again_of hr0 rfl
            | exact again_of hr1 rfl
            | exact again_of hr8 rfl
            | exact again_of hr9 rfl
        exact rest2 _ ⟨tm, hW, rfl, hWe, hqW, gW, hvW, hs.cons rfl (hs.cons rfl (hs.cons rfl (hs.cons rfl (hs.cons rfl (Sees.nil _)))))⟩
      | false =>
        refine dg_val hs rfl rfl rfl rfl rfl fun tmr tm hr0 hs => ?_
        refine dg_val hs rfl rfl rfl rfl rfl fun tmr tm hr1 hs => ?_
        refine dg_val hs rfl rfl rfl rfl rfl fun tmr tm hr2 hs => ?_
        refine dg_val hs rfl rfl rfl rfl rfl fun tmr tm hr3 hs => ?_
        refine dg_val hs rfl rfl rfl rfl (ati3 rfl rfl rfl rfl rfl) fun tmr tm hr4 hs => ?_
        refine dg_val hs rfl rfl rfl rfl (ri3.load rfl rfl rfl) fun tmr tm hr5 hs => ?_
        refine dg_val hs rfl rfl rfl rfl (o_loadN (n := 3) rfl rfl rfl gW (Nat.le_refl 3)) fun tmr tm hr6 hs => ?_
        refine dg_val hs rfl rfl rfl rfl (o_bin rfl rfl (eql_cnd _ _) rfl) fun tmr tm hr7 hs => ?_
        refine dg_val hs rfl rfl rfl rfl rfl fun tmr tm hr8 hs => ?_
        refine dg_val hs rfl rfl rfl rfl rfl fun tmr tm hr9 hs => ?_
        refine dg_nil (by repeat' (first | exact trivial | refine And.intro rfl ?_)) rfl ?_ ?_
        · repeat' (first | exact trivial | refine And.intro ?_ ?_)
          all_goals first
            | exact again_of hr0 rfl
            | exact again_of hr1 rfl
            | exact again_of hr2 rfl
            | exact again_of hr3 rfl
            | exact again_of hr4 (ati3 rfl rfl rfl rfl rfl)
            | exact again_of hr5 (ri3.load rfl rfl rfl)
            | exact again_of hr6 (o_loadN (n := 3) rfl rfl rfl gW (Nat.le_refl 3))
            | exact again_of hr7 (o_bin rfl rfl (eql_cnd _ _) rfl)
            | exact again_of hr8 rfl
            | exact again_of hr9 rfl
        exact rest2 _ ⟨tm, hW, rfl, hWe, hqW, gW, hvW, hs.cons rfl (hs.cons rfl (hs.cons rfl (hs.cons rfl (hs.cons rfl (Sees.nil _)))))⟩
    refine go_drawn rfl hok2 ?_
    have eZ : Ext h2 { h2 with next := h2.next + 42 } := ⟨Nat.le_add_right _ _, fun _ _ => rfl, fun _ x hb => hok2 x (by have : h2.next + 42 ≤ x := hb; omega)⟩
    have gZ : Heap.get { h2 with next := h2.next + 42 } q = some (.cells 27 (cells (bestGo l).1) true) := gY2
    show DG TD _ _ _ h2.next _ _ 0 tm (Heap.mk h2.t (h2.next + 42)) [] _
    have hqZ : q < (Heap.mk h2.t (h2.next + 42)).next := Nat.lt_of_lt_of_le hq2 eZ.nx
    generalize (Heap.mk h2.t (h2.next + 42)) = hZ at eZ gZ hqZ ⊢
    have hZe := (hYe.trans e2).trans eZ
    have riZ := ri2.ext eZ
    have hvZ := hv2.ext eZ
    clear hr0 hr1 hr2 hr3 hr4 hr5 hr6
    rcases hcb with hcb | hcb
    · rw [hcb] at hs
      have hli := compareN_zero hcb
      rw [hli] at riZ
      have hcc : compareN (bestGo l).1 (bestGo l).1 = 0 := compareN_self _
      cases i with
      | zero =>
        refine dg_val hs rfl rfl rfl rfl rfl fun tmr tm hr0 hs => ?_
        refine dg_val hs rfl rfl rfl rfl rfl fun tmr tm hr1 hs => ?_
        refine dg_val hs rfl rfl rfl rfl rfl fun tmr tm hr2 hs => ?_
        refine dg_val hs rfl rfl rfl rfl rfl fun tmr tm hr3 hs => ?_
        refine dg_val hs rfl rfl rfl rfl rfl fun tmr tm hr4 hs => ?_
        refine dg_val hs rfl rfl rfl rfl rfl fun tmr tm hr5 hs => ?_
        refine dg_val hs rfl rfl rfl rfl rfl fun tmr tm hr6 hs => ?_
        refine dg_val hs rfl rfl rfl rfl rfl fun tmr tm hr7 hs => ?_
        refine dg_val hs rfl rfl rfl rfl (ati rfl rfl rfl rfl rfl) fun tmr tm hr8 hs => ?_
        refine dg_val hs rfl rfl rfl rfl (riZ.load rfl rfl rfl) fun tmr tm hr9 hs => ?_
        refine dg_val hs rfl rfl rfl rfl (o_loadN (n := 3) rfl rfl rfl gZ (Nat.le_refl 3)) fun tmr tm hr10 hs => ?_
        refine dg_val hs rfl rfl rfl rfl (on rfl rfl) fun tmr tm hr11 hs => ?_
        refine dg_val hs rfl rfl rfl rfl rfl fun tmr tm hr12 hs => ?_
        refine dg_val hs rfl rfl rfl rfl rfl fun tmr tm hr13 hs => ?_
        refine dg_val hs rfl rfl rfl rfl rfl fun tmr tm hr14 hs => ?_
        refine dg_val hs rfl rfl rfl rfl (o_loadN (n := 3) rfl rfl rfl gZ (Nat.le_refl 3)) fun tmr tm hr15 hs => ?_
        refine dg_val hs rfl rfl rfl rfl rfl fun tmr tm hr16 hs => ?_
        refine dg_val hs rfl rfl rfl rfl rfl fun tmr tm hr17 hs => ?_
        refine dg_val hs rfl rfl rfl rfl (ati rfl rfl rfl rfl rfl) fun tmr tm hr18 hs => ?_
        refine dg_val hs rfl rfl rfl rfl (riZ.load rfl rfl rfl) fun tmr tm hr19 hs => ?_
        refine dg_call rfl hs rfl rfl rfl rfl rfl (F10_eq (bestGo l).1 (bestGo l).1 _ (hZe.ok hok) hcc) ?_
        rintro _ h3 ⟨rfl, eZ3⟩ tmr tm hr20 hs
        have gZ3 : h3.get q = some (.cells 27 (cells (bestGo l).1) true) := (eZ3.old _ hqZ).trans gZ
        have hqZ3 : q < h3.next := Nat.lt_of_lt_of_le hqZ eZ3.nx
        have hZ3e := hZe.trans eZ3
        refine dg_val hs rfl rfl rfl rfl rfl fun tmr tm hr21 hs => ?_
        refine dg_val hs rfl rfl rfl rfl rfl fun tmr tm hr22 hs => ?_
        refine dg_val hs rfl rfl rfl rfl rfl fun tmr tm hr23 hs => ?_
        refine dg_val hs rfl rfl rfl rfl rfl fun tmr tm hr24 hs => ?_
        refine dg_val hs rfl rfl rfl rfl rfl fun tmr tm hr25 hs => ?_
        refine dg_val hs rfl rfl rfl rfl rfl fun tmr tm hr26 hs => ?_
        refine dg_val hs rfl rfl rfl rfl rfl fun tmr tm hr27 hs => ?_
        refine dg_val hs rfl rfl rfl rfl rfl fun tmr tm hr28 hs => ?_
        refine dg_no hs rfl rfl rfl fun tmr tm _ hs => ?_
        refine dg_no hs rfl rfl rfl fun tmr tm _ hs => ?_
        refine dg_no hs rfl rfl rfl fun tmr tm _ hs => ?_
        refine dg_no hs rfl rfl rfl fun tmr tm _ hs => ?_
        refine dg_no hs rfl rfl rfl fun tmr tm _ hs => ?_
        refine dg_no hs rfl rfl rfl fun tmr tm _ hs => ?_
        refine dg_no hs rfl rfl rfl fun tmr tm _ hs => ?_
        refine dg_no hs rfl rfl rfl fun tmr tm _ hs => ?_
        refine dg_no hs rfl rfl rfl fun tmr tm _ hs => ?_
        refine dg_no hs rfl rfl rfl fun tmr tm _ hs => ?_
        refine dg_no hs rfl rfl rfl fun tmr tm _ hs => ?_
        have e4 := Ext.refl h3
        have gZ4 := gZ3
        refine dg_val hs rfl rfl rfl rfl rfl fun tmr tm hr40 hs => ?_
        refine dg_val hs rfl rfl rfl rfl rfl fun tmr tm hr41 hs => ?_
        refine dg_nil (by repeat' (first | exact trivial | refine And.intro rfl ?_)) rfl ?_ ?_
        · repeat' (first | exact trivial | refine And.intro ?_ ?_)
          all_goals first
            | exact again_of hr0 rfl
            | exact again_of hr1 rfl
            | exact again_of hr2 rfl
            | exact again_of hr3 rfl
            | exact again_of hr4 rfl
            | exact again_of hr5 rfl
            | exact again_of hr6 rfl
            | exact again_of hr7 rfl
            | exact again_of hr8 (ati rfl rfl rfl rfl rfl)
            | exact again_of hr9 ((riZ.ext (by first | exact eZ3 | exact eZ3.trans e4)).load rfl rfl rfl)
            | exact again_of hr10 (o_loadN (n := 3) rfl rfl rfl (by assumption) (Nat.le_refl 3))
            | exact again_of hr11 (on rfl rfl)
            | exact again_of hr9 (riZ.load rfl rfl rfl)
            | exact again_of hr12 rfl
            | exact again_of hr13 rfl
            | exact again_of hr14 rfl
            | exact again_of hr15 (o_loadN (n := 3) rfl rfl rfl (by assumption) (Nat.le_refl 3))
            | exact again_of hr16 rfl
            | exact again_of hr17 rfl
            | exact again_of hr18 (ati rfl rfl rfl rfl rfl)
            | exact again_of hr19 ((riZ.ext (by first | exact eZ3 | exact eZ3.trans e4)).load rfl rfl rfl)
            | exact again_of hr19 (riZ.load rfl rfl rfl)
            | exact again_of hr21 rfl
            | exact again_of hr22 rfl
            | exact again_of hr23 rfl
            | exact again_of hr24 rfl
            | exact again_of hr25 rfl
            | exact again_of hr26 rfl
            | exact again_of hr27 rfl
            | exact again_of hr28 rfl
            | exact again_of hr40 rfl
            | exact again_of hr41 rfl
        exact rest _ ⟨tm, h3, rfl, hZ3e.trans e4, Nat.lt_of_lt_of_le hqZ3 e4.nx, gZ4, hvZ.ext (eZ3.trans e4), hs.cons rfl (hs.cons rfl (hs.cons rfl (hs.cons rfl (hs.cons rfl (hs.cons rfl (Sees.nil _))))))⟩
      | succ k =>
        obtain ⟨bk, ok, rk, atk⟩ := hvZ.at k (by omega)
        obtain ⟨bk1, ok1, rk1, atk1⟩ := hvZ.at (k + 1) (by omega)
        have hk0 : k < (sortC l).length := by rw [sortC_len]; omega
        have hk1 : k + 1 < (sortC l).length := by rw [sortC_len]; omega
        have exk : (sortC l)[k]? = some (sortC l)[k] := by simp [hk0]
        have eyk : (sortC l)[k + 1]? = some (sortC l)[k + 1] := by simp [hk1]
        generalize (sortC l)[k] = xk at exk
        generalize (sortC l)[k + 1] = yk at eyk
        have hnl := sortC_next exk eyk
        rw [cndCells_at _ _ _ exk] at rk
        rw [cndCells_at _ _ _ eyk] at rk1
        refine dg_val hs rfl rfl rfl rfl rfl fun tmr tm hr0 hs => ?_
        refine dg_val hs rfl rfl rfl rfl rfl fun tmr tm hr1 hs => ?_
        refine dg_val hs rfl rfl rfl rfl rfl fun tmr tm hr2 hs => ?_
        refine dg_val hs rfl rfl rfl rfl rfl fun tmr tm hr3 hs => ?_
        refine dg_val hs rfl rfl rfl rfl rfl fun tmr tm hr4 hs => ?_
        refine dg_val hs rfl rfl rfl rfl rfl fun tmr tm hr5 hs => ?_
        refine dg_val hs rfl rfl rfl rfl rfl fun tmr tm hr6 hs => ?_
        refine dg_val hs rfl rfl rfl rfl rfl fun tmr tm hr7 hs => ?_
        refine dg_val hs rfl rfl rfl rfl (ati rfl rfl rfl rfl rfl) fun tmr tm hr8 hs => ?_
        refine dg_val hs rfl rfl rfl rfl (riZ.load rfl rfl rfl) fun tmr tm hr9 hs => ?_
        refine dg_val hs rfl rfl rfl rfl (o_loadN (n := 3) rfl rfl rfl gZ (Nat.le_refl 3)) fun tmr tm hr10 hs => ?_
        refine dg_val hs rfl rfl rfl rfl (on rfl rfl) fun tmr tm hr11 hs => ?_
        refine dg_val hs rfl rfl rfl rfl rfl fun tmr tm hr12 hs => ?_
        refine dg_val hs rfl rfl rfl rfl rfl fun tmr tm hr13 hs => ?_
        refine dg_val hs rfl rfl rfl rfl rfl fun tmr tm hr14 hs => ?_
        refine dg_val hs rfl rfl rfl rfl (o_loadN (n := 3) rfl rfl rfl gZ (Nat.le_refl 3)) fun tmr tm hr15 hs => ?_
        refine dg_val hs rfl rfl rfl rfl rfl fun tmr tm hr16 hs => ?_
        refine dg_val hs rfl rfl rfl rfl rfl fun tmr tm hr17 hs => ?_
        refine dg_val hs rfl rfl rfl rfl (ati rfl rfl rfl rfl rfl) fun tmr tm hr18 hs => ?_
        refine dg_val hs rfl rfl rfl rfl (riZ.load rfl rfl rfl) fun tmr tm hr19 hs => ?_
        refine dg_call rfl hs rfl rfl rfl rfl rfl (F10_eq (bestGo l).1 (bestGo l).1 _ (hZe.ok hok) hcc) ?_
        rintro _ h3 ⟨rfl, eZ3⟩ tmr tm hr20 hs
        have gZ3 : h3.get q = some (.cells 27 (cells (bestGo l).1) true) := (eZ3.old _ hqZ).trans gZ
        have hqZ3 : q < h3.next := Nat.lt_of_lt_of_le hqZ eZ3.nx
        have hZ3e := hZe.trans eZ3
        refine dg_val hs rfl rfl rfl rfl rfl fun tmr tm hr21 hs => ?_
        refine dg_val hs rfl rfl rfl rfl rfl fun tmr tm hr22 hs => ?_
        refine dg_val hs rfl rfl rfl rfl rfl fun tmr tm hr23 hs => ?_
        refine dg_val hs rfl rfl rfl rfl rfl fun tmr tm hr24 hs => ?_
        refine dg_val hs rfl rfl rfl rfl rfl fun tmr tm hr25 hs => ?_
        refine dg_val hs rfl rfl rfl rfl rfl fun tmr tm hr26 hs => ?_
        refine dg_val hs rfl rfl rfl rfl (o_bin (v := .bool true) rfl rfl (by simp [binA, intOp]) rfl) fun tmr tm hr27 hs => ?_
        refine dg_val hs rfl rfl rfl rfl rfl fun tmr tm hr28 hs => ?_
        refine dg_val hs rfl rfl rfl rfl rfl fun tmr tm hr29 hs => ?_
        refine dg_val hs rfl rfl rfl rfl rfl fun tmr tm hr30 hs => ?_
        refine dg_val hs rfl rfl rfl rfl (o_bin rfl rfl (b_sub_i64 (z := ((k : Nat) : Int)) (by omega) (by omega) (by omega)) rfl) fun tmr tm hr31 hs => ?_
        refine dg_val hs rfl rfl rfl rfl (atk rfl rfl rfl rfl rfl) fun tmr tm hr32 hs => ?_
        refine dg_val hs rfl rfl rfl rfl ((rk.ext eZ3).load rfl rfl rfl) fun tmr tm hr33 hs => ?_
        refine dg_val hs rfl rfl rfl rfl rfl fun tmr tm hr34 hs => ?_
        refine dg_val hs rfl rfl rfl rfl rfl fun tmr tm hr35 hs => ?_
        refine dg_val hs rfl rfl rfl rfl (atk1 rfl rfl rfl rfl rfl) fun tmr tm hr36 hs => ?_
        refine dg_val hs rfl rfl rfl rfl ((rk1.ext eZ3).load rfl rfl rfl) fun tmr tm hr37 hs => ?_
        refine dg_call rfl hs rfl rfl rfl rfl rfl (F10_gives xk yk _ (hZ3e.ok hok)) ?_
        rintro _ h4 ⟨rfl, e4⟩ tmr tm hr38 hs
        have gZ4 : h4.get q = some (.cells 27 (cells (bestGo l).1) true) := (e4.old _ hqZ3).trans gZ3
        refine dg_val hs rfl rfl rfl rfl (o_bin (v := .bool false) rfl rfl (by simp [binA, intOp]; omega) rfl) fun tmr tm hr39 hs => ?_
        refine dg_val hs rfl rfl rfl rfl rfl fun tmr tm hr40 hs => ?_
        refine dg_val hs rfl rfl rfl rfl rfl fun tmr tm hr41 hs => ?_
        refine dg_nil (by repeat' (first | exact trivial | refine And.intro rfl ?_)) rfl ?_ ?_
        · repeat' (first | exact trivial | refine And.intro ?_ ?_)
          all_goals first
            | exact again_of hr0 rfl
            | exact again_of hr1 rfl
            | exact again_of hr2 rfl
            | exact again_of hr3 rfl
            | exact again_of hr4 rfl
            | exact again_of hr5 rfl
            | exact again_of hr6 rfl
            | exact again_of hr7 rfl
            | exact again_of hr8 (ati rfl rfl rfl rfl rfl)
            | exact again_of hr9 ((riZ.ext (by first | exact eZ3 | exact eZ3.trans e4)).load rfl rfl rfl)
            | exact again_of hr10 (o_loadN (n := 3) rfl rfl rfl (by assumption) (Nat.le_refl 3))
            | exact again_of hr11 (on rfl rfl)
            | exact again_of hr9 (riZ.load rfl rfl rfl)
            | exact again_of hr12 rfl
            | exact again_of hr13 rfl
            | exact again_of hr14 rfl
            | exact again_of hr15 (o_loadN (n := 3) rfl rfl rfl (by assumption) (Nat.le_refl 3))
            | exact again_of hr16 rfl
            | exact again_of hr17 rfl
            | exact again_of hr18 (ati rfl rfl rfl rfl rfl)
            | exact again_of hr19 ((riZ.ext (by first | exact eZ3 | exact eZ3.trans e4)).load rfl rfl rfl)
            | exact again_of hr19 (riZ.load rfl rfl rfl)
            | exact again_of hr21 rfl
            | exact again_of hr22 rfl
            | exact again_of hr23 rfl
            | exact again_of hr24 rfl
            | exact again_of hr25 rfl
            | exact again_of hr26 rfl
            | exact again_of hr27 (o_bin (v := .bool true) rfl rfl (by simp [binA, intOp]) rfl)
            | exact again_of hr28 rfl
            | exact again_of hr29 rfl
            | exact again_of hr30 rfl
            | exact again_of hr31 (o_bin rfl rfl (b_sub_i64 (z := ((k : Nat) : Int)) (by omega) (by omega) (by omega)) rfl)
            | exact again_of hr32 (atk rfl rfl rfl rfl rfl)
            | exact again_of hr33 ((rk.ext (eZ3.trans e4)).load rfl rfl rfl)
            | exact again_of hr33 ((rk.ext eZ3).load rfl rfl rfl)
            | exact again_of hr34 rfl
            | exact again_of hr35 rfl
            | exact again_of hr36 (atk1 rfl rfl rfl rfl rfl)
            | exact again_of hr37 ((rk1.ext (eZ3.trans e4)).load rfl rfl rfl)
            | exact again_of hr37 ((rk1.ext eZ3).load rfl rfl rfl)
            | exact again_of hr39 (o_bin (v := .bool false) rfl rfl (by simp [binA, intOp]; omega) rfl)
            | exact again_of hr40 rfl
            | exact again_of hr41 rfl
        exact rest _ ⟨tm, h4, rfl, hZ3e.trans e4, Nat.lt_of_lt_of_le hqZ3 e4.nx, gZ4, hvZ.ext (eZ3.trans e4), hs.cons rfl (hs.cons rfl (hs.cons rfl (hs.cons rfl (hs.cons rfl (hs.cons rfl (Sees.nil _))))))⟩
    · rw [hcb] at hs
      have hcc : compareN (bestGo l).1 y = 1 := by omega
      cases i with
      | zero =>
        refine dg_val hs rfl rfl rfl rfl rfl fun tmr tm hr0 hs => ?_
        refine dg_val hs rfl rfl rfl rfl rfl fun tmr tm hr1 hs => ?_
        refine dg_val hs rfl rfl rfl rfl rfl fun tmr tm hr2 hs => ?_
        refine dg_val hs rfl rfl rfl rfl rfl fun tmr tm hr3 hs => ?_
        refine dg_val hs rfl rfl rfl rfl rfl fun tmr tm hr4 hs => ?_
        refine dg_val hs rfl rfl rfl rfl rfl fun tmr tm hr5 hs => ?_
        refine dg_no hs rfl rfl rfl fun tmr tm _ hs => ?_
        refine dg_no hs rfl rfl rfl fun tmr tm _ hs => ?_
        refine dg_no hs rfl rfl rfl fun tmr tm _ hs => ?_
        refine dg_no hs rfl rfl rfl fun tmr tm _ hs => ?_
        refine dg_no hs rfl rfl rfl fun tmr tm _ hs => ?_
        refine dg_no hs rfl rfl rfl fun tmr tm _ hs => ?_
        refine dg_val hs rfl rfl rfl rfl rfl fun tmr tm hr12 hs => ?_
        refine dg_val hs rfl rfl rfl rfl rfl fun tmr tm hr13 hs => ?_
        refine dg_val hs rfl rfl rfl rfl rfl fun tmr tm hr14 hs => ?_
        refine dg_val hs rfl rfl rfl rfl (o_loadN (n := 3) rfl rfl rfl gZ (Nat.le_refl 3)) fun tmr tm hr15 hs => ?_
        refine dg_val hs rfl rfl rfl rfl rfl fun tmr tm hr16 hs => ?_
        refine dg_val hs rfl rfl rfl rfl rfl fun tmr tm hr17 hs => ?_
        refine dg_val hs rfl rfl rfl rfl (ati rfl rfl rfl rfl rfl) fun tmr tm hr18 hs => ?_
        refine dg_val hs rfl rfl rfl rfl (riZ.load rfl rfl rfl) fun tmr tm hr19 hs => ?_
        refine dg_call rfl hs rfl rfl rfl rfl rfl (F10_eq (bestGo l).1 y _ (hZe.ok hok) hcc) ?_
        rintro _ h3 ⟨rfl, eZ3⟩ tmr tm hr20 hs
        have gZ3 : h3.get q = some (.cells 27 (cells (bestGo l).1) true) := (eZ3.old _ hqZ).trans gZ
        have hqZ3 : q < h3.next := Nat.lt_of_lt_of_le hqZ eZ3.nx
        have hZ3e := hZe.trans eZ3
        refine dg_val hs rfl rfl rfl rfl rfl fun tmr tm hr21 hs => ?_
        refine dg_val hs rfl rfl rfl rfl rfl fun tmr tm hr22 hs => ?_
        refine dg_val hs rfl rfl rfl rfl rfl fun tmr tm hr23 hs => ?_
        refine dg_val hs rfl rfl rfl rfl rfl fun tmr tm hr24 hs => ?_
        refine dg_val hs rfl rfl rfl rfl rfl fun tmr tm hr25 hs => ?_
        refine dg_val hs rfl rfl rfl rfl rfl fun tmr tm hr26 hs => ?_
        refine dg_val hs rfl rfl rfl rfl rfl fun tmr tm hr27 hs => ?_
        refine dg_val hs rfl rfl rfl rfl rfl fun tmr tm hr28 hs => ?_
        refine dg_no hs rfl rfl rfl fun tmr tm _ hs => ?_
        refine dg_no hs rfl rfl rfl fun tmr tm _ hs => ?_
        refine dg_no hs rfl rfl rfl fun tmr tm _ hs => ?_
        refine dg_no hs rfl rfl rfl fun tmr tm _ hs => ?_
        refine dg_no hs rfl rfl rfl fun tmr tm _ hs => ?_
        refine dg_no hs rfl rfl rfl fun tmr tm _ hs => ?_
        refine dg_no hs rfl rfl rfl fun tmr tm _ hs => ?_
        refine dg_no hs rfl rfl rfl fun tmr tm _ hs => ?_
        refine dg_no hs rfl rfl rfl fun tmr tm _ hs => ?_
        refine dg_no hs rfl rfl rfl fun tmr tm _ hs => ?_
        refine dg_no hs rfl rfl rfl fun tmr tm _ hs => ?_
        have e4 := Ext.refl h3
        have gZ4 := gZ3
        refine dg_val hs rfl rfl rfl rfl rfl fun tmr tm hr40 hs => ?_
        refine dg_val hs rfl rfl rfl rfl rfl fun tmr tm hr41 hs => ?_
        refine dg_nil (by repeat' (first | exact trivial | refine And.intro rfl ?_)) rfl ?_ ?_
        · repeat' (first | exact trivial | refine And.intro ?_ ?_)
          all_goals first
            | exact again_of hr0 rfl
            | exact again_of hr1 rfl
            | exact again_of hr2 rfl
            | exact again_of hr3 rfl
            | exact again_of hr4 rfl
            | exact again_of hr5 rfl
            | exact again_of hr12 rfl
            | exact again_of hr13 rfl
            | exact again_of hr14 rfl
            | exact again_of hr15 (o_loadN (n := 3) rfl rfl rfl (by assumption) (Nat.le_refl 3))
            | exact again_of hr16 rfl
            | exact again_of hr17 rfl
            | exact again_of hr18 (ati rfl rfl rfl rfl rfl)
            | exact again_of hr19 ((riZ.ext (by first | exact eZ3 | exact eZ3.trans e4)).load rfl rfl rfl)
            | exact again_of hr19 (riZ.load rfl rfl rfl)
            | exact again_of hr21 rfl
            | exact again_of hr22 rfl
            | exact again_of hr23 rfl
            | exact again_of hr24 rfl
            | exact again_of hr25 rfl
            | exact again_of hr26 rfl
            | exact again_of hr27 rfl
            | exact again_of hr28 rfl
            | exact again_of hr40 rfl
            | exact again_of hr41 rfl
        exact rest _ ⟨tm, h3, rfl, hZ3e.trans e4, Nat.lt_of_lt_of_le hqZ3 e4.nx, gZ4, hvZ.ext (eZ3.trans e4), hs.cons rfl (hs.cons rfl (hs.cons rfl (hs.cons rfl (hs.cons rfl (hs.cons rfl (Sees.nil _))))))⟩
      | succ k =>
        obtain ⟨bk, ok, rk, atk⟩ := hvZ.at k (by omega)
        obtain ⟨bk1, ok1, rk1, atk1⟩ := hvZ.at (k + 1) (by omega)
        have hk0 : k < (sortC l).length := by rw [sortC_len]; omega
        have hk1 : k + 1 < (sortC l).length := by rw [sortC_len]; omega
        have exk : (sortC l)[k]? = some (sortC l)[k] := by simp [hk0]
        have eyk : (sortC l)[k + 1]? = some (sortC l)[k + 1] := by simp [hk1]
        generalize (sortC l)[k] = xk at exk
        generalize (sortC l)[k + 1] = yk at eyk
        have hnl := sortC_next exk eyk
        rw [cndCells_at _ _ _ exk] at rk
        rw [cndCells_at _ _ _ eyk] at rk1
        refine dg_val hs rfl rfl rfl rfl rfl fun tmr tm hr0 hs => ?_
        refine dg_val hs rfl rfl rfl rfl rfl fun tmr tm hr1 hs => ?_
        refine dg_val hs rfl rfl rfl rfl rfl fun tmr tm hr2 hs => ?_
        refine dg_val hs rfl rfl rfl rfl rfl fun tmr tm hr3 hs => ?_
        refine dg_val hs rfl rfl rfl rfl rfl fun tmr tm hr4 hs => ?_
        refine dg_val hs rfl rfl rfl rfl rfl fun tmr tm hr5 hs => ?_
        refine dg_no hs rfl rfl rfl fun tmr tm _ hs => ?_
        refine dg_no hs rfl rfl rfl fun tmr tm _ hs => ?_
        refine dg_no hs rfl rfl rfl fun tmr tm _ hs => ?_
        refine dg_no hs rfl rfl rfl fun tmr tm _ hs => ?_
        refine dg_no hs rfl rfl rfl fun tmr tm _ hs => ?_
        refine dg_no hs rfl rfl rfl fun tmr tm _ hs => ?_
        refine dg_val hs rfl rfl rfl rfl rfl fun tmr tm hr12 hs => ?_
        refine dg_val hs rfl rfl rfl rfl rfl fun tmr tm hr13 hs => ?_
        refine dg_val hs rfl rfl rfl rfl rfl fun tmr tm hr14 hs => ?_
        refine dg_val hs rfl rfl rfl rfl (o_loadN (n := 3) rfl rfl rfl gZ (Nat.le_refl 3)) fun tmr tm hr15 hs => ?_
        refine dg_val hs rfl rfl rfl rfl rfl fun tmr tm hr16 hs => ?_
        refine dg_val hs rfl rfl rfl rfl rfl fun tmr tm hr17 hs => ?_
        refine dg_val hs rfl rfl rfl rfl (ati rfl rfl rfl rfl rfl) fun tmr tm hr18 hs => ?_
        refine dg_val hs rfl rfl rfl rfl (riZ.load rfl rfl rfl) fun tmr tm hr19 hs => ?_
        refine dg_call rfl hs rfl rfl rfl rfl rfl (F10_eq (bestGo l).1 y _ (hZe.ok hok) hcc) ?_
        rintro _ h3 ⟨rfl, eZ3⟩ tmr tm hr20 hs
        have gZ3 : h3.get q = some (.cells 27 (cells (bestGo l).1) true) := (eZ3.old _ hqZ).trans gZ
        have hqZ3 : q < h3.next := Nat.lt_of_lt_of_le hqZ eZ3.nx
        have hZ3e := hZe.trans eZ3
        refine dg_val hs rfl rfl rfl rfl rfl fun tmr tm hr21 hs => ?_
        refine dg_val hs rfl rfl rfl rfl rfl fun tmr tm hr22 hs => ?_
        refine dg_val hs rfl rfl rfl rfl rfl fun tmr tm hr23 hs => ?_
        refine dg_val hs rfl rfl rfl rfl rfl fun tmr tm hr24 hs => ?_
        refine dg_val hs rfl rfl rfl rfl rfl fun tmr tm hr25 hs => ?_
        refine dg_val hs rfl rfl rfl rfl rfl fun tmr tm hr26 hs => ?_
        refine dg_val hs rfl rfl rfl rfl (o_bin (v := .bool true) rfl rfl (by simp [binA, intOp]) rfl) fun tmr tm hr27 hs => ?_
        refine dg_val hs rfl rfl rfl rfl rfl fun tmr tm hr28 hs => ?_
        refine dg_val hs rfl rfl rfl rfl rfl fun tmr tm hr29 hs => ?_
        refine dg_val hs rfl rfl rfl rfl rfl fun tmr tm hr30 hs => ?_
        refine dg_val hs rfl rfl rfl rfl (o_bin rfl rfl (b_sub_i64 (z := ((k : Nat) : Int)) (by omega) (by omega) (by omega)) rfl) fun tmr tm hr31 hs => ?_
        refine dg_val hs rfl rfl rfl rfl (atk rfl rfl rfl rfl rfl) fun tmr tm hr32 hs => ?_
        refine dg_val hs rfl rfl rfl rfl ((rk.ext eZ3).load rfl rfl rfl) fun tmr tm hr33 hs => ?_
        refine dg_val hs rfl rfl rfl rfl rfl fun tmr tm hr34 hs => ?_
        refine dg_val hs rfl rfl rfl rfl rfl fun tmr tm hr35 hs => ?_
        refine dg_val hs rfl rfl rfl rfl (atk1 rfl rfl rfl rfl rfl) fun tmr tm hr36 hs => ?_
        refine dg_val hs rfl rfl rfl rfl ((rk1.ext eZ3).load rfl rfl rfl) fun tmr tm hr37 hs => ?_
        refine dg_call rfl hs rfl rfl rfl rfl rfl (F10_gives xk yk _ (hZ3e.ok hok)) ?_
        rintro _ h4 ⟨rfl, e4⟩ tmr tm hr38 hs
        have gZ4 : h4.get q = some (.cells 27 (cells (bestGo l).1) true) := (e4.old _ hqZ3).trans gZ3
        refine dg_val hs rfl rfl rfl rfl (o_bin (v := .bool false) rfl rfl (by simp [binA, intOp]; omega) rfl) fun tmr tm hr39 hs => ?_
        refine dg_val hs rfl rfl rfl rfl rfl fun tmr tm hr40 hs => ?_
        refine dg_val hs rfl rfl rfl rfl rfl fun tmr tm hr41 hs => ?_
        refine dg_nil (by repeat' (first | exact trivial | refine And.intro rfl ?_)) rfl ?_ ?_
        · repeat' (first | exact trivial | refine And.intro ?_ ?_)
          all_goals first
            | exact again_of hr0 rfl
            | exact again_of hr1 rfl
            | exact again_of hr2 rfl
            | exact again_of hr3 rfl
            | exact again_of hr4 rfl
            | exact again_of hr5 rfl
            | exact again_of hr12 rfl
            | exact again_of hr13 rfl
            | exact again_of hr14 rfl
            | exact again_of hr15 (o_loadN (n := 3) rfl rfl rfl (by assumption) (Nat.le_refl 3))
            | exact again_of hr16 rfl
            | exact again_of hr17 rfl
            | exact again_of hr18 (ati rfl rfl rfl rfl rfl)
            | exact again_of hr19 ((riZ.ext (by first | exact eZ3 | exact eZ3.trans e4)).load rfl rfl rfl)
            | exact again_of hr19 (riZ.load rfl rfl rfl)
            | exact again_of hr21 rfl
            | exact again_of hr22 rfl
            | exact again_of hr23 rfl
            | exact again_of hr24 rfl
            | exact again_of hr25 rfl
            | exact again_of hr26 rfl
            | exact again_of hr27 (o_bin (v := .bool true) rfl rfl (by simp [binA, intOp]) rfl)
            | exact again_of hr28 rfl
            | exact again_of hr29 rfl
            | exact again_of hr30 rfl
            | exact again_of hr31 (o_bin rfl rfl (b_sub_i64 (z := ((k : Nat) : Int)) (by omega) (by omega) (by omega)) rfl)
            | exact again_of hr32 (atk rfl rfl rfl rfl rfl)
            | exact again_of hr33 ((rk.ext (eZ3.trans e4)).load rfl rfl rfl)
            | exact again_of hr33 ((rk.ext eZ3).load rfl rfl rfl)
            | exact again_of hr34 rfl
            | exact again_of hr35 rfl
            | exact again_of hr36 (atk1 rfl rfl rfl rfl rfl)
            | exact again_of hr37 ((rk1.ext (eZ3.trans e4)).load rfl rfl rfl)
            | exact again_of hr37 ((rk1.ext eZ3).load rfl rfl rfl)
            | exact again_of hr39 (o_bin (v := .bool false) rfl rfl (by simp [binA, intOp]; omega) rfl)
            | exact again_of hr40 rfl
            | exact again_of hr41 rfl
        exact rest _ ⟨tm, h4, rfl, hZ3e.trans e4, Nat.lt_of_lt_of_le hqZ3 e4.nx, gZ4, hvZ.ext (eZ3.trans e4), hs.cons rfl (hs.cons rfl (hs.cons rfl (hs.cons rfl (hs.cons rfl (hs.cons rfl (Sees.nil _))))))⟩
  · have hge : i = l.length := by simp at hge; omega
    subst hge
    refine go_exit rfl (go_seq (go_region ?_))
    refine ops_val hs rfl rfl rfl rfl fun tm hs => ?_
    refine ops_val hs rfl rfl rfl rfl fun tm hs => ?_
    refine ops_nil (go_ret (ends_ret hs rfl ⟨?_, he⟩))
    have hm : (bestGo l).1 ∈ l := by
      cases l with
      | nil => exact absurd rfl lne
      | cons c k => exact maxGo_mem k c
    have ha : ((l.take l.length).any fun x => eqC x (bestGo l).1) = true := by
      rw [List.take_length, List.any_eq_true]
      exact ⟨_, hm, eqC_iff.mpr rfl⟩
    show AV.bool _ = _
    rw [ha]

end Go.Proofs.Ytebcbfpehalmjaa
