/- What the functions of this part answer at any input, told by the rules over the evaluator (EvWp) or by the kit's contracts. Conditions: those that each theorem states. -/
import Derived.Test.YtcngecdjmmjlhaaGreatHurt
open Go Ev
namespace Go.Proofs.YtcngecdjmmjlhaaGreat
set_option maxRecDepth 10000
set_option linter.unusedVariables false
set_option linter.unusedSimpArgs false
set_option maxHeartbeats 4000000
/-! ### slices of strings -/
section
variable {T : Tabs} {ρ : Operand → Option AV} {dst : Option Tmp} {ty : TypeId} {pos : String} {aft : Array Edge} {gd : Option (Nat × Bool)} {t : TypeId} {x y z : Operand} {h : Heap} {s : List UInt8} {k n : Nat}
theorem o_sub_to (hx : ρ x = some (.str s)) (hy : ρ y = some (.int .i64 k)) (ht : T.und t = some .string) (hk : k ≤ s.length) :
    opA T ρ ⟨dst, .slice t x none (some y) none, ty, pos, aft, gd⟩ h = .val (.str (s.take k)) h := by
  have hk1 : (k : Int) ≤ s.length := by omega
  simp [opA, optOp, hx, hy, sliceA, ht, boundsA, mxA, hiA, loA, boundA, hk, rv, cut]
theorem o_sub_from (hx : ρ x = some (.str s)) (hy : ρ y = some (.int .i64 k)) (ht : T.und t = some .string) (hk : k ≤ s.length) :
    opA T ρ ⟨dst, .slice t x (some y) none none, ty, pos, aft, gd⟩ h = .val (.str (s.drop k)) h := by
  have hk1 : (k : Int) ≤ s.length := by omega
  have e : (s.drop k).take (s.length - k) = s.drop k := List.take_of_length_le (by rw [List.length_drop]; exact Nat.le_refl _)
  simp [opA, optOp, hx, hy, sliceA, ht, boundsA, mxA, hiA, loA, boundA, hk, rv, cut, e]
theorem o_sub_both (hx : ρ x = some (.str s)) (hy : ρ y = some (.int .i64 k)) (hz : ρ z = some (.int .i64 (k + n : Nat))) (ht : T.und t = some .string) (hk : k + n ≤ s.length) :
    opA T ρ ⟨dst, .slice t x (some y) (some z) none, ty, pos, aft, gd⟩ h = .val (.str ((s.drop k).take n)) h := by
  have hk1 : ((k + n : Nat) : Int) ≤ s.length := by omega
  have hk2 : (k : Int) ≤ ((k + n : Nat) : Int) := by omega
  have hb : boundsA s.length s.length (some (.int .i64 k)) (some (.int .i64 ((k + n : Nat) : Int))) none = some (k, k + n, s.length) := by
    simp only [boundsA, mxA, hiA, loA, boundA]
    rw [if_pos ⟨by omega, hk1⟩]
    simp only [Int.toNat_natCast]
    rw [if_pos ⟨by omega, hk2⟩]
  simp only [opA, optOp, hx, hy, hz, sliceA, ht, hb, cut, rv, Nat.add_sub_cancel_left]
theorem b_eqs {a b : List UInt8} (e : a = b) : binA T .eql t (.str a) (.str b) = some (.bool true) := by
  show some (AV.bool (bytesEq a b)) = _
  rw [bytesEq_iff.mpr e]
end
/-! ### the plain law -/
theorem hurtL_len (img b : List UInt8) (k : Nat) (hk : k ≤ img.length) : (hurtL img b k).length = img.length := by
  unfold hurtL
  exact over_length _ _ _ (by rw [List.length_take]; omega)
theorem hurtL_eq (img b : List UInt8) (k : Nat) : hurtL img b k = img.take k ++ (b.take (img.length - k) ++ img.drop (k + min (img.length - k) b.length)) := by
  unfold hurtL over
  rw [List.length_take, List.append_assoc]
theorem hurtL_head (img b : List UInt8) (k : Nat) (hk : k ≤ img.length) : (hurtL img b k).take k = img.take k := by
  rw [hurtL_eq, List.take_left' (by rw [List.length_take]; omega)]
theorem hurtL_mid (img b : List UInt8) (k n : Nat) (hk : k ≤ img.length) (hn : n = min (img.length - k) b.length) : ((hurtL img b k).drop k).take n = b.take n := by
  rw [hurtL_eq, List.drop_left' (by rw [List.length_take]; omega)]
  have e : b.take (img.length - k) = b.take n := by
    rw [hn]
    by_cases h : b.length ≤ img.length - k
    · rw [Nat.min_eq_right h, List.take_of_length_le h, List.take_of_length_le (Nat.le_refl _)]
    · rw [Nat.min_eq_left (by omega)]
  rw [e, List.take_left' (by rw [List.length_take]; omega)]
theorem hurtL_tail (img b : List UInt8) (k n : Nat) (hk : k ≤ img.length) (hn : n = min (img.length - k) b.length) : (hurtL img b k).drop (k + n) = img.drop (k + n) := by
  rw [hurtL_eq, ← List.append_assoc, ← hn, List.drop_left' (by rw [List.length_append, List.length_take, List.length_take]; omega)]
theorem hurtL_back (x img : List UInt8) (k n : Nat) (hk : k + n ≤ img.length) (hx : x.length = img.length) (h1 : x.take k = img.take k) (h2 : x.drop (k + n) = img.drop (k + n)) : hurtL x ((img.drop k).take n) k = img := by
  have hl : ((img.drop k).take n).length = n := by rw [List.length_take, List.length_drop]; omega
  have e : ((img.drop k).take n).take (x.length - k) = (img.drop k).take n := List.take_of_length_le (by rw [hl]; omega)
  rw [hurtL_eq, e, hl, Nat.min_eq_right (by omega), h1, h2]
  have e2 : (img.drop k).take n ++ img.drop (k + n) = img.drop k := by
    rw [← List.drop_drop, List.take_append_drop]
  rw [e2, List.take_append_drop]
/-! ### the walk -/
theorem light_gives (s : List UInt8) (h : Heap) : Gives TD 5 [.str s] h (fun v h' => v = .bool (decide ((s.length : Int) ≤ 5000)) ∧ h' = h) := by
  refine call_of rfl rfl rfl fun tm hs => ?_
  refine go_seq (go_region ?_)
  refine ops_val hs rfl rfl rfl rfl fun tm hs => ?_
  refine ops_nil (go_seq (go_region ?_))
  refine ops_val hs rfl rfl rfl rfl fun tm hs => ?_
  refine ops_val hs rfl rfl rfl rfl fun tm hs => ?_
  refine ops_val hs rfl rfl rfl rfl fun tm hs => ?_
  refine ops_val hs rfl rfl rfl rfl fun tm hs => ?_
  exact ops_nil (go_ret (ends_ret hs rfl ⟨rfl, rfl⟩))
theorem pick_gives (a : Int) (m : Nat) (h : Heap) (ha : -9223372036854775808 ≤ a ∧ a < 9223372036854775808) (hm : 0 < m) (hb : m < 9223372036854775808) : Gives TD 7 [.int .i64 a, .int .i64 m] h (fun v h' => v = .int .i64 (pickN a m : Nat) ∧ h' = h) := by
  have hr1 := Int.tmod_lt_of_pos a (show (0 : Int) < m by omega)
  have hr2 := Int.lt_tmod_of_pos a (show (0 : Int) < m by omega)
  have hk := pickN_lt a hm
  have hki := pickN_int a hm
  refine call_of rfl rfl rfl fun tm hs => ?_
  refine go_seq (go_region ?_)
  refine ops_val hs rfl rfl rfl rfl fun tm hs => ?_
  refine ops_nil (go_seq (go_seq (go_region ?_)))
  refine ops_val hs rfl rfl rfl rfl fun tm hs => ?_
  refine ops_val hs rfl rfl rfl rfl fun tm hs => ?_
  refine ops_nil (go_if hs rfl (fun hc => ?_) (fun _ => ?_))
  · exfalso; simp at hc; omega
  refine go_skip (go_seq (go_region ?_))
  refine ops_val hs rfl rfl rfl rfl fun tm hs => ?_
  refine ops_val hs rfl rfl rfl rfl fun tm hs => ?_
  refine ops_val hs rfl rfl (o_bin (v := .int .i64 (a.tmod m)) rfl rfl (by simp [binA, intOp]; omega) rfl) rfl fun tm hs => ?_
  refine ops_val hs rfl rfl rfl rfl fun tm hs => ?_
  refine ops_nil (go_seq (go_seq (go_region ?_)))
  refine ops_val hs rfl rfl rfl rfl fun tm hs => ?_
  refine ops_val hs rfl rfl rfl rfl fun tm hs => ?_
  refine ops_nil (go_if hs rfl (fun hc => ?_) (fun hc => ?_))
  · have hc : a.tmod m < 0 := by simpa using hc
    rw [if_pos hc] at hki
    refine go_region ?_
    refine ops_val hs rfl rfl rfl rfl fun tm hs => ?_
    refine ops_val hs rfl rfl rfl rfl fun tm hs => ?_
    refine ops_val hs rfl rfl (o_bin rfl rfl (b_add_i64 (z := ((pickN a m : Nat) : Int)) hki.symm (by omega) (by omega)) rfl) rfl fun tm hs => ?_
    refine ops_val hs rfl rfl rfl rfl fun tm hs => ?_
    refine ops_nil (go_seq (go_region ?_))
    refine ops_val hs rfl rfl rfl rfl fun tm hs => ?_
    refine ops_val hs rfl rfl rfl rfl fun tm hs => ?_
    exact ops_nil (go_ret (ends_ret hs rfl ⟨rfl, rfl⟩))
  · have hc : ¬ a.tmod m < 0 := by simpa using hc
    rw [if_neg hc] at hki
    refine go_skip (go_seq (go_region ?_))
    refine ops_val hs rfl rfl rfl rfl fun tm hs => ?_
    refine ops_val hs rfl rfl rfl rfl fun tm hs => ?_
    refine ops_nil (go_ret (ends_ret hs rfl ⟨?_, rfl⟩))
    show AV.int .i64 _ = _
    rw [hki]
theorem lives_gives (h : Heap) : Gives TD 4 [] h (fun v h' => v = .bool true ∧ h' = h) := by
  have hs : TD.sm 4 [] h = some (.bool true, h) := rfl
  refine Wp.now (r := .ret (.bool true) h) (fun rec => ?_) ⟨_, _, rfl, rfl, rfl⟩
  simp only [Ev.step, hs]
theorem same_gives (img b : List UInt8) (a : Int) (h : Heap) (hok : h.ok) (ha : -9223372036854775808 ≤ a ∧ a < 9223372036854775808) (hb0 : b.length < 9223372036854775808) (hi0 : img.length < 9223372036854775808) :
    Gives TD 3 [.str img, .int .i64 a, .str b] h (fun v h' => v = .bool true ∧ Ext h h') := by
  refine call_of rfl rfl rfl fun tm hs => ?_
  refine go_seq (go_region ?_)
  refine ops_val hs rfl rfl rfl rfl fun tm hs => ?_
  refine ops_nil (go_seq (go_seq (go_region ?_)))
  refine ops_call hs rfl rfl rfl rfl (lives_gives h) ?_
  rintro _ h' ⟨rfl, he'⟩ tm hs
  subst h'
  refine ops_val hs rfl rfl rfl rfl fun tm hs => ?_
  refine ops_nil (go_if hs rfl (fun hc => by cases hc) (fun _ => ?_))
  refine go_skip (go_seq (go_seq (go_region ?_)))
  refine ops_val hs rfl rfl rfl rfl fun tm hs => ?_
  refine ops_call hs rfl rfl rfl rfl (light_gives img h) ?_
  rintro _ h' ⟨rfl, he'⟩ tm hs
  subst h'
  by_cases hi : img.length ≤ 5000
  case neg =>
    rw [show decide ((img.length : Int) ≤ 5000) = false by simp; omega] at hs
    refine ops_val hs rfl rfl rfl rfl fun tm hs => ?_
    refine ops_val hs rfl rfl rfl rfl fun tm hs => ?_
    refine ops_no hs rfl rfl rfl fun tm hs => ?_
    refine ops_no hs rfl rfl rfl fun tm hs => ?_
    refine ops_no hs rfl rfl rfl fun tm hs => ?_
    refine ops_val hs rfl rfl rfl rfl fun tm hs => ?_
    refine ops_nil (go_if hs rfl (fun _ => ?_) (fun hc => by cases hc))
    refine go_seq (go_region ?_)
    refine ops_val hs rfl rfl rfl rfl fun tm hs => ?_
    exact ops_nil (go_ret (ends_ret hs rfl ⟨rfl, Ext.refl _⟩))
  rw [show decide ((img.length : Int) ≤ 5000) = true by simp; omega] at hs
  refine ops_val hs rfl rfl rfl rfl fun tm hs => ?_
  refine ops_val hs rfl rfl rfl rfl fun tm hs => ?_
  refine ops_val hs rfl rfl rfl rfl fun tm hs => ?_
  refine ops_val hs rfl rfl rfl rfl fun tm hs => ?_
  refine ops_val hs rfl rfl rfl rfl fun tm hs => ?_
  refine ops_val hs rfl rfl rfl rfl fun tm hs => ?_
  refine ops_nil (go_if hs rfl (fun hc => ?_) (fun hc => ?_))
  · refine go_seq (go_region ?_)
    refine ops_val hs rfl rfl rfl rfl fun tm hs => ?_
    exact ops_nil (go_ret (ends_ret hs rfl ⟨rfl, Ext.refl _⟩))
  have hb : b.length ≤ 5000 := by simp at hc; omega
  refine go_skip (go_seq (go_region ?_))
  refine ops_val hs rfl rfl rfl rfl fun tm hs => ?_
  refine ops_val hs rfl rfl rfl rfl fun tm hs => ?_
  refine ops_val hs rfl rfl rfl rfl fun tm hs => ?_
  refine ops_call hs rfl rfl rfl rfl (hurt_gives img b a h ha (by omega)) ?_
  rintro _ h1 ⟨rfl, e1⟩ tm hs
  refine ops_val hs rfl rfl rfl rfl fun tm hs => ?_
  refine ops_nil (go_seq (go_seq (go_region ?_)))
  refine ops_val hs rfl rfl rfl rfl fun tm hs => ?_
  refine ops_val hs rfl rfl rfl rfl fun tm hs => ?_
  refine ops_val hs rfl rfl rfl rfl fun tm hs => ?_
  refine ops_nil (go_if hs rfl (fun hc => ?_) (fun hc => ?_))
  · have hc : img = [] := by simpa using hc
    subst hc
    refine go_seq (go_region ?_)
    refine ops_val hs rfl rfl rfl rfl fun tm hs => ?_
    refine ops_val hs rfl rfl rfl rfl fun tm hs => ?_
    refine ops_val hs rfl rfl rfl rfl fun tm hs => ?_
    exact ops_nil (go_ret (ends_ret hs rfl ⟨rfl, e1⟩))
  have hne : img ≠ [] := by intro e; simp [e] at hc
  have hl : 0 < img.length := List.length_pos_iff.mpr hne
  rw [if_neg hne] at hs
  refine go_skip (go_seq (go_region ?_))
  refine ops_val hs rfl rfl rfl rfl fun tm hs => ?_
  refine ops_val hs rfl rfl rfl rfl fun tm hs => ?_
  refine ops_val hs rfl rfl rfl rfl fun tm hs => ?_
  refine ops_call hs rfl rfl rfl rfl (pick_gives a img.length h1 ha hl (by omega)) ?_
  rintro _ h' ⟨rfl, he'⟩ tm hs
  subst h'
  refine ops_val hs rfl rfl rfl rfl fun tm hs => ?_
  have hk := pickN_lt a hl
  generalize hkdef : pickN a img.length = k at hs hk
  have hmin : (if ((img.length : Int) - k) < (b.length : Int) then ((img.length : Int) - k) else (b.length : Int)) = ((min (img.length - k) b.length : Nat) : Int) := by
    by_cases h2 : img.length - k < b.length
    · rw [if_pos (by omega), Nat.min_eq_left (by omega)]; omega
    · rw [if_neg (by omega), Nat.min_eq_right (by omega)]
  refine ops_nil (go_seq (go_region ?_))
  refine ops_val hs rfl rfl rfl rfl fun tm hs => ?_
  refine ops_val hs rfl rfl rfl rfl fun tm hs => ?_
  refine ops_val hs rfl rfl rfl rfl fun tm hs => ?_
  refine ops_val hs rfl rfl rfl rfl fun tm hs => ?_
  refine ops_val hs rfl rfl rfl rfl fun tm hs => ?_
  refine ops_val hs rfl rfl (o_bin rfl rfl (b_sub_i64 (z := (img.length : Int) - k) rfl (by omega) (by omega)) rfl) rfl fun tm hs => ?_
  refine ops_val hs rfl rfl rfl rfl fun tm hs => ?_
  refine ops_val hs rfl rfl rfl rfl fun tm hs => ?_
  rw [hmin] at hs
  generalize hn : min (img.length - k) b.length = n at hs
  have hkn : k + n ≤ img.length := by omega
  have hnb : n ≤ b.length := by omega
  have hxl : (hurtL img b k).length = img.length := hurtL_len img b k (by omega)
  have hhead := hurtL_head img b k (by omega)
  have hmid := hurtL_mid img b k n (by omega) hn.symm
  have htail := hurtL_tail img b k n (by omega) hn.symm
  have hback1 : hurtL img ((img.drop k).take n) k = img := hurtL_back img img k n hkn rfl rfl rfl
  have hback2 : hurtL (hurtL img b k) ((img.drop k).take n) k = img := hurtL_back _ img k n hkn hxl hhead htail
  generalize hurtL img b k = x at hs hxl hhead hmid htail hback2
  have hxne : x ≠ [] := by intro e; rw [e] at hxl; simp at hxl; omega
  refine ops_nil (go_seq ?_)
  have hok1 := e1.ok hok
  refine go_drawn rfl hok1 ?_
  have eX : Ext h1 { h1 with next := h1.next + 66 } := ⟨Nat.le_add_right _ _, fun _ _ => rfl, fun _ x hb => hok1 x (by have : h1.next + 66 ≤ x := hb; omega)⟩
  show DG TD _ _ _ h1.next _ _ 0 tm (Heap.mk h1.t (h1.next + 66)) [] _
  generalize (Heap.mk h1.t (h1.next + 66)) = h2 at eX ⊢
  refine dg_val hs rfl rfl rfl rfl rfl fun tmr tm hr0 hs => ?_
  refine dg_val hs rfl rfl rfl rfl rfl fun tmr tm hr1 hs => ?_
  refine dg_val hs rfl rfl rfl rfl rfl fun tmr tm hr2 hs => ?_
  refine dg_val hs rfl rfl rfl rfl rfl fun tmr tm hr3 hs => ?_
  refine dg_val hs rfl rfl rfl rfl (o_bin (v := .bool true) rfl rfl (by simp [binA, intOp]; omega) rfl) fun tmr tm hr4 hs => ?_
  refine dg_val hs rfl rfl rfl rfl rfl fun tmr tm hr5 hs => ?_
  refine dg_val hs rfl rfl rfl rfl rfl fun tmr tm hr6 hs => ?_
  refine dg_val hs rfl rfl rfl rfl rfl fun tmr tm hr7 hs => ?_
  refine dg_val hs rfl rfl rfl rfl (o_sub_to rfl rfl rfl (by omega)) fun tmr tm hr8 hs => ?_
  refine dg_val hs rfl rfl rfl rfl rfl fun tmr tm hr9 hs => ?_
  refine dg_val hs rfl rfl rfl rfl rfl fun tmr tm hr10 hs => ?_
  refine dg_val hs rfl rfl rfl rfl (o_sub_to rfl rfl rfl (by omega)) fun tmr tm hr11 hs => ?_
  refine dg_val hs rfl rfl rfl rfl (o_bin rfl rfl (b_eqs hhead) rfl) fun tmr tm hr12 hs => ?_
  refine dg_val hs rfl rfl rfl rfl rfl fun tmr tm hr13 hs => ?_
  refine dg_val hs rfl rfl rfl rfl rfl fun tmr tm hr14 hs => ?_
  refine dg_val hs rfl rfl rfl rfl rfl fun tmr tm hr15 hs => ?_
  refine dg_val hs rfl rfl rfl rfl rfl fun tmr tm hr16 hs => ?_
  refine dg_val hs rfl rfl rfl rfl rfl fun tmr tm hr17 hs => ?_
  refine dg_val hs rfl rfl rfl rfl rfl fun tmr tm hr18 hs => ?_
  refine dg_val hs rfl rfl rfl rfl (o_bin rfl rfl (b_add_i64 (z := ((k + n : Nat) : Int)) (by push_cast; rfl) (by omega) (by omega)) rfl) fun tmr tm hr19 hs => ?_
  refine dg_val hs rfl rfl rfl rfl (o_sub_both rfl rfl rfl rfl (by omega)) fun tmr tm hr20 hs => ?_
  refine dg_val hs rfl rfl rfl rfl rfl fun tmr tm hr21 hs => ?_
  refine dg_val hs rfl rfl rfl rfl rfl fun tmr tm hr22 hs => ?_
  refine dg_val hs rfl rfl rfl rfl (o_sub_to rfl rfl rfl (by omega)) fun tmr tm hr23 hs => ?_
  refine dg_val hs rfl rfl rfl rfl (o_bin rfl rfl (b_eqs hmid) rfl) fun tmr tm hr24 hs => ?_
  refine dg_val hs rfl rfl rfl rfl rfl fun tmr tm hr25 hs => ?_
  refine dg_val hs rfl rfl rfl rfl rfl fun tmr tm hr26 hs => ?_
  refine dg_val hs rfl rfl rfl rfl rfl fun tmr tm hr27 hs => ?_
  refine dg_val hs rfl rfl rfl rfl rfl fun tmr tm hr28 hs => ?_
  refine dg_val hs rfl rfl rfl rfl rfl fun tmr tm hr29 hs => ?_
  refine dg_val hs rfl rfl rfl rfl (o_bin rfl rfl (b_add_i64 (z := ((k + n : Nat) : Int)) (by push_cast; rfl) (by omega) (by omega)) rfl) fun tmr tm hr30 hs => ?_
  refine dg_val hs rfl rfl rfl rfl (o_sub_from rfl rfl rfl (by omega)) fun tmr tm hr31 hs => ?_
  refine dg_val hs rfl rfl rfl rfl rfl fun tmr tm hr32 hs => ?_
  refine dg_val hs rfl rfl rfl rfl rfl fun tmr tm hr33 hs => ?_
  refine dg_val hs rfl rfl rfl rfl rfl fun tmr tm hr34 hs => ?_
  refine dg_val hs rfl rfl rfl rfl (o_bin rfl rfl (b_add_i64 (z := ((k + n : Nat) : Int)) (by push_cast; rfl) (by omega) (by omega)) rfl) fun tmr tm hr35 hs => ?_
  refine dg_val hs rfl rfl rfl rfl (o_sub_from rfl rfl rfl (by omega)) fun tmr tm hr36 hs => ?_
  refine dg_val hs rfl rfl rfl rfl (o_bin rfl rfl (b_eqs htail) rfl) fun tmr tm hr37 hs => ?_
  refine dg_val hs rfl rfl rfl rfl rfl fun tmr tm hr38 hs => ?_
  refine dg_val hs rfl rfl rfl rfl rfl fun tmr tm hr39 hs => ?_
  refine dg_val hs rfl rfl rfl rfl rfl fun tmr tm hr40 hs => ?_
  refine dg_val hs rfl rfl rfl rfl rfl fun tmr tm hr41 hs => ?_
  refine dg_val hs rfl rfl rfl rfl rfl fun tmr tm hr42 hs => ?_
  refine dg_val hs rfl rfl rfl rfl rfl fun tmr tm hr43 hs => ?_
  refine dg_val hs rfl rfl rfl rfl rfl fun tmr tm hr44 hs => ?_
  refine dg_val hs rfl rfl rfl rfl rfl fun tmr tm hr45 hs => ?_
  refine dg_val hs rfl rfl rfl rfl (o_bin rfl rfl (b_add_i64 (z := ((k + n : Nat) : Int)) (by push_cast; rfl) (by omega) (by omega)) rfl) fun tmr tm hr46 hs => ?_
  refine dg_val hs rfl rfl rfl rfl (o_sub_both rfl rfl rfl rfl (by omega)) fun tmr tm hr47 hs => ?_
  refine dg_call rfl hs rfl rfl rfl rfl rfl (hurt_gives img ((img.drop k).take n) a _ ha (by omega)) ?_
  rintro _ h3 ⟨rfl, e3⟩ tmr tm hr48 hs
  rw [if_neg hne, hkdef, hback1] at hs
  refine dg_val hs rfl rfl rfl rfl rfl fun tmr tm hr49 hs => ?_
  refine dg_val hs rfl rfl rfl rfl (o_bin rfl rfl (b_eqs rfl) rfl) fun tmr tm hr50 hs => ?_
  refine dg_val hs rfl rfl rfl rfl rfl fun tmr tm hr51 hs => ?_
  refine dg_val hs rfl rfl rfl rfl rfl fun tmr tm hr52 hs => ?_
  refine dg_val hs rfl rfl rfl rfl rfl fun tmr tm hr53 hs => ?_
  refine dg_val hs rfl rfl rfl rfl rfl fun tmr tm hr54 hs => ?_
  refine dg_val hs rfl rfl rfl rfl rfl fun tmr tm hr55 hs => ?_
  refine dg_val hs rfl rfl rfl rfl rfl fun tmr tm hr56 hs => ?_
  refine dg_val hs rfl rfl rfl rfl rfl fun tmr tm hr57 hs => ?_
  refine dg_val hs rfl rfl rfl rfl rfl fun tmr tm hr58 hs => ?_
  refine dg_val hs rfl rfl rfl rfl (o_bin rfl rfl (b_add_i64 (z := ((k + n : Nat) : Int)) (by push_cast; rfl) (by omega) (by omega)) rfl) fun tmr tm hr59 hs => ?_
  refine dg_val hs rfl rfl rfl rfl (o_sub_both rfl rfl rfl rfl (by omega)) fun tmr tm hr60 hs => ?_
  refine dg_call rfl hs rfl rfl rfl rfl rfl (hurt_gives x ((img.drop k).take n) a _ ha (by omega)) ?_
  rintro _ h4 ⟨rfl, e4⟩ tmr tm hr61 hs
  rw [if_neg hxne, hxl, hkdef, hback2] at hs
  refine dg_val hs rfl rfl rfl rfl rfl fun tmr tm hr62 hs => ?_
  refine dg_val hs rfl rfl rfl rfl (o_bin rfl rfl (b_eqs rfl) rfl) fun tmr tm hr63 hs => ?_
  refine dg_val hs rfl rfl rfl rfl rfl fun tmr tm hr64 hs => ?_
  refine dg_val hs rfl rfl rfl rfl rfl fun tmr tm hr65 hs => ?_
  refine dg_nil (by repeat' (first | exact trivial | refine And.intro rfl ?_)) rfl ?_ ?_
  · repeat' (first | exact trivial | refine And.intro ?_ ?_)
    all_goals first
      | exact again_of hr0 rfl
      | exact again_of hr1 rfl
      | exact again_of hr2 rfl
      | exact again_of hr3 rfl
      | exact again_of hr4 (o_bin (v := .bool true) rfl rfl (by simp [binA, intOp]; omega) rfl)
      | exact again_of hr5 rfl
      | exact again_of hr6 rfl
      | exact again_of hr7 rfl
      | exact again_of hr8 (o_sub_to rfl rfl rfl (by omega))
      | exact again_of hr9 rfl
      | exact again_of hr10 rfl
      | exact again_of hr11 (o_sub_to rfl rfl rfl (by omega))
      | exact again_of hr12 (o_bin rfl rfl (b_eqs hhead) rfl)
      | exact again_of hr13 rfl
      | exact again_of hr14 rfl
      | exact again_of hr15 rfl
      | exact again_of hr16 rfl
      | exact again_of hr17 rfl
      | exact again_of hr18 rfl
      | exact again_of hr19 (o_bin rfl rfl (b_add_i64 (z := ((k + n : Nat) : Int)) (by push_cast; rfl) (by omega) (by omega)) rfl)
      | exact again_of hr20 (o_sub_both rfl rfl rfl rfl (by omega))
      | exact again_of hr21 rfl
      | exact again_of hr22 rfl
      | exact again_of hr23 (o_sub_to rfl rfl rfl (by omega))
      | exact again_of hr24 (o_bin rfl rfl (b_eqs hmid) rfl)
      | exact again_of hr25 rfl
      | exact again_of hr26 rfl
      | exact again_of hr27 rfl
      | exact again_of hr28 rfl
      | exact again_of hr29 rfl
      | exact again_of hr30 (o_bin rfl rfl (b_add_i64 (z := ((k + n : Nat) : Int)) (by push_cast; rfl) (by omega) (by omega)) rfl)
      | exact again_of hr31 (o_sub_from rfl rfl rfl (by omega))
      | exact again_of hr32 rfl
      | exact again_of hr33 rfl
      | exact again_of hr34 rfl
      | exact again_of hr35 (o_bin rfl rfl (b_add_i64 (z := ((k + n : Nat) : Int)) (by push_cast; rfl) (by omega) (by omega)) rfl)
      | exact again_of hr36 (o_sub_from rfl rfl rfl (by omega))
      | exact again_of hr37 (o_bin rfl rfl (b_eqs htail) rfl)
      | exact again_of hr38 rfl
      | exact again_of hr39 rfl
      | exact again_of hr40 rfl
      | exact again_of hr41 rfl
      | exact again_of hr42 rfl
      | exact again_of hr43 rfl
      | exact again_of hr44 rfl
      | exact again_of hr45 rfl
      | exact again_of hr46 (o_bin rfl rfl (b_add_i64 (z := ((k + n : Nat) : Int)) (by push_cast; rfl) (by omega) (by omega)) rfl)
      | exact again_of hr47 (o_sub_both rfl rfl rfl rfl (by omega))
      | exact again_of hr49 rfl
      | exact again_of hr50 (o_bin rfl rfl (b_eqs rfl) rfl)
      | exact again_of hr51 rfl
      | exact again_of hr52 rfl
      | exact again_of hr53 rfl
      | exact again_of hr54 rfl
      | exact again_of hr55 rfl
      | exact again_of hr56 rfl
      | exact again_of hr57 rfl
      | exact again_of hr58 rfl
      | exact again_of hr59 (o_bin rfl rfl (b_add_i64 (z := ((k + n : Nat) : Int)) (by push_cast; rfl) (by omega) (by omega)) rfl)
      | exact again_of hr60 (o_sub_both rfl rfl rfl rfl (by omega))
      | exact again_of hr62 rfl
      | exact again_of hr63 (o_bin rfl rfl (b_eqs rfl) rfl)
      | exact again_of hr64 rfl
      | exact again_of hr65 rfl
  exact go_ret (ends_ret hs rfl ⟨rfl, ((e1.trans eX).trans e3).trans e4⟩)
end Go.Proofs.YtcngecdjmmjlhaaGreat
