/- What the functions of this part answer at any input, told by the rules over the evaluator (EvWp) or by the kit's contracts. Conditions: those that each theorem states. -/
import Derived.Test.YtcngecdjmmjlhaaGreatEvArg
import Derived.Test.YtcngecdjmmjlhaaGreatEvArg
import Derived.Test.YtcngecdjmmjlhaaGreatTab
import Derived.Test.YtcngecdjmmjlhaaGreatTrial
open Go Ev
namespace Go.Proofs.YtcngecdjmmjlhaaGreat
set_option maxRecDepth 10000
set_option linter.unusedVariables false
set_option linter.unusedSimpArgs false
/-! ### the plain law of writing over -/
/-- the place that a number means -/
def pickN (a : Int) (m : Nat) : Nat := (if a.tmod m < 0 then a.tmod m + m else a.tmod m).toNat
theorem pickN_lt (a : Int) {m : Nat} (h : 0 < m) : pickN a m < m := by
  have h1 := Int.tmod_lt_of_pos a (show (0 : Int) < m by omega)
  have h2 := Int.lt_tmod_of_pos a (show (0 : Int) < m by omega)
  unfold pickN
  split <;> omega
theorem pickN_int (a : Int) {m : Nat} (h : 0 < m) : ((pickN a m : Nat) : Int) = if a.tmod m < 0 then a.tmod m + m else a.tmod m := by
  have h1 := Int.tmod_lt_of_pos a (show (0 : Int) < m by omega)
  have h2 := Int.lt_tmod_of_pos a (show (0 : Int) < m by omega)
  unfold pickN
  split <;> omega
def hurtL (img b : List UInt8) (k : Nat) : List UInt8 := over img k (b.take (img.length - k))
theorem u8s_over (l v : List UInt8) (k : Nat) : over (u8s l) k (u8s v) = u8s (over l k v) := by
  simp [over, u8s]
theorem u8s_len (l : List UInt8) : (u8s l).length = l.length := by simp [u8s]
theorem u8s_one (l : List UInt8) : (u8s l).all AV.one = true := by
  simp only [u8s, List.all_map, List.all_eq_true]
  intro x _
  rfl
theorem toBytes_u8s : ∀ l : List UInt8, toBytes (u8s l) = some l
  | [] => rfl
  | b :: l => by
    have ih := toBytes_u8s l
    show (match toBytes (u8s l) with | some r => some (UInt8.ofNat ((b.toNat : Int)).toNat :: r) | none => none) = _
    rw [ih]
    simp
theorem bytesEq_iff {x y : List UInt8} : bytesEq x y = true ↔ x = y := by rw [bytesEq_eq]; simp
/-! ### what is lent: slices of strings, conversions, copy -/
theorem o_bytes {T : Tabs} {ρ : Operand → Option AV} {dst : Option Tmp} {ty : TypeId} {pos : String} {aft : Array Edge} {gd : Option (Nat × Bool)} {src t e : TypeId} {x : Operand} {h : Heap} {s : List UInt8} (hx : ρ x = some (.str s)) (hs : T.und src = some .string) (ht : T.und t = some (.slice e)) (he : T.und e = some (.int .u8)) (hr : s.length ≤ 1000000) :
    opA T ρ ⟨dst, .convert src t x, ty, pos, aft, gd⟩ h = .val (.oslice h.next 0 s.length 1) (h.alloc (.cells e (u8s s) true)) := by
  have room : roomA s.length 1 = true := by
    unfold roomA
    rw [Nat.ble_eq]
    omega
  simp [opA, hx, convA, hs, ht, he, room]
theorem o_string {T : Tabs} {ρ : Operand → Option AV} {dst : Option Tmp} {ty : TypeId} {pos : String} {aft : Array Edge} {gd : Option (Nat × Bool)} {src t e : TypeId} {x : Operand} {h : Heap} {s : List UInt8} {b : Nat} (hx : ρ x = some (.oslice b 0 s.length 1)) (hs : T.und src = some (.slice e)) (ht : T.und t = some .string) (he : T.und e = some (.int .u8)) (hg : h.get b = some (.cells e (u8s s) true)) :
    opA T ρ ⟨dst, .convert src t x, ty, pos, aft, gd⟩ h = .val (.str s) h := by
  have hf : firstA 1 s.length h (.oslice b 0 s.length 1) = some (u8s s) := by
    simp only [firstA, readCells, hg, cutE, cut]
    rw [if_pos (by rw [u8s_len]; omega), List.drop_zero, Nat.mul_one]
    congr 1
    exact List.take_of_length_le (by rw [u8s_len]; exact Nat.le_refl _)
  simp [opA, hx, convA, hs, ht, he, lenS, hf, toBytes_u8s]
theorem o_slice_from {T : Tabs} {ρ : Operand → Option AV} {dst : Option Tmp} {ty : TypeId} {pos : String} {aft : Array Edge} {gd : Option (Nat × Bool)} {t e e' : TypeId} {x y : Operand} {h : Heap} {b n k : Nat} {cs : List AV} (hx : ρ x = some (.oslice b 0 n 1)) (hy : ρ y = some (.int .i64 k)) (ht : T.und t = some (.slice e)) (hz : T.size e = some 1) (hg : h.get b = some (.cells e' cs true)) (hn : cs.length = n) (hk : k < n) :
    opA T ρ ⟨dst, .slice t x (some y) none none, ty, pos, aft, gd⟩ h = .val (.oslice b k (n - k) 1) h := by
  have hk1 : (k : Int) ≤ n := by omega
  simp [opA, optOp, hx, hy, sliceA, ht, hz, sliceS, hg, hn, boundsA, mxA, hiA, loA, boundA, hk, hk1, rv, Nat.le_of_lt hk]
theorem o_copy {T : Tabs} {ρ : Operand → Option AV} {dst : Option Tmp} {ty : TypeId} {pos : String} {aft : Array Edge} {gd : Option (Nat × Bool)} {t e : TypeId} {ts : List TypeId} {x y : Operand} {ats : Array TypeId} {h : Heap} {b k n : Nat} {s l : List UInt8} (hx : ρ x = some (.oslice b k (n - k) 1)) (hy : ρ y = some (.str s)) (ha : ats.toList = t :: ts) (ht : T.und t = some (.slice e)) (hz : T.size e = some 1) (hg : h.get b = some (.cells e (u8s l) true)) (hn : l.length = n) (hk : k < n) :
    opA T ρ ⟨dst, .call { callee := .builtin .copy, args := #[x, y], argTypes := ats }, ty, pos, aft, gd⟩ h = .val (.int .i64 ((Nat.min s.length (n - k) : Nat) : Int)) (h.set b (.cells e (u8s (hurtL l s k)) true)) := by
  have hmin : Nat.min s.length (n - k) = min s.length (n - k) := rfl
  have hw : writeCells h b k (u8s (s.take (Nat.min s.length (n - k)))) = some (h.set b (.cells e (u8s (hurtL l s k)) true)) := by
    have e1 : s.take (Nat.min s.length (n - k)) = s.take (n - k) := by
      rw [hmin]
      by_cases h1 : s.length ≤ n - k
      · rw [Nat.min_eq_left h1, List.take_of_length_le (Nat.le_refl _), List.take_of_length_le h1]
      · rw [Nat.min_eq_right (by omega)]
    rw [e1]
    unfold writeCells
    simp only [hg]
    rw [if_pos ⟨by rw [u8s_len, u8s_len, List.length_take]; omega, u8s_one _⟩, u8s_over]
    unfold hurtL
    rw [hn]
  simp [opA, argMap, hx, hy, ha, copyA, ht, hz, lenS, firstA, hw]
/-! ### Hurt -/
/-- what is known of lives() -/
def livesSm (f : FuncId) (args : List AV) (h : Heap) : Option (AV × Heap) := match Nat.beq f 4 with
  | true => match args with
    | [] => some (.bool true, h)
    | _ => none
  | false => none
noncomputable def TD : Ev.Tabs := { TP.det with sm := livesSm }
theorem hurt_gives (img b : List UInt8) (a : Int) (h : Heap) (ha : -9223372036854775808 ≤ a ∧ a < 9223372036854775808) (hi : img.length ≤ 100000) :
    Gives TD 6 [.str img, .int .i64 a, .str b] h (fun v h' => v = .str (if img = [] then [] else hurtL img b (pickN a img.length)) ∧ Ext h h') := by
  refine call_of rfl rfl rfl fun tm hs => ?_
  refine go_seq (go_region ?_)
  refine ops_val hs rfl rfl rfl rfl fun tm hs => ?_
  refine ops_nil (go_seq (go_seq (go_region ?_)))
  refine ops_val hs rfl rfl rfl rfl fun tm hs => ?_
  refine ops_val hs rfl rfl rfl rfl fun tm hs => ?_
  refine ops_nil (go_if hs rfl (fun hc => ?_) (fun hc => ?_))
  · have hc : img = [] := bytesEq_iff.mp hc
    subst hc
    refine go_seq (go_region ?_)
    refine ops_val hs rfl rfl rfl rfl fun tm hs => ?_
    refine ops_val hs rfl rfl rfl rfl fun tm hs => ?_
    exact ops_nil (go_ret (ends_ret hs rfl ⟨rfl, Ext.refl _⟩))
  have hne : img ≠ [] := by
    intro e
    have := bytesEq_iff.mpr e
    rw [this] at hc
    cases hc
  have hl : 0 < img.length := List.length_pos_iff.mpr hne
  have hr1 := Int.tmod_lt_of_pos a (show (0 : Int) < img.length by omega)
  have hr2 := Int.lt_tmod_of_pos a (show (0 : Int) < img.length by omega)
  have hk := pickN_lt a hl
  have hki := pickN_int a hl
  rw [if_neg hne]
  refine go_skip (go_seq (go_region ?_))
  refine ops_val hs rfl rfl rfl rfl fun tm hs => ?_
  refine ops_val hs rfl rfl rfl rfl fun tm hs => ?_
  refine ops_val hs rfl rfl rfl rfl fun tm hs => ?_
  refine ops_val hs rfl rfl (o_bin (v := .int .i64 (a.tmod img.length)) rfl rfl (by simp [binA, intOp]; omega) rfl) rfl fun tm hs => ?_
  refine ops_val hs rfl rfl rfl rfl fun tm hs => ?_
  refine ops_nil (go_seq (go_seq (go_region ?_)))
  refine ops_val hs rfl rfl rfl rfl fun tm hs => ?_
  refine ops_val hs rfl rfl rfl rfl fun tm hs => ?_
  refine ops_nil ?_
  refine go_join (fun st => ∃ tm : Tr AV, st = ⟨tm, [], none, h⟩ ∧ Sees tm [(0, .str img), (1, .int .i64 (pickN a img.length : Nat)), (2, .str b)]) ?_ fun rest => ?_
  · rintro _ ⟨tm, rfl, hs⟩
    refine go_seq (go_region ?_)
    refine ops_val hs rfl rfl rfl rfl fun tm hs => ?_
    refine ops_val hs rfl rfl (o_bytes rfl rfl rfl rfl (by omega)) rfl fun tm hs => ?_
    refine ops_val hs rfl rfl rfl rfl fun tm hs => ?_
    have g1 : (h.alloc (.cells 5 (u8s img) true)).get h.next = some (.cells 5 (u8s img) true) := get_new _ _
    have e1 : Ext h (h.alloc (.cells 5 (u8s img) true)) := Ext.alloc _ _
    have n1 : (h.alloc (.cells 5 (u8s img) true)).next = h.next + 1 := rfl
    refine ops_nil ?_
    show Goes TD _ _ ⟨tm, [], none, h.alloc (.cells 5 (u8s img) true)⟩ _
    generalize h.alloc (.cells 5 (u8s img) true) = h1 at g1 e1 n1 ⊢
    refine go_seq (go_region ?_)
    refine ops_val hs rfl rfl rfl rfl fun tm hs => ?_
    refine ops_val hs rfl rfl rfl rfl fun tm hs => ?_
    refine ops_val hs rfl rfl (o_slice_from rfl rfl rfl rfl g1 (u8s_len _) hk) rfl fun tm hs => ?_
    refine ops_val hs rfl rfl rfl rfl fun tm hs => ?_
    refine ops_val hs rfl rfl (o_copy rfl rfl rfl rfl rfl g1 rfl hk) rfl fun tm hs => ?_
    have g2 : (h1.set h.next (.cells 5 (u8s (hurtL img b (pickN a img.length))) true)).get h.next = some (.cells 5 (u8s (hurtL img b (pickN a img.length))) true) := by rw [Heap.get_set, if_pos rfl]
    have e2 : Ext h (h1.set h.next (.cells 5 (u8s (hurtL img b (pickN a img.length))) true)) := e1.setL (Nat.le_refl _) (by omega) _
    have hlen : (hurtL img b (pickN a img.length)).length = img.length := by
      unfold hurtL
      exact over_length _ _ _ (by rw [List.length_take]; omega)
    refine ops_nil ?_
    show Goes TD _ _ ⟨tm, [], none, h1.set h.next (.cells 5 (u8s (hurtL img b (pickN a img.length))) true)⟩ _
    generalize h1.set h.next (.cells 5 (u8s (hurtL img b (pickN a img.length))) true) = h2 at g2 e2 ⊢
    refine go_seq (go_region ?_)
    refine ops_val hs rfl rfl rfl rfl fun tm hs => ?_
    refine ops_val hs rfl rfl (o_string (s := hurtL img b (pickN a img.length)) (by rw [hlen]; rfl) rfl rfl rfl g2) rfl fun tm hs => ?_
    refine ops_val hs rfl rfl rfl rfl fun tm hs => ?_
    exact ops_nil (go_ret (ends_ret hs rfl ⟨rfl, e2⟩))
  refine go_if hs rfl (fun hc => ?_) (fun hc => ?_)
  · have hc : a.tmod img.length < 0 := by simpa using hc
    rw [if_pos hc] at hki
    refine go_region ?_
    refine ops_val hs rfl rfl rfl rfl fun tm hs => ?_
    refine ops_val hs rfl rfl rfl rfl fun tm hs => ?_
    refine ops_val hs rfl rfl rfl rfl fun tm hs => ?_
    refine ops_val hs rfl rfl (o_bin rfl rfl (b_add_i64 (z := ((pickN a img.length : Nat) : Int)) hki.symm (by omega) (by omega)) rfl) rfl fun tm hs => ?_
    refine ops_val hs rfl rfl rfl rfl fun tm hs => ?_
    exact ops_nil (rest _ ⟨tm, rfl, hs.cons rfl (hs.cons rfl (hs.cons rfl (Sees.nil _)))⟩)
  · have hc : ¬ a.tmod img.length < 0 := by simpa using hc
    rw [if_neg hc] at hki
    exact go_skip (rest _ ⟨tm, rfl, hs.cons rfl (hs.cons (by rw [hki]; rfl) (hs.cons rfl (Sees.nil _)))⟩)
end Go.Proofs.YtcngecdjmmjlhaaGreat
