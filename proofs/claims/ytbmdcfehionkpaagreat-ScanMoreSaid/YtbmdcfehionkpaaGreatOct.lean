/- What the functions of this part answer at any input, told by the rules over the evaluator. Conditions: those that each theorem states. -/
import Derived.Test.YtbmdcfehionkpaaGreatFr1
open Go Ev
namespace Go.Proofs.YtbmdcfehionkpaaGreat
set_option maxRecDepth 10000
set_option linter.unusedVariables false
set_option linter.unusedSimpArgs false
set_option maxHeartbeats 4000000
set_option linter.unusedVariables false
/-! ### a reader of bytes: a block of one cell, what is left -/
theorem octet_new {n : Nat} (s : List UInt8) (h : Heap) : Gives (TV n) 107 [.str s] h (fun v h' => v = .ptr h.next 0 ∧ h' = h.alloc (.cells 209 [.str s] true)) := by
  refine call_j (no_w rfl rfl) rfl rfl ?_
  refine walk ?_
  exact jg_ret1 hres ⟨rfl, rfl⟩
theorem octet_rest {n : Nat} {b : Nat} {e : TypeId} {s : List UInt8} {h : Heap} (r : h.get b = some (.cells e [.str s] true)) : Gives (TV n) 129 [.ptr b 0] h (fun v h' => v = .str s ∧ h' = h) := by
  refine call_j (no_w rfl rfl) rfl rfl ?_
  refine walk ?_
  exact jg_ret1 hres ⟨rfl, rfl⟩
def rdR (n : Nat) (s : List UInt8) : AV := if n ≤ s.length then .tuple [.str (s.take n), .int .i64 0] else .tuple [.str [], .int .i64 7]
def rdH (n : Nat) (s : List UInt8) (b : Nat) (e : TypeId) (h : Heap) : Heap := if n ≤ s.length then h.set b (.cells e [.str (s.drop n)] true) else h
theorem octet_take {q : Nat} {b n : Nat} {e : TypeId} {s : List UInt8} {h : Heap} (r : h.get b = some (.cells e [.str s] true)) (hl : s.length < 1000000000) (hn : n < 1000000000) : Gives (TV q) 133 [.ptr b 0, .int .i64 n] h (fun v h' => v = rdR n s ∧ h' = rdH n s b e h) := by
  refine call_j (no_w rfl rfl) rfl rfl ?_
  unfold rdR rdH
  by_cases hn : n ≤ s.length
  · rw [if_pos hn, if_pos hn]
    refine walk ?_
    exact jg_ret2 hres ⟨rfl, rfl⟩
  · rw [if_neg hn, if_neg hn]
    refine walk ?_
    exact jg_ret2 hres ⟨rfl, rfl⟩
theorem octet_bytes {q : Nat} {b n : Nat} {e : TypeId} {s : List UInt8} {h : Heap} (r : h.get b = some (.cells e [.str s] true)) (hl : s.length < 1000000000) (hn : n < 1000000000) : Gives (TV q) 120 [.ptr b 0, .int .i64 n] h (fun v h' => v = rdR n s ∧ h' = rdH n s b e h) := by
  refine call_j (no_w rfl rfl) rfl rfl ?_
  refine walk ?_
  refine jo_call (octet_take r hl hn) rfl rfl rfl rfl ?_
  rintro _ _ ⟨rfl, rfl⟩
  unfold rdR
  split
  all_goals
    refine walk ?_
    exact jg_ret2 hres ⟨rfl, rfl⟩
/-! ### numbers, the lowest byte first -/
def le : List UInt8 → Nat
  | [] => 0
  | b :: l => b.toNat + 256 * le l
theorem le_snoc (l : List UInt8) (b : UInt8) : le (l ++ [b]) = le l + b.toNat * 256 ^ l.length := by
  induction l with
  | nil => simp [le]
  | cons a l ih =>
    simp only [List.cons_append, le, ih, List.length_cons, Nat.pow_succ]
    rw [Nat.mul_add, Nat.mul_left_comm 256, Nat.mul_comm 256 (256 ^ _), Nat.add_assoc]
theorem le_lt (l : List UInt8) : le l < 256 ^ l.length := by
  induction l with
  | nil => simp [le]
  | cons a l ih =>
    have := a.toNat_lt
    simp only [le, List.length_cons, Nat.pow_succ]
    omega
theorem le_or (l : List UInt8) (b : UInt8) : le l ||| b.toNat * 2 ^ (8 * l.length) = le (l ++ [b]) := by
  rw [le_snoc]
  have h1 : le l < 2 ^ (8 * l.length) := by
    have := le_lt l
    rw [Nat.pow_mul]; exact this
  have h2 := Nat.shiftLeft_add_eq_or_of_lt h1 b.toNat
  rw [Nat.shiftLeft_eq] at h2
  rw [Nat.or_comm, ← h2, Nat.add_comm, Nat.pow_mul]
def nuR (n : Nat) (s : List UInt8) : AV := if n ≤ s.length then .tuple [.int .u64 (le (s.take n)), .int .i64 0] else .tuple [.int .u64 0, .int .i64 7]
theorem octet_number {q : Nat} {b n : Nat} {e : TypeId} {s : List UInt8} {h : Heap} (r : h.get b = some (.cells e [.str s] true)) (hl : s.length < 1000000000) (h1 : 1 ≤ n) (h8 : n ≤ 8) : Gives (TV q) 108 [.ptr b 0, .int .i64 n] h (fun v h' => v = nuR n s ∧ h' = rdH n s b e h) := by
  refine call_j (no_w rfl rfl) rfl rfl ?_
  refine walk ?_
  refine jo_call (octet_take r hl (by omega)) rfl rfl rfl rfl ?_
  rintro _ _ ⟨rfl, rfl⟩
  unfold rdR rdH nuR
  by_cases hn : n ≤ s.length
  · rw [if_pos hn, if_pos hn, if_pos hn]
    have hlen : (s.take n).length = n := by simp; omega
    generalize s.take n = w at hlen
    refine walk ?_
    rw [hlen]
    refine jg_loop (fun i => n - i) (fun i => [(4, .int .u64 (le (w.take i))), (5, .int .i64 0), (6, .str w), (25, .int .i64 n), (26, .int .i64 i)]) (fun i h' => i ≤ n ∧ h' = h.set b (.cells e [.str (s.drop n)] true)) 0 hsub ⟨by omega, rfl⟩ ?_
    rintro i _ ⟨hin, rfl⟩ next
    by_cases hi : i < n
    · have hb := (w.getD i 0).toNat_lt
      have e2 : (w.take i).length = i := by simp; omega
      have hle : le (w.take i) < 2 ^ 64 := by
        have := le_lt (w.take i)
        rw [e2] at this
        exact Nat.lt_of_lt_of_le this (by rw [show (256 : Nat) = 2 ^ 8 by rfl, ← Nat.pow_mul]; exact Nat.pow_le_pow_right (by omega) (by omega))
      have hsh : (w.getD i 0).toNat * 2 ^ (8 * i) < 2 ^ 64 := by
        have : (w.getD i 0).toNat * 2 ^ (8 * i) < 2 ^ 8 * 2 ^ (8 * i) := Nat.mul_lt_mul_of_pos_right hb (Nat.two_pow_pos _)
        rw [← Nat.pow_add] at this
        exact Nat.lt_of_lt_of_le this (Nat.pow_le_pow_right (by omega) (by omega))
      refine walk ?_
      refine jo_val rfl rfl rfl (k_bin rfl rfl rfl (b_shl (k := .u64) (y := 8 * i) rfl (by show 8 * i ≤ 64; omega) hsh) rfl) ?_
      refine jo_val rfl rfl rfl (k_bin rfl rfl rfl (b_or rfl hle hsh) rfl) ?_
      refine walk ?_
      have e : w.take (i + 1) = w.take i ++ [w.getD i 0] := by
        rw [List.take_add_one, List.getElem?_eq_getElem (by omega)]
        simp [List.getD, List.getElem?_eq_getElem (show i < w.length by omega)]
      refine next (i + 1) (by omega) ?_ ⟨by omega, rfl⟩
      rw [e, ← le_or, e2]
      exact hsub
    · refine walk ?_
      have e : w.take i = w := List.take_of_length_le (by omega)
      rw [e]
      exact jg_ret2 hres ⟨rfl, rfl⟩
  · rw [if_neg hn, if_neg hn, if_neg hn]
    refine walk ?_
    refine jg_loop (fun _ => 0) (fun _ => [(4, .int .u64 0), (5, .int .i64 7), (25, .int .i64 0), (26, .int .i64 0)]) (fun (_ : Nat) h' => h' = h) 0 hsub rfl ?_
    rintro i _ rfl next
    refine walk ?_
    exact jg_ret2 hres ⟨rfl, rfl⟩
def numV (n : Nat) (s : List UInt8) : Nat := if n ≤ s.length then le (s.take n) else 0
def bytV (n : Nat) (s : List UInt8) : List UInt8 := if n ≤ s.length then s.take n else []
def restV (n : Nat) (s : List UInt8) : List UInt8 := if n ≤ s.length then s.drop n else s
def errV (n : Nat) (s : List UInt8) : Int := if n ≤ s.length then 0 else 7
theorem numV_lt (n : Nat) (s : List UInt8) : numV n s < 256 ^ n := by
  unfold numV
  split
  · refine Nat.lt_of_lt_of_le (le_lt _) (Nat.pow_le_pow_right (by omega) ?_)
    rw [List.length_take]; omega
  · exact Nat.pow_pos (by omega)
theorem restV_len (n : Nat) (s : List UInt8) : (restV n s).length ≤ s.length := by
  unfold restV
  split <;> simp
theorem restV_lt {n : Nat} {s : List UInt8} (h : n ≤ s.length) : (restV n s).length + n = s.length := by
  unfold restV
  rw [if_pos h, List.length_drop]; omega
theorem bytV_len (n : Nat) (s : List UInt8) : (bytV n s).length ≤ n := by
  unfold bytV
  split <;> simp; omega
theorem num_g {q b n : Nat} {e : TypeId} {s : List UInt8} {h : Heap} (r : h.get b = some (.cells e [.str s] true)) (hb : b < h.next) (hl : s.length < 1000000000) (h1 : 1 ≤ n) (h8 : n ≤ 8) : Gives (TV q) 108 [.ptr b 0, .int .i64 n] h (fun v h' => v = .tuple [.int .u64 (numV n s), .int .i64 (errV n s)] ∧ Upd b (.cells e [.str (restV n s)] true) h h') := by
  refine (octet_number r hl h1 h8).mono ?_
  rintro _ _ ⟨rfl, rfl⟩
  unfold nuR rdH numV restV errV
  by_cases c : n ≤ s.length
  · simp only [if_pos c]; exact ⟨by first | trivial | rfl, .set h b _ hb⟩
  · simp only [if_neg c]; exact ⟨by first | trivial | rfl, .same r⟩
theorem byt_g {q b n : Nat} {e : TypeId} {s : List UInt8} {h : Heap} (r : h.get b = some (.cells e [.str s] true)) (hb : b < h.next) (hl : s.length < 1000000000) (hn : n < 1000000000) : Gives (TV q) 120 [.ptr b 0, .int .i64 n] h (fun v h' => v = .tuple [.str (bytV n s), .int .i64 (errV n s)] ∧ Upd b (.cells e [.str (restV n s)] true) h h') := by
  refine (octet_bytes r hl hn).mono ?_
  rintro _ _ ⟨rfl, rfl⟩
  unfold rdR rdH bytV restV errV
  by_cases c : n ≤ s.length
  · simp only [if_pos c]; exact ⟨by first | trivial | rfl, .set h b _ hb⟩
  · simp only [if_neg c]; exact ⟨by first | trivial | rfl, .same r⟩
/-! ### putting numbers -/
def leb (x : Nat) : Nat → List UInt8
  | 0 => []
  | k + 1 => leb x k ++ [UInt8.ofNat (x / 2 ^ (8 * k))]
theorem leb_len (x k : Nat) : (leb x k).length = k := by
  induction k with
  | zero => rfl
  | succ k ih => simp [leb, ih]
theorem ab {q lo : Nat} {h : Heap} {u w : AV} {s r : List UInt8} (own : OwnB 5 lo h u s) (bw : By h w r) (hr : s.length + r.length ≤ 100000000) (hlo : lo ≤ h.next := by (exact hle)) : ∃ v' h', appendA (TV q) [u, w] [110, 110] h = .val v' h' ∧ OwnB 5 lo h' v' (s ++ r) ∧ Keep lo h h' := app_by own bw hlo hr rfl rfl rfl rfl rfl rfl
theorem ast {q lo : Nat} {h : Heap} {u : AV} {s r : List UInt8} (own : OwnB 5 lo h u s) (hr : s.length + r.length ≤ 100000000) (hlo : lo ≤ h.next := by (exact hle)) : ∃ v' h', appendA (TV q) [u, .str r] [110, 9] h = .val v' h' ∧ OwnB 5 lo h' v' (s ++ r) ∧ Keep lo h h' := app_str own hlo hr rfl rfl rfl rfl rfl rfl
theorem octet_put {q : Nat} {v : AV} {s : List UInt8} {x k : Nat} {h : Heap} (bw : By h v s) (hx : x < 2 ^ 64) (h1 : 1 ≤ k) (h8 : k ≤ 8) (hl : s.length ≤ 1000000) (hv : v.isStr = false) : Gives (TV q) 135 [v, .int .u64 x, .int .i64 k] h (fun v' h' => OwnB 5 h.next h' v' (s ++ leb x k) ∧ Ext h h') := by
  refine call_j (no_w rfl rfl) rfl rfl ?_
  have hlen := bw.len
  refine walk ?_
  refine jo_val rfl rfl rfl (k_make (n := 0) (m := s.length + 8) rfl rfl rfl rfl rfl rfl (by exact Nat.le_of_ble_eq_true rfl) rfl rfl (by omega) (by omega)) ?_
  have zl : times (AV.int .u8 0).cells (s.length + 8) = u8s (List.replicate (s.length + 8) 0) := times_u8 0 _
  rw [zl]
  obtain ⟨v1, g1, e1, o1, k1⟩ := ab (q := q) (lo := h.next) (s := []) (own_make (e := 5) (n := s.length + 8) (cs := u8s (List.replicate (s.length + 8) 0)) (Nat.le_refl _) (by simp [u8s])) (bw.ext (Ext.alloc h _)) (by simp; omega)
  have x1 : Ext h g1 := hext
  refine walk ?_
  refine jg_loop (ι := Nat × AV) (fun a => k - a.1) (fun a => [(1, .int .u64 x), (2, .int .i64 k), (22, .int .i64 k), (23, .int .i64 a.1), (7, a.2)]) (fun a h' => a.1 ≤ k ∧ OwnB 5 h.next h' a.2 (s ++ leb x a.1) ∧ Ext h h') (0, v1) hsub ⟨by omega, by simpa [leb] using o1, x1⟩ ?_
  rintro ⟨i, u⟩ h2 ⟨hi, ow, x2⟩ next
  dsimp only at hi ow next ⊢
  by_cases hik : i < k
  · have nx := x2.nx
    refine walk ?_
    refine jo_val rfl rfl rfl (k_bin rfl rfl rfl (b_shr (k := .u64) (y := 8 * i) (by show 8 * i ≤ 64; omega)) rfl) ?_
    refine jo_val rfl rfl rfl (k_conv rfl rfl rfl rfl wrap_u8_mod) ?_
    refine walk ?_
    have hb : (((x / 2 ^ (8 * i) : Nat) : Int) % 256) = ((UInt8.ofNat (x / 2 ^ (8 * i))).toNat : Int) := by simp
    rw [hb]
    obtain ⟨v3, g3, e3, o3, k3⟩ := ab (q := q) (r := [UInt8.ofNat (x / 2 ^ (8 * i))]) (w := .slice h2.next 0 1 1) (ow.ext (Ext.alloc h2 (.cells 5 [.int .u8 (UInt8.ofNat (x / 2 ^ (8 * i))).toNat] true))) ⟨rfl, by show h2.next < h2.next + 1; omega, _, _, _, get_new _ _, by simp, rfl⟩ (by simp [leb_len]; omega)
    refine walk ?_
    exact next (i + 1, v3) (by simp only; omega) hsub ⟨by simp only; omega, by simpa [leb] using o3, hext⟩
  · obtain rfl : i = k := by omega
    refine walk ?_
    exact jg_ret1 hres ⟨ow, x2⟩
/-! ### bodies -/
def bodyR (n : Int) (s : List UInt8) : AV := if Good n then if (s.length : Int) ≤ n - 24 then .tuple [.str (s ++ List.replicate (n.toNat - 24 - s.length) 0), .int .i64 0] else .tuple [.str [], .int .i64 3] else .tuple [.str [], .int .i64 2]
theorem body_w {n : Nat} (hn : 3 < n) {z : Int} {v : AV} {s : List UInt8} {h : Heap} (bw : By h v s) (hk : h.ok) (hv : v.isStr = false) : (TV n).sm 136 [.int .i64 z, v] h = some (bodyR z s, h) := by
  refine w_in hn (fun h => h.ok ∧ By h v s) rfl (by unfold bodyR; split <;> (try split) <;> rfl) ⟨hk, bw⟩ (fun hp => ⟨ok_nil, bw.any (by simpa [AV.plains, AV.plain] using hp)⟩) ?_
  clear hk bw h
  rintro n hn h ⟨hk, bw⟩
  refine body_j rfl rfl ?_
  have w1 := good_w (n := n) (by omega) z
  have w2 := room_w (n := n) (by omega) z
  have hlen := bw.len
  unfold bodyR
  by_cases g : Good z
  case neg => rw [if_neg g]; exact auto
  rw [if_pos g]
  have e : room z = z - 24 := by unfold room; rw [if_pos g]
  rw [e] at w2
  have g1 := g.1
  have g2 := g.2.1
  by_cases c : (s.length : Int) ≤ z - 24
  case neg => rw [if_neg c]; exact auto
  rw [if_pos c]
  obtain ⟨m, rfl⟩ : ∃ m : Nat, z = m + 24 := ⟨(z - 24).toNat, by omega⟩
  have em : (m : Int) + 24 - 24 = m := by omega
  rw [em] at w2 c
  refine walk ?_
  refine jo_val rfl rfl rfl (k_make (n := m) (m := m) rfl rfl rfl rfl rfl rfl (by exact Nat.le_of_ble_eq_true rfl) rfl rfl (by omega) (by omega)) ?_
  have zl : times (AV.int .u8 0).cells m = u8s (List.replicate m 0) := times_u8 0 _
  rw [zl]
  refine walk ?_
  refine jo_val rfl rfl rfl (k_copy (copy_by (a := List.replicate m 0) (get_new _ _) (bw.ext (Ext.alloc h _)) (by simp) (by omega) rfl rfl) rfl rfl rfl rfl) ?_
  have b2 : By ((h.alloc (.cells 5 (u8s (List.replicate m 0)) true)).set h.next (.cells 5 (u8s (s ++ (List.replicate m 0).drop s.length)) true)) (.slice h.next 0 m m) (s ++ (List.replicate m 0).drop s.length) :=
    ⟨by simp; omega, by show h.next < h.next + 1; omega, _, _, _, Heap.gs _ _ _, by simp [u8s], by rw [List.drop_zero, List.take_of_length_le (by simp [u8s])]⟩
  refine walk ?_
  refine jo_val rfl rfl rfl (k_text b2 rfl rfl rfl rfl rfl rfl) ?_
  have e3 : ((m : Int) + 24).toNat - 24 - s.length = m - s.length := by omega
  rw [List.drop_replicate, e3]
  exact auto
end Go.Proofs.YtbmdcfehionkpaaGreat
