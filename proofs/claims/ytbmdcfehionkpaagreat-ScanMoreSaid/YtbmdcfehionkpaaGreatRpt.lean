/- What the functions of this part answer at any input, told by the rules over the evaluator. Conditions: those that each theorem states. -/
import Derived.Test.YtbmdcfehionkpaaGreatRfr
open Go Ev
namespace Go.Proofs.YtbmdcfehionkpaaGreat
set_option maxRecDepth 10000
set_option linter.unusedVariables false
set_option linter.unusedSimpArgs false
set_option maxHeartbeats 4000000
set_option linter.unusedVariables false
/-! ### a page that is put -/
def putP (z : Int) (p : Pg) : List UInt8 × Int := if mayF z p then (leb (crcOf (restL p)) 4 ++ restL p, 0) else ([], 2)
theorem restL_len (p : Pg) : (restL p).length = 20 + p.body.length := by simp [restL, leb_len]; omega
theorem rputP_w {n : Nat} (hn : 3 < n) (z : Int) (p : Pg) (hb : p.body.length < 900000) (h : Heap) : (TV n).sm 20 [.int .i64 z, p.av] h = some (.tuple [.str (putP z p).1, .int .i64 (putP z p).2], h) := by
  refine w_of hn rfl rfl rfl fun n hn => body_j rfl rfl ?_
  have ok0 : Heap.ok ⟨.nil, 0⟩ := ok_nil
  generalize (⟨.nil, 0⟩ : Heap) = h at ok0 ⊢
  have w1 := rmay_w (n := n) (by omega) z p (by omega)
  unfold putP
  by_cases c : mayF z p
  case neg =>
    rw [if_neg c]
    exact auto
  rw [if_pos c]
  obtain ⟨g, k1, k2, c1, c2, p1, l1, t1, b1⟩ := id c
  have w2 := rrest_w (n := n) (by omega) p ⟨by omega, by omega⟩ ⟨by omega, by omega⟩ (by omega) (by omega) (by omega) (by omega)
  have rl := restL_len p
  have w3 := rcrc_w (q := n) (restL p) (by omega)
  have cl := crcOf_lt (restL p)
  clear w1
  have w1 : ∀ h, (TV n).sm 37 [.int .i64 z, p.av] h = some (.bool true, h) := fun h => by rw [rmay_w (n := n) (by omega) z p (by omega), decide_eq_true c]
  generalize crcOf (restL p) = C at w3 cl ⊢
  generalize restL p = R at w2 w3 rl ⊢
  clear c g k1 k2 c1 c2 p1 l1 t1 b1
  refine walk ?_
  refine jo_call (rput (v := .nilslice) (s := []) (x := C) (OwnB.nil (e := 5) (lo := 0)).by (by omega) (by decide) (by decide) (by decide) rfl) rfl rfl rfl rfl ?_
  rintro v1 g1 ⟨o1, x1⟩
  rw [List.nil_append] at o1
  refine walk ?_
  refine jo_val rfl rfl rfl (k_text o1.by o1.by.ns rfl rfl rfl rfl rfl) ?_
  refine walk ?_
  refine jo_val rfl rfl rfl (k_bin rfl rfl rfl (b_cat (by simp [leb_len]; omega)) rfl) ?_
  refine walk ?_
  exact jg_ret2 (by exact hres) rfl
theorem le_leb (x : Nat) : ∀ k, le (leb x k) = x % 256 ^ k
  | 0 => by simp [leb, le, Nat.mod_one]
  | k + 1 => by
    show le (leb x k ++ [UInt8.ofNat (x / 2 ^ (8 * k))]) = _
    rw [le_snoc, le_leb x k, leb_len, Nat.mod_pow_succ]
    have e : (2 : Nat) ^ (8 * k) = 256 ^ k := by rw [Nat.pow_mul]
    rw [e]
    have : (UInt8.ofNat (x / 256 ^ k)).toNat = x / 256 ^ k % 256 := by simp
    rw [this, Nat.mul_comm]
theorem le_leb' {x k : Nat} (h : x < 256 ^ k) : le (leb x k) = x := by rw [le_leb, Nat.mod_eq_of_lt h]
theorem cut_mid {a b c : List UInt8} {n m : Nat} (h1 : a.length = n) (h2 : b.length = m) : ((a ++ (b ++ c)).drop n).take m = b := by
  rw [List.drop_left' h1, List.take_left' h2]
/-- what is put is got again -/
theorem get_put {z : Int} {p : Pg} (m : mayF z p) : getR z p.page (leb (crcOf (restL p)) 4 ++ restL p) = (p, 0) := by
  obtain ⟨g, k1, k2, c1, c2, p1, l1, t1, b1⟩ := id m
  have hc := crcOf_lt (restL p)
  have er : room z = z - 24 := by unfold room; rw [if_pos g]
  have rl := restL_len p
  obtain ⟨s, hs⟩ : ∃ s, s = leb (crcOf (restL p)) 4 ++ restL p := ⟨_, rfl⟩
  have f0 : fld s 0 = crcOf (restL p) := by
    rw [hs]
    show le (((leb (crcOf (restL p)) 4 ++ restL p).drop 0).take 4) = _
    rw [List.drop_zero, List.take_left' (leb_len _ _), le_leb' (by omega)]
  have d4 : s.drop 4 = restL p := by rw [hs, List.drop_left' (leb_len _ _)]
  have big : s = leb (crcOf (restL p)) 4 ++ (leb p.kind.toNat 1 ++ (leb 1 1 ++ (leb p.count.toNat 2 ++ (leb p.page 4 ++ (leb p.link 4 ++ (leb p.tx 8 ++ p.body)))))) := by rw [hs]; simp [restL]
  have f1 : fld s 1 = p.kind.toNat := by
    rw [big]
    exact (congrArg le (cut_mid (n := 4) (m := 1) (by simp [leb_len]) (leb_len _ _))).trans (le_leb' (by omega))
  have f2 : fld s 2 = 1 := by
    have e : s = (leb (crcOf (restL p)) 4 ++ leb p.kind.toNat 1) ++ (leb 1 1 ++ (leb p.count.toNat 2 ++ (leb p.page 4 ++ (leb p.link 4 ++ (leb p.tx 8 ++ p.body))))) := by rw [big]; simp
    rw [e]
    exact (congrArg le (cut_mid (n := 5) (m := 1) (by simp [leb_len]) (leb_len _ _))).trans (le_leb' (by omega))
  have f3 : fld s 3 = p.count.toNat := by
    have e : s = (leb (crcOf (restL p)) 4 ++ leb p.kind.toNat 1 ++ leb 1 1) ++ (leb p.count.toNat 2 ++ (leb p.page 4 ++ (leb p.link 4 ++ (leb p.tx 8 ++ p.body)))) := by rw [big]; simp
    rw [e]
    exact (congrArg le (cut_mid (n := 6) (m := 2) (by simp [leb_len]) (leb_len _ _))).trans (le_leb' (by omega))
  have f4 : fld s 4 = p.page := by
    have e : s = (leb (crcOf (restL p)) 4 ++ leb p.kind.toNat 1 ++ leb 1 1 ++ leb p.count.toNat 2) ++ (leb p.page 4 ++ (leb p.link 4 ++ (leb p.tx 8 ++ p.body))) := by rw [big]; simp
    rw [e]
    exact (congrArg le (cut_mid (n := 8) (m := 4) (by simp [leb_len]) (leb_len _ _))).trans (le_leb' (by omega))
  have f5 : fld s 5 = p.link := by
    have e : s = (leb (crcOf (restL p)) 4 ++ leb p.kind.toNat 1 ++ leb 1 1 ++ leb p.count.toNat 2 ++ leb p.page 4) ++ (leb p.link 4 ++ (leb p.tx 8 ++ p.body)) := by rw [big]; simp
    rw [e]
    exact (congrArg le (cut_mid (n := 12) (m := 4) (by simp [leb_len]) (leb_len _ _))).trans (le_leb' (by omega))
  have f6 : fld s 6 = p.tx := by
    have e : s = (leb (crcOf (restL p)) 4 ++ leb p.kind.toNat 1 ++ leb 1 1 ++ leb p.count.toNat 2 ++ leb p.page 4 ++ leb p.link 4) ++ (leb p.tx 8 ++ p.body) := by rw [big]; simp
    rw [e]
    exact (congrArg le (cut_mid (n := 16) (m := 8) (by simp [leb_len]) (leb_len _ _))).trans (le_leb' (by omega))
  have d24 : s.drop 24 = p.body := by
    have e : s = (leb (crcOf (restL p)) 4 ++ leb p.kind.toNat 1 ++ leb 1 1 ++ leb p.count.toNat 2 ++ leb p.page 4 ++ leb p.link 4 ++ leb p.tx 8) ++ p.body := by rw [big]; simp
    rw [e, List.drop_left' (by simp [leb_len])]
  have pg : pgOf s = p := by
    unfold pgOf
    rw [f1, f3, f4, f5, f6, d24]
    cases p
    simp only [Pg.mk.injEq] at *
    exact ⟨by omega, by omega, trivial, trivial, trivial, trivial⟩
  have sl : (s.length : Int) = z := by rw [hs, List.length_append, leb_len]; omega
  rw [← hs]
  unfold getR
  rw [if_pos g, if_pos ⟨sl, by unfold getP; rw [pg, f2, f4, f0, d4]; exact ⟨m, rfl, rfl, rfl⟩⟩, pg]
end Go.Proofs.YtbmdcfehionkpaaGreat
