/- What the functions of this part answer at any input, told by the rules over the evaluator. Conditions: those that each theorem states. -/
import Derived.Test.YthdlebegkhnbiaaGreatRev
open Go Ev
namespace Go.Proofs.YthdlebegkhnbiaaGreat
set_option maxRecDepth 10000
set_option linter.unusedVariables false
set_option linter.unusedSimpArgs false
set_option maxHeartbeats 4000000
set_option linter.unusedVariables false
/-! ### walk.bits -/
def u64c (n : Nat) : List AV := [.int .u64 n]
theorem u64c_len (n : Nat) : (u64c n).length = 1 := rfl
abbrev LsU (h : Heap) (v : AV) (l : List Nat) : Prop := Ls u64c 1 h v l
abbrev OwnLU (lo : Nat) (h : Heap) (v : AV) (l : List Nat) : Prop := OwnL u64c 30 1 lo h v l
theorem b_shr {T : Tabs} {t : TypeId} {k' : IntKind} {x y : Nat} (hy : y ≤ 64) : binA T .shr t (.int .u64 (x : Int)) (.int k' (y : Int)) = some (.int .u64 ((x / 2 ^ y : Nat) : Int)) := by
  have h1 : ¬ ((y : Int) < 0) := by omega
  have h2 : min ((y : Int).toNat) IntKind.u64.bits = y := by simp; exact Nat.min_eq_left hy
  simp only [binA, shiftOp, if_neg h1, h2]
  congr 2
  rw [Int.fdiv_eq_ediv_of_nonneg _ (by exact Int.le_of_lt (Int.pow_pos (by decide)))]
  norm_cast
theorem b_and1 {T : Tabs} {t : TypeId} {x : Nat} (hx : x < 18446744073709551616) : binA T .and t (.int .u64 (x : Int)) (.int .u64 1) = some (.int .u64 ((x % 2 : Nat) : Int)) := by
  have e : IntKind.u64.wrap ((BitVec.ofInt IntKind.u64.bits (x : Int) &&& BitVec.ofInt IntKind.u64.bits (1 : Int)).toNat : Int) = ((x % 2 : Nat) : Int) := by
    rw [show (1 : Int) = ((1 : Nat) : Int) from rfl, ofInt_nat, ofInt_nat, BitVec.toNat_and, BitVec.toNat_ofNat, BitVec.toNat_ofNat, Nat.mod_eq_of_lt (show x < 2 ^ IntKind.u64.bits from hx), show 1 % 2 ^ IntKind.u64.bits = 1 from rfl, Nat.and_one_is_mod]
    exact wrap_u rfl _ (show x % 2 < 2 ^ 64 by omega)
  simp only [binA, if_true, intOp, e]
theorem quo64 {p : Nat} (hp : p < 4294967296) : IntKind.u32.wrap ((p : Int).tdiv 64) = ((p / 64 : Nat) : Int) := by
  rw [show ((p : Int).tdiv 64) = ((p / 64 : Nat) : Int) from rfl]
  exact wrap_u rfl _ (show p / 64 < 2 ^ 32 by omega)
theorem has_w {n : Nat} (hn : 0 < n) {v : AV} {l : List Nat} {p x : Nat} {h : Heap} (ls : LsU h v l) (hx : l[p / 64]? = some x) (hp : p < 4294967296) (hx2 : x < 18446744073709551616) : (TV n).sm 25 [v, .int .u32 p] h = some (.bool (x.testBit (p % 64)), h) := by
  refine w_in hn (fun h => LsU h v l) rfl rfl ls (fun hp => ls.any (by simpa [AV.plains, AV.plain] using hp)) ?_
  clear ls h
  rintro n hn h ls
  refine body_j rfl rfl ?_
  obtain ⟨b, q1, e1, all, rw', hb, hg, hpl, he, a1⟩ := ls.at u64c_len hx
  have he : (all.drop q1).take 1 = [.int .u64 x] := he
  have hr : x / 2 ^ (p % 64) < 18446744073709551616 := Nat.lt_of_le_of_lt (Nat.div_le_self _ _) hx2
  refine walk ?_
  rw [quo64 hp]
  refine walk ?_
  rw [show ((p : Int).tmod 64) = ((p % 64 : Nat) : Int) from rfl]
  refine jo_val rfl rfl rfl (k_bin rfl rfl rfl (b_shr (x := x) (y := p % 64) (by omega)) rfl) ?_
  refine walk ?_
  refine jo_val rfl rfl rfl (k_bin rfl rfl rfl (b_and1 hr) rfl) ?_
  refine walk ?_
  refine jg_ret1 (by exact hres) ⟨?_, .refl _⟩
  rw [Nat.testBit_eq_decide_div_mod_eq]
  exact av_d ⟨fun c => by omega, fun c => by omega⟩
theorem over_one {β : Type} {l : List β} {k : Nat} {v : β} (h : k < l.length) : over l k [v] = l.set k v := by
  unfold over
  rw [List.set_eq_take_append_cons_drop, if_pos h]
  simp
theorem bput_g {n lo : Nat} {v : AV} {l : List Nat} {p x : Nat} {h : Heap} (o2 : OwnLU lo h v l) (hx : l[p / 64]? = some x) (hp : p < 4294967296) (hx2 : x < 18446744073709551616) : Gives (TV n) 27 [v, .int .u32 p] h (fun v' h' => v' = .tuple [] ∧ Keep lo h h' ∧ OwnLU lo h' v (l.set (p / 64) (x ||| 1 * 2 ^ (p % 64)))) := by
  refine call_j (no_w rfl rfl) rfl rfl ?_
  have hsh : 1 * 2 ^ (p % 64) < 2 ^ IntKind.u64.bits := by
    rw [Nat.one_mul]
    exact Nat.pow_lt_pow_right (by decide) (show p % 64 < 64 by omega)
  have hi : p / 64 < l.length := by
    rcases Nat.lt_or_ge (p / 64) l.length with h1 | h1
    · exact h1
    · rw [List.getElem?_eq_none h1] at hx; cases hx
  unfold OwnLU OwnL at o2
  generalize hcs : l.flatMap u64c = cs at o2
  generalize hln : l.length = ln at o2
  cases o2 with
  | nil => omega
  | sl h1 h2' h3 h4 h5 h6 =>
    rename_i B cap all
    subst hln hcs
    obtain ⟨r1, r2⟩ := row_own u64c_len hx h6
    have r1 : (all.drop (0 + p / 64 * 1)).take 1 = [.int .u64 x] := r1
    have s1 : 0 + p / 64 * 1 < all.length := by omega
    have f1 := over_own u64c_len (i := p / 64) (x ||| 1 * 2 ^ (p % 64)) (by omega) h6
    have f0 : over all (0 + p / 64 * 1) (u64c (x ||| 1 * 2 ^ (p % 64))) = all.set (0 + p / 64 * 1) (.int .u64 ((x ||| 1 * 2 ^ (p % 64) : Nat) : Int)) := over_one s1
    rw [f0] at f1
    refine walk ?_
    rw [quo64 hp]
    refine walk ?_
    rw [show ((p : Int).tmod 64) = ((p % 64 : Nat) : Int) from rfl]
    refine jo_val rfl rfl rfl (k_bin rfl rfl rfl (b_shl (x := 1) (y := p % 64) rfl (by show p % 64 ≤ 64; omega) hsh) rfl) ?_
    refine walk ?_
    refine jo_val rfl rfl rfl (k_bin rfl rfl rfl (b_or rfl hx2 hsh) rfl) ?_
    refine walk ?_
    refine jo_skip rfl rfl (k_store1 rfl rfl rfl rfl rfl rfl h3 s1) ?_
    refine walk ?_
    exact jg_nil fun tm hs => ends_normal hs rfl ⟨rfl, (Keep.refl _ _).st B _ h1 h2', by unfold OwnLU OwnL; rw [List.length_set]; exact Own.sl h1 h2' (Heap.gs _ _ _) h4 (by rw [List.length_set]; exact h5) f1⟩
  | os h1 h2' h3 h4 h5 =>
    rename_i B
    subst hln
    have h6 : cs.take (l.length * 1) = l.flatMap u64c := by rw [hcs]; exact List.take_of_length_le (by omega)
    clear hcs
    generalize cs = all at h3 h4 h6
    obtain ⟨r1, r2⟩ := row_own u64c_len hx h6
    have r1 : (all.drop (0 + p / 64 * 1)).take 1 = [.int .u64 x] := r1
    have s1 : 0 + p / 64 * 1 < all.length := by omega
    have f1 := over_own u64c_len (i := p / 64) (x ||| 1 * 2 ^ (p % 64)) (by omega) h6
    have f0 : over all (0 + p / 64 * 1) (u64c (x ||| 1 * 2 ^ (p % 64))) = all.set (0 + p / 64 * 1) (.int .u64 ((x ||| 1 * 2 ^ (p % 64) : Nat) : Int)) := over_one s1
    rw [f0] at f1
    refine walk ?_
    rw [quo64 hp]
    refine walk ?_
    rw [show ((p : Int).tmod 64) = ((p % 64 : Nat) : Int) from rfl]
    refine jo_val rfl rfl rfl (k_bin rfl rfl rfl (b_shl (x := 1) (y := p % 64) rfl (by show p % 64 ≤ 64; omega) hsh) rfl) ?_
    refine walk ?_
    refine jo_val rfl rfl rfl (k_bin rfl rfl rfl (b_or rfl hx2 hsh) rfl) ?_
    refine walk ?_
    refine jo_skip rfl rfl (k_store1 rfl rfl rfl rfl rfl rfl h3 s1) ?_
    refine walk ?_
    have f3 : all.set (0 + p / 64 * 1) (.int .u64 ((x ||| 1 * 2 ^ (p % 64) : Nat) : Int)) = (l.set (p / 64) (x ||| 1 * 2 ^ (p % 64))).flatMap u64c := by rw [← f1]; exact (List.take_of_length_le (by rw [List.length_set]; omega)).symm
    refine jg_nil fun tm hs => ends_normal hs rfl ⟨rfl, (Keep.refl _ _).st B _ h1 h2', ?_⟩
    unfold OwnLU OwnL
    rw [List.length_set]
    refine Own.os h1 h2' ?_ (by rw [← f3, List.length_set]; omega) h5
    rw [← f3]
    exact Heap.gs _ _ _
theorem bput_u {n B : Nat} {l : List Nat} {p x : Nat} {h : Heap} (h3 : h.get B = some (.cells 30 (l.flatMap u64c) true)) (h2' : B < h.next) (hx : l[p / 64]? = some x) (hp : p < 4294967296) (hx2 : x < 18446744073709551616) : Gives (TV n) 27 [.slice B 0 l.length l.length, .int .u32 p] h (fun v' h' => v' = .tuple [] ∧ Upd B (.cells 30 ((l.set (p / 64) (x ||| 1 * 2 ^ (p % 64))).flatMap u64c) true) h h') := by
  refine call_j (no_w rfl rfl) rfl rfl ?_
  have hsh : 1 * 2 ^ (p % 64) < 2 ^ IntKind.u64.bits := by
    rw [Nat.one_mul]
    exact Nat.pow_lt_pow_right (by decide) (show p % 64 < 64 by omega)
  have hi : p / 64 < l.length := by
    rcases Nat.lt_or_ge (p / 64) l.length with h1 | h1
    · exact h1
    · rw [List.getElem?_eq_none h1] at hx; cases hx
  have h5 : (l.flatMap u64c).length = l.length := by
    clear h3 hx hi
    induction l with
    | nil => rfl
    | cons a l ih => rw [List.flatMap_cons, List.length_append, ih, u64c_len, List.length_cons]; omega
  have h6 : (l.flatMap u64c).take (l.length * 1) = l.flatMap u64c := List.take_of_length_le (by omega)
  generalize ha : l.flatMap u64c = all at h3 h5
  rw [ha] at h6
  have h6 : all.take (l.length * 1) = l.flatMap u64c := by rw [ha]; exact h6
  obtain ⟨r1, r2⟩ := row_own u64c_len hx h6
  have r1 : (all.drop (0 + p / 64 * 1)).take 1 = [.int .u64 x] := r1
  have s1 : 0 + p / 64 * 1 < all.length := by omega
  have f1 := over_own u64c_len (i := p / 64) (x ||| 1 * 2 ^ (p % 64)) (by omega) h6
  have f0 : over all (0 + p / 64 * 1) (u64c (x ||| 1 * 2 ^ (p % 64))) = all.set (0 + p / 64 * 1) (.int .u64 ((x ||| 1 * 2 ^ (p % 64) : Nat) : Int)) := over_one s1
  rw [f0] at f1
  refine walk ?_
  rw [quo64 hp]
  refine walk ?_
  rw [show ((p : Int).tmod 64) = ((p % 64 : Nat) : Int) from rfl]
  refine jo_val rfl rfl rfl (k_bin rfl rfl rfl (b_shl (x := 1) (y := p % 64) rfl (by show p % 64 ≤ 64; omega) hsh) rfl) ?_
  refine walk ?_
  refine jo_val rfl rfl rfl (k_bin rfl rfl rfl (b_or rfl hx2 hsh) rfl) ?_
  refine walk ?_
  refine jo_skip rfl rfl (k_store1 rfl rfl rfl rfl rfl rfl h3 s1) ?_
  refine walk ?_
  have f3 : all.set (0 + p / 64 * 1) (.int .u64 ((x ||| 1 * 2 ^ (p % 64) : Nat) : Int)) = (l.set (p / 64) (x ||| 1 * 2 ^ (p % 64))).flatMap u64c := by rw [← f1]; exact (List.take_of_length_le (by rw [List.length_set]; omega)).symm
  refine jg_nil fun tm hs => ends_normal hs rfl ⟨rfl, ?_⟩
  rw [← f3]
  exact Upd.set _ _ _ h2'
end Go.Proofs.YthdlebegkhnbiaaGreat
