/- A part of the rules by which proofs walk over what the evaluator (EvDefs) says, at values that are not known: EvLem. Conditions: those that each theorem states. -/
import Derived.Test.YtnaihoegbmpjiaaGreatEvNum
import Derived.Test.YtnaihoegbmpjiaaGreatEvWpD
set_option linter.unusedVariables false
set_option linter.unusedSimpArgs false
namespace Ev
open Go
variable {T : Tabs} {ρ : Operand → Option AV} {h h' : Heap} {dst : Option Tmp} {ty : TypeId} {pos : String} {aft : Array Edge} {gd : Option (Nat × Bool)} {t : TypeId} {x ix a : Operand}

/-! ### operations that need a fact -/
theorem o_index_str {s : List UInt8} {k : IntKind} {i : Int} (ht : T.und t = some .string) (hx : ρ x = some (.str s)) (hi : ρ ix = some (.int k i)) (j : Nat) (hj : i = j) {b : UInt8} (hb : s[j]? = some b) :
    opA T ρ ⟨dst, .index t x ix, ty, pos, aft, gd⟩ h = .val (.int .u8 b.toNat) h := by
  subst hj
  simp [opA, ht, hx, hi, nth_eq, hb]
theorem o_addr_arr {k : IntKind} {i : Int} {len sz b off : Nat} {elem : TypeId} (ht : T.und t = some (.array len elem)) (hsz : T.size elem = some sz) (hx : ρ x = some (.ptr b off)) (hi : ρ ix = some (.int k i)) (j : Nat) (hj : i = j) (hl : j < len) :
    opA T ρ ⟨dst, .indexAddr t x ix, ty, pos, aft, gd⟩ h = .val (.ptr b (off + j * sz)) h := by
  subst hj
  simp [opA, ht, hx, hi, hsz, hl]
theorem loadVar_one {b off n : Nat} {e : TypeId} {cs : List AV} {rw : Bool} {v : AV} (ha : T.agg t = some false) (hsz : T.size t = some n) (hg : h.get b = some (.cells e cs rw)) (hv : cs[off]? = some v) : loadVarA T t h b off = some v := by
  have hl : off < cs.length := (List.getElem?_eq_some_iff.1 hv).1
  have hd : cut cs off 1 = [v] := by
    unfold cut
    rw [List.drop_eq_getElem_cons hl]
    have := (List.getElem?_eq_some_iff.1 hv).2
    simp [this]
  simp [loadVarA, ha, hsz, readCells, hg, cutE, hd, Nat.succ_le_of_lt hl, nth]
theorem o_load {b off n : Nat} {e : TypeId} {cs : List AV} {rw : Bool} {v : AV} (hx : ρ a = some (.ptr b off)) (ha : T.agg t = some false) (hsz : T.size t = some n) (hg : h.get b = some (.cells e cs rw)) (hv : cs[off]? = some v) :
    opA T ρ ⟨dst, .load t a, ty, pos, aft, gd⟩ h = .val v h := by
  simp [opA, hx, loadVar_one ha hsz hg hv, rv]
theorem o_bin {op : BinOp} {u : TypeId} {y : Operand} {a b v : AV} (hx : ρ x = some a) (hy : ρ y = some b) (hv : binA T op t a b = some v) (hg : guardEq T op t x y a b = true) :
    opA T ρ ⟨dst, .binOp op t x y u, ty, pos, aft, gd⟩ h = .val v h := by
  simp [opA, hx, hy, hg, hv, rv]
theorem o_un {op : UnOp} {a v : AV} (hx : ρ x = some a) (hv : unA op a = some v) : opA T ρ ⟨dst, .unOp op t x, ty, pos, aft, gd⟩ h = .val v h := by
  simp [opA, hx, hv, rv]
theorem o_conv {src : TypeId} {k k' : IntKind} {n : Int} {d : TypeDesc} {z : Int} (hx : ρ x = some (.int k n)) (hs : T.und src = some d) (hd : T.und t = some (.int k')) (hz : k'.wrap n = z) : opA T ρ ⟨dst, .convert src t x, ty, pos, aft, gd⟩ h = .val (.int k' z) h := by
  subst hz
  simp [opA, hx, convA, hs, hd]
theorem b_xor {k : IntKind} {x y : Nat} (hk : k.signed = false) (hx : x < 2 ^ k.bits) (hy : y < 2 ^ k.bits) : binA T .xor t (.int k (x : Int)) (.int k (y : Int)) = some (.int k ((x ^^^ y : Nat) : Int)) := by
  simp only [binA, if_true, intOp, xor_u hk hx hy]
theorem b_and {k : IntKind} {x y : Nat} (hk : k.signed = false) (hx : x < 2 ^ k.bits) (hy : y < 2 ^ k.bits) : binA T .and t (.int k (x : Int)) (.int k (y : Int)) = some (.int k ((x &&& y : Nat) : Int)) := by
  simp only [binA, if_true, intOp, and_u hk hx hy]
theorem b_shr {k k' : IntKind} {x y : Nat} (hy : y ≤ k.bits) : binA T .shr t (.int k (x : Int)) (.int k' (y : Int)) = some (.int k ((x / 2 ^ y : Nat) : Int)) := by
  have h1 : ¬ ((y : Int) < 0) := by omega
  have h2 : min ((y : Int).toNat) k.bits = y := by simp; exact Nat.min_eq_left hy
  have h3 : (2 ^ y : Int) = ((2 ^ y : Nat) : Int) := by push_cast; rfl
  simp only [binA, shiftOp, if_neg h1, h2]
  rw [h3, fdiv_nat]
theorem wrap_i64 {x : Int} (h1 : -9223372036854775808 ≤ x) (h2 : x < 9223372036854775808) : IntKind.i64.wrap x = x := by
  unfold IntKind.wrap
  simp only [IntKind.bits, IntKind.signed]
  simp
  omega
theorem b_add_i64 {x y z : Int} (hz : x + y = z) (h1 : -9223372036854775808 ≤ z) (h2 : z < 9223372036854775808) : binA T .add t (.int .i64 x) (.int .i64 y) = some (.int .i64 z) := by
  subst hz
  simp only [binA, if_true, intOp, wrap_i64 h1 h2]
theorem b_sub_i64 {x y z : Int} (hz : x - y = z) (h1 : -9223372036854775808 ≤ z) (h2 : z < 9223372036854775808) : binA T .sub t (.int .i64 x) (.int .i64 y) = some (.int .i64 z) := by
  subst hz
  simp only [binA, if_true, intOp, wrap_i64 h1 h2]
theorem u_not {k : IntKind} {x m : Nat} (hk : k.signed = false) (hm : k.max = (m : Int)) (hm2 : m < 2 ^ k.bits) (hx : x < 2 ^ k.bits) : unA .xor (.int k (x : Int)) = some (.int k ((m ^^^ x : Nat) : Int)) := by
  simp only [unA, hk, hm, intOp]
  rw [← xor_u hk hm2 hx]
  simp
end Ev
namespace Ev
open Go
variable {T : Tabs} {ρ : Operand → Option AV} {h h' : Heap} {dst : Option Tmp} {ty : TypeId} {pos : String} {aft : Array Edge} {gd : Option (Nat × Bool)} {t : TypeId} {x ix a : Operand}
theorem over_one {α : Type} (l : List α) (n : Nat) (v : α) (h : n < l.length) : over l n [v] = l.set n v := by
  unfold over
  rw [List.set_eq_take_append_cons_drop, if_pos h]
  simp
theorem over_all {α : Type} (l vs : List α) (h : l.length = vs.length) : over l 0 vs = vs := by
  unfold over
  simp [h]
theorem o_store1 {b off : Nat} {e : TypeId} {cs : List AV} {v : AV} (hx : ρ a = some (.ptr b off)) (hv : ρ x = some v) (hsz : T.size t = some 1) (hc : v.cells = [v]) (h1 : v.one = true) (hg : h.get b = some (.cells e cs true)) (hl : off < cs.length) :
    opA T ρ ⟨dst, .store t a x, ty, pos, aft, gd⟩ h = .skip (h.set b (.cells e (cs.set off v) true)) := by
  have hl' : off + 1 ≤ cs.length := hl
  simp [opA, hx, hv, hsz, hc, writeCells, hg, h1, over_one _ _ _ hl, hl']
theorem o_storeN {b off n : Nat} {e : TypeId} {cs vs : List AV} (hx : ρ a = some (.ptr b off)) (hv : ρ x = some (.agg vs)) (hsz : T.size t = some n) (hn : vs.length = n) (h1 : vs.all AV.one = true) (hg : h.get b = some (.cells e cs true)) (hl : off + n ≤ cs.length) :
    opA T ρ ⟨dst, .store t a x, ty, pos, aft, gd⟩ h = .skip (h.set b (.cells e (over cs off vs) true)) := by
  simp only [List.all_eq_true] at h1
  simp [opA, hx, hv, hsz, AV.cells, hn, writeCells, hg, hl]
  rw [if_pos h1]
theorem loadVar_agg {b off n : Nat} {e : TypeId} {cs : List AV} {rw : Bool} (ha : T.agg t = some true) (hsz : T.size t = some n) (hg : h.get b = some (.cells e cs rw)) (hl : off + n ≤ cs.length) : loadVarA T t h b off = some (.agg ((cs.drop off).take n)) := by
  simp [loadVarA, ha, hsz, readCells, hg, cutE, hl, cut]
theorem o_loadN {b off n : Nat} {e : TypeId} {cs : List AV} {rw : Bool} (hx : ρ a = some (.ptr b off)) (ha : T.agg t = some true) (hsz : T.size t = some n) (hg : h.get b = some (.cells e cs rw)) (hl : off + n ≤ cs.length) :
    opA T ρ ⟨dst, .load t a, ty, pos, aft, gd⟩ h = .val (.agg ((cs.drop off).take n)) h := by
  simp [opA, hx, loadVar_agg ha hsz hg hl, rv]
theorem go_join {cx : Cx} {k : List K} {s : St} {Q : Res → Prop} {c : K} (I : St → Prop) (rest : ∀ st, I st → Goes T cx k st Q) (now : (∀ st, I st → Goes T cx k st Q) → Goes T cx (c :: k) s Q) : Goes T cx (c :: k) s Q := now rest
end Ev
namespace Ev
open Go
theorem ends_cell {T : Tabs} {tm : Tr AV} {L : List (Nat × AV)} {h : Heap} {a : Tmp} {t : TypeId} {b off : Nat} {v : AV} {P : AV → Heap → Prop} (hs : Sees tm L) (ha : look L a = some (.ptr b off)) (hl : loadVarA T t h b off = some v) (p : P v h) : Ends T [.cell a t] P (.fin .ret ⟨tm, [], none, h⟩) :=
  ends_ret (vs := [v]) hs (by simp [resultsL, ha, hl]) p
end Ev
namespace Ev
open Go
variable {T : Tabs} {ρ : Operand → Option AV} {h h' : Heap} {dst : Option Tmp} {ty : TypeId} {pos : String} {aft : Array Edge} {gd : Option (Nat × Bool)} {t : TypeId} {x ix a : Operand}
theorem o_addr_slice {k : IntKind} {i : Int} {len cap sz b off : Nat} {elem : TypeId} (ht : T.und t = some (.slice elem)) (hsz : T.size elem = some sz) (hx : ρ x = some (.slice b off len cap)) (hi : ρ ix = some (.int k i)) (j : Nat) (hj : i = j) (hl : j < len) :
    opA T ρ ⟨dst, .indexAddr t x ix, ty, pos, aft, gd⟩ h = .val (.ptr b (off + j * sz)) h := by
  subst hj
  simp [opA, ht, hx, hi, hsz, hl]
theorem o_addr_oslice {k : IntKind} {i : Int} {len sz' sz b off : Nat} {elem : TypeId} (ht : T.und t = some (.slice elem)) (hsz : T.size elem = some sz) (hx : ρ x = some (.oslice b off len sz')) (hi : ρ ix = some (.int k i)) (j : Nat) (hj : i = j) (hl : j < len) :
    opA T ρ ⟨dst, .indexAddr t x ix, ty, pos, aft, gd⟩ h = .val (.ptr b (off + j * sz)) h := by
  subst hj
  simp [opA, ht, hx, hi, hsz, hl]
theorem Heap.ok_alloc {h : Heap} (k : h.ok) (o : AObj) : (h.alloc o).ok := (Ext.alloc h o).ok k
end Ev
