/- A part of the rules by which proofs walk over what the evaluator (EvDefs) says, at values that are not known: EvSl. Conditions: those that each theorem states. -/
import Derived.Test.YtebcbfpehalmjaaEvLem
set_option linter.unusedVariables false
set_option linter.unusedSimpArgs false
namespace Ev
open Go
variable {T : Tabs} {ρ : Operand → Option AV} {h h' : Heap} {dst : Option Tmp} {ty : TypeId} {pos : String} {aft : Array Edge} {gd : Option (Nat × Bool)} {t : TypeId} {x ix a : Operand}

/-! ### slices by what they hold -/
def Row (h : Heap) (b off m : Nat) (cs : List AV) : Prop := b < h.next ∧ ∃ e all rw, h.get b = some (.cells e all rw) ∧ off + m ≤ all.length ∧ (all.drop off).take m = cs
/-- a slice of n elements of sz cells each, its cells one after the other -/
def Sl (h : Heap) (sz : Nat) (v : AV) (n : Nat) (cs : List AV) : Prop := match v with
  | .nilslice => n = 0 ∧ cs = []
  | .eslice => n = 0 ∧ cs = []
  | .slice b off len _ => len = n ∧ Row h b off (n * sz) cs
  | .oslice b off len sz' => len = n ∧ sz' = sz ∧ Row h b off (n * sz) cs
  | _ => False
theorem Row.ext {b off m : Nat} {cs : List AV} (r : Row h b off m cs) (e : Ext h h') : Row h' b off m cs :=
  ⟨Nat.lt_of_lt_of_le r.1 e.nx, by rw [e.old b r.1]; exact r.2⟩
theorem Sl.ext {sz n : Nat} {v : AV} {cs : List AV} (s : Sl h sz v n cs) (e : Ext h h') : Sl h' sz v n cs := by
  cases v <;> simp only [Sl] at s ⊢ <;> first | exact s | exact ⟨s.1, s.2.ext e⟩ | exact ⟨s.1, s.2.1, s.2.2.ext e⟩
theorem Row.read {b off m : Nat} {cs : List AV} (r : Row h b off m cs) : readCells h b off m = some cs := by
  obtain ⟨_, e, all, rw, hg, hl, hc⟩ := r
  simp [readCells, hg, cutE, hl, cut, hc]
theorem Row.length {b off m : Nat} {cs : List AV} (r : Row h b off m cs) : cs.length = m := by
  obtain ⟨_, e, all, rw, hg, hl, rfl⟩ := r
  simp; omega
theorem Row.sub {b off m : Nat} {cs : List AV} (r : Row h b off m cs) (i k : Nat) (hk : i + k ≤ m) : Row h b (off + i) k ((cs.drop i).take k) := by
  obtain ⟨hb, e, all, rw, hg, hl, rfl⟩ := r
  refine ⟨hb, e, all, rw, hg, by omega, ?_⟩
  rw [List.drop_take, List.drop_drop, List.take_take]
  congr 1
  omega
theorem Sl.len {sz n : Nat} {v : AV} {cs : List AV} (s : Sl h sz v n cs) : lenS v = some n := by
  cases v <;> simp only [Sl] at s <;> first | exact s.elim | simp [lenS, s.1]
theorem Sl.first {sz n : Nat} {v : AV} {cs : List AV} (s : Sl h sz v n cs) : firstA sz n h v = some cs := by
  cases v <;> simp only [Sl] at s <;> first
    | exact s.elim
    | (simp [firstA, s.1, s.2]; done)
    | exact s.2.read
    | exact s.2.2.read
theorem Sl.length {sz n : Nat} {v : AV} {cs : List AV} (s : Sl h sz v n cs) : cs.length = n * sz := by
  cases v <;> simp only [Sl] at s <;> first
    | exact s.elim
    | (simp [s.1, s.2]; done)
    | exact s.2.length
    | exact s.2.2.length
/-- where an element lies -/
theorem Sl.at {sz n : Nat} {v : AV} {cs : List AV} (s : Sl h sz v n cs) (j : Nat) (hj : j < n) : ∃ b o, Row h b o sz ((cs.drop (j * sz)).take sz) ∧
    ∀ {hh : Heap} {T : Tabs} {ρ : Operand → Option AV} {dst : Option Tmp} {ty : TypeId} {pos : String} {aft : Array Edge} {gd : Option (Nat × Bool)} {t elem : TypeId} {x ix : Operand} {k : IntKind} {i : Int},
      T.und t = some (.slice elem) → T.size elem = some sz → ρ x = some v → ρ ix = some (.int k i) → i = j → opA T ρ ⟨dst, .indexAddr t x ix, ty, pos, aft, gd⟩ hh = .val (.ptr b o) hh := by
  have hb : j * sz + sz ≤ n * sz := by
    have : (j + 1) * sz ≤ n * sz := Nat.mul_le_mul_right sz hj
    rw [Nat.succ_mul] at this; exact this
  cases v <;> simp only [Sl] at s <;> first | exact s.elim | (exfalso; omega) | skip
  · rename_i b off len cap
    obtain ⟨rfl, r⟩ := s
    exact ⟨b, off + j * sz, r.sub _ _ hb, fun ht hsz hx hi hji => o_addr_slice ht hsz hx hi j hji hj⟩
  · rename_i b off len sz'
    obtain ⟨rfl, rfl, r⟩ := s
    exact ⟨b, off + j * sz', r.sub _ _ hb, fun ht hsz hx hi hji => o_addr_oslice ht hsz hx hi j hji hj⟩
theorem Row.load {b o n : Nat} {cs : List AV} (r : Row h b o n cs) (ha : T.agg t = some true) (hsz : T.size t = some n) (hx : ρ a = some (.ptr b o)) : opA T ρ ⟨dst, .load t a, ty, pos, aft, gd⟩ h = .val (.agg cs) h := by
  simp [opA, hx, loadVarA, ha, hsz, r.read, rv]
theorem Row.load1 {b o n : Nat} {v : AV} (r : Row h b o 1 [v]) (ha : T.agg t = some false) (hsz : T.size t = some n) (hx : ρ a = some (.ptr b o)) : opA T ρ ⟨dst, .load t a, ty, pos, aft, gd⟩ h = .val v h := by
  simp [opA, hx, loadVarA, ha, hsz, r.read, rv, nth]
theorem o_append {s y : Operand} {u v : AV} {ats : Array TypeId} (hs : ρ s = some u) (hy : ρ y = some v) : opA T ρ ⟨dst, .call { callee := .builtin .append, args := #[s, y], argTypes := ats }, ty, pos, aft, gd⟩ h = appendA T [u, v] ats.toList h := by
  simp [opA, argMap, hs, hy]
/-- append to a new slice of no room -/
theorem append_fresh {st elem : TypeId} {rest : List TypeId} {sz n b : Nat} {ei : TypeInfo} {v : AV} {cs all : List AV} {e : TypeId} (hu : T.und st = some (.slice elem)) (hsz : T.size elem = some sz) (hti : T.ti elem = some ei) (hz : zeroOk T elem sz = true)
    (hm : isMake T rest = some false) (hb : h.get b = some (.cells e all true)) (hbl : b < h.next) (hx : Sl h sz v n cs) (hr : roomA n ei.bytes = true) :
    ∃ v' h', appendA T [.slice b 0 0 0, v] (st :: rest) h = .val v' h' ∧ Sl h' sz v' n cs ∧ Ext h h' := by
  have hc : countA T rest v = some n := by
    unfold countA
    rw [hm]
    cases v <;> first | exact hx.len | (simp only [Sl] at hx)
  have hn : newA T elem sz n h rest v = some cs := by unfold newA; rw [hm]; exact hx.first
  have hf : firstA sz 0 h (.slice b 0 0 0) = some [] := by simp [firstA, readCells, hb, cutE, cut]
  have hlen : Nat.beq cs.length (n * sz) = true := by rw [hx.length]; simp
  have hlen0 : Nat.beq ([] : List AV).length (0 * sz) = true := by simp
  by_cases h0 : n = 0
  · subst h0
    have hcs : cs = [] := by have := hx.length; simpa using this
    subst hcs
    have hw : writeCells h b 0 [] = some (h.set b (.cells e all true)) := by
      simp [writeCells, hb, over]
    refine ⟨.slice b 0 0 0, h.set b (.cells e all true), ?_, ?_, ?_⟩
    · unfold appendA
      simp only [hu, hsz, lenS, hc, hti, hn, hf]
      simp [hr, hz, hw]
    · exact ⟨rfl, by simpa using hbl, e, all, true, by rw [Heap.get_set, if_pos rfl], by simp, by simp⟩
    · refine ⟨by simp, fun x hx => ?_, fun ho x hx => ?_⟩
      · rw [Heap.get_set]
        by_cases hxb : x = b
        · subst hxb; rw [if_pos rfl, hb]
        · rw [if_neg hxb]
      · have hx : h.next ≤ x := by simpa using hx
        rw [Heap.get_set, if_neg (by omega)]
        exact ho x hx
  · refine ⟨.oslice h.next 0 n sz, h.alloc (.cells elem cs true), ?_, ?_, Ext.alloc _ _⟩
    · unfold appendA
      simp only [hu, hsz, lenS, hc, hti, hn, hf]
      simp [hr, hz, hlen, h0]
    · exact ⟨rfl, rfl, by show h.next < h.next + 1; omega, elem, cs, true, get_new _ _, by have := hx.length; omega, by have := hx.length; simp [← this]⟩
end Ev
