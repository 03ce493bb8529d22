/- What the functions of this part answer at any input, told by the rules over the evaluator. Conditions: those that each theorem states. -/
import Derived.Test.YtbmdcfehionkpaaGreatScn
open Go Ev
namespace Go.Proofs.YtbmdcfehionkpaaGreat
set_option maxRecDepth 10000
set_option linter.unusedVariables false
set_option linter.unusedSimpArgs false
set_option maxHeartbeats 4000000
set_option linter.unusedVariables false
/-! ### ScanApart, the plain side -/
theorem rtOf_page {z : Int} {img : List UInt8} {p : Nat} {k : Int} : ∀ x ∈ rtOf z img p k, x.page = p := by
  intro x hx
  unfold rtOf at hx
  split at hx
  case isFalse => simp at hx
  rename_i c
  obtain rfl := List.mem_singleton.1 hx
  show (rightR z img p k).1.page = p
  unfold rightR at c ⊢
  split at c
  case isFalse => cases c
  rename_i d
  rw [if_pos d]
  obtain ⟨e, -, -⟩ := d
  show (readR z img p).1.page = p
  unfold readR getR at e ⊢
  by_cases c1 : Good z
  case neg => rw [if_neg c1] at e; cases e
  by_cases c2 : p < pages z img
  case neg => rw [if_pos c1, if_neg c2] at e; cases e
  rw [if_pos c1, if_pos c2, if_pos c1] at e ⊢
  by_cases c3 : ((atL z img p).length : Int) = z ∧ getP z p (atL z img p)
  case neg => rw [if_neg c3] at e; cases e
  rw [if_pos c3]
  exact c3.2.2.2.1
theorem scanN_page {z : Int} {img : List UInt8} {p j : Nat} : ∀ x ∈ scanN z img p j, x.page = p := by
  intro x hx
  unfold scanN at hx
  obtain ⟨i, _, hi⟩ := List.mem_flatMap.1 hx
  exact rtOf_page x hi
theorem apart_get {img block : List UInt8} {k m : Nat} (hb : block.length = m) (hk : k * m + m ≤ img.length) (q : Nat) (hq : q < k * m ∨ k * m + m ≤ q) : (img.take (k * m) ++ block ++ img.drop (k * m + m))[q]? = img[q]? := by
  have l1 : (img.take (k * m)).length = k * m := by simp; omega
  have l2 : (img.take (k * m) ++ block).length = k * m + m := by simp; omega
  rcases hq with c | c
  · rw [List.getElem?_append_left (by omega), List.getElem?_append_left (by omega), List.getElem?_take_of_lt c]
  · rw [List.getElem?_append_right (by omega), l2, List.getElem?_drop]; congr 1; omega
theorem apart_at {z : Int} {img block : List UInt8} {k p : Nat} (hb : block.length = z.toNat) (hk : k * z.toNat + z.toNat ≤ img.length) (hp : p ≠ k) : atL z (img.take (k * z.toNat) ++ block ++ img.drop (k * z.toNat + z.toNat)) p = atL z img p := by
  unfold atL
  refine List.ext_getElem? fun j => ?_
  rw [List.getElem?_take, List.getElem?_take]
  split
  · rename_i c
    rw [List.getElem?_drop, List.getElem?_drop]
    refine apart_get hb hk _ ?_
    rcases Nat.lt_or_ge p k with r | r
    · have := Nat.mul_le_mul_right z.toNat (show p + 1 ≤ k from r)
      rw [Nat.succ_mul] at this
      exact .inl (by omega)
    · have := Nat.mul_le_mul_right z.toNat (show k + 1 ≤ p by omega)
      rw [Nat.succ_mul] at this
      exact .inr (by omega)
  · rfl
theorem apart_is {z : Int} {img block : List UInt8} {k : Nat} (hb : block.length = z.toNat) (hk : k * z.toNat + z.toNat ≤ img.length) : atL z (img.take (k * z.toNat) ++ block ++ img.drop (k * z.toNat + z.toNat)) k = block := by
  unfold atL
  have l1 : (img.take (k * z.toNat)).length = k * z.toNat := by simp; omega
  rw [List.append_assoc, List.drop_left' l1, List.take_left' hb]
theorem apart_pages {z : Int} {img img2 : List UInt8} (h : img2.length = img.length) : pages z img2 = pages z img := by unfold pages; rw [h]
theorem apart_scan {z : Int} {img block : List UInt8} {k : Nat} (hb : block.length = z.toNat) (hk : k < pages z img) (he : (getR z k block).2 ≠ 0) (i : Nat) :
    scanTo z (img.take (k * z.toNat) ++ block ++ img.drop (k * z.toNat + z.toNat)) i = (scanTo z img i).filter fun x => decide (x.page ≠ k) := by
  have hkl := (at_in hk).2
  have hl : (img.take (k * z.toNat) ++ block ++ img.drop (k * z.toNat + z.toNat)).length = img.length := by simp; omega
  have a1 : ∀ p, p ≠ k → atL z (img.take (k * z.toNat) ++ block ++ img.drop (k * z.toNat + z.toNat)) p = atL z img p := fun p h => apart_at hb hkl h
  have a2 := apart_is (img := img) (k := k) hb hkl
  generalize img.take (k * z.toNat) ++ block ++ img.drop (k * z.toNat + z.toNat) = img2 at hl a1 a2
  have r1 : ∀ p, p ≠ k → readR z img2 p = readR z img p := fun p h => by unfold readR; rw [apart_pages hl, a1 p h]
  have r2 : (readR z img2 k).2 ≠ 0 := by
    unfold readR
    rw [apart_pages hl, a2]
    by_cases gz : Good z
    · rw [if_pos gz, if_pos hk]; exact he
    · rw [if_neg gz]; exact (by decide : (2 : Int) ≠ 0)
  have s1 : ∀ p j, p ≠ k → scanN z img2 p j = scanN z img p j := fun p j h => by
    unfold scanN rtOf rightR
    rw [r1 p h]
  have s2 : ∀ j, scanN z img2 k j = [] := fun j => by
    unfold scanN
    refine List.flatMap_eq_nil_iff.2 fun i _ => ?_
    have e : (rightR z img2 k (2 + i : Nat)).2 = false := by unfold rightR; rw [if_neg (fun c => r2 c.1)]
    unfold rtOf
    rw [e]
    rfl
  induction i with
  | zero => rfl
  | succ i ih =>
    rw [scanTo_succ, scanTo_succ, List.filter_append, ih]
    congr 1
    by_cases c : 2 + i = k
    · rw [c, s2]
      refine (List.filter_eq_nil_iff.2 fun x hx => ?_).symm
      rw [scanN_page x hx]
      simp
    · rw [s1 _ _ c]
      refine (List.filter_eq_self.2 fun x hx => ?_).symm
      rw [scanN_page x hx]
      simpa using c
end Go.Proofs.YtbmdcfehionkpaaGreat
