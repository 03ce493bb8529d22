/- What the functions of this part answer at any input, told by the rules over the evaluator (EvWp) or by the kit's contracts. Conditions: those that each theorem states. -/
import Derived.Test.YtiijbjafiknbkaaGreatDoorEvGlob
import Derived.Test.YtiijbjafiknbkaaGreatDoorCrc
import Derived.Shelf.Strconv.Itoa3
import Derived.Test.YtiijbjafiknbkaaGreatDoorLay
import Derived.Lib.LaidTab
open Go Ev
namespace Go.Proofs.YtiijbjafiknbkaaGreatDoor
open Go.Shelf Go.RowKit Go.Sort Go.Proofs
set_option maxRecDepth 10000
set_option linter.unusedVariables false
set_option linter.unusedSimpArgs false
/-- what is asked of the world in which the run began: strconv's table of powers reads as the program's text lays it -/
def GOK (base : Nat) (w0 : World) : Prop := Lib.TabIs Tryz.prog w0 "internal/strconv.uint64pow10" .u64 Lib.pow10Tab ∧ base = w0.heap.size
theorem itoa_m1 : Lib.itoa (-1) = [45, 49] := by simp [Lib.itoa, Lib.decDigits]
theorem itoa_0 : Lib.itoa 0 = [48] := by simp [Lib.itoa, Lib.decDigits]
theorem itoa_1 : Lib.itoa 1 = [49] := by simp [Lib.itoa, Lib.decDigits]
theorem itoa_12 : Lib.itoa 12 = [49, 50] := by simp [Lib.itoa, Lib.decDigits]
theorem itoa_2 : Lib.itoa 2 = [50] := by simp [Lib.itoa, Lib.decDigits]
def itoaT : Int → Option (List UInt8)
  | .negSucc 0 => some [45, 49]
  | .ofNat 0 => some [48]
  | .ofNat 1 => some [49]
  | .ofNat 2 => some [50]
  | .ofNat 12 => some [49, 50]
  | _ => none
theorem itoaT_ok {n : Int} {s : List UInt8} (h : itoaT n = some s) : Lib.itoa n = s ∧ -9223372036854775808 ≤ n ∧ n ≤ 9223372036854775807 := by
  unfold itoaT at h
  split at h
  · cases h; exact ⟨itoa_m1, by decide, by decide⟩
  · cases h; exact ⟨itoa_0, by decide, by decide⟩
  · cases h; exact ⟨itoa_1, by decide, by decide⟩
  · cases h; exact ⟨itoa_2, by decide, by decide⟩
  · cases h; exact ⟨itoa_12, by decide, by decide⟩
  · cases h
theorem tab_below {base : Nat} {w0 w : World} (hG : GOK base w0) (hb : Below base w0 w) : Lib.TabIs Tryz.prog w "internal/strconv.uint64pow10" .u64 Lib.pow10Tab := by
  obtain ⟨ht, rfl⟩ := hG
  unfold Lib.TabIs World.var? at ht ⊢
  cases hg : Tryz.prog.globalNamed "internal/strconv.uint64pow10" with
  | none => rw [hg] at ht; cases ht
  | some g =>
    rw [hg] at ht
    simp only [Option.bind_some] at ht ⊢
    have hlt : g < w0.heap.size := by
      cases hh : w0.heap[g]? with
      | none => rw [hh] at ht; cases ht
      | some o => exact (Array.getElem?_eq_some_iff.1 hh).1
    rw [hb.block g hlt]
    exact ht
/-- strconv.Itoa, by the kit's contract -/
theorem itoa_task {base : Nat} {w0 : World} (hG : GOK base w0) {n : Int} {s : List UInt8} (hs : itoaT n = some s) (h : Heap) : TaskOK Tryz.prog base w0 (.call 21 [.int .i64 n] h) (.ret (.str s) h) := by
  intro E args' w cs ha H
  obtain ⟨hi, h0, h1⟩ := itoaT_ok hs
  cases ha with
  | cons _ _ _ _ p q =>
    cases q
    cases p
    have C := Any.strconv_Itoa Tryz.itoaL n h0 h1 w (tab_below hG H.wd)
    change Calls Tryz.prog 21 _ _ _ at C
    obtain ⟨e', w', fr, ⟨rfl, k, os, rfl⟩, s1, s2, s3⟩ := C cs
    rw [hi] at s3
    have A1 := hr_drewN H k
    have A2 := Ev.hr_grow A1.1 os
    exact ⟨_, rfl, E, _, _, fr, A2.1, A1.2.trans A2.2, .str s, s1, s2, s3⟩
def wordSm (f : FuncId) (args : List AV) (h : Heap) : Option (AV × Heap) := match crcSm f args h with
  | some r => some r
  | none => match Nat.beq f 21 with
    | true => match args with
      | [.int .i64 n] => match itoaT n with
        | some s => some (.str s, h)
        | none => none
      | _ => none
    | false => none
theorem wordSm_ok : SmOKG GOK Tryz.prog wordSm := by
  intro base w0 f args h v h' hG hw
  unfold wordSm at hw
  split at hw
  · rename_i r' hc
    cases hw
    exact crcSm_ok base w0 f args h v h' hc
  · split at hw
    · rename_i hf
      have hf := Nat.eq_of_beq_eq_true hf
      subst hf
      split at hw
      · split at hw
        · rename_i hi
          cases hw
          exact itoa_task hG hi h
        · cases hw
      · cases hw
    · cases hw
end Go.Proofs.YtiijbjafiknbkaaGreatDoor
