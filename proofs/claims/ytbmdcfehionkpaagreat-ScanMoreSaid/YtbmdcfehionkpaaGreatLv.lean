/- What the functions of this part answer at any input, told by the rules over the evaluator. Conditions: those that each theorem states. -/
import Derived.Test.YtbmdcfehionkpaaGreatGan
import Derived.Test.YtbmdcfehionkpaaGreatTab
import Derived.Test.YtbmdcfehionkpaaGreatCrc
open Go Ev
set_option linter.unusedVariables false
set_option linter.unusedSimpArgs false
namespace Go.Proofs.YtbmdcfehionkpaaGreat
/-! ### the words: what lives() answers, the check of a text; functions whose answer is plain -/
def livesFs : List Nat := [8]
def crcFs : List Nat := [131, 159, 39, 67]
def wordSm (f : FuncId) (args : List AV) (h : Heap) : Option (AV × Heap) := match memN f livesFs with
  | true => match args with
    | [] => some (.bool true, h)
    | _ => none
  | false => match memN f crcFs with
    | true => crcSm f args h
    | false => none
noncomputable def T0 : Ev.Tabs := { TB.det with sm := wordSm }
def wfs : List Nat := [100, 158, 157, 71, 104, 130, 105, 76, 136, 195, 172, 151, 171, 150, 121, 212, 183, 184, 182, 164, 214, 213, 187, 186, 185, 168, 189, 169, 148, 191, 190, 192, 193, 170, 134, 137, 109, 77, 46, 119, 89, 10, 11, 34, 66, 37, 38, 20, 13, 74, 44, 102, 111, 101, 103, 75, 45, 17, 138, 139, 110, 79, 80, 141, 142, 114, 113, 83, 144, 116, 143, 115, 84, 85, 54, 118, 145, 117, 86, 21, 9, 26, 65, 33, 12, 207, 97, 177, 210, 211, 223]
def wf (f : FuncId) : Bool := memN f wfs
noncomputable def TV (n : Nat) : Ev.Tabs := lev T0 wf n
theorem w_of {d n : Nat} (hn : d < n) {f : FuncId} {args : List AV} {h : Heap} {v : AV} (hw : wf f = true) (ha : AV.plains args = true) (hp : v.plain = true) (g : ∀ m, d ≤ m → BGives (TV m) f args ⟨.nil, 0⟩ (fun v' _ => v' = v)) : (TV n).sm f args h = some (v, h) := by
  obtain ⟨m, rfl⟩ : ∃ m, n = m + 1 := ⟨n - 1, by omega⟩
  exact word rfl hw hp (.plain ha (g m (by omega)))
theorem w_in {d n : Nat} (hn : d < n) {f : FuncId} {args : List AV} {h : Heap} {v : AV} (C : Heap → Prop) (hw : wf f = true) (hp : v.plain = true) (hc : C h) (h0 : AV.plains args = true → C ⟨.nil, 0⟩) (g : ∀ m, d ≤ m → ∀ h, C h → BGives (TV m) f args h (fun v' h' => v' = v ∧ Ext h h')) : (TV n).sm f args h = some (v, h) := by
  obtain ⟨m, rfl⟩ : ∃ m, n = m + 1 := ⟨n - 1, by omega⟩
  exact word rfl hw hp (.other (g m (by omega) h hc) fun hp => g m (by omega) _ (h0 hp))
theorem no_w {n : Nat} {f : FuncId} {args : List AV} {h : Heap} (hw : wf f = false) (h0 : wordSm f args h = none) : (TV n).sm f args h = none := by
  show smB T0 wf n f args h = none
  cases n with
  | zero => exact h0
  | succ n => unfold smB; rw [hw]; exact h0
theorem b_w {n : Nat} {f : FuncId} {args : List AV} {h : Heap} {r : Option (AV × Heap)} (hw : wf f = false) (h0 : wordSm f args h = r) : (TV n).sm f args h = r := by
  show smB T0 wf n f args h = r
  cases n with
  | zero => exact h0
  | succ n => unfold smB; rw [hw]; exact h0
end Go.Proofs.YtbmdcfehionkpaaGreat
