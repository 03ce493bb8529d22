/- What the functions of this part answer at any input, told by the rules over the evaluator. Conditions: those that each theorem states. -/
import Derived.Test.YthdlebegkhnbiaaGan
import Derived.Test.YthdlebegkhnbiaaTab
import Derived.Test.YthdlebegkhnbiaaCrc
open Go Ev
set_option linter.unusedVariables false
set_option linter.unusedSimpArgs false
namespace Go.Proofs.Ythdlebegkhnbiaa
/-! ### the words: what lives() answers, the check of a text; functions whose answer is plain -/
def livesFs : List Nat := [5]
def crcFs : List Nat := [77, 84]
def wordSm (f : FuncId) (args : List AV) (h : Heap) : Option (AV × Heap) := match memN f livesFs with
  | true => match args with
    | [] => some (.bool true, h)
    | _ => none
  | false => match memN f crcFs with
    | true => crcSm f args h
    | false => none
noncomputable def T0 : Ev.Tabs := { TB.det with sm := wordSm }
def wfs : List Nat := [33, 52, 83, 22, 62, 76, 63, 47, 39, 66, 50, 37, 49, 36, 30, 70, 56, 57, 55, 42, 72, 71, 60, 59, 58, 46, 85, 78, 64, 87, 86, 88, 89, 79, 48, 34, 24, 18, 23, 6, 11, 19, 9, 12]
def wf (f : FuncId) : Bool := memN f wfs
noncomputable def TV (n : Nat) : Ev.Tabs := lev T0 wf n
theorem w_of {d n : Nat} (hn : d < n) {f : FuncId} {args : List AV} {h : Heap} {v : AV} (hw : wf f = true) (ha : AV.plains args = true) (hp : v.plain = true) (g : ∀ m, d ≤ m → BGives (TV m) f args ⟨.nil, 0⟩ (fun v' _ => v' = v)) : (TV n).sm f args h = some (v, h) := by
  obtain ⟨m, rfl⟩ : ∃ m, n = m + 1 := ⟨n - 1, by omega⟩
  exact word rfl hw hp (.plain ha (g m (by omega)))
theorem w_in {d n : Nat} (hn : d < n) {f : FuncId} {args : List AV} {h : Heap} {v : AV} (C : Heap → Prop) (hw : wf f = true) (hp : v.plain = true) (hc : C h) (h0 : AV.plains args = true → C ⟨.nil, 0⟩) (g : ∀ m, d ≤ m → ∀ h, C h → BGives (TV m) f args h (fun v' h' => v' = v ∧ Ext h h')) : (TV n).sm f args h = some (v, h) := by
  obtain ⟨m, rfl⟩ : ∃ m, n = m + 1 := ⟨n - 1, by omega⟩
  exact word rfl hw hp (.other (g m (by omega) h hc) fun hp => g m (by omega) _ (h0 hp))
theorem no_w {n : Nat} {f : FuncId} {args : List AV} {h : Heap} (hw : wf f = false) (h0 : wordSm f args h = none) : (TV n).sm f args h = none := by
  show smB T0 wf n f args h = none
  cases n with
  | zero => exact h0
  | succ n => unfold smB; rw [hw]; exact h0
theorem b_w {n : Nat} {f : FuncId} {args : List AV} {h : Heap} {r : Option (AV × Heap)} (hw : wf f = false) (h0 : wordSm f args h = r) : (TV n).sm f args h = r := by
  show smB T0 wf n f args h = r
  cases n with
  | zero => exact h0
  | succ n => unfold smB; rw [hw]; exact h0
end Go.Proofs.Ythdlebegkhnbiaa
