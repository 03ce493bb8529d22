/-
  No cell of these rows narrows 'for every input' (looked for: loops, veiled, ifaces, maps, wideKeys, modest, calm, conditions, laid).
  DERIVED. THE GIVEN ROWS OF THIS SEAT. 4 by the template 'for every input the law returns true; each argument reads behind the call as it read before'; 0 by the template 'total and deterministic' (their statements: YtmnhbehmjaibgaaGreatTotals.lean).
  GIVEN WITH THE SEED: the statements are not yours to turn. If you find one false, say at which input.
  Laid BY PROGRAM, IN A SANDBOX (cutbox-rows.mjs): the forced cells as the released guide's own fill.sh prints them over the translation 366c71f6548c8b3a… (all of the seat's roots in one cut). By AI agents, Wed Nov 11 2026. No macro, syntax, notation, axiom, sorry.
-/
import Derived.Test.YtmnhbehmjaibgaaGreatChecked
import GoSem.Claim
import GoSem.ClaimJoined
import GoSem.ClaimMapViews
import Derived.JoinedTies
import Derived.KernelRfl
namespace Go.Proofs.YtmnhbehmjaibgaaGreat
/- THE CELL 'sum', in the pinned program and in every row, IS THE sha256 OF THE DUMP (.gsa) THAT YtmnhbehmjaibgaaGreatProg.lean LOADS. Nothing in Lean hashes anything: it is a label: what it is worth is what the hold of that sum in a sandbox is worth. -/
noncomputable def Tryz.pinned : Pinned := { name := "ytmnhbehmjaibgaagreat", sum := "366c71f6548c8b3aba2eee28068fd9b7e54bc1ad3e67b80baa59db7b5de0e43c", checked := Tryz.checked }
namespace Rows
def none {H : Type} : Left H := { results := [], args := [] }

/-- 'careenagelaw16.DenRises': WHATEVER THE INPUT: true; the input reads as it did. -/
def denRisesSpec : ChangeSpec := { name := "denRises", fn := fun _ => fun
  | [d1, d2, d3] => { results := [.lit (.bool true)], args := [d1, d2, d3] }
  | _ => none }
def denRisesRow : OpenClaim := { program := "ytmnhbehmjaibgaagreat", sum := "366c71f6548c8b3aba2eee28068fd9b7e54bc1ad3e67b80baa59db7b5de0e43c", func := "careenage/careenagelaw16.DenRises", spec := "denRises", unfollowed := true, recurses := true, apart := false }
def DenRisesSaid : Prop := denRisesRow.holds Tryz.pinned (OpenSpec.ofChange denRisesSpec)

/-- ITS FALSE NEIGHBOUR: 'it returns false'. Refute it at one input. -/
def denRisesWrong : ChangeSpec := { name := "denRises", fn := fun _ => fun
  | [d1, d2, d3] => { results := [.lit (.bool false)], args := [d1, d2, d3] }
  | _ => none }
def DenRisesWrongFalsely : Prop := denRisesRow.holds Tryz.pinned (OpenSpec.ofChange denRisesWrong)

/-- 'careenagelaw16.DenApart': WHATEVER THE INPUT: true; the input reads as it did. -/
def denApartSpec : ChangeSpec := { name := "denApart", fn := fun _ => fun
  | [d1, d2, d3, d4, d5] => { results := [.lit (.bool true)], args := [d1, d2, d3, d4, d5] }
  | _ => none }
def denApartRow : OpenClaim := { program := "ytmnhbehmjaibgaagreat", sum := "366c71f6548c8b3aba2eee28068fd9b7e54bc1ad3e67b80baa59db7b5de0e43c", func := "careenage/careenagelaw16.DenApart", spec := "denApart", unfollowed := true, recurses := true, apart := false }
def DenApartSaid : Prop := denApartRow.holds Tryz.pinned (OpenSpec.ofChange denApartSpec)

/-- ITS FALSE NEIGHBOUR: 'it returns false'. Refute it at one input. -/
def denApartWrong : ChangeSpec := { name := "denApart", fn := fun _ => fun
  | [d1, d2, d3, d4, d5] => { results := [.lit (.bool false)], args := [d1, d2, d3, d4, d5] }
  | _ => none }
def DenApartWrongFalsely : Prop := denApartRow.holds Tryz.pinned (OpenSpec.ofChange denApartWrong)

/-- 'careenagelaw16.DenCalls': WHATEVER THE INPUT: true; the input reads as it did. -/
def denCallsSpec : ChangeSpec := { name := "denCalls", fn := fun _ => fun
  | [d1, d2, d3, d4, d5, d6, d7] => { results := [.lit (.bool true)], args := [d1, d2, d3, d4, d5, d6, d7] }
  | _ => none }
def denCallsRow : OpenClaim := { program := "ytmnhbehmjaibgaagreat", sum := "366c71f6548c8b3aba2eee28068fd9b7e54bc1ad3e67b80baa59db7b5de0e43c", func := "careenage/careenagelaw16.DenCalls", spec := "denCalls", unfollowed := true, recurses := true, apart := false }
def DenCallsSaid : Prop := denCallsRow.holds Tryz.pinned (OpenSpec.ofChange denCallsSpec)

/-- ITS FALSE NEIGHBOUR: 'it returns false'. Refute it at one input. -/
def denCallsWrong : ChangeSpec := { name := "denCalls", fn := fun _ => fun
  | [d1, d2, d3, d4, d5, d6, d7] => { results := [.lit (.bool false)], args := [d1, d2, d3, d4, d5, d6, d7] }
  | _ => none }
def DenCallsWrongFalsely : Prop := denCallsRow.holds Tryz.pinned (OpenSpec.ofChange denCallsWrong)

/-- 'careenagelaw16.DenEach': WHATEVER THE INPUT: true; the input reads as it did. -/
def denEachSpec : ChangeSpec := { name := "denEach", fn := fun _ => fun
  | [d1, d2, d3] => { results := [.lit (.bool true)], args := [d1, d2, d3] }
  | _ => none }
def denEachRow : OpenClaim := { program := "ytmnhbehmjaibgaagreat", sum := "366c71f6548c8b3aba2eee28068fd9b7e54bc1ad3e67b80baa59db7b5de0e43c", func := "careenage/careenagelaw16.DenEach", spec := "denEach", unfollowed := true, recurses := true, apart := false }
def DenEachSaid : Prop := denEachRow.holds Tryz.pinned (OpenSpec.ofChange denEachSpec)

/-- ITS FALSE NEIGHBOUR: 'it returns false'. Refute it at one input. -/
def denEachWrong : ChangeSpec := { name := "denEach", fn := fun _ => fun
  | [d1, d2, d3] => { results := [.lit (.bool false)], args := [d1, d2, d3] }
  | _ => none }
def DenEachWrongFalsely : Prop := denEachRow.holds Tryz.pinned (OpenSpec.ofChange denEachWrong)

/- THE SECOND FORM. 'bulk': how many values and letters a reading holds, each counted each time it is reached (what is shared counts as often as it is met; a slice's spare places count too). A statement '..UptoSaid' is the law's where the arguments, and the package variables that the reading takes, are together of bulk at most 1048576: NARROWER than '..Said'. Prove '..Said' where nothing that the law and all that it calls make is longer than what came in: it says more and counts as full. Else prove '..UptoSaid'. A law counts once. -/
mutual
def uptoBulk {H : Type} : DataW H → Nat
  | .lit (.string bytes) => bytes.length + 1
  | .lit _ => 1
  | .nil => 1
  | .ptr d => uptoBulk d + 1
  | .slice elems spare => uptoBulkAll elems + uptoBulkAll spare + 1
  | .agg parts => uptoBulkAll parts + 1
  | .iface _ d => uptoBulk d + 1
  | .map entries => uptoBulkEntries entries + 1
  | .held _ => 1
def uptoBulkAll {H : Type} : List (DataW H) → Nat
  | [] => 0
  | d :: r => uptoBulk d + uptoBulkAll r
def uptoBulkEntries {H : Type} : List (Lit × DataW H) → Nat
  | [] => 0
  | x :: r => uptoBulkEntry x + uptoBulkEntries r
def uptoBulkEntry {H : Type} : Lit × DataW H → Nat
  | (.string bytes, d) => bytes.length + uptoBulk d + 1
  | (_, d) => uptoBulk d + 1
 end
def uptoSmall : (H : Type) → List (DataW H) → Bool := fun _ ds => decide (uptoBulkAll ds ≤ 1048576)
def OpenSpec.upto (s : _root_.Go.ChangeSpec) : _root_.Go.OpenSpec := { _root_.Go.OpenSpec.ofChange s with cond := some uptoSmall }

/-- 'careenagelaw16.DenRises', WHERE WHAT IT READS IS OF BULK AT MOST 1048576: true; the input reads as it did. -/
def denRisesUptoRow : OpenClaim := { program := "ytmnhbehmjaibgaagreat", sum := "366c71f6548c8b3aba2eee28068fd9b7e54bc1ad3e67b80baa59db7b5de0e43c", func := "careenage/careenagelaw16.DenRises", spec := "denRises", unfollowed := true, recurses := true, apart := false, narrowed := true }
def DenRisesUptoSaid : Prop := denRisesUptoRow.holds Tryz.pinned (OpenSpec.upto denRisesSpec)

/-- 'careenagelaw16.DenApart', WHERE WHAT IT READS IS OF BULK AT MOST 1048576: true; the input reads as it did. -/
def denApartUptoRow : OpenClaim := { program := "ytmnhbehmjaibgaagreat", sum := "366c71f6548c8b3aba2eee28068fd9b7e54bc1ad3e67b80baa59db7b5de0e43c", func := "careenage/careenagelaw16.DenApart", spec := "denApart", unfollowed := true, recurses := true, apart := false, narrowed := true }
def DenApartUptoSaid : Prop := denApartUptoRow.holds Tryz.pinned (OpenSpec.upto denApartSpec)

/-- 'careenagelaw16.DenCalls', WHERE WHAT IT READS IS OF BULK AT MOST 1048576: true; the input reads as it did. -/
def denCallsUptoRow : OpenClaim := { program := "ytmnhbehmjaibgaagreat", sum := "366c71f6548c8b3aba2eee28068fd9b7e54bc1ad3e67b80baa59db7b5de0e43c", func := "careenage/careenagelaw16.DenCalls", spec := "denCalls", unfollowed := true, recurses := true, apart := false, narrowed := true }
def DenCallsUptoSaid : Prop := denCallsUptoRow.holds Tryz.pinned (OpenSpec.upto denCallsSpec)

/-- 'careenagelaw16.DenEach', WHERE WHAT IT READS IS OF BULK AT MOST 1048576: true; the input reads as it did. -/
def denEachUptoRow : OpenClaim := { program := "ytmnhbehmjaibgaagreat", sum := "366c71f6548c8b3aba2eee28068fd9b7e54bc1ad3e67b80baa59db7b5de0e43c", func := "careenage/careenagelaw16.DenEach", spec := "denEach", unfollowed := true, recurses := true, apart := false, narrowed := true }
def DenEachUptoSaid : Prop := denEachUptoRow.holds Tryz.pinned (OpenSpec.upto denEachSpec)

end Rows
end Go.Proofs.YtmnhbehmjaibgaaGreat
