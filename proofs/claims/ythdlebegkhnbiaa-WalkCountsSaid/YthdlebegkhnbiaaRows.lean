/-
  No cell of these rows narrows 'for every input' (looked for: loops, veiled, ifaces, maps, wideKeys, modest, calm, conditions, laid).
  DERIVED. THE GIVEN ROWS OF THIS SEAT. 2 by the template 'for every input the law returns true; each argument reads behind the call as it read before'; 0 by the template 'total and deterministic' (their statements: YthdlebegkhnbiaaTotals.lean).
  GIVEN WITH THE SEED: the statements are not yours to turn. If you find one false, say at which input.
  Laid BY PROGRAM, IN A SANDBOX (cutbox-rows.mjs): the forced cells as the released guide's own fill.sh prints them over the translation d390ae4e05127063… (all of the seat's roots in one cut). By AI agents, Wed Nov 11 2026. No macro, syntax, notation, axiom, sorry.
-/
import Derived.Test.YthdlebegkhnbiaaChecked
import GoSem.Claim
import GoSem.ClaimJoined
import GoSem.ClaimMapViews
import Derived.JoinedTies
import Derived.KernelRfl
namespace Go.Proofs.Ythdlebegkhnbiaa
/- THE CELL 'sum', in the pinned program and in every row, IS THE sha256 OF THE DUMP (.gsa) THAT YthdlebegkhnbiaaProg.lean LOADS. Nothing in Lean hashes anything: it is a label: what it is worth is what the hold of that sum in a sandbox is worth. -/
noncomputable def Try.pinned : Pinned := { name := "ythdlebegkhnbiaa", sum := "d390ae4e05127063b134ac4eaf463f59e78aba2e3b1a5caf806e5baf4d094b00", checked := Try.checked }
namespace Rows
def none {H : Type} : Left H := { results := [], args := [] }

/-- 'careenagelaw17.WalkFrom': WHATEVER THE INPUT: true; the input reads as it did. -/
def walkFromSpec : ChangeSpec := { name := "walkFrom", fn := fun _ => fun
  | [d1, d2, d3] => { results := [.lit (.bool true)], args := [d1, d2, d3] }
  | _ => none }
def walkFromRow : OpenClaim := { program := "ythdlebegkhnbiaa", sum := "d390ae4e05127063b134ac4eaf463f59e78aba2e3b1a5caf806e5baf4d094b00", func := "careenage/careenagelaw17.WalkFrom", spec := "walkFrom", unfollowed := true, recurses := true, apart := false }
def WalkFromSaid : Prop := walkFromRow.holds Try.pinned (OpenSpec.ofChange walkFromSpec)

/-- ITS FALSE NEIGHBOUR: 'it returns false'. Refute it at one input. -/
def walkFromWrong : ChangeSpec := { name := "walkFrom", fn := fun _ => fun
  | [d1, d2, d3] => { results := [.lit (.bool false)], args := [d1, d2, d3] }
  | _ => none }
def WalkFromWrongFalsely : Prop := walkFromRow.holds Try.pinned (OpenSpec.ofChange walkFromWrong)

/-- 'careenagelaw17.WalkCounts': WHATEVER THE INPUT: true; the input reads as it did. -/
def walkCountsSpec : ChangeSpec := { name := "walkCounts", fn := fun _ => fun
  | [d1, d2, d3, d4] => { results := [.lit (.bool true)], args := [d1, d2, d3, d4] }
  | _ => none }
def walkCountsRow : OpenClaim := { program := "ythdlebegkhnbiaa", sum := "d390ae4e05127063b134ac4eaf463f59e78aba2e3b1a5caf806e5baf4d094b00", func := "careenage/careenagelaw17.WalkCounts", spec := "walkCounts", unfollowed := true, recurses := true, apart := false }
def WalkCountsSaid : Prop := walkCountsRow.holds Try.pinned (OpenSpec.ofChange walkCountsSpec)

/-- ITS FALSE NEIGHBOUR: 'it returns false'. Refute it at one input. -/
def walkCountsWrong : ChangeSpec := { name := "walkCounts", fn := fun _ => fun
  | [d1, d2, d3, d4] => { results := [.lit (.bool false)], args := [d1, d2, d3, d4] }
  | _ => none }
def WalkCountsWrongFalsely : Prop := walkCountsRow.holds Try.pinned (OpenSpec.ofChange walkCountsWrong)

/- THE SECOND FORM. 'bulk': how many values and letters a reading holds, each counted each time it is reached (what is shared counts as often as it is met; a slice's spare places count too). A statement '..UptoSaid' is the law's where the arguments, and the package variables that the reading takes, are together of bulk at most 1048576: NARROWER than '..Said'. Prove '..Said' where nothing that the law and all that it calls make is longer than what came in: it says more and counts as full. Else prove '..UptoSaid'. A law counts once. -/
mutual
def uptoBulk {H : Type} : DataW H → Nat
  | .lit (.string bytes) => bytes.length + 1
  | .lit _ => 1
  | .nil => 1
  | .ptr d => uptoBulk d + 1
  | .slice elems spare => uptoBulkAll elems + uptoBulkAll spare + 1
  | .agg parts => uptoBulkAll parts + 1
  | .iface _ d => uptoBulk d + 1
  | .map entries => uptoBulkEntries entries + 1
  | .held _ => 1
def uptoBulkAll {H : Type} : List (DataW H) → Nat
  | [] => 0
  | d :: r => uptoBulk d + uptoBulkAll r
def uptoBulkEntries {H : Type} : List (Lit × DataW H) → Nat
  | [] => 0
  | x :: r => uptoBulkEntry x + uptoBulkEntries r
def uptoBulkEntry {H : Type} : Lit × DataW H → Nat
  | (.string bytes, d) => bytes.length + uptoBulk d + 1
  | (_, d) => uptoBulk d + 1
 end
def uptoSmall : (H : Type) → List (DataW H) → Bool := fun _ ds => decide (uptoBulkAll ds ≤ 1048576)
def OpenSpec.upto (s : _root_.Go.ChangeSpec) : _root_.Go.OpenSpec := { _root_.Go.OpenSpec.ofChange s with cond := some uptoSmall }

/-- 'careenagelaw17.WalkFrom', WHERE WHAT IT READS IS OF BULK AT MOST 1048576: true; the input reads as it did. -/
def walkFromUptoRow : OpenClaim := { program := "ythdlebegkhnbiaa", sum := "d390ae4e05127063b134ac4eaf463f59e78aba2e3b1a5caf806e5baf4d094b00", func := "careenage/careenagelaw17.WalkFrom", spec := "walkFrom", unfollowed := true, recurses := true, apart := false, narrowed := true }
def WalkFromUptoSaid : Prop := walkFromUptoRow.holds Try.pinned (OpenSpec.upto walkFromSpec)

/-- 'careenagelaw17.WalkCounts', WHERE WHAT IT READS IS OF BULK AT MOST 1048576: true; the input reads as it did. -/
def walkCountsUptoRow : OpenClaim := { program := "ythdlebegkhnbiaa", sum := "d390ae4e05127063b134ac4eaf463f59e78aba2e3b1a5caf806e5baf4d094b00", func := "careenage/careenagelaw17.WalkCounts", spec := "walkCounts", unfollowed := true, recurses := true, apart := false, narrowed := true }
def WalkCountsUptoSaid : Prop := walkCountsUptoRow.holds Try.pinned (OpenSpec.upto walkCountsSpec)

end Rows
end Go.Proofs.Ythdlebegkhnbiaa
