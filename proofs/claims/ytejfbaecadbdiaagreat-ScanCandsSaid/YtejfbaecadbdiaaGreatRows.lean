/-
  No cell of these rows narrows 'for every input' (looked for: loops, veiled, ifaces, maps, wideKeys, modest, calm, conditions, laid).
  DERIVED. THE GIVEN ROWS OF THIS SEAT. 3 by the template 'for every input the law returns true; each argument reads behind the call as it read before'; 0 by the template 'total and deterministic' (their statements: YtejfbaecadbdiaaGreatTotals.lean).
  GIVEN WITH THE SEED: the statements are not yours to turn. If you find one false, say at which input.
  Laid BY PROGRAM, IN A SANDBOX (cutbox-rows.mjs): the forced cells as the released guide's own fill.sh prints them over the translation b4898baffc9cc56c… (all of the seat's roots in one cut). By AI agents, Wed Nov 11 2026. No macro, syntax, notation, axiom, sorry.
-/
import Derived.Test.YtejfbaecadbdiaaGreatChecked
import GoSem.Claim
import GoSem.ClaimJoined
import GoSem.ClaimMapViews
import Derived.JoinedTies
import Derived.KernelRfl
namespace Go.Proofs.YtejfbaecadbdiaaGreat
/- THE CELL 'sum', in the pinned program and in every row, IS THE sha256 OF THE DUMP (.gsa) THAT YtejfbaecadbdiaaGreatProg.lean LOADS. Nothing in Lean hashes anything: it is a label: what it is worth is what the hold of that sum in a sandbox is worth. -/
noncomputable def Tryz.pinned : Pinned := { name := "ytejfbaecadbdiaagreat", sum := "b4898baffc9cc56cd302ef3decffe5e76f61b8ece7bcdd5bcd668ce2c74043c0", checked := Tryz.checked }
namespace Rows
def none {H : Type} : Left H := { results := [], args := [] }

/-- 'careenagelaw23.ScanCands': WHATEVER THE INPUT: true; the input reads as it did. -/
def scanCandsSpec : ChangeSpec := { name := "scanCands", fn := fun _ => fun
  | [d1, d2] => { results := [.lit (.bool true)], args := [d1, d2] }
  | _ => none }
def scanCandsRow : OpenClaim := { program := "ytejfbaecadbdiaagreat", sum := "b4898baffc9cc56cd302ef3decffe5e76f61b8ece7bcdd5bcd668ce2c74043c0", func := "careenage/careenagelaw23.ScanCands", spec := "scanCands", unfollowed := true, recurses := true, apart := false }
def ScanCandsSaid : Prop := scanCandsRow.holds Tryz.pinned (OpenSpec.ofChange scanCandsSpec)

/-- ITS FALSE NEIGHBOUR: 'it returns false'. Refute it at one input. -/
def scanCandsWrong : ChangeSpec := { name := "scanCands", fn := fun _ => fun
  | [d1, d2] => { results := [.lit (.bool false)], args := [d1, d2] }
  | _ => none }
def ScanCandsWrongFalsely : Prop := scanCandsRow.holds Tryz.pinned (OpenSpec.ofChange scanCandsWrong)

/-- 'careenagelaw23.ScanCalls': WHATEVER THE INPUT: true; the input reads as it did. -/
def scanCallsSpec : ChangeSpec := { name := "scanCalls", fn := fun _ => fun
  | [d1, d2, d3] => { results := [.lit (.bool true)], args := [d1, d2, d3] }
  | _ => none }
def scanCallsRow : OpenClaim := { program := "ytejfbaecadbdiaagreat", sum := "b4898baffc9cc56cd302ef3decffe5e76f61b8ece7bcdd5bcd668ce2c74043c0", func := "careenage/careenagelaw23.ScanCalls", spec := "scanCalls", unfollowed := true, recurses := true, apart := false }
def ScanCallsSaid : Prop := scanCallsRow.holds Tryz.pinned (OpenSpec.ofChange scanCallsSpec)

/-- ITS FALSE NEIGHBOUR: 'it returns false'. Refute it at one input. -/
def scanCallsWrong : ChangeSpec := { name := "scanCalls", fn := fun _ => fun
  | [d1, d2, d3] => { results := [.lit (.bool false)], args := [d1, d2, d3] }
  | _ => none }
def ScanCallsWrongFalsely : Prop := scanCallsRow.holds Tryz.pinned (OpenSpec.ofChange scanCallsWrong)

/-- 'careenagelaw24.RankRoot': WHATEVER THE INPUT: true; the input reads as it did. -/
def rankRootSpec : ChangeSpec := { name := "rankRoot", fn := fun _ => fun
  | [d1, d2] => { results := [.lit (.bool true)], args := [d1, d2] }
  | _ => none }
def rankRootRow : OpenClaim := { program := "ytejfbaecadbdiaagreat", sum := "b4898baffc9cc56cd302ef3decffe5e76f61b8ece7bcdd5bcd668ce2c74043c0", func := "careenage/careenagelaw24.RankRoot", spec := "rankRoot", unfollowed := true, recurses := true, apart := false }
def RankRootSaid : Prop := rankRootRow.holds Tryz.pinned (OpenSpec.ofChange rankRootSpec)

/-- ITS FALSE NEIGHBOUR: 'it returns false'. Refute it at one input. -/
def rankRootWrong : ChangeSpec := { name := "rankRoot", fn := fun _ => fun
  | [d1, d2] => { results := [.lit (.bool false)], args := [d1, d2] }
  | _ => none }
def RankRootWrongFalsely : Prop := rankRootRow.holds Tryz.pinned (OpenSpec.ofChange rankRootWrong)

/- THE SECOND FORM. 'bulk': how many values and letters a reading holds, each counted each time it is reached (what is shared counts as often as it is met; a slice's spare places count too). A statement '..UptoSaid' is the law's where the arguments, and the package variables that the reading takes, are together of bulk at most 1048576: NARROWER than '..Said'. Prove '..Said' where nothing that the law and all that it calls make is longer than what came in: it says more and counts as full. Else prove '..UptoSaid'. A law counts once. -/
mutual
def uptoBulk {H : Type} : DataW H → Nat
  | .lit (.string bytes) => bytes.length + 1
  | .lit _ => 1
  | .nil => 1
  | .ptr d => uptoBulk d + 1
  | .slice elems spare => uptoBulkAll elems + uptoBulkAll spare + 1
  | .agg parts => uptoBulkAll parts + 1
  | .iface _ d => uptoBulk d + 1
  | .map entries => uptoBulkEntries entries + 1
  | .held _ => 1
def uptoBulkAll {H : Type} : List (DataW H) → Nat
  | [] => 0
  | d :: r => uptoBulk d + uptoBulkAll r
def uptoBulkEntries {H : Type} : List (Lit × DataW H) → Nat
  | [] => 0
  | x :: r => uptoBulkEntry x + uptoBulkEntries r
def uptoBulkEntry {H : Type} : Lit × DataW H → Nat
  | (.string bytes, d) => bytes.length + uptoBulk d + 1
  | (_, d) => uptoBulk d + 1
 end
def uptoSmall : (H : Type) → List (DataW H) → Bool := fun _ ds => decide (uptoBulkAll ds ≤ 1048576)
def OpenSpec.upto (s : _root_.Go.ChangeSpec) : _root_.Go.OpenSpec := { _root_.Go.OpenSpec.ofChange s with cond := some uptoSmall }

/-- 'careenagelaw23.ScanCands', WHERE WHAT IT READS IS OF BULK AT MOST 1048576: true; the input reads as it did. -/
def scanCandsUptoRow : OpenClaim := { program := "ytejfbaecadbdiaagreat", sum := "b4898baffc9cc56cd302ef3decffe5e76f61b8ece7bcdd5bcd668ce2c74043c0", func := "careenage/careenagelaw23.ScanCands", spec := "scanCands", unfollowed := true, recurses := true, apart := false, narrowed := true }
def ScanCandsUptoSaid : Prop := scanCandsUptoRow.holds Tryz.pinned (OpenSpec.upto scanCandsSpec)

/-- 'careenagelaw23.ScanCalls', WHERE WHAT IT READS IS OF BULK AT MOST 1048576: true; the input reads as it did. -/
def scanCallsUptoRow : OpenClaim := { program := "ytejfbaecadbdiaagreat", sum := "b4898baffc9cc56cd302ef3decffe5e76f61b8ece7bcdd5bcd668ce2c74043c0", func := "careenage/careenagelaw23.ScanCalls", spec := "scanCalls", unfollowed := true, recurses := true, apart := false, narrowed := true }
def ScanCallsUptoSaid : Prop := scanCallsUptoRow.holds Tryz.pinned (OpenSpec.upto scanCallsSpec)

/-- 'careenagelaw24.RankRoot', WHERE WHAT IT READS IS OF BULK AT MOST 1048576: true; the input reads as it did. -/
def rankRootUptoRow : OpenClaim := { program := "ytejfbaecadbdiaagreat", sum := "b4898baffc9cc56cd302ef3decffe5e76f61b8ece7bcdd5bcd668ce2c74043c0", func := "careenage/careenagelaw24.RankRoot", spec := "rankRoot", unfollowed := true, recurses := true, apart := false, narrowed := true }
def RankRootUptoSaid : Prop := rankRootUptoRow.holds Tryz.pinned (OpenSpec.upto rankRootSpec)

end Rows
end Go.Proofs.YtejfbaecadbdiaaGreat
