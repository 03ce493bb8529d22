/- The calls of the law that name no block answer what MemoD says, at any memory: the machine's word. -/
import Derived.Test.YthdlebegkhnbiaaGreatMemoC1
namespace Go.Proofs.YthdlebegkhnbiaaGreat
open Go Go.RowKit Ev
theorem M0_ok:Ev.MemoOK Tryz.prog M0:=.nil
theorem memo_walk (w:World):Calls Tryz.prog 5 #[] w fun e w'=>e=.returned (.bool true)∧Below w.heap.size w w' :=
 Ev.ev_calls_chk (TB_ok.withSm _) (Ev.memoSm_ok M0_ok crcSm_ok) c1 w
end Go.Proofs.YthdlebegkhnbiaaGreat
