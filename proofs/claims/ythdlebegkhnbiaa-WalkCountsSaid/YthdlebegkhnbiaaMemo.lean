/- The calls of the law that name no block answer what MemoD says, at any memory: the machine's word. -/
import Derived.Test.YthdlebegkhnbiaaMemoC1
namespace Go.Proofs.Ythdlebegkhnbiaa
open Go Go.RowKit Ev
theorem M0_ok : Ev.MemoOK Try.prog M0 := .nil
theorem memo_walk (w : World) : Calls Try.prog 5 #[] w fun e w' => e = .returned (.bool true) ∧ Below w.heap.size w w' :=
  Ev.ev_calls_chk (TB_ok.withSm _) (Ev.memoSm_ok M0_ok crcSm_ok) c1 w
end Go.Proofs.Ythdlebegkhnbiaa
