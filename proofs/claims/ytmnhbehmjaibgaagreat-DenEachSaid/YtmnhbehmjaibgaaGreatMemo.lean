/- The calls of the law that name no block answer what MemoD says, at any memory: the machine's word. -/
import Derived.Test.YtmnhbehmjaibgaaGreatMemoC1
namespace Go.Proofs.YtmnhbehmjaibgaaGreat
open Go Go.RowKit Ev
theorem M0_ok:Ev.MemoOK Tryz.prog M0:=.nil
theorem M1_ok:Ev.MemoOK Tryz.prog M1:=M0_ok.add (TB_ok.withSm _) (Ev.memoSm_ok M0_ok crcSm_ok) c1
theorem M2_ok:Ev.MemoOK Tryz.prog M2:=M1_ok.add (TB_ok.withSm _) (Ev.memoSm_ok M1_ok crcSm_ok) c2
theorem M3_ok:Ev.MemoOK Tryz.prog M3:=M2_ok.add (TB_ok.withSm _) (Ev.memoSm_ok M2_ok crcSm_ok) c3
theorem M4_ok:Ev.MemoOK Tryz.prog M4:=M3_ok.add (TB_ok.withSm _) (Ev.memoSm_ok M3_ok crcSm_ok) c4
theorem memo_walk (w:World):Calls Tryz.prog 7 #[] w fun e w'=>e=.returned (.bool true)∧Below w.heap.size w w' :=
 Ev.ev_calls_chk (TB_ok.withSm _) (Ev.memoSm_ok M4_ok crcSm_ok) c5 w
end Go.Proofs.YtmnhbehmjaibgaaGreat
