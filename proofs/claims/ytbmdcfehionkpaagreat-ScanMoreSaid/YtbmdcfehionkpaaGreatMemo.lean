/- The calls of the law that name no block answer what MemoD says, at any memory: the machine's word. -/
import Derived.Test.YtbmdcfehionkpaaGreatMemoC1
namespace Go.Proofs.YtbmdcfehionkpaaGreat
open Go Go.RowKit Ev
theorem M0_ok : Ev.MemoOK Tryz.prog M0 := .nil
theorem M1_ok : Ev.MemoOK Tryz.prog M1 := M0_ok.add (TB_ok.withSm _) (Ev.memoSm_ok M0_ok crcSm_ok) c1
theorem M2_ok : Ev.MemoOK Tryz.prog M2 := M1_ok.add (TB_ok.withSm _) (Ev.memoSm_ok M1_ok crcSm_ok) c2
theorem M3_ok : Ev.MemoOK Tryz.prog M3 := M2_ok.add (TB_ok.withSm _) (Ev.memoSm_ok M2_ok crcSm_ok) c3
theorem M4_ok : Ev.MemoOK Tryz.prog M4 := M3_ok.add (TB_ok.withSm _) (Ev.memoSm_ok M3_ok crcSm_ok) c4
theorem M5_ok : Ev.MemoOK Tryz.prog M5 := M4_ok.add (TB_ok.withSm _) (Ev.memoSm_ok M4_ok crcSm_ok) c5
theorem M6_ok : Ev.MemoOK Tryz.prog M6 := M5_ok.add (TB_ok.withSm _) (Ev.memoSm_ok M5_ok crcSm_ok) c6
theorem M7_ok : Ev.MemoOK Tryz.prog M7 := M6_ok.add (TB_ok.withSm _) (Ev.memoSm_ok M6_ok crcSm_ok) c7
theorem M8_ok : Ev.MemoOK Tryz.prog M8 := M7_ok.add (TB_ok.withSm _) (Ev.memoSm_ok M7_ok crcSm_ok) c8
theorem M9_ok : Ev.MemoOK Tryz.prog M9 := M8_ok.add (TB_ok.withSm _) (Ev.memoSm_ok M8_ok crcSm_ok) c9
theorem M10_ok : Ev.MemoOK Tryz.prog M10 := M9_ok.add (TB_ok.withSm _) (Ev.memoSm_ok M9_ok crcSm_ok) c10
theorem M11_ok : Ev.MemoOK Tryz.prog M11 := M10_ok.add (TB_ok.withSm _) (Ev.memoSm_ok M10_ok crcSm_ok) c11
theorem M12_ok : Ev.MemoOK Tryz.prog M12 := M11_ok.add (TB_ok.withSm _) (Ev.memoSm_ok M11_ok crcSm_ok) c12
theorem M13_ok : Ev.MemoOK Tryz.prog M13 := M12_ok.add (TB_ok.withSm _) (Ev.memoSm_ok M12_ok crcSm_ok) c13
theorem M14_ok : Ev.MemoOK Tryz.prog M14 := M13_ok.add (TB_ok.withSm _) (Ev.memoSm_ok M13_ok crcSm_ok) c14
theorem M15_ok : Ev.MemoOK Tryz.prog M15 := M14_ok.add (TB_ok.withSm _) (Ev.memoSm_ok M14_ok crcSm_ok) c15
theorem M16_ok : Ev.MemoOK Tryz.prog M16 := M15_ok.add (TB_ok.withSm _) (Ev.memoSm_ok M15_ok crcSm_ok) c16
theorem M17_ok : Ev.MemoOK Tryz.prog M17 := M16_ok.add (TB_ok.withSm _) (Ev.memoSm_ok M16_ok crcSm_ok) c17
theorem M18_ok : Ev.MemoOK Tryz.prog M18 := M17_ok.add (TB_ok.withSm _) (Ev.memoSm_ok M17_ok crcSm_ok) c18
theorem M19_ok : Ev.MemoOK Tryz.prog M19 := M18_ok.add (TB_ok.withSm _) (Ev.memoSm_ok M18_ok crcSm_ok) c19
theorem memo_walk (w : World) : Calls Tryz.prog 8 #[] w fun e w' => e = .returned (.bool true) ∧ Below w.heap.size w w' :=
  Ev.ev_calls_chk (TB_ok.withSm _) (Ev.memoSm_ok M19_ok crcSm_ok) c20 w
end Go.Proofs.YtbmdcfehionkpaaGreat
