/- The calls of the law that name no block answer what MemoD says, at any memory: the machine's word. -/
import Derived.Test.YtcngecdjmmjlhaaGreatMemoC1
import Derived.Test.YtcngecdjmmjlhaaGreatMemoC2
namespace Go.Proofs.YtcngecdjmmjlhaaGreat
open Go Go.RowKit Ev
theorem M0_ok : Ev.MemoOK Tryz.prog M0 := .nil
theorem M1_ok : Ev.MemoOK Tryz.prog M1 := M0_ok.add (TP_ok.withSm _) (Ev.memoSm_ok M0_ok trialSm_ok) c1
theorem M2_ok : Ev.MemoOK Tryz.prog M2 := M1_ok.add (TP_ok.withSm _) (Ev.memoSm_ok M1_ok trialSm_ok) c2
theorem M3_ok : Ev.MemoOK Tryz.prog M3 := M2_ok.add (TP_ok.withSm _) (Ev.memoSm_ok M2_ok trialSm_ok) c3
theorem M4_ok : Ev.MemoOK Tryz.prog M4 := M3_ok.add (TP_ok.withSm _) (Ev.memoSm_ok M3_ok trialSm_ok) c4
theorem M5_ok : Ev.MemoOK Tryz.prog M5 := M4_ok.add (TP_ok.withSm _) (Ev.memoSm_ok M4_ok trialSm_ok) c5
theorem M6_ok : Ev.MemoOK Tryz.prog M6 := M5_ok.add (TP_ok.withSm _) (Ev.memoSm_ok M5_ok trialSm_ok) c6
theorem M7_ok : Ev.MemoOK Tryz.prog M7 := M6_ok.add (TP_ok.withSm _) (Ev.memoSm_ok M6_ok trialSm_ok) c7
theorem M8_ok : Ev.MemoOK Tryz.prog M8 := M7_ok.add (TP_ok.withSm _) (Ev.memoSm_ok M7_ok trialSm_ok) c8
theorem M9_ok : Ev.MemoOK Tryz.prog M9 := M8_ok.add (TP_ok.withSm _) (Ev.memoSm_ok M8_ok trialSm_ok) c9
theorem M10_ok : Ev.MemoOK Tryz.prog M10 := M9_ok.add (TP_ok.withSm _) (Ev.memoSm_ok M9_ok trialSm_ok) c10
theorem M11_ok : Ev.MemoOK Tryz.prog M11 := M10_ok.add (TP_ok.withSm _) (Ev.memoSm_ok M10_ok trialSm_ok) c11
theorem M12_ok : Ev.MemoOK Tryz.prog M12 := M11_ok.add (TP_ok.withSm _) (Ev.memoSm_ok M11_ok trialSm_ok) c12
theorem M13_ok : Ev.MemoOK Tryz.prog M13 := M12_ok.add (TP_ok.withSm _) (Ev.memoSm_ok M12_ok trialSm_ok) c13
theorem M14_ok : Ev.MemoOK Tryz.prog M14 := M13_ok.add (TP_ok.withSm _) (Ev.memoSm_ok M13_ok trialSm_ok) c14
theorem M15_ok : Ev.MemoOK Tryz.prog M15 := M14_ok.add (TP_ok.withSm _) (Ev.memoSm_ok M14_ok trialSm_ok) c15
theorem M16_ok : Ev.MemoOK Tryz.prog M16 := M15_ok.add (TP_ok.withSm _) (Ev.memoSm_ok M15_ok trialSm_ok) c16
theorem M17_ok : Ev.MemoOK Tryz.prog M17 := M16_ok.add (TP_ok.withSm _) (Ev.memoSm_ok M16_ok trialSm_ok) c17
theorem memo_walk (w : World) : Calls Tryz.prog 4 #[] w fun e w' => e = .returned (.bool true) ∧ Below w.heap.size w w' :=
  Ev.ev_calls_chk (TP_ok.withSm _) (Ev.memoSm_ok M17_ok trialSm_ok) c18 w
end Go.Proofs.YtcngecdjmmjlhaaGreat
