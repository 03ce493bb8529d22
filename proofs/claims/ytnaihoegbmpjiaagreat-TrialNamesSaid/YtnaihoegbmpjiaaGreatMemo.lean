/- The calls of the law that name no block answer what MemoD says, at any memory: the machine's word. -/
import Derived.Test.YtnaihoegbmpjiaaGreatMemoC1
import Derived.Test.YtnaihoegbmpjiaaGreatMemoC2
import Derived.Test.YtnaihoegbmpjiaaGreatMemoC3
import Derived.Test.YtnaihoegbmpjiaaGreatMemoC4
import Derived.Test.YtnaihoegbmpjiaaGreatMemoC5
namespace Go.Proofs.YtnaihoegbmpjiaaGreat
open Go Go.RowKit Ev
theorem M0_ok : Ev.MemoOK Tryz.prog M0 := .nil
theorem M1_ok : Ev.MemoOK Tryz.prog M1 := M0_ok.add (TP_ok.withSm _) (Ev.memoSm_ok M0_ok trialSm_ok) c1
theorem M2_ok : Ev.MemoOK Tryz.prog M2 := M1_ok.add (TP_ok.withSm _) (Ev.memoSm_ok M1_ok trialSm_ok) c2
theorem M3_ok : Ev.MemoOK Tryz.prog M3 := M2_ok.add (TP_ok.withSm _) (Ev.memoSm_ok M2_ok trialSm_ok) c3
theorem M4_ok : Ev.MemoOK Tryz.prog M4 := M3_ok.add (TP_ok.withSm _) (Ev.memoSm_ok M3_ok trialSm_ok) c4
theorem M5_ok : Ev.MemoOK Tryz.prog M5 := M4_ok.add (TP_ok.withSm _) (Ev.memoSm_ok M4_ok trialSm_ok) c5
theorem M6_ok : Ev.MemoOK Tryz.prog M6 := M5_ok.add (TP_ok.withSm _) (Ev.memoSm_ok M5_ok trialSm_ok) c6
theorem M7_ok : Ev.MemoOK Tryz.prog M7 := M6_ok.add (TP_ok.withSm _) (Ev.memoSm_ok M6_ok trialSm_ok) c7
theorem M8_ok : Ev.MemoOK Tryz.prog M8 := M7_ok.add (TP_ok.withSm _) (Ev.memoSm_ok M7_ok trialSm_ok) c8
theorem M9_ok : Ev.MemoOK Tryz.prog M9 := M8_ok.add (TP_ok.withSm _) (Ev.memoSm_ok M8_ok trialSm_ok) c9
theorem M10_ok : Ev.MemoOK Tryz.prog M10 := M9_ok.add (TP_ok.withSm _) (Ev.memoSm_ok M9_ok trialSm_ok) c10
theorem M11_ok : Ev.MemoOK Tryz.prog M11 := M10_ok.add (TP_ok.withSm _) (Ev.memoSm_ok M10_ok trialSm_ok) c11
theorem M12_ok : Ev.MemoOK Tryz.prog M12 := M11_ok.add (TP_ok.withSm _) (Ev.memoSm_ok M11_ok trialSm_ok) c12
theorem M13_ok : Ev.MemoOK Tryz.prog M13 := M12_ok.add (TP_ok.withSm _) (Ev.memoSm_ok M12_ok trialSm_ok) c13
theorem M14_ok : Ev.MemoOK Tryz.prog M14 := M13_ok.add (TP_ok.withSm _) (Ev.memoSm_ok M13_ok trialSm_ok) c14
theorem M15_ok : Ev.MemoOK Tryz.prog M15 := M14_ok.add (TP_ok.withSm _) (Ev.memoSm_ok M14_ok trialSm_ok) c15
theorem M16_ok : Ev.MemoOK Tryz.prog M16 := M15_ok.add (TP_ok.withSm _) (Ev.memoSm_ok M15_ok trialSm_ok) c16
theorem M17_ok : Ev.MemoOK Tryz.prog M17 := M16_ok.add (TP_ok.withSm _) (Ev.memoSm_ok M16_ok trialSm_ok) c17
theorem M18_ok : Ev.MemoOK Tryz.prog M18 := M17_ok.add (TP_ok.withSm _) (Ev.memoSm_ok M17_ok trialSm_ok) c18
theorem M19_ok : Ev.MemoOK Tryz.prog M19 := M18_ok.add (TP_ok.withSm _) (Ev.memoSm_ok M18_ok trialSm_ok) c19
theorem M20_ok : Ev.MemoOK Tryz.prog M20 := M19_ok.add (TP_ok.withSm _) (Ev.memoSm_ok M19_ok trialSm_ok) c20
theorem M21_ok : Ev.MemoOK Tryz.prog M21 := M20_ok.add (TP_ok.withSm _) (Ev.memoSm_ok M20_ok trialSm_ok) c21
theorem M22_ok : Ev.MemoOK Tryz.prog M22 := M21_ok.add (TP_ok.withSm _) (Ev.memoSm_ok M21_ok trialSm_ok) c22
theorem M23_ok : Ev.MemoOK Tryz.prog M23 := M22_ok.add (TP_ok.withSm _) (Ev.memoSm_ok M22_ok trialSm_ok) c23
theorem M24_ok : Ev.MemoOK Tryz.prog M24 := M23_ok.add (TP_ok.withSm _) (Ev.memoSm_ok M23_ok trialSm_ok) c24
theorem M25_ok : Ev.MemoOK Tryz.prog M25 := M24_ok.add (TP_ok.withSm _) (Ev.memoSm_ok M24_ok trialSm_ok) c25
theorem M26_ok : Ev.MemoOK Tryz.prog M26 := M25_ok.add (TP_ok.withSm _) (Ev.memoSm_ok M25_ok trialSm_ok) c26
theorem M27_ok : Ev.MemoOK Tryz.prog M27 := M26_ok.add (TP_ok.withSm _) (Ev.memoSm_ok M26_ok trialSm_ok) c27
theorem M28_ok : Ev.MemoOK Tryz.prog M28 := M27_ok.add (TP_ok.withSm _) (Ev.memoSm_ok M27_ok trialSm_ok) c28
theorem M29_ok : Ev.MemoOK Tryz.prog M29 := M28_ok.add (TP_ok.withSm _) (Ev.memoSm_ok M28_ok trialSm_ok) c29
theorem M30_ok : Ev.MemoOK Tryz.prog M30 := M29_ok.add (TP_ok.withSm _) (Ev.memoSm_ok M29_ok trialSm_ok) c30
theorem M31_ok : Ev.MemoOK Tryz.prog M31 := M30_ok.add (TP_ok.withSm _) (Ev.memoSm_ok M30_ok trialSm_ok) c31
theorem M32_ok : Ev.MemoOK Tryz.prog M32 := M31_ok.add (TP_ok.withSm _) (Ev.memoSm_ok M31_ok trialSm_ok) c32
theorem M33_ok : Ev.MemoOK Tryz.prog M33 := M32_ok.add (TP_ok.withSm _) (Ev.memoSm_ok M32_ok trialSm_ok) c33
theorem M34_ok : Ev.MemoOK Tryz.prog M34 := M33_ok.add (TP_ok.withSm _) (Ev.memoSm_ok M33_ok trialSm_ok) c34
theorem M35_ok : Ev.MemoOK Tryz.prog M35 := M34_ok.add (TP_ok.withSm _) (Ev.memoSm_ok M34_ok trialSm_ok) c35
theorem M36_ok : Ev.MemoOK Tryz.prog M36 := M35_ok.add (TP_ok.withSm _) (Ev.memoSm_ok M35_ok trialSm_ok) c36
theorem M37_ok : Ev.MemoOK Tryz.prog M37 := M36_ok.add (TP_ok.withSm _) (Ev.memoSm_ok M36_ok trialSm_ok) c37
theorem M38_ok : Ev.MemoOK Tryz.prog M38 := M37_ok.add (TP_ok.withSm _) (Ev.memoSm_ok M37_ok trialSm_ok) c38
theorem M39_ok : Ev.MemoOK Tryz.prog M39 := M38_ok.add (TP_ok.withSm _) (Ev.memoSm_ok M38_ok trialSm_ok) c39
theorem M40_ok : Ev.MemoOK Tryz.prog M40 := M39_ok.add (TP_ok.withSm _) (Ev.memoSm_ok M39_ok trialSm_ok) c40
theorem M41_ok : Ev.MemoOK Tryz.prog M41 := M40_ok.add (TP_ok.withSm _) (Ev.memoSm_ok M40_ok trialSm_ok) c41
theorem M42_ok : Ev.MemoOK Tryz.prog M42 := M41_ok.add (TP_ok.withSm _) (Ev.memoSm_ok M41_ok trialSm_ok) c42
theorem M43_ok : Ev.MemoOK Tryz.prog M43 := M42_ok.add (TP_ok.withSm _) (Ev.memoSm_ok M42_ok trialSm_ok) c43
theorem M44_ok : Ev.MemoOK Tryz.prog M44 := M43_ok.add (TP_ok.withSm _) (Ev.memoSm_ok M43_ok trialSm_ok) c44
theorem M45_ok : Ev.MemoOK Tryz.prog M45 := M44_ok.add (TP_ok.withSm _) (Ev.memoSm_ok M44_ok trialSm_ok) c45
theorem M46_ok : Ev.MemoOK Tryz.prog M46 := M45_ok.add (TP_ok.withSm _) (Ev.memoSm_ok M45_ok trialSm_ok) c46
theorem M47_ok : Ev.MemoOK Tryz.prog M47 := M46_ok.add (TP_ok.withSm _) (Ev.memoSm_ok M46_ok trialSm_ok) c47
theorem memo_walk (w : World) : Calls Tryz.prog 3 #[] w fun e w' => e = .returned (.bool true) ∧ Below w.heap.size w w' :=
  Ev.ev_calls_chk (TP_ok.withSm _) (Ev.memoSm_ok M47_ok trialSm_ok) c48 w
end Go.Proofs.YtnaihoegbmpjiaaGreat
