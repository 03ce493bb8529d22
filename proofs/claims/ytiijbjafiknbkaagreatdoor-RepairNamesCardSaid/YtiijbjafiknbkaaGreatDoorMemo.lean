/- The calls of the law that name no block answer what MemoD says, at any memory: the machine's word. -/
import Derived.Test.YtiijbjafiknbkaaGreatDoorMemoC1
import Derived.Test.YtiijbjafiknbkaaGreatDoorMemoC2
namespace Go.Proofs.YtiijbjafiknbkaaGreatDoor
open Go Go.RowKit Ev
theorem M0_ok : Ev.MemoOKG GOK Tryz.prog M0 := Ev.MemoOKG.nil
theorem M1_ok : Ev.MemoOKG GOK Tryz.prog M1 := Ev.MemoOKG.add (TB_ok.withSm _) (Ev.memoSm_okG M0_ok wordSm_ok) M0_ok c1
theorem M2_ok : Ev.MemoOKG GOK Tryz.prog M2 := Ev.MemoOKG.add (TB_ok.withSm _) (Ev.memoSm_okG M1_ok wordSm_ok) M1_ok c2
theorem M3_ok : Ev.MemoOKG GOK Tryz.prog M3 := Ev.MemoOKG.add (TB_ok.withSm _) (Ev.memoSm_okG M2_ok wordSm_ok) M2_ok c3
theorem M4_ok : Ev.MemoOKG GOK Tryz.prog M4 := Ev.MemoOKG.add (TB_ok.withSm _) (Ev.memoSm_okG M3_ok wordSm_ok) M3_ok c4
theorem M5_ok : Ev.MemoOKG GOK Tryz.prog M5 := Ev.MemoOKG.add (TB_ok.withSm _) (Ev.memoSm_okG M4_ok wordSm_ok) M4_ok c5
theorem M6_ok : Ev.MemoOKG GOK Tryz.prog M6 := Ev.MemoOKG.add (TB_ok.withSm _) (Ev.memoSm_okG M5_ok wordSm_ok) M5_ok c6
theorem M7_ok : Ev.MemoOKG GOK Tryz.prog M7 := Ev.MemoOKG.add (TB_ok.withSm _) (Ev.memoSm_okG M6_ok wordSm_ok) M6_ok c7
theorem M8_ok : Ev.MemoOKG GOK Tryz.prog M8 := Ev.MemoOKG.add (TB_ok.withSm _) (Ev.memoSm_okG M7_ok wordSm_ok) M7_ok c8
theorem M9_ok : Ev.MemoOKG GOK Tryz.prog M9 := Ev.MemoOKG.add (TB_ok.withSm _) (Ev.memoSm_okG M8_ok wordSm_ok) M8_ok c9
theorem M10_ok : Ev.MemoOKG GOK Tryz.prog M10 := Ev.MemoOKG.add (TB_ok.withSm _) (Ev.memoSm_okG M9_ok wordSm_ok) M9_ok c10
theorem M11_ok : Ev.MemoOKG GOK Tryz.prog M11 := Ev.MemoOKG.add (TB_ok.withSm _) (Ev.memoSm_okG M10_ok wordSm_ok) M10_ok c11
theorem M12_ok : Ev.MemoOKG GOK Tryz.prog M12 := Ev.MemoOKG.add (TB_ok.withSm _) (Ev.memoSm_okG M11_ok wordSm_ok) M11_ok c12
theorem M13_ok : Ev.MemoOKG GOK Tryz.prog M13 := Ev.MemoOKG.add (TB_ok.withSm _) (Ev.memoSm_okG M12_ok wordSm_ok) M12_ok c13
theorem M14_ok : Ev.MemoOKG GOK Tryz.prog M14 := Ev.MemoOKG.add (TB_ok.withSm _) (Ev.memoSm_okG M13_ok wordSm_ok) M13_ok c14
theorem memo_walk (w : World) (hG : GOK w.heap.size w) : Calls Tryz.prog 3 #[] w fun e w' => e = .returned (.bool true) ∧ Below w.heap.size w w' :=
  Ev.ev_calls_chkG (TB_ok.withSm _) (Ev.memoSm_okG M14_ok wordSm_ok) c15 w hG
end Go.Proofs.YtiijbjafiknbkaaGreatDoor
