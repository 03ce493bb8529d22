/- The kit's layings of library functions at this seat's program, in plain words (printed by the kit's lay-plain.mjs). Conditions: none. -/
import Derived.Shelf.Strings.Builder1
import Derived.Test.YtcngecdjmmjlhaaGreatChecked
namespace Go.Proofs
open Go.Shelf
def Tryz.strL_ren : Go.Shelf.Ren := ⟨fun | 169 => 188 | n => n, fun | 70 => 288 | 9 => 9 | 0 => 0 | 72 => 290 | 37 => 41 | 127 => 430 | 3 => 3 | 5 => 5 | n => n, fun | n => n⟩
theorem Tryz.strL : Go.Proofs.Lays.n169 Tryz.prog Tryz.strL_ren := {
  mixed := by kernel_rfl
  f169 := Tryz.func188.trans (congrArg some (by kernel_rfl))
  t0 := Tryz.underlying0
  a0 := Tryz.isAgg0
  z0 := Tryz.sizeOf0
  v0 := Tryz.zeroValue0
  t3 := Tryz.underlying3
  a3 := Tryz.isAgg3
  z3 := Tryz.sizeOf3
  v3 := Tryz.zeroValue3
  t9 := Tryz.underlying9
  a9 := Tryz.isAgg9
  z9 := Tryz.sizeOf9
  v9 := Tryz.zeroValue9
  t37 := Tryz.underlying41
  a37 := Tryz.isAgg41
  z37 := Tryz.sizeOf41
  v37 := Tryz.zeroValue41
  t70 := Tryz.underlying288
  a70 := Tryz.isAgg288
  z70 := Tryz.sizeOf288
  v70 := Tryz.zeroValue288
  t72 := Tryz.underlying290
  a72 := Tryz.isAgg290
  z72 := Tryz.sizeOf290
  v72 := Tryz.zeroValue290
  t127 := Tryz.underlying430
  a127 := Tryz.isAgg430
  z127 := Tryz.sizeOf430
  v127 := Tryz.zeroValue430 }
end Go.Proofs
