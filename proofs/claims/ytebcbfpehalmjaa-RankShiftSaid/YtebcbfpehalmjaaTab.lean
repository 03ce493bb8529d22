/- PRINTED BY A SMALL PROGRAM (gentab.py): the translation's functions and types by number, and that these tables are the program's own. -/
import Derived.Test.YtebcbfpehalmjaaEvEnd
import Derived.Test.YtebcbfpehalmjaaChecked
import Derived.KernelRfl
namespace Go.Proofs.Ytebcbfpehalmjaa
open Go
noncomputable def FT : Ev.Tr Func :=
  (.node  (some Try.f0)  (.node  (some Try.f1)  (.node  (some Try.f3)  (.node  (some Try.f7)  (.node  (some Try.f15)  (.node  (some Try.f31) .nil .nil)  (.node 
  (some Try.f47) .nil .nil))  (.node  (some Try.f23)  (.node  (some Try.f39) .nil .nil)  (.node  (some Try.f55) .nil .nil)))  (.node  (some Try.f11)  (.node 
  (some Try.f19)  (.node  (some Try.f35) .nil .nil)  (.node  (some Try.f51) .nil .nil))  (.node  (some Try.f27)  (.node  (some Try.f43) .nil .nil) .nil))) 
  (.node  (some Try.f5)  (.node  (some Try.f9)  (.node  (some Try.f17)  (.node  (some Try.f33) .nil .nil)  (.node  (some Try.f49) .nil .nil))  (.node  (some
  Try.f25)  (.node  (some Try.f41) .nil .nil)  (.node  (some Try.f57) .nil .nil)))  (.node  (some Try.f13)  (.node  (some Try.f21)  (.node  (some Try.f37) .nil
  .nil)  (.node  (some Try.f53) .nil .nil))  (.node  (some Try.f29)  (.node  (some Try.f45) .nil .nil) .nil))))  (.node  (some Try.f2)  (.node  (some Try.f4) 
  (.node  (some Try.f8)  (.node  (some Try.f16)  (.node  (some Try.f32) .nil .nil)  (.node  (some Try.f48) .nil .nil))  (.node  (some Try.f24)  (.node  (some
  Try.f40) .nil .nil)  (.node  (some Try.f56) .nil .nil)))  (.node  (some Try.f12)  (.node  (some Try.f20)  (.node  (some Try.f36) .nil .nil)  (.node  (some
  Try.f52) .nil .nil))  (.node  (some Try.f28)  (.node  (some Try.f44) .nil .nil) .nil)))  (.node  (some Try.f6)  (.node  (some Try.f10)  (.node  (some Try.f18) 
  (.node  (some Try.f34) .nil .nil)  (.node  (some Try.f50) .nil .nil))  (.node  (some Try.f26)  (.node  (some Try.f42) .nil .nil) .nil))  (.node  (some Try.f14)
   (.node  (some Try.f22)  (.node  (some Try.f38) .nil .nil)  (.node  (some Try.f54) .nil .nil))  (.node  (some Try.f30)  (.node  (some Try.f46) .nil .nil)
  .nil)))))
noncomputable def TT : Ev.Tr TypeInfo :=
  (.node  (some Try.t0)  (.node  (some Try.t1)  (.node  (some Try.t3)  (.node  (some Try.t7)  (.node  (some Try.t15)  (.node  (some Try.t31)  (.node  (some
  Try.t63) .nil .nil) .nil)  (.node  (some Try.t47)  (.node  (some Try.t79) .nil .nil) .nil))  (.node  (some Try.t23)  (.node  (some Try.t39)  (.node  (some
  Try.t71) .nil .nil) .nil)  (.node  (some Try.t55) .nil .nil)))  (.node  (some Try.t11)  (.node  (some Try.t19)  (.node  (some Try.t35)  (.node  (some Try.t67)
  .nil .nil) .nil)  (.node  (some Try.t51)  (.node  (some Try.t83) .nil .nil) .nil))  (.node  (some Try.t27)  (.node  (some Try.t43)  (.node  (some Try.t75) .nil
  .nil) .nil)  (.node  (some Try.t59) .nil .nil))))  (.node  (some Try.t5)  (.node  (some Try.t9)  (.node  (some Try.t17)  (.node  (some Try.t33)  (.node  (some
  Try.t65) .nil .nil) .nil)  (.node  (some Try.t49)  (.node  (some Try.t81) .nil .nil) .nil))  (.node  (some Try.t25)  (.node  (some Try.t41)  (.node  (some
  Try.t73) .nil .nil) .nil)  (.node  (some Try.t57) .nil .nil)))  (.node  (some Try.t13)  (.node  (some Try.t21)  (.node  (some Try.t37)  (.node  (some Try.t69)
  .nil .nil) .nil)  (.node  (some Try.t53) .nil .nil))  (.node  (some Try.t29)  (.node  (some Try.t45)  (.node  (some Try.t77) .nil .nil) .nil)  (.node  (some
  Try.t61) .nil .nil)))))  (.node  (some Try.t2)  (.node  (some Try.t4)  (.node  (some Try.t8)  (.node  (some Try.t16)  (.node  (some Try.t32)  (.node  (some
  Try.t64) .nil .nil) .nil)  (.node  (some Try.t48)  (.node  (some Try.t80) .nil .nil) .nil))  (.node  (some Try.t24)  (.node  (some Try.t40)  (.node  (some
  Try.t72) .nil .nil) .nil)  (.node  (some Try.t56) .nil .nil)))  (.node  (some Try.t12)  (.node  (some Try.t20)  (.node  (some Try.t36)  (.node  (some Try.t68)
  .nil .nil) .nil)  (.node  (some Try.t52)  (.node  (some Try.t84) .nil .nil) .nil))  (.node  (some Try.t28)  (.node  (some Try.t44)  (.node  (some Try.t76) .nil
  .nil) .nil)  (.node  (some Try.t60) .nil .nil))))  (.node  (some Try.t6)  (.node  (some Try.t10)  (.node  (some Try.t18)  (.node  (some Try.t34)  (.node  (some
  Try.t66) .nil .nil) .nil)  (.node  (some Try.t50)  (.node  (some Try.t82) .nil .nil) .nil))  (.node  (some Try.t26)  (.node  (some Try.t42)  (.node  (some
  Try.t74) .nil .nil) .nil)  (.node  (some Try.t58) .nil .nil)))  (.node  (some Try.t14)  (.node  (some Try.t22)  (.node  (some Try.t38)  (.node  (some Try.t70)
  .nil .nil) .nil)  (.node  (some Try.t54) .nil .nil))  (.node  (some Try.t30)  (.node  (some Try.t46)  (.node  (some Try.t78) .nil .nil) .nil)  (.node  (some
  Try.t62) .nil .nil))))))
def EQ : Ev.Tr Bool :=
  (.node none  (.node none  (.node none  (.node  (some false) .nil  (.node none  (.node none  (.node  (some false) .nil .nil) .nil) .nil))  (.node none  (.node 
  (some false) .nil  (.node none  (.node  (some false) .nil .nil) .nil))  (.node  (some false) .nil .nil)))  (.node none  (.node none .nil  (.node none  (.node
  none  (.node  (some false) .nil .nil) .nil) .nil))  (.node  (some false) .nil .nil)))  (.node none  (.node none  (.node  (some false) .nil  (.node none  (.node
  none  (.node  (some false) .nil .nil) .nil) .nil)) .nil)  (.node none  (.node none  (.node  (some false) .nil  (.node none  (.node  (some false) .nil .nil)
  .nil))  (.node  (some false)  (.node none  (.node  (some false) .nil .nil) .nil) .nil))  (.node  (some false)  (.node none  (.node none  (.node  (some false)
  .nil .nil) .nil) .nil) .nil))))
def ST : Ev.Tr Bool :=
  (.node none  (.node none  (.node none  (.node  (some false) .nil  (.node none  (.node none  (.node  (some true) .nil .nil) .nil) .nil))  (.node none  (.node 
  (some true) .nil  (.node none  (.node  (some true) .nil .nil) .nil))  (.node  (some false) .nil .nil)))  (.node none  (.node none .nil  (.node none  (.node
  none  (.node  (some true) .nil .nil) .nil) .nil))  (.node  (some true) .nil .nil)))  (.node none  (.node none  (.node  (some false) .nil  (.node none  (.node
  none  (.node  (some false) .nil .nil) .nil) .nil)) .nil)  (.node none  (.node none  (.node  (some true) .nil  (.node none  (.node  (some true) .nil .nil)
  .nil))  (.node  (some false)  (.node none  (.node  (some true) .nil .nil) .nil) .nil))  (.node  (some true)  (.node none  (.node none  (.node  (some true) .nil
  .nil) .nil) .nil) .nil))))
theorem FT_eq : FT = Ev.Tr.ofList Try.prog.funcs.toList := by kernel_rfl
theorem TT_eq : TT = Ev.Tr.ofList Try.prog.types.toList := by kernel_rfl
theorem EQ_eq : EQ = Ev.testAll (fun t => Try.prog.eqGuardType Try.prog.depth t) [7, 8, 13, 14, 18, 19, 26, 27, 70, 71, 72, 73, 74, 82, 83] .nil := by kernel_rfl
theorem ST_eq : ST = Ev.testAll (fun t => Try.prog.stoodInHeld t) [7, 8, 13, 14, 18, 19, 26, 27, 70, 71, 72, 73, 74, 82, 83] .nil := by kernel_rfl
theorem names_ok : Try.prog.funcs.toList.all (fun F => !(F.name == "runtime.NumGoroutine")) = true := by kernel_rfl
theorem mixed_ok : Try.prog.follows .mixedOrders = true := by kernel_rfl
def EX : List (Nat × Ev.ExtK) := []
def KD : Ev.Tr Bool :=
  .nil
theorem KD_eq : KD = Ev.testAll (Ev.kdTest Try.prog) [] .nil := by kernel_rfl
theorem EX_ok : ∀ p, p ∈ EX → Ev.ExtOK Try.prog p.1 p.2 := by
  intro p hp
  unfold EX at hp
  cases hp
noncomputable def TB : Ev.Tabs := Ev.tabsOf FT TT EQ ST EX 0 KD
theorem TB_ok : Ev.TabsOK Try.prog TB := Ev.tabs_ok FT_eq TT_eq names_ok EQ_eq ST_eq mixed_ok EX_ok (by kernel_rfl) KD_eq
end Go.Proofs.Ytebcbfpehalmjaa
