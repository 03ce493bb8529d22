/- PRINTED BY A SMALL PROGRAM (gentab.py): the translation's functions and types by number, and that these tables are the program's own. -/
import Derived.Test.YthdlebegkhnbiaaGah
import Derived.Test.YthdlebegkhnbiaaChecked
import Derived.KernelRfl
namespace Go.Proofs.Ythdlebegkhnbiaa
open Go
noncomputable def FT : Ev.Tr Func :=
  (.node  (some Try.f0)  (.node  (some Try.f1)  (.node  (some Try.f3)  (.node  (some Try.f7)  (.node  (some Try.f15)  (.node  (some Try.f31)  (.node  (some
  Try.f63) .nil .nil)  (.node  (some Try.f95) .nil .nil))  (.node  (some Try.f47)  (.node  (some Try.f79) .nil .nil)  (.node  (some Try.f111) .nil .nil))) 
  (.node  (some Try.f23)  (.node  (some Try.f39)  (.node  (some Try.f71) .nil .nil)  (.node  (some Try.f103) .nil .nil))  (.node  (some Try.f55)  (.node  (some
  Try.f87) .nil .nil) .nil)))  (.node  (some Try.f11)  (.node  (some Try.f19)  (.node  (some Try.f35)  (.node  (some Try.f67) .nil .nil)  (.node  (some Try.f99)
  .nil .nil))  (.node  (some Try.f51)  (.node  (some Try.f83) .nil .nil) .nil))  (.node  (some Try.f27)  (.node  (some Try.f43)  (.node  (some Try.f75) .nil
  .nil)  (.node  (some Try.f107) .nil .nil))  (.node  (some Try.f59)  (.node  (some Try.f91) .nil .nil) .nil))))  (.node  (some Try.f5)  (.node  (some Try.f9) 
  (.node  (some Try.f17)  (.node  (some Try.f33)  (.node  (some Try.f65) .nil .nil)  (.node  (some Try.f97) .nil .nil))  (.node  (some Try.f49)  (.node  (some
  Try.f81) .nil .nil) .nil))  (.node  (some Try.f25)  (.node  (some Try.f41)  (.node  (some Try.f73) .nil .nil)  (.node  (some Try.f105) .nil .nil))  (.node 
  (some Try.f57)  (.node  (some Try.f89) .nil .nil) .nil)))  (.node  (some Try.f13)  (.node  (some Try.f21)  (.node  (some Try.f37)  (.node  (some Try.f69) .nil
  .nil)  (.node  (some Try.f101) .nil .nil))  (.node  (some Try.f53)  (.node  (some Try.f85) .nil .nil) .nil))  (.node  (some Try.f29)  (.node  (some Try.f45) 
  (.node  (some Try.f77) .nil .nil)  (.node  (some Try.f109) .nil .nil))  (.node  (some Try.f61)  (.node  (some Try.f93) .nil .nil) .nil)))))  (.node  (some
  Try.f2)  (.node  (some Try.f4)  (.node  (some Try.f8)  (.node  (some Try.f16)  (.node  (some Try.f32)  (.node  (some Try.f64) .nil .nil)  (.node  (some
  Try.f96) .nil .nil))  (.node  (some Try.f48)  (.node  (some Try.f80) .nil .nil)  (.node  (some Try.f112) .nil .nil)))  (.node  (some Try.f24)  (.node  (some
  Try.f40)  (.node  (some Try.f72) .nil .nil)  (.node  (some Try.f104) .nil .nil))  (.node  (some Try.f56)  (.node  (some Try.f88) .nil .nil) .nil)))  (.node 
  (some Try.f12)  (.node  (some Try.f20)  (.node  (some Try.f36)  (.node  (some Try.f68) .nil .nil)  (.node  (some Try.f100) .nil .nil))  (.node  (some Try.f52) 
  (.node  (some Try.f84) .nil .nil) .nil))  (.node  (some Try.f28)  (.node  (some Try.f44)  (.node  (some Try.f76) .nil .nil)  (.node  (some Try.f108) .nil
  .nil))  (.node  (some Try.f60)  (.node  (some Try.f92) .nil .nil) .nil))))  (.node  (some Try.f6)  (.node  (some Try.f10)  (.node  (some Try.f18)  (.node 
  (some Try.f34)  (.node  (some Try.f66) .nil .nil)  (.node  (some Try.f98) .nil .nil))  (.node  (some Try.f50)  (.node  (some Try.f82) .nil .nil) .nil))  (.node
   (some Try.f26)  (.node  (some Try.f42)  (.node  (some Try.f74) .nil .nil)  (.node  (some Try.f106) .nil .nil))  (.node  (some Try.f58)  (.node  (some Try.f90)
  .nil .nil) .nil)))  (.node  (some Try.f14)  (.node  (some Try.f22)  (.node  (some Try.f38)  (.node  (some Try.f70) .nil .nil)  (.node  (some Try.f102) .nil
  .nil))  (.node  (some Try.f54)  (.node  (some Try.f86) .nil .nil) .nil))  (.node  (some Try.f30)  (.node  (some Try.f46)  (.node  (some Try.f78) .nil .nil) 
  (.node  (some Try.f110) .nil .nil))  (.node  (some Try.f62)  (.node  (some Try.f94) .nil .nil) .nil))))))
noncomputable def TT : Ev.Tr TypeInfo :=
  (.node  (some Try.t0)  (.node  (some Try.t1)  (.node  (some Try.t3)  (.node  (some Try.t7)  (.node  (some Try.t15)  (.node  (some Try.t31)  (.node  (some
  Try.t63)  (.node  (some Try.t127) .nil .nil) .nil)  (.node  (some Try.t95)  (.node  (some Try.t159) .nil .nil) .nil))  (.node  (some Try.t47)  (.node  (some
  Try.t79)  (.node  (some Try.t143) .nil .nil) .nil)  (.node  (some Try.t111) .nil .nil)))  (.node  (some Try.t23)  (.node  (some Try.t39)  (.node  (some
  Try.t71)  (.node  (some Try.t135) .nil .nil) .nil)  (.node  (some Try.t103) .nil .nil))  (.node  (some Try.t55)  (.node  (some Try.t87)  (.node  (some
  Try.t151) .nil .nil) .nil)  (.node  (some Try.t119) .nil .nil))))  (.node  (some Try.t11)  (.node  (some Try.t19)  (.node  (some Try.t35)  (.node  (some
  Try.t67)  (.node  (some Try.t131) .nil .nil) .nil)  (.node  (some Try.t99)  (.node  (some Try.t163) .nil .nil) .nil))  (.node  (some Try.t51)  (.node  (some
  Try.t83)  (.node  (some Try.t147) .nil .nil) .nil)  (.node  (some Try.t115) .nil .nil)))  (.node  (some Try.t27)  (.node  (some Try.t43)  (.node  (some
  Try.t75)  (.node  (some Try.t139) .nil .nil) .nil)  (.node  (some Try.t107) .nil .nil))  (.node  (some Try.t59)  (.node  (some Try.t91)  (.node  (some
  Try.t155) .nil .nil) .nil)  (.node  (some Try.t123) .nil .nil)))))  (.node  (some Try.t5)  (.node  (some Try.t9)  (.node  (some Try.t17)  (.node  (some
  Try.t33)  (.node  (some Try.t65)  (.node  (some Try.t129) .nil .nil) .nil)  (.node  (some Try.t97)  (.node  (some Try.t161) .nil .nil) .nil))  (.node  (some
  Try.t49)  (.node  (some Try.t81)  (.node  (some Try.t145) .nil .nil) .nil)  (.node  (some Try.t113) .nil .nil)))  (.node  (some Try.t25)  (.node  (some
  Try.t41)  (.node  (some Try.t73)  (.node  (some Try.t137) .nil .nil) .nil)  (.node  (some Try.t105) .nil .nil))  (.node  (some Try.t57)  (.node  (some Try.t89)
   (.node  (some Try.t153) .nil .nil) .nil)  (.node  (some Try.t121) .nil .nil))))  (.node  (some Try.t13)  (.node  (some Try.t21)  (.node  (some Try.t37) 
  (.node  (some Try.t69)  (.node  (some Try.t133) .nil .nil) .nil)  (.node  (some Try.t101) .nil .nil))  (.node  (some Try.t53)  (.node  (some Try.t85)  (.node 
  (some Try.t149) .nil .nil) .nil)  (.node  (some Try.t117) .nil .nil)))  (.node  (some Try.t29)  (.node  (some Try.t45)  (.node  (some Try.t77)  (.node  (some
  Try.t141) .nil .nil) .nil)  (.node  (some Try.t109) .nil .nil))  (.node  (some Try.t61)  (.node  (some Try.t93)  (.node  (some Try.t157) .nil .nil) .nil) 
  (.node  (some Try.t125) .nil .nil))))))  (.node  (some Try.t2)  (.node  (some Try.t4)  (.node  (some Try.t8)  (.node  (some Try.t16)  (.node  (some Try.t32) 
  (.node  (some Try.t64)  (.node  (some Try.t128) .nil .nil) .nil)  (.node  (some Try.t96)  (.node  (some Try.t160) .nil .nil) .nil))  (.node  (some Try.t48) 
  (.node  (some Try.t80)  (.node  (some Try.t144) .nil .nil) .nil)  (.node  (some Try.t112) .nil .nil)))  (.node  (some Try.t24)  (.node  (some Try.t40)  (.node 
  (some Try.t72)  (.node  (some Try.t136) .nil .nil) .nil)  (.node  (some Try.t104) .nil .nil))  (.node  (some Try.t56)  (.node  (some Try.t88)  (.node  (some
  Try.t152) .nil .nil) .nil)  (.node  (some Try.t120) .nil .nil))))  (.node  (some Try.t12)  (.node  (some Try.t20)  (.node  (some Try.t36)  (.node  (some
  Try.t68)  (.node  (some Try.t132) .nil .nil) .nil)  (.node  (some Try.t100)  (.node  (some Try.t164) .nil .nil) .nil))  (.node  (some Try.t52)  (.node  (some
  Try.t84)  (.node  (some Try.t148) .nil .nil) .nil)  (.node  (some Try.t116) .nil .nil)))  (.node  (some Try.t28)  (.node  (some Try.t44)  (.node  (some
  Try.t76)  (.node  (some Try.t140) .nil .nil) .nil)  (.node  (some Try.t108) .nil .nil))  (.node  (some Try.t60)  (.node  (some Try.t92)  (.node  (some
  Try.t156) .nil .nil) .nil)  (.node  (some Try.t124) .nil .nil)))))  (.node  (some Try.t6)  (.node  (some Try.t10)  (.node  (some Try.t18)  (.node  (some
  Try.t34)  (.node  (some Try.t66)  (.node  (some Try.t130) .nil .nil) .nil)  (.node  (some Try.t98)  (.node  (some Try.t162) .nil .nil) .nil))  (.node  (some
  Try.t50)  (.node  (some Try.t82)  (.node  (some Try.t146) .nil .nil) .nil)  (.node  (some Try.t114) .nil .nil)))  (.node  (some Try.t26)  (.node  (some
  Try.t42)  (.node  (some Try.t74)  (.node  (some Try.t138) .nil .nil) .nil)  (.node  (some Try.t106) .nil .nil))  (.node  (some Try.t58)  (.node  (some Try.t90)
   (.node  (some Try.t154) .nil .nil) .nil)  (.node  (some Try.t122) .nil .nil))))  (.node  (some Try.t14)  (.node  (some Try.t22)  (.node  (some Try.t38) 
  (.node  (some Try.t70)  (.node  (some Try.t134) .nil .nil) .nil)  (.node  (some Try.t102) .nil .nil))  (.node  (some Try.t54)  (.node  (some Try.t86)  (.node 
  (some Try.t150) .nil .nil) .nil)  (.node  (some Try.t118) .nil .nil)))  (.node  (some Try.t30)  (.node  (some Try.t46)  (.node  (some Try.t78)  (.node  (some
  Try.t142) .nil .nil) .nil)  (.node  (some Try.t110) .nil .nil))  (.node  (some Try.t62)  (.node  (some Try.t94)  (.node  (some Try.t158) .nil .nil) .nil) 
  (.node  (some Try.t126) .nil .nil)))))))
def EQ : Ev.Tr Bool :=
  (.node none  (.node none  (.node none  (.node  (some false) .nil  (.node none .nil  (.node none  (.node none  (.node  (some false) .nil .nil) .nil) .nil))) 
  (.node none  (.node  (some false)  (.node  (some false)  (.node none  (.node  (some false) .nil .nil) .nil)  (.node none  (.node  (some false) .nil .nil)
  .nil))  (.node none  (.node  (some false) .nil .nil) .nil))  (.node none  (.node none  (.node none  (.node  (some false) .nil .nil) .nil) .nil)  (.node none 
  (.node  (some false)  (.node  (some false) .nil .nil) .nil) .nil))))  (.node none  (.node none  (.node none  (.node  (some false)  (.node none  (.node  (some
  false) .nil .nil) .nil) .nil)  (.node none  (.node none  (.node  (some false) .nil .nil) .nil) .nil))  (.node none .nil  (.node none  (.node none  (.node 
  (some false) .nil .nil) .nil) .nil)))  (.node  (some false)  (.node none .nil  (.node  (some false)  (.node  (some false) .nil .nil) .nil))  (.node  (some
  false)  (.node none  (.node  (some false) .nil .nil) .nil)  (.node none  (.node  (some false) .nil .nil) .nil)))))  (.node none  (.node none  (.node  (some
  false)  (.node none  (.node  (some false) .nil .nil) .nil)  (.node none .nil  (.node none  (.node none  (.node  (some false) .nil .nil) .nil) .nil)))  (.node
  none  (.node none .nil  (.node  (some false) .nil .nil))  (.node none .nil  (.node none  (.node  (some false) .nil .nil) .nil))))  (.node none  (.node none 
  (.node  (some false)  (.node  (some false) .nil  (.node none  (.node  (some false) .nil .nil) .nil))  (.node none  (.node  (some false) .nil .nil)  (.node 
  (some false) .nil .nil)))  (.node none .nil  (.node none  (.node none  (.node  (some false) .nil .nil) .nil) .nil)))  (.node  (some false)  (.node none .nil 
  (.node none  (.node  (some false) .nil .nil) .nil))  (.node  (some false)  (.node none  (.node  (some false) .nil .nil) .nil)  (.node none  (.node  (some
  false) .nil .nil) .nil))))))
def ST : Ev.Tr Bool :=
  (.node none  (.node none  (.node none  (.node  (some false) .nil  (.node none .nil  (.node none  (.node none  (.node  (some true) .nil .nil) .nil) .nil))) 
  (.node none  (.node  (some true)  (.node  (some false)  (.node none  (.node  (some false) .nil .nil) .nil)  (.node none  (.node  (some true) .nil .nil) .nil)) 
  (.node none  (.node  (some false) .nil .nil) .nil))  (.node none  (.node none  (.node none  (.node  (some false) .nil .nil) .nil) .nil)  (.node none  (.node 
  (some false)  (.node  (some true) .nil .nil) .nil) .nil))))  (.node none  (.node none  (.node none  (.node  (some false)  (.node none  (.node  (some false)
  .nil .nil) .nil) .nil)  (.node none  (.node none  (.node  (some false) .nil .nil) .nil) .nil))  (.node none .nil  (.node none  (.node none  (.node  (some
  false) .nil .nil) .nil) .nil)))  (.node  (some true)  (.node none .nil  (.node  (some false)  (.node  (some false) .nil .nil) .nil))  (.node  (some false) 
  (.node none  (.node  (some false) .nil .nil) .nil)  (.node none  (.node  (some false) .nil .nil) .nil)))))  (.node none  (.node none  (.node  (some false) 
  (.node none  (.node  (some false) .nil .nil) .nil)  (.node none .nil  (.node none  (.node none  (.node  (some true) .nil .nil) .nil) .nil)))  (.node none 
  (.node none .nil  (.node  (some false) .nil .nil))  (.node none .nil  (.node none  (.node  (some false) .nil .nil) .nil))))  (.node none  (.node none  (.node 
  (some true)  (.node  (some false) .nil  (.node none  (.node  (some true) .nil .nil) .nil))  (.node none  (.node  (some false) .nil .nil)  (.node  (some false)
  .nil .nil)))  (.node none .nil  (.node none  (.node none  (.node  (some true) .nil .nil) .nil) .nil)))  (.node  (some true)  (.node none .nil  (.node none 
  (.node  (some false) .nil .nil) .nil))  (.node  (some false)  (.node none  (.node  (some false) .nil .nil) .nil)  (.node none  (.node  (some false) .nil .nil)
  .nil))))))
theorem FT_eq : FT = Ev.Tr.ofList Try.prog.funcs.toList := by kernel_rfl
theorem TT_eq : TT = Ev.Tr.ofList Try.prog.types.toList := by kernel_rfl
theorem EQ_eq : EQ = Ev.testAll (fun t => Try.prog.eqGuardType Try.prog.depth t) [7, 8, 13, 14, 18, 19, 29, 30, 32, 33, 34, 35, 52, 53, 77, 78, 82, 83, 85, 86, 91, 92, 93, 94, 114, 129, 131, 139, 145, 151, 152, 153, 154, 155, 162, 163] .nil := by kernel_rfl
theorem ST_eq : ST = Ev.testAll (fun t => Try.prog.stoodInHeld t) [7, 8, 13, 14, 18, 19, 29, 30, 32, 33, 34, 35, 52, 53, 77, 78, 82, 83, 85, 86, 91, 92, 93, 94, 114, 129, 131, 139, 145, 151, 152, 153, 154, 155, 162, 163] .nil := by kernel_rfl
theorem names_ok : Try.prog.funcs.toList.all (fun F => !(F.name == "runtime.NumGoroutine")) = true := by kernel_rfl
theorem mixed_ok : Try.prog.follows .mixedOrders = true := by kernel_rfl
def EX : List (Nat × Ev.ExtK) := []
def KD : Ev.Tr Bool :=
  .nil
theorem KD_eq : KD = Ev.testAll (Ev.kdTest Try.prog) [] .nil := by kernel_rfl
theorem EX_ok : ∀ p, p ∈ EX → Ev.ExtOK Try.prog p.1 p.2 := by
  intro p hp
  unfold EX at hp
  cases hp
noncomputable def TB : Ev.Tabs := Ev.tabsOf FT TT EQ ST EX 0 KD
theorem TB_ok : Ev.TabsOK Try.prog TB := Ev.tabs_ok FT_eq TT_eq names_ok EQ_eq ST_eq mixed_ok EX_ok (by kernel_rfl) KD_eq
end Go.Proofs.Ythdlebegkhnbiaa
