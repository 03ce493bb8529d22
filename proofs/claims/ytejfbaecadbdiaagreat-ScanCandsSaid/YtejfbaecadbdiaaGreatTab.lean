/- PRINTED BY A SMALL PROGRAM (gentab.py): the translation's functions and types by number, and that these tables are the program's own. -/
import Derived.Test.YtejfbaecadbdiaaGreatGah
import Derived.Test.YtejfbaecadbdiaaGreatChecked
import Derived.KernelRfl
namespace Go.Proofs.YtejfbaecadbdiaaGreat
open Go
noncomputable def FT:Ev.Tr Func :=
 (.node  (some Tryz.f0)  (.node  (some Tryz.f1)  (.node  (some Tryz.f3)  (.node  (some Tryz.f7)  (.node  (some Tryz.f15)  (.node  (some Tryz.f31)  (.node  (some
 Tryz.f63)  (.node  (some Tryz.f127) .nil .nil)  (.node  (some Tryz.f191) .nil .nil))  (.node  (some Tryz.f95)  (.node  (some Tryz.f159) .nil .nil)  (.node
 (some Tryz.f223) .nil .nil)))  (.node  (some Tryz.f47)  (.node  (some Tryz.f79)  (.node  (some Tryz.f143) .nil .nil)  (.node  (some Tryz.f207) .nil .nil))
 (.node  (some Tryz.f111)  (.node  (some Tryz.f175) .nil .nil)  (.node  (some Tryz.f239) .nil .nil))))  (.node  (some Tryz.f23)  (.node  (some Tryz.f39)  (.node
  (some Tryz.f71)  (.node  (some Tryz.f135) .nil .nil)  (.node  (some Tryz.f199) .nil .nil))  (.node  (some Tryz.f103)  (.node  (some Tryz.f167) .nil .nil)
 (.node  (some Tryz.f231) .nil .nil)))  (.node  (some Tryz.f55)  (.node  (some Tryz.f87)  (.node  (some Tryz.f151) .nil .nil)  (.node  (some Tryz.f215) .nil
 .nil))  (.node  (some Tryz.f119)  (.node  (some Tryz.f183) .nil .nil) .nil))))  (.node  (some Tryz.f11)  (.node  (some Tryz.f19)  (.node  (some Tryz.f35)
 (.node  (some Tryz.f67)  (.node  (some Tryz.f131) .nil .nil)  (.node  (some Tryz.f195) .nil .nil))  (.node  (some Tryz.f99)  (.node  (some Tryz.f163) .nil
 .nil)  (.node  (some Tryz.f227) .nil .nil)))  (.node  (some Tryz.f51)  (.node  (some Tryz.f83)  (.node  (some Tryz.f147) .nil .nil)  (.node  (some Tryz.f211)
 .nil .nil))  (.node  (some Tryz.f115)  (.node  (some Tryz.f179) .nil .nil)  (.node  (some Tryz.f243) .nil .nil))))  (.node  (some Tryz.f27)  (.node  (some
 Tryz.f43)  (.node  (some Tryz.f75)  (.node  (some Tryz.f139) .nil .nil)  (.node  (some Tryz.f203) .nil .nil))  (.node  (some Tryz.f107)  (.node  (some
 Tryz.f171) .nil .nil)  (.node  (some Tryz.f235) .nil .nil)))  (.node  (some Tryz.f59)  (.node  (some Tryz.f91)  (.node  (some Tryz.f155) .nil .nil)  (.node
 (some Tryz.f219) .nil .nil))  (.node  (some Tryz.f123)  (.node  (some Tryz.f187) .nil .nil) .nil)))))  (.node  (some Tryz.f5)  (.node  (some Tryz.f9)  (.node
 (some Tryz.f17)  (.node  (some Tryz.f33)  (.node  (some Tryz.f65)  (.node  (some Tryz.f129) .nil .nil)  (.node  (some Tryz.f193) .nil .nil))  (.node  (some
 Tryz.f97)  (.node  (some Tryz.f161) .nil .nil)  (.node  (some Tryz.f225) .nil .nil)))  (.node  (some Tryz.f49)  (.node  (some Tryz.f81)  (.node  (some
 Tryz.f145) .nil .nil)  (.node  (some Tryz.f209) .nil .nil))  (.node  (some Tryz.f113)  (.node  (some Tryz.f177) .nil .nil)  (.node  (some Tryz.f241) .nil
 .nil))))  (.node  (some Tryz.f25)  (.node  (some Tryz.f41)  (.node  (some Tryz.f73)  (.node  (some Tryz.f137) .nil .nil)  (.node  (some Tryz.f201) .nil .nil))
 (.node  (some Tryz.f105)  (.node  (some Tryz.f169) .nil .nil)  (.node  (some Tryz.f233) .nil .nil)))  (.node  (some Tryz.f57)  (.node  (some Tryz.f89)  (.node
 (some Tryz.f153) .nil .nil)  (.node  (some Tryz.f217) .nil .nil))  (.node  (some Tryz.f121)  (.node  (some Tryz.f185) .nil .nil) .nil))))  (.node  (some
 Tryz.f13)  (.node  (some Tryz.f21)  (.node  (some Tryz.f37)  (.node  (some Tryz.f69)  (.node  (some Tryz.f133) .nil .nil)  (.node  (some Tryz.f197) .nil .nil))
  (.node  (some Tryz.f101)  (.node  (some Tryz.f165) .nil .nil)  (.node  (some Tryz.f229) .nil .nil)))  (.node  (some Tryz.f53)  (.node  (some Tryz.f85)  (.node
  (some Tryz.f149) .nil .nil)  (.node  (some Tryz.f213) .nil .nil))  (.node  (some Tryz.f117)  (.node  (some Tryz.f181) .nil .nil) .nil)))  (.node  (some
 Tryz.f29)  (.node  (some Tryz.f45)  (.node  (some Tryz.f77)  (.node  (some Tryz.f141) .nil .nil)  (.node  (some Tryz.f205) .nil .nil))  (.node  (some
 Tryz.f109)  (.node  (some Tryz.f173) .nil .nil)  (.node  (some Tryz.f237) .nil .nil)))  (.node  (some Tryz.f61)  (.node  (some Tryz.f93)  (.node  (some
 Tryz.f157) .nil .nil)  (.node  (some Tryz.f221) .nil .nil))  (.node  (some Tryz.f125)  (.node  (some Tryz.f189) .nil .nil) .nil))))))  (.node  (some Tryz.f2)
 (.node  (some Tryz.f4)  (.node  (some Tryz.f8)  (.node  (some Tryz.f16)  (.node  (some Tryz.f32)  (.node  (some Tryz.f64)  (.node  (some Tryz.f128) .nil .nil)
 (.node  (some Tryz.f192) .nil .nil))  (.node  (some Tryz.f96)  (.node  (some Tryz.f160) .nil .nil)  (.node  (some Tryz.f224) .nil .nil)))  (.node  (some
 Tryz.f48)  (.node  (some Tryz.f80)  (.node  (some Tryz.f144) .nil .nil)  (.node  (some Tryz.f208) .nil .nil))  (.node  (some Tryz.f112)  (.node  (some
 Tryz.f176) .nil .nil)  (.node  (some Tryz.f240) .nil .nil))))  (.node  (some Tryz.f24)  (.node  (some Tryz.f40)  (.node  (some Tryz.f72)  (.node  (some
 Tryz.f136) .nil .nil)  (.node  (some Tryz.f200) .nil .nil))  (.node  (some Tryz.f104)  (.node  (some Tryz.f168) .nil .nil)  (.node  (some Tryz.f232) .nil
 .nil)))  (.node  (some Tryz.f56)  (.node  (some Tryz.f88)  (.node  (some Tryz.f152) .nil .nil)  (.node  (some Tryz.f216) .nil .nil))  (.node  (some Tryz.f120)
 (.node  (some Tryz.f184) .nil .nil) .nil))))  (.node  (some Tryz.f12)  (.node  (some Tryz.f20)  (.node  (some Tryz.f36)  (.node  (some Tryz.f68)  (.node  (some
 Tryz.f132) .nil .nil)  (.node  (some Tryz.f196) .nil .nil))  (.node  (some Tryz.f100)  (.node  (some Tryz.f164) .nil .nil)  (.node  (some Tryz.f228) .nil
 .nil)))  (.node  (some Tryz.f52)  (.node  (some Tryz.f84)  (.node  (some Tryz.f148) .nil .nil)  (.node  (some Tryz.f212) .nil .nil))  (.node  (some Tryz.f116)
 (.node  (some Tryz.f180) .nil .nil) .nil)))  (.node  (some Tryz.f28)  (.node  (some Tryz.f44)  (.node  (some Tryz.f76)  (.node  (some Tryz.f140) .nil .nil)
 (.node  (some Tryz.f204) .nil .nil))  (.node  (some Tryz.f108)  (.node  (some Tryz.f172) .nil .nil)  (.node  (some Tryz.f236) .nil .nil)))  (.node  (some
 Tryz.f60)  (.node  (some Tryz.f92)  (.node  (some Tryz.f156) .nil .nil)  (.node  (some Tryz.f220) .nil .nil))  (.node  (some Tryz.f124)  (.node  (some
 Tryz.f188) .nil .nil) .nil)))))  (.node  (some Tryz.f6)  (.node  (some Tryz.f10)  (.node  (some Tryz.f18)  (.node  (some Tryz.f34)  (.node  (some Tryz.f66)
 (.node  (some Tryz.f130) .nil .nil)  (.node  (some Tryz.f194) .nil .nil))  (.node  (some Tryz.f98)  (.node  (some Tryz.f162) .nil .nil)  (.node  (some
 Tryz.f226) .nil .nil)))  (.node  (some Tryz.f50)  (.node  (some Tryz.f82)  (.node  (some Tryz.f146) .nil .nil)  (.node  (some Tryz.f210) .nil .nil))  (.node
 (some Tryz.f114)  (.node  (some Tryz.f178) .nil .nil)  (.node  (some Tryz.f242) .nil .nil))))  (.node  (some Tryz.f26)  (.node  (some Tryz.f42)  (.node  (some
 Tryz.f74)  (.node  (some Tryz.f138) .nil .nil)  (.node  (some Tryz.f202) .nil .nil))  (.node  (some Tryz.f106)  (.node  (some Tryz.f170) .nil .nil)  (.node
 (some Tryz.f234) .nil .nil)))  (.node  (some Tryz.f58)  (.node  (some Tryz.f90)  (.node  (some Tryz.f154) .nil .nil)  (.node  (some Tryz.f218) .nil .nil))
 (.node  (some Tryz.f122)  (.node  (some Tryz.f186) .nil .nil) .nil))))  (.node  (some Tryz.f14)  (.node  (some Tryz.f22)  (.node  (some Tryz.f38)  (.node
 (some Tryz.f70)  (.node  (some Tryz.f134) .nil .nil)  (.node  (some Tryz.f198) .nil .nil))  (.node  (some Tryz.f102)  (.node  (some Tryz.f166) .nil .nil)
 (.node  (some Tryz.f230) .nil .nil)))  (.node  (some Tryz.f54)  (.node  (some Tryz.f86)  (.node  (some Tryz.f150) .nil .nil)  (.node  (some Tryz.f214) .nil
 .nil))  (.node  (some Tryz.f118)  (.node  (some Tryz.f182) .nil .nil) .nil)))  (.node  (some Tryz.f30)  (.node  (some Tryz.f46)  (.node  (some Tryz.f78)
 (.node  (some Tryz.f142) .nil .nil)  (.node  (some Tryz.f206) .nil .nil))  (.node  (some Tryz.f110)  (.node  (some Tryz.f174) .nil .nil)  (.node  (some
 Tryz.f238) .nil .nil)))  (.node  (some Tryz.f62)  (.node  (some Tryz.f94)  (.node  (some Tryz.f158) .nil .nil)  (.node  (some Tryz.f222) .nil .nil))  (.node
 (some Tryz.f126)  (.node  (some Tryz.f190) .nil .nil) .nil)))))))
noncomputable def TT:Ev.Tr TypeInfo :=
 (.node  (some Tryz.t0)  (.node  (some Tryz.t1)  (.node  (some Tryz.t3)  (.node  (some Tryz.t7)  (.node  (some Tryz.t15)  (.node  (some Tryz.t31)  (.node  (some
 Tryz.t63)  (.node  (some Tryz.t127)  (.node  (some Tryz.t255) .nil .nil) .nil)  (.node  (some Tryz.t191) .nil .nil))  (.node  (some Tryz.t95)  (.node  (some
 Tryz.t159)  (.node  (some Tryz.t287) .nil .nil) .nil)  (.node  (some Tryz.t223) .nil .nil)))  (.node  (some Tryz.t47)  (.node  (some Tryz.t79)  (.node  (some
 Tryz.t143)  (.node  (some Tryz.t271) .nil .nil) .nil)  (.node  (some Tryz.t207) .nil .nil))  (.node  (some Tryz.t111)  (.node  (some Tryz.t175) .nil .nil)
 (.node  (some Tryz.t239) .nil .nil))))  (.node  (some Tryz.t23)  (.node  (some Tryz.t39)  (.node  (some Tryz.t71)  (.node  (some Tryz.t135)  (.node  (some
 Tryz.t263) .nil .nil) .nil)  (.node  (some Tryz.t199) .nil .nil))  (.node  (some Tryz.t103)  (.node  (some Tryz.t167) .nil .nil)  (.node  (some Tryz.t231) .nil
 .nil)))  (.node  (some Tryz.t55)  (.node  (some Tryz.t87)  (.node  (some Tryz.t151)  (.node  (some Tryz.t279) .nil .nil) .nil)  (.node  (some Tryz.t215) .nil
 .nil))  (.node  (some Tryz.t119)  (.node  (some Tryz.t183) .nil .nil)  (.node  (some Tryz.t247) .nil .nil)))))  (.node  (some Tryz.t11)  (.node  (some
 Tryz.t19)  (.node  (some Tryz.t35)  (.node  (some Tryz.t67)  (.node  (some Tryz.t131)  (.node  (some Tryz.t259) .nil .nil) .nil)  (.node  (some Tryz.t195) .nil
 .nil))  (.node  (some Tryz.t99)  (.node  (some Tryz.t163) .nil .nil)  (.node  (some Tryz.t227) .nil .nil)))  (.node  (some Tryz.t51)  (.node  (some Tryz.t83)
 (.node  (some Tryz.t147)  (.node  (some Tryz.t275) .nil .nil) .nil)  (.node  (some Tryz.t211) .nil .nil))  (.node  (some Tryz.t115)  (.node  (some Tryz.t179)
 .nil .nil)  (.node  (some Tryz.t243) .nil .nil))))  (.node  (some Tryz.t27)  (.node  (some Tryz.t43)  (.node  (some Tryz.t75)  (.node  (some Tryz.t139)  (.node
  (some Tryz.t267) .nil .nil) .nil)  (.node  (some Tryz.t203) .nil .nil))  (.node  (some Tryz.t107)  (.node  (some Tryz.t171) .nil .nil)  (.node  (some
 Tryz.t235) .nil .nil)))  (.node  (some Tryz.t59)  (.node  (some Tryz.t91)  (.node  (some Tryz.t155)  (.node  (some Tryz.t283) .nil .nil) .nil)  (.node  (some
 Tryz.t219) .nil .nil))  (.node  (some Tryz.t123)  (.node  (some Tryz.t187) .nil .nil)  (.node  (some Tryz.t251) .nil .nil))))))  (.node  (some Tryz.t5)  (.node
  (some Tryz.t9)  (.node  (some Tryz.t17)  (.node  (some Tryz.t33)  (.node  (some Tryz.t65)  (.node  (some Tryz.t129)  (.node  (some Tryz.t257) .nil .nil) .nil)
  (.node  (some Tryz.t193) .nil .nil))  (.node  (some Tryz.t97)  (.node  (some Tryz.t161)  (.node  (some Tryz.t289) .nil .nil) .nil)  (.node  (some Tryz.t225)
 .nil .nil)))  (.node  (some Tryz.t49)  (.node  (some Tryz.t81)  (.node  (some Tryz.t145)  (.node  (some Tryz.t273) .nil .nil) .nil)  (.node  (some Tryz.t209)
 .nil .nil))  (.node  (some Tryz.t113)  (.node  (some Tryz.t177) .nil .nil)  (.node  (some Tryz.t241) .nil .nil))))  (.node  (some Tryz.t25)  (.node  (some
 Tryz.t41)  (.node  (some Tryz.t73)  (.node  (some Tryz.t137)  (.node  (some Tryz.t265) .nil .nil) .nil)  (.node  (some Tryz.t201) .nil .nil))  (.node  (some
 Tryz.t105)  (.node  (some Tryz.t169) .nil .nil)  (.node  (some Tryz.t233) .nil .nil)))  (.node  (some Tryz.t57)  (.node  (some Tryz.t89)  (.node  (some
 Tryz.t153)  (.node  (some Tryz.t281) .nil .nil) .nil)  (.node  (some Tryz.t217) .nil .nil))  (.node  (some Tryz.t121)  (.node  (some Tryz.t185) .nil .nil)
 (.node  (some Tryz.t249) .nil .nil)))))  (.node  (some Tryz.t13)  (.node  (some Tryz.t21)  (.node  (some Tryz.t37)  (.node  (some Tryz.t69)  (.node  (some
 Tryz.t133)  (.node  (some Tryz.t261) .nil .nil) .nil)  (.node  (some Tryz.t197) .nil .nil))  (.node  (some Tryz.t101)  (.node  (some Tryz.t165) .nil .nil)
 (.node  (some Tryz.t229) .nil .nil)))  (.node  (some Tryz.t53)  (.node  (some Tryz.t85)  (.node  (some Tryz.t149)  (.node  (some Tryz.t277) .nil .nil) .nil)
 (.node  (some Tryz.t213) .nil .nil))  (.node  (some Tryz.t117)  (.node  (some Tryz.t181) .nil .nil)  (.node  (some Tryz.t245) .nil .nil))))  (.node  (some
 Tryz.t29)  (.node  (some Tryz.t45)  (.node  (some Tryz.t77)  (.node  (some Tryz.t141)  (.node  (some Tryz.t269) .nil .nil) .nil)  (.node  (some Tryz.t205) .nil
 .nil))  (.node  (some Tryz.t109)  (.node  (some Tryz.t173) .nil .nil)  (.node  (some Tryz.t237) .nil .nil)))  (.node  (some Tryz.t61)  (.node  (some Tryz.t93)
 (.node  (some Tryz.t157)  (.node  (some Tryz.t285) .nil .nil) .nil)  (.node  (some Tryz.t221) .nil .nil))  (.node  (some Tryz.t125)  (.node  (some Tryz.t189)
 .nil .nil)  (.node  (some Tryz.t253) .nil .nil)))))))  (.node  (some Tryz.t2)  (.node  (some Tryz.t4)  (.node  (some Tryz.t8)  (.node  (some Tryz.t16)  (.node
 (some Tryz.t32)  (.node  (some Tryz.t64)  (.node  (some Tryz.t128)  (.node  (some Tryz.t256) .nil .nil) .nil)  (.node  (some Tryz.t192) .nil .nil))  (.node
 (some Tryz.t96)  (.node  (some Tryz.t160)  (.node  (some Tryz.t288) .nil .nil) .nil)  (.node  (some Tryz.t224) .nil .nil)))  (.node  (some Tryz.t48)  (.node
 (some Tryz.t80)  (.node  (some Tryz.t144)  (.node  (some Tryz.t272) .nil .nil) .nil)  (.node  (some Tryz.t208) .nil .nil))  (.node  (some Tryz.t112)  (.node
 (some Tryz.t176) .nil .nil)  (.node  (some Tryz.t240) .nil .nil))))  (.node  (some Tryz.t24)  (.node  (some Tryz.t40)  (.node  (some Tryz.t72)  (.node  (some
 Tryz.t136)  (.node  (some Tryz.t264) .nil .nil) .nil)  (.node  (some Tryz.t200) .nil .nil))  (.node  (some Tryz.t104)  (.node  (some Tryz.t168) .nil .nil)
 (.node  (some Tryz.t232) .nil .nil)))  (.node  (some Tryz.t56)  (.node  (some Tryz.t88)  (.node  (some Tryz.t152)  (.node  (some Tryz.t280) .nil .nil) .nil)
 (.node  (some Tryz.t216) .nil .nil))  (.node  (some Tryz.t120)  (.node  (some Tryz.t184) .nil .nil)  (.node  (some Tryz.t248) .nil .nil)))))  (.node  (some
 Tryz.t12)  (.node  (some Tryz.t20)  (.node  (some Tryz.t36)  (.node  (some Tryz.t68)  (.node  (some Tryz.t132)  (.node  (some Tryz.t260) .nil .nil) .nil)
 (.node  (some Tryz.t196) .nil .nil))  (.node  (some Tryz.t100)  (.node  (some Tryz.t164) .nil .nil)  (.node  (some Tryz.t228) .nil .nil)))  (.node  (some
 Tryz.t52)  (.node  (some Tryz.t84)  (.node  (some Tryz.t148)  (.node  (some Tryz.t276) .nil .nil) .nil)  (.node  (some Tryz.t212) .nil .nil))  (.node  (some
 Tryz.t116)  (.node  (some Tryz.t180) .nil .nil)  (.node  (some Tryz.t244) .nil .nil))))  (.node  (some Tryz.t28)  (.node  (some Tryz.t44)  (.node  (some
 Tryz.t76)  (.node  (some Tryz.t140)  (.node  (some Tryz.t268) .nil .nil) .nil)  (.node  (some Tryz.t204) .nil .nil))  (.node  (some Tryz.t108)  (.node  (some
 Tryz.t172) .nil .nil)  (.node  (some Tryz.t236) .nil .nil)))  (.node  (some Tryz.t60)  (.node  (some Tryz.t92)  (.node  (some Tryz.t156)  (.node  (some
 Tryz.t284) .nil .nil) .nil)  (.node  (some Tryz.t220) .nil .nil))  (.node  (some Tryz.t124)  (.node  (some Tryz.t188) .nil .nil)  (.node  (some Tryz.t252) .nil
 .nil))))))  (.node  (some Tryz.t6)  (.node  (some Tryz.t10)  (.node  (some Tryz.t18)  (.node  (some Tryz.t34)  (.node  (some Tryz.t66)  (.node  (some
 Tryz.t130)  (.node  (some Tryz.t258) .nil .nil) .nil)  (.node  (some Tryz.t194) .nil .nil))  (.node  (some Tryz.t98)  (.node  (some Tryz.t162) .nil .nil)
 (.node  (some Tryz.t226) .nil .nil)))  (.node  (some Tryz.t50)  (.node  (some Tryz.t82)  (.node  (some Tryz.t146)  (.node  (some Tryz.t274) .nil .nil) .nil)
 (.node  (some Tryz.t210) .nil .nil))  (.node  (some Tryz.t114)  (.node  (some Tryz.t178) .nil .nil)  (.node  (some Tryz.t242) .nil .nil))))  (.node  (some
 Tryz.t26)  (.node  (some Tryz.t42)  (.node  (some Tryz.t74)  (.node  (some Tryz.t138)  (.node  (some Tryz.t266) .nil .nil) .nil)  (.node  (some Tryz.t202) .nil
 .nil))  (.node  (some Tryz.t106)  (.node  (some Tryz.t170) .nil .nil)  (.node  (some Tryz.t234) .nil .nil)))  (.node  (some Tryz.t58)  (.node  (some Tryz.t90)
 (.node  (some Tryz.t154)  (.node  (some Tryz.t282) .nil .nil) .nil)  (.node  (some Tryz.t218) .nil .nil))  (.node  (some Tryz.t122)  (.node  (some Tryz.t186)
 .nil .nil)  (.node  (some Tryz.t250) .nil .nil)))))  (.node  (some Tryz.t14)  (.node  (some Tryz.t22)  (.node  (some Tryz.t38)  (.node  (some Tryz.t70)  (.node
  (some Tryz.t134)  (.node  (some Tryz.t262) .nil .nil) .nil)  (.node  (some Tryz.t198) .nil .nil))  (.node  (some Tryz.t102)  (.node  (some Tryz.t166) .nil
 .nil)  (.node  (some Tryz.t230) .nil .nil)))  (.node  (some Tryz.t54)  (.node  (some Tryz.t86)  (.node  (some Tryz.t150)  (.node  (some Tryz.t278) .nil .nil)
 .nil)  (.node  (some Tryz.t214) .nil .nil))  (.node  (some Tryz.t118)  (.node  (some Tryz.t182) .nil .nil)  (.node  (some Tryz.t246) .nil .nil))))  (.node
 (some Tryz.t30)  (.node  (some Tryz.t46)  (.node  (some Tryz.t78)  (.node  (some Tryz.t142)  (.node  (some Tryz.t270) .nil .nil) .nil)  (.node  (some
 Tryz.t206) .nil .nil))  (.node  (some Tryz.t110)  (.node  (some Tryz.t174) .nil .nil)  (.node  (some Tryz.t238) .nil .nil)))  (.node  (some Tryz.t62)  (.node
 (some Tryz.t94)  (.node  (some Tryz.t158)  (.node  (some Tryz.t286) .nil .nil) .nil)  (.node  (some Tryz.t222) .nil .nil))  (.node  (some Tryz.t126)  (.node
 (some Tryz.t190) .nil .nil)  (.node  (some Tryz.t254) .nil .nil))))))))
def EQ:Ev.Tr Bool :=
 (.node none  (.node none  (.node none  (.node  (some false)  (.node none  (.node  (some false)  (.node  (some false) .nil .nil)  (.node none  (.node none  (.node
  (some false) .nil .nil) .nil)  (.node  (some false) .nil .nil)))  (.node  (some false) .nil  (.node none  (.node  (some false) .nil .nil) .nil)))  (.node none
 .nil  (.node none  (.node  (some false)  (.node  (some false)  (.node  (some false) .nil .nil) .nil)  (.node  (some false) .nil .nil))  (.node none  (.node
 (some false) .nil .nil) .nil))))  (.node none  (.node  (some false)  (.node none  (.node none .nil  (.node  (some false) .nil .nil)) .nil)  (.node none  (.node
 none  (.node  (some false) .nil .nil)  (.node  (some false) .nil .nil)) .nil))  (.node none  (.node none .nil  (.node  (some false) .nil .nil))  (.node none
 (.node  (some false) .nil .nil)  (.node none  (.node  (some false) .nil .nil) .nil)))))  (.node none  (.node none  (.node none  (.node  (some false)  (.node
 none .nil  (.node  (some false) .nil .nil)) .nil) .nil)  (.node none  (.node  (some false)  (.node none .nil  (.node  (some false) .nil .nil)) .nil) .nil))
 (.node  (some false)  (.node none  (.node  (some false)  (.node none .nil  (.node  (some false) .nil .nil))  (.node none  (.node  (some false) .nil .nil)
 .nil))  (.node none  (.node  (some false)  (.node none  (.node  (some false) .nil .nil) .nil) .nil)  (.node  (some false) .nil .nil)))  (.node none .nil
 (.node none  (.node  (some false) .nil  (.node  (some false) .nil .nil)) .nil)))))  (.node none  (.node none  (.node  (some false)  (.node none  (.node  (some
 false)  (.node  (some false) .nil .nil)  (.node none  (.node none  (.node  (some false) .nil .nil) .nil) .nil)) .nil)  (.node none  (.node  (some false)
 (.node none .nil  (.node  (some false) .nil .nil)) .nil)  (.node none  (.node  (some false)  (.node  (some false)  (.node  (some false) .nil .nil) .nil) .nil)
 .nil)))  (.node none  (.node none  (.node  (some false) .nil .nil)  (.node none  (.node  (some false)  (.node none  (.node  (some false) .nil .nil) .nil) .nil)
  (.node  (some false) .nil .nil)))  (.node none  (.node none .nil  (.node  (some false) .nil .nil))  (.node none  (.node  (some false) .nil .nil)  (.node none
 (.node  (some false) .nil .nil) .nil)))))  (.node none  (.node none  (.node  (some false) .nil  (.node none  (.node none  (.node  (some false) .nil .nil)
 (.node  (some false) .nil .nil)) .nil))  (.node none .nil  (.node none  (.node  (some false) .nil .nil) .nil)))  (.node  (some false)  (.node none  (.node none
 .nil  (.node none  (.node  (some false) .nil .nil) .nil))  (.node none  (.node none  (.node none  (.node  (some false) .nil .nil) .nil) .nil)  (.node none
 (.node  (some false) .nil .nil) .nil)))  (.node  (some false)  (.node  (some false) .nil  (.node none  (.node  (some false) .nil .nil)  (.node  (some false)
 .nil .nil)))  (.node none  (.node none .nil  (.node  (some false) .nil .nil)) .nil))))))
def ST:Ev.Tr Bool :=
 (.node none  (.node none  (.node none  (.node  (some false)  (.node none  (.node  (some false)  (.node  (some false) .nil .nil)  (.node none  (.node none  (.node
  (some true) .nil .nil) .nil)  (.node  (some false) .nil .nil)))  (.node  (some false) .nil  (.node none  (.node  (some false) .nil .nil) .nil)))  (.node none
 .nil  (.node none  (.node  (some false)  (.node  (some false)  (.node  (some true) .nil .nil) .nil)  (.node  (some false) .nil .nil))  (.node none  (.node
 (some false) .nil .nil) .nil))))  (.node none  (.node  (some true)  (.node none  (.node none .nil  (.node  (some false) .nil .nil)) .nil)  (.node none  (.node
 none  (.node  (some false) .nil .nil)  (.node  (some false) .nil .nil)) .nil))  (.node none  (.node none .nil  (.node  (some false) .nil .nil))  (.node none
 (.node  (some false) .nil .nil)  (.node none  (.node  (some false) .nil .nil) .nil)))))  (.node none  (.node none  (.node none  (.node  (some false)  (.node
 none .nil  (.node  (some false) .nil .nil)) .nil) .nil)  (.node none  (.node  (some false)  (.node none .nil  (.node  (some false) .nil .nil)) .nil) .nil))
 (.node  (some true)  (.node none  (.node  (some false)  (.node none .nil  (.node  (some false) .nil .nil))  (.node none  (.node  (some false) .nil .nil) .nil))
  (.node none  (.node  (some false)  (.node none  (.node  (some true) .nil .nil) .nil) .nil)  (.node  (some false) .nil .nil)))  (.node none .nil  (.node none
 (.node  (some false) .nil  (.node  (some false) .nil .nil)) .nil)))))  (.node none  (.node none  (.node  (some false)  (.node none  (.node  (some false)
 (.node  (some false) .nil .nil)  (.node none  (.node none  (.node  (some true) .nil .nil) .nil) .nil)) .nil)  (.node none  (.node  (some false)  (.node none
 .nil  (.node  (some false) .nil .nil)) .nil)  (.node none  (.node  (some false)  (.node  (some false)  (.node  (some true) .nil .nil) .nil) .nil) .nil)))
 (.node none  (.node none  (.node  (some false) .nil .nil)  (.node none  (.node  (some false)  (.node none  (.node  (some true) .nil .nil) .nil) .nil)  (.node
 (some false) .nil .nil)))  (.node none  (.node none .nil  (.node  (some false) .nil .nil))  (.node none  (.node  (some false) .nil .nil)  (.node none  (.node
 (some false) .nil .nil) .nil)))))  (.node none  (.node none  (.node  (some true) .nil  (.node none  (.node none  (.node  (some false) .nil .nil)  (.node  (some
 false) .nil .nil)) .nil))  (.node none .nil  (.node none  (.node  (some false) .nil .nil) .nil)))  (.node  (some true)  (.node none  (.node none .nil  (.node
 none  (.node  (some false) .nil .nil) .nil))  (.node none  (.node none  (.node none  (.node  (some false) .nil .nil) .nil) .nil)  (.node none  (.node  (some
 false) .nil .nil) .nil)))  (.node  (some false)  (.node  (some false) .nil  (.node none  (.node  (some false) .nil .nil)  (.node  (some false) .nil .nil)))
 (.node none  (.node none .nil  (.node  (some false) .nil .nil)) .nil))))))
theorem f3a:FT=Ev.Tr.ofList Tryz.prog.funcs.toList:=by kernel_rfl
theorem f3c:TT=Ev.Tr.ofList Tryz.prog.types.toList:=by kernel_rfl
theorem f3u:EQ=Ev.a9e (fun t=>Tryz.prog.eqGuardType Tryz.prog.depth t) [7,8,13,14,18,19,30,31,32,33,36,37,40,41,46,47,63,64,84,85,87,88,90,91,92,93,107,108,116,117,146,147,151,152,165,166,174,175,182,183,187,188,193,195,197,200,201,210,211,215,221,222,223,238,276,277,278,279,280,287,288] .nil:=by kernel_rfl
theorem f4d:ST=Ev.a9e (fun t=>Tryz.prog.stoodInHeld t) [7,8,13,14,18,19,30,31,32,33,36,37,40,41,46,47,63,64,84,85,87,88,90,91,92,93,107,108,116,117,146,147,151,152,165,166,174,175,182,183,187,188,193,195,197,200,201,210,211,215,221,222,223,238,276,277,278,279,280,287,288] .nil:=by kernel_rfl
theorem e1j : Tryz.prog.funcs.toList.all (fun F => !(F.name == "runtime.NumGoroutine")) = true := by kernel_rfl
theorem e0u:Tryz.prog.follows .mixedOrders=true:=by kernel_rfl
def EX:List (Nat×Ev.ExtK):=[]
def KD:Ev.Tr Bool :=
 .nil
theorem f4x:KD=Ev.a9e (Ev.d3i Tryz.prog) [] .nil:=by kernel_rfl
theorem f5c:∀ p,p∈EX→Ev.e3o Tryz.prog p.1 p.2:=by
 intro p hp
 unfold EX at hp
 cases hp
noncomputable def TB:Ev.a0k:=Ev.e0p FT TT EQ ST EX 0 KD
theorem b0s:Ev.a0v Tryz.prog TB:=Ev.e5k f3a f3c e1j f3u f4d e0u f5c (by kernel_rfl) f4x
end Go.Proofs.YtejfbaecadbdiaaGreat
