/- PRINTED BY A SMALL PROGRAM (gentab.py): the translation's functions and types by number, and that these tables are the program's own. -/
import Derived.Test.YtiijbjafiknbkaaGreatDoorEvEnd
import Derived.Test.YtiijbjafiknbkaaGreatDoorChecked
import Derived.KernelRfl
namespace Go.Proofs.YtiijbjafiknbkaaGreatDoor
open Go
noncomputable def FT : Ev.Tr Func :=
  (.node  (some Tryz.f0)  (.node  (some Tryz.f1)  (.node  (some Tryz.f3)  (.node  (some Tryz.f7)  (.node  (some Tryz.f15)  (.node  (some Tryz.f31)  (.node  (some
  Tryz.f63)  (.node  (some Tryz.f127)  (.node  (some Tryz.f255) .nil .nil) .nil)  (.node  (some Tryz.f191)  (.node  (some Tryz.f319) .nil .nil) .nil))  (.node 
  (some Tryz.f95)  (.node  (some Tryz.f159)  (.node  (some Tryz.f287) .nil .nil) .nil)  (.node  (some Tryz.f223)  (.node  (some Tryz.f351) .nil .nil) .nil))) 
  (.node  (some Tryz.f47)  (.node  (some Tryz.f79)  (.node  (some Tryz.f143)  (.node  (some Tryz.f271) .nil .nil) .nil)  (.node  (some Tryz.f207)  (.node  (some
  Tryz.f335) .nil .nil) .nil))  (.node  (some Tryz.f111)  (.node  (some Tryz.f175)  (.node  (some Tryz.f303) .nil .nil) .nil)  (.node  (some Tryz.f239) .nil
  .nil))))  (.node  (some Tryz.f23)  (.node  (some Tryz.f39)  (.node  (some Tryz.f71)  (.node  (some Tryz.f135)  (.node  (some Tryz.f263) .nil .nil) .nil) 
  (.node  (some Tryz.f199)  (.node  (some Tryz.f327) .nil .nil) .nil))  (.node  (some Tryz.f103)  (.node  (some Tryz.f167)  (.node  (some Tryz.f295) .nil .nil)
  .nil)  (.node  (some Tryz.f231) .nil .nil)))  (.node  (some Tryz.f55)  (.node  (some Tryz.f87)  (.node  (some Tryz.f151)  (.node  (some Tryz.f279) .nil .nil)
  .nil)  (.node  (some Tryz.f215)  (.node  (some Tryz.f343) .nil .nil) .nil))  (.node  (some Tryz.f119)  (.node  (some Tryz.f183)  (.node  (some Tryz.f311) .nil
  .nil) .nil)  (.node  (some Tryz.f247) .nil .nil)))))  (.node  (some Tryz.f11)  (.node  (some Tryz.f19)  (.node  (some Tryz.f35)  (.node  (some Tryz.f67) 
  (.node  (some Tryz.f131)  (.node  (some Tryz.f259) .nil .nil) .nil)  (.node  (some Tryz.f195)  (.node  (some Tryz.f323) .nil .nil) .nil))  (.node  (some
  Tryz.f99)  (.node  (some Tryz.f163)  (.node  (some Tryz.f291) .nil .nil) .nil)  (.node  (some Tryz.f227) .nil .nil)))  (.node  (some Tryz.f51)  (.node  (some
  Tryz.f83)  (.node  (some Tryz.f147)  (.node  (some Tryz.f275) .nil .nil) .nil)  (.node  (some Tryz.f211)  (.node  (some Tryz.f339) .nil .nil) .nil))  (.node 
  (some Tryz.f115)  (.node  (some Tryz.f179)  (.node  (some Tryz.f307) .nil .nil) .nil)  (.node  (some Tryz.f243) .nil .nil))))  (.node  (some Tryz.f27)  (.node 
  (some Tryz.f43)  (.node  (some Tryz.f75)  (.node  (some Tryz.f139)  (.node  (some Tryz.f267) .nil .nil) .nil)  (.node  (some Tryz.f203)  (.node  (some
  Tryz.f331) .nil .nil) .nil))  (.node  (some Tryz.f107)  (.node  (some Tryz.f171)  (.node  (some Tryz.f299) .nil .nil) .nil)  (.node  (some Tryz.f235) .nil
  .nil)))  (.node  (some Tryz.f59)  (.node  (some Tryz.f91)  (.node  (some Tryz.f155)  (.node  (some Tryz.f283) .nil .nil) .nil)  (.node  (some Tryz.f219) 
  (.node  (some Tryz.f347) .nil .nil) .nil))  (.node  (some Tryz.f123)  (.node  (some Tryz.f187)  (.node  (some Tryz.f315) .nil .nil) .nil)  (.node  (some
  Tryz.f251) .nil .nil))))))  (.node  (some Tryz.f5)  (.node  (some Tryz.f9)  (.node  (some Tryz.f17)  (.node  (some Tryz.f33)  (.node  (some Tryz.f65)  (.node 
  (some Tryz.f129)  (.node  (some Tryz.f257) .nil .nil) .nil)  (.node  (some Tryz.f193)  (.node  (some Tryz.f321) .nil .nil) .nil))  (.node  (some Tryz.f97) 
  (.node  (some Tryz.f161)  (.node  (some Tryz.f289) .nil .nil) .nil)  (.node  (some Tryz.f225) .nil .nil)))  (.node  (some Tryz.f49)  (.node  (some Tryz.f81) 
  (.node  (some Tryz.f145)  (.node  (some Tryz.f273) .nil .nil) .nil)  (.node  (some Tryz.f209)  (.node  (some Tryz.f337) .nil .nil) .nil))  (.node  (some
  Tryz.f113)  (.node  (some Tryz.f177)  (.node  (some Tryz.f305) .nil .nil) .nil)  (.node  (some Tryz.f241) .nil .nil))))  (.node  (some Tryz.f25)  (.node  (some
  Tryz.f41)  (.node  (some Tryz.f73)  (.node  (some Tryz.f137)  (.node  (some Tryz.f265) .nil .nil) .nil)  (.node  (some Tryz.f201)  (.node  (some Tryz.f329)
  .nil .nil) .nil))  (.node  (some Tryz.f105)  (.node  (some Tryz.f169)  (.node  (some Tryz.f297) .nil .nil) .nil)  (.node  (some Tryz.f233) .nil .nil)))  (.node
   (some Tryz.f57)  (.node  (some Tryz.f89)  (.node  (some Tryz.f153)  (.node  (some Tryz.f281) .nil .nil) .nil)  (.node  (some Tryz.f217)  (.node  (some
  Tryz.f345) .nil .nil) .nil))  (.node  (some Tryz.f121)  (.node  (some Tryz.f185)  (.node  (some Tryz.f313) .nil .nil) .nil)  (.node  (some Tryz.f249) .nil
  .nil)))))  (.node  (some Tryz.f13)  (.node  (some Tryz.f21)  (.node  (some Tryz.f37)  (.node  (some Tryz.f69)  (.node  (some Tryz.f133)  (.node  (some
  Tryz.f261) .nil .nil) .nil)  (.node  (some Tryz.f197)  (.node  (some Tryz.f325) .nil .nil) .nil))  (.node  (some Tryz.f101)  (.node  (some Tryz.f165)  (.node 
  (some Tryz.f293) .nil .nil) .nil)  (.node  (some Tryz.f229) .nil .nil)))  (.node  (some Tryz.f53)  (.node  (some Tryz.f85)  (.node  (some Tryz.f149)  (.node 
  (some Tryz.f277) .nil .nil) .nil)  (.node  (some Tryz.f213)  (.node  (some Tryz.f341) .nil .nil) .nil))  (.node  (some Tryz.f117)  (.node  (some Tryz.f181) 
  (.node  (some Tryz.f309) .nil .nil) .nil)  (.node  (some Tryz.f245) .nil .nil))))  (.node  (some Tryz.f29)  (.node  (some Tryz.f45)  (.node  (some Tryz.f77) 
  (.node  (some Tryz.f141)  (.node  (some Tryz.f269) .nil .nil) .nil)  (.node  (some Tryz.f205)  (.node  (some Tryz.f333) .nil .nil) .nil))  (.node  (some
  Tryz.f109)  (.node  (some Tryz.f173)  (.node  (some Tryz.f301) .nil .nil) .nil)  (.node  (some Tryz.f237) .nil .nil)))  (.node  (some Tryz.f61)  (.node  (some
  Tryz.f93)  (.node  (some Tryz.f157)  (.node  (some Tryz.f285) .nil .nil) .nil)  (.node  (some Tryz.f221)  (.node  (some Tryz.f349) .nil .nil) .nil))  (.node 
  (some Tryz.f125)  (.node  (some Tryz.f189)  (.node  (some Tryz.f317) .nil .nil) .nil)  (.node  (some Tryz.f253) .nil .nil)))))))  (.node  (some Tryz.f2) 
  (.node  (some Tryz.f4)  (.node  (some Tryz.f8)  (.node  (some Tryz.f16)  (.node  (some Tryz.f32)  (.node  (some Tryz.f64)  (.node  (some Tryz.f128)  (.node 
  (some Tryz.f256) .nil .nil) .nil)  (.node  (some Tryz.f192)  (.node  (some Tryz.f320) .nil .nil) .nil))  (.node  (some Tryz.f96)  (.node  (some Tryz.f160) 
  (.node  (some Tryz.f288) .nil .nil) .nil)  (.node  (some Tryz.f224)  (.node  (some Tryz.f352) .nil .nil) .nil)))  (.node  (some Tryz.f48)  (.node  (some
  Tryz.f80)  (.node  (some Tryz.f144)  (.node  (some Tryz.f272) .nil .nil) .nil)  (.node  (some Tryz.f208)  (.node  (some Tryz.f336) .nil .nil) .nil))  (.node 
  (some Tryz.f112)  (.node  (some Tryz.f176)  (.node  (some Tryz.f304) .nil .nil) .nil)  (.node  (some Tryz.f240) .nil .nil))))  (.node  (some Tryz.f24)  (.node 
  (some Tryz.f40)  (.node  (some Tryz.f72)  (.node  (some Tryz.f136)  (.node  (some Tryz.f264) .nil .nil) .nil)  (.node  (some Tryz.f200)  (.node  (some
  Tryz.f328) .nil .nil) .nil))  (.node  (some Tryz.f104)  (.node  (some Tryz.f168)  (.node  (some Tryz.f296) .nil .nil) .nil)  (.node  (some Tryz.f232) .nil
  .nil)))  (.node  (some Tryz.f56)  (.node  (some Tryz.f88)  (.node  (some Tryz.f152)  (.node  (some Tryz.f280) .nil .nil) .nil)  (.node  (some Tryz.f216) 
  (.node  (some Tryz.f344) .nil .nil) .nil))  (.node  (some Tryz.f120)  (.node  (some Tryz.f184)  (.node  (some Tryz.f312) .nil .nil) .nil)  (.node  (some
  Tryz.f248) .nil .nil)))))  (.node  (some Tryz.f12)  (.node  (some Tryz.f20)  (.node  (some Tryz.f36)  (.node  (some Tryz.f68)  (.node  (some Tryz.f132)  (.node
   (some Tryz.f260) .nil .nil) .nil)  (.node  (some Tryz.f196)  (.node  (some Tryz.f324) .nil .nil) .nil))  (.node  (some Tryz.f100)  (.node  (some Tryz.f164) 
  (.node  (some Tryz.f292) .nil .nil) .nil)  (.node  (some Tryz.f228) .nil .nil)))  (.node  (some Tryz.f52)  (.node  (some Tryz.f84)  (.node  (some Tryz.f148) 
  (.node  (some Tryz.f276) .nil .nil) .nil)  (.node  (some Tryz.f212)  (.node  (some Tryz.f340) .nil .nil) .nil))  (.node  (some Tryz.f116)  (.node  (some
  Tryz.f180)  (.node  (some Tryz.f308) .nil .nil) .nil)  (.node  (some Tryz.f244) .nil .nil))))  (.node  (some Tryz.f28)  (.node  (some Tryz.f44)  (.node  (some
  Tryz.f76)  (.node  (some Tryz.f140)  (.node  (some Tryz.f268) .nil .nil) .nil)  (.node  (some Tryz.f204)  (.node  (some Tryz.f332) .nil .nil) .nil))  (.node 
  (some Tryz.f108)  (.node  (some Tryz.f172)  (.node  (some Tryz.f300) .nil .nil) .nil)  (.node  (some Tryz.f236) .nil .nil)))  (.node  (some Tryz.f60)  (.node 
  (some Tryz.f92)  (.node  (some Tryz.f156)  (.node  (some Tryz.f284) .nil .nil) .nil)  (.node  (some Tryz.f220)  (.node  (some Tryz.f348) .nil .nil) .nil)) 
  (.node  (some Tryz.f124)  (.node  (some Tryz.f188)  (.node  (some Tryz.f316) .nil .nil) .nil)  (.node  (some Tryz.f252) .nil .nil))))))  (.node  (some Tryz.f6)
   (.node  (some Tryz.f10)  (.node  (some Tryz.f18)  (.node  (some Tryz.f34)  (.node  (some Tryz.f66)  (.node  (some Tryz.f130)  (.node  (some Tryz.f258) .nil
  .nil) .nil)  (.node  (some Tryz.f194)  (.node  (some Tryz.f322) .nil .nil) .nil))  (.node  (some Tryz.f98)  (.node  (some Tryz.f162)  (.node  (some Tryz.f290)
  .nil .nil) .nil)  (.node  (some Tryz.f226) .nil .nil)))  (.node  (some Tryz.f50)  (.node  (some Tryz.f82)  (.node  (some Tryz.f146)  (.node  (some Tryz.f274)
  .nil .nil) .nil)  (.node  (some Tryz.f210)  (.node  (some Tryz.f338) .nil .nil) .nil))  (.node  (some Tryz.f114)  (.node  (some Tryz.f178)  (.node  (some
  Tryz.f306) .nil .nil) .nil)  (.node  (some Tryz.f242) .nil .nil))))  (.node  (some Tryz.f26)  (.node  (some Tryz.f42)  (.node  (some Tryz.f74)  (.node  (some
  Tryz.f138)  (.node  (some Tryz.f266) .nil .nil) .nil)  (.node  (some Tryz.f202)  (.node  (some Tryz.f330) .nil .nil) .nil))  (.node  (some Tryz.f106)  (.node 
  (some Tryz.f170)  (.node  (some Tryz.f298) .nil .nil) .nil)  (.node  (some Tryz.f234) .nil .nil)))  (.node  (some Tryz.f58)  (.node  (some Tryz.f90)  (.node 
  (some Tryz.f154)  (.node  (some Tryz.f282) .nil .nil) .nil)  (.node  (some Tryz.f218)  (.node  (some Tryz.f346) .nil .nil) .nil))  (.node  (some Tryz.f122) 
  (.node  (some Tryz.f186)  (.node  (some Tryz.f314) .nil .nil) .nil)  (.node  (some Tryz.f250) .nil .nil)))))  (.node  (some Tryz.f14)  (.node  (some Tryz.f22) 
  (.node  (some Tryz.f38)  (.node  (some Tryz.f70)  (.node  (some Tryz.f134)  (.node  (some Tryz.f262) .nil .nil) .nil)  (.node  (some Tryz.f198)  (.node  (some
  Tryz.f326) .nil .nil) .nil))  (.node  (some Tryz.f102)  (.node  (some Tryz.f166)  (.node  (some Tryz.f294) .nil .nil) .nil)  (.node  (some Tryz.f230) .nil
  .nil)))  (.node  (some Tryz.f54)  (.node  (some Tryz.f86)  (.node  (some Tryz.f150)  (.node  (some Tryz.f278) .nil .nil) .nil)  (.node  (some Tryz.f214) 
  (.node  (some Tryz.f342) .nil .nil) .nil))  (.node  (some Tryz.f118)  (.node  (some Tryz.f182)  (.node  (some Tryz.f310) .nil .nil) .nil)  (.node  (some
  Tryz.f246) .nil .nil))))  (.node  (some Tryz.f30)  (.node  (some Tryz.f46)  (.node  (some Tryz.f78)  (.node  (some Tryz.f142)  (.node  (some Tryz.f270) .nil
  .nil) .nil)  (.node  (some Tryz.f206)  (.node  (some Tryz.f334) .nil .nil) .nil))  (.node  (some Tryz.f110)  (.node  (some Tryz.f174)  (.node  (some Tryz.f302)
  .nil .nil) .nil)  (.node  (some Tryz.f238) .nil .nil)))  (.node  (some Tryz.f62)  (.node  (some Tryz.f94)  (.node  (some Tryz.f158)  (.node  (some Tryz.f286)
  .nil .nil) .nil)  (.node  (some Tryz.f222)  (.node  (some Tryz.f350) .nil .nil) .nil))  (.node  (some Tryz.f126)  (.node  (some Tryz.f190)  (.node  (some
  Tryz.f318) .nil .nil) .nil)  (.node  (some Tryz.f254) .nil .nil))))))))
noncomputable def TT : Ev.Tr TypeInfo :=
  (.node  (some Tryz.t0)  (.node  (some Tryz.t1)  (.node  (some Tryz.t3)  (.node  (some Tryz.t7)  (.node  (some Tryz.t15)  (.node  (some Tryz.t31)  (.node  (some
  Tryz.t63)  (.node  (some Tryz.t127)  (.node  (some Tryz.t255) .nil .nil)  (.node  (some Tryz.t383) .nil .nil))  (.node  (some Tryz.t191)  (.node  (some
  Tryz.t319) .nil .nil)  (.node  (some Tryz.t447) .nil .nil)))  (.node  (some Tryz.t95)  (.node  (some Tryz.t159)  (.node  (some Tryz.t287) .nil .nil)  (.node 
  (some Tryz.t415) .nil .nil))  (.node  (some Tryz.t223)  (.node  (some Tryz.t351) .nil .nil) .nil)))  (.node  (some Tryz.t47)  (.node  (some Tryz.t79)  (.node 
  (some Tryz.t143)  (.node  (some Tryz.t271) .nil .nil)  (.node  (some Tryz.t399) .nil .nil))  (.node  (some Tryz.t207)  (.node  (some Tryz.t335) .nil .nil)
  .nil))  (.node  (some Tryz.t111)  (.node  (some Tryz.t175)  (.node  (some Tryz.t303) .nil .nil)  (.node  (some Tryz.t431) .nil .nil))  (.node  (some Tryz.t239)
   (.node  (some Tryz.t367) .nil .nil) .nil))))  (.node  (some Tryz.t23)  (.node  (some Tryz.t39)  (.node  (some Tryz.t71)  (.node  (some Tryz.t135)  (.node 
  (some Tryz.t263) .nil .nil)  (.node  (some Tryz.t391) .nil .nil))  (.node  (some Tryz.t199)  (.node  (some Tryz.t327) .nil .nil)  (.node  (some Tryz.t455) .nil
  .nil)))  (.node  (some Tryz.t103)  (.node  (some Tryz.t167)  (.node  (some Tryz.t295) .nil .nil)  (.node  (some Tryz.t423) .nil .nil))  (.node  (some
  Tryz.t231)  (.node  (some Tryz.t359) .nil .nil) .nil)))  (.node  (some Tryz.t55)  (.node  (some Tryz.t87)  (.node  (some Tryz.t151)  (.node  (some Tryz.t279)
  .nil .nil)  (.node  (some Tryz.t407) .nil .nil))  (.node  (some Tryz.t215)  (.node  (some Tryz.t343) .nil .nil) .nil))  (.node  (some Tryz.t119)  (.node  (some
  Tryz.t183)  (.node  (some Tryz.t311) .nil .nil)  (.node  (some Tryz.t439) .nil .nil))  (.node  (some Tryz.t247)  (.node  (some Tryz.t375) .nil .nil) .nil))))) 
  (.node  (some Tryz.t11)  (.node  (some Tryz.t19)  (.node  (some Tryz.t35)  (.node  (some Tryz.t67)  (.node  (some Tryz.t131)  (.node  (some Tryz.t259) .nil
  .nil)  (.node  (some Tryz.t387) .nil .nil))  (.node  (some Tryz.t195)  (.node  (some Tryz.t323) .nil .nil)  (.node  (some Tryz.t451) .nil .nil)))  (.node 
  (some Tryz.t99)  (.node  (some Tryz.t163)  (.node  (some Tryz.t291) .nil .nil)  (.node  (some Tryz.t419) .nil .nil))  (.node  (some Tryz.t227)  (.node  (some
  Tryz.t355) .nil .nil) .nil)))  (.node  (some Tryz.t51)  (.node  (some Tryz.t83)  (.node  (some Tryz.t147)  (.node  (some Tryz.t275) .nil .nil)  (.node  (some
  Tryz.t403) .nil .nil))  (.node  (some Tryz.t211)  (.node  (some Tryz.t339) .nil .nil) .nil))  (.node  (some Tryz.t115)  (.node  (some Tryz.t179)  (.node  (some
  Tryz.t307) .nil .nil)  (.node  (some Tryz.t435) .nil .nil))  (.node  (some Tryz.t243)  (.node  (some Tryz.t371) .nil .nil) .nil))))  (.node  (some Tryz.t27) 
  (.node  (some Tryz.t43)  (.node  (some Tryz.t75)  (.node  (some Tryz.t139)  (.node  (some Tryz.t267) .nil .nil)  (.node  (some Tryz.t395) .nil .nil))  (.node 
  (some Tryz.t203)  (.node  (some Tryz.t331) .nil .nil) .nil))  (.node  (some Tryz.t107)  (.node  (some Tryz.t171)  (.node  (some Tryz.t299) .nil .nil)  (.node 
  (some Tryz.t427) .nil .nil))  (.node  (some Tryz.t235)  (.node  (some Tryz.t363) .nil .nil) .nil)))  (.node  (some Tryz.t59)  (.node  (some Tryz.t91)  (.node 
  (some Tryz.t155)  (.node  (some Tryz.t283) .nil .nil)  (.node  (some Tryz.t411) .nil .nil))  (.node  (some Tryz.t219)  (.node  (some Tryz.t347) .nil .nil)
  .nil))  (.node  (some Tryz.t123)  (.node  (some Tryz.t187)  (.node  (some Tryz.t315) .nil .nil)  (.node  (some Tryz.t443) .nil .nil))  (.node  (some Tryz.t251)
   (.node  (some Tryz.t379) .nil .nil) .nil))))))  (.node  (some Tryz.t5)  (.node  (some Tryz.t9)  (.node  (some Tryz.t17)  (.node  (some Tryz.t33)  (.node 
  (some Tryz.t65)  (.node  (some Tryz.t129)  (.node  (some Tryz.t257) .nil .nil)  (.node  (some Tryz.t385) .nil .nil))  (.node  (some Tryz.t193)  (.node  (some
  Tryz.t321) .nil .nil)  (.node  (some Tryz.t449) .nil .nil)))  (.node  (some Tryz.t97)  (.node  (some Tryz.t161)  (.node  (some Tryz.t289) .nil .nil)  (.node 
  (some Tryz.t417) .nil .nil))  (.node  (some Tryz.t225)  (.node  (some Tryz.t353) .nil .nil) .nil)))  (.node  (some Tryz.t49)  (.node  (some Tryz.t81)  (.node 
  (some Tryz.t145)  (.node  (some Tryz.t273) .nil .nil)  (.node  (some Tryz.t401) .nil .nil))  (.node  (some Tryz.t209)  (.node  (some Tryz.t337) .nil .nil)
  .nil))  (.node  (some Tryz.t113)  (.node  (some Tryz.t177)  (.node  (some Tryz.t305) .nil .nil)  (.node  (some Tryz.t433) .nil .nil))  (.node  (some Tryz.t241)
   (.node  (some Tryz.t369) .nil .nil) .nil))))  (.node  (some Tryz.t25)  (.node  (some Tryz.t41)  (.node  (some Tryz.t73)  (.node  (some Tryz.t137)  (.node 
  (some Tryz.t265) .nil .nil)  (.node  (some Tryz.t393) .nil .nil))  (.node  (some Tryz.t201)  (.node  (some Tryz.t329) .nil .nil)  (.node  (some Tryz.t457) .nil
  .nil)))  (.node  (some Tryz.t105)  (.node  (some Tryz.t169)  (.node  (some Tryz.t297) .nil .nil)  (.node  (some Tryz.t425) .nil .nil))  (.node  (some
  Tryz.t233)  (.node  (some Tryz.t361) .nil .nil) .nil)))  (.node  (some Tryz.t57)  (.node  (some Tryz.t89)  (.node  (some Tryz.t153)  (.node  (some Tryz.t281)
  .nil .nil)  (.node  (some Tryz.t409) .nil .nil))  (.node  (some Tryz.t217)  (.node  (some Tryz.t345) .nil .nil) .nil))  (.node  (some Tryz.t121)  (.node  (some
  Tryz.t185)  (.node  (some Tryz.t313) .nil .nil)  (.node  (some Tryz.t441) .nil .nil))  (.node  (some Tryz.t249)  (.node  (some Tryz.t377) .nil .nil) .nil))))) 
  (.node  (some Tryz.t13)  (.node  (some Tryz.t21)  (.node  (some Tryz.t37)  (.node  (some Tryz.t69)  (.node  (some Tryz.t133)  (.node  (some Tryz.t261) .nil
  .nil)  (.node  (some Tryz.t389) .nil .nil))  (.node  (some Tryz.t197)  (.node  (some Tryz.t325) .nil .nil)  (.node  (some Tryz.t453) .nil .nil)))  (.node 
  (some Tryz.t101)  (.node  (some Tryz.t165)  (.node  (some Tryz.t293) .nil .nil)  (.node  (some Tryz.t421) .nil .nil))  (.node  (some Tryz.t229)  (.node  (some
  Tryz.t357) .nil .nil) .nil)))  (.node  (some Tryz.t53)  (.node  (some Tryz.t85)  (.node  (some Tryz.t149)  (.node  (some Tryz.t277) .nil .nil)  (.node  (some
  Tryz.t405) .nil .nil))  (.node  (some Tryz.t213)  (.node  (some Tryz.t341) .nil .nil) .nil))  (.node  (some Tryz.t117)  (.node  (some Tryz.t181)  (.node  (some
  Tryz.t309) .nil .nil)  (.node  (some Tryz.t437) .nil .nil))  (.node  (some Tryz.t245)  (.node  (some Tryz.t373) .nil .nil) .nil))))  (.node  (some Tryz.t29) 
  (.node  (some Tryz.t45)  (.node  (some Tryz.t77)  (.node  (some Tryz.t141)  (.node  (some Tryz.t269) .nil .nil)  (.node  (some Tryz.t397) .nil .nil))  (.node 
  (some Tryz.t205)  (.node  (some Tryz.t333) .nil .nil) .nil))  (.node  (some Tryz.t109)  (.node  (some Tryz.t173)  (.node  (some Tryz.t301) .nil .nil)  (.node 
  (some Tryz.t429) .nil .nil))  (.node  (some Tryz.t237)  (.node  (some Tryz.t365) .nil .nil) .nil)))  (.node  (some Tryz.t61)  (.node  (some Tryz.t93)  (.node 
  (some Tryz.t157)  (.node  (some Tryz.t285) .nil .nil)  (.node  (some Tryz.t413) .nil .nil))  (.node  (some Tryz.t221)  (.node  (some Tryz.t349) .nil .nil)
  .nil))  (.node  (some Tryz.t125)  (.node  (some Tryz.t189)  (.node  (some Tryz.t317) .nil .nil)  (.node  (some Tryz.t445) .nil .nil))  (.node  (some Tryz.t253)
   (.node  (some Tryz.t381) .nil .nil) .nil)))))))  (.node  (some Tryz.t2)  (.node  (some Tryz.t4)  (.node  (some Tryz.t8)  (.node  (some Tryz.t16)  (.node 
  (some Tryz.t32)  (.node  (some Tryz.t64)  (.node  (some Tryz.t128)  (.node  (some Tryz.t256) .nil .nil)  (.node  (some Tryz.t384) .nil .nil))  (.node  (some
  Tryz.t192)  (.node  (some Tryz.t320) .nil .nil)  (.node  (some Tryz.t448) .nil .nil)))  (.node  (some Tryz.t96)  (.node  (some Tryz.t160)  (.node  (some
  Tryz.t288) .nil .nil)  (.node  (some Tryz.t416) .nil .nil))  (.node  (some Tryz.t224)  (.node  (some Tryz.t352) .nil .nil) .nil)))  (.node  (some Tryz.t48) 
  (.node  (some Tryz.t80)  (.node  (some Tryz.t144)  (.node  (some Tryz.t272) .nil .nil)  (.node  (some Tryz.t400) .nil .nil))  (.node  (some Tryz.t208)  (.node 
  (some Tryz.t336) .nil .nil) .nil))  (.node  (some Tryz.t112)  (.node  (some Tryz.t176)  (.node  (some Tryz.t304) .nil .nil)  (.node  (some Tryz.t432) .nil
  .nil))  (.node  (some Tryz.t240)  (.node  (some Tryz.t368) .nil .nil) .nil))))  (.node  (some Tryz.t24)  (.node  (some Tryz.t40)  (.node  (some Tryz.t72) 
  (.node  (some Tryz.t136)  (.node  (some Tryz.t264) .nil .nil)  (.node  (some Tryz.t392) .nil .nil))  (.node  (some Tryz.t200)  (.node  (some Tryz.t328) .nil
  .nil)  (.node  (some Tryz.t456) .nil .nil)))  (.node  (some Tryz.t104)  (.node  (some Tryz.t168)  (.node  (some Tryz.t296) .nil .nil)  (.node  (some Tryz.t424)
  .nil .nil))  (.node  (some Tryz.t232)  (.node  (some Tryz.t360) .nil .nil) .nil)))  (.node  (some Tryz.t56)  (.node  (some Tryz.t88)  (.node  (some Tryz.t152) 
  (.node  (some Tryz.t280) .nil .nil)  (.node  (some Tryz.t408) .nil .nil))  (.node  (some Tryz.t216)  (.node  (some Tryz.t344) .nil .nil) .nil))  (.node  (some
  Tryz.t120)  (.node  (some Tryz.t184)  (.node  (some Tryz.t312) .nil .nil)  (.node  (some Tryz.t440) .nil .nil))  (.node  (some Tryz.t248)  (.node  (some
  Tryz.t376) .nil .nil) .nil)))))  (.node  (some Tryz.t12)  (.node  (some Tryz.t20)  (.node  (some Tryz.t36)  (.node  (some Tryz.t68)  (.node  (some Tryz.t132) 
  (.node  (some Tryz.t260) .nil .nil)  (.node  (some Tryz.t388) .nil .nil))  (.node  (some Tryz.t196)  (.node  (some Tryz.t324) .nil .nil)  (.node  (some
  Tryz.t452) .nil .nil)))  (.node  (some Tryz.t100)  (.node  (some Tryz.t164)  (.node  (some Tryz.t292) .nil .nil)  (.node  (some Tryz.t420) .nil .nil))  (.node 
  (some Tryz.t228)  (.node  (some Tryz.t356) .nil .nil) .nil)))  (.node  (some Tryz.t52)  (.node  (some Tryz.t84)  (.node  (some Tryz.t148)  (.node  (some
  Tryz.t276) .nil .nil)  (.node  (some Tryz.t404) .nil .nil))  (.node  (some Tryz.t212)  (.node  (some Tryz.t340) .nil .nil) .nil))  (.node  (some Tryz.t116) 
  (.node  (some Tryz.t180)  (.node  (some Tryz.t308) .nil .nil)  (.node  (some Tryz.t436) .nil .nil))  (.node  (some Tryz.t244)  (.node  (some Tryz.t372) .nil
  .nil) .nil))))  (.node  (some Tryz.t28)  (.node  (some Tryz.t44)  (.node  (some Tryz.t76)  (.node  (some Tryz.t140)  (.node  (some Tryz.t268) .nil .nil) 
  (.node  (some Tryz.t396) .nil .nil))  (.node  (some Tryz.t204)  (.node  (some Tryz.t332) .nil .nil) .nil))  (.node  (some Tryz.t108)  (.node  (some Tryz.t172) 
  (.node  (some Tryz.t300) .nil .nil)  (.node  (some Tryz.t428) .nil .nil))  (.node  (some Tryz.t236)  (.node  (some Tryz.t364) .nil .nil) .nil)))  (.node  (some
  Tryz.t60)  (.node  (some Tryz.t92)  (.node  (some Tryz.t156)  (.node  (some Tryz.t284) .nil .nil)  (.node  (some Tryz.t412) .nil .nil))  (.node  (some
  Tryz.t220)  (.node  (some Tryz.t348) .nil .nil) .nil))  (.node  (some Tryz.t124)  (.node  (some Tryz.t188)  (.node  (some Tryz.t316) .nil .nil)  (.node  (some
  Tryz.t444) .nil .nil))  (.node  (some Tryz.t252)  (.node  (some Tryz.t380) .nil .nil) .nil))))))  (.node  (some Tryz.t6)  (.node  (some Tryz.t10)  (.node 
  (some Tryz.t18)  (.node  (some Tryz.t34)  (.node  (some Tryz.t66)  (.node  (some Tryz.t130)  (.node  (some Tryz.t258) .nil .nil)  (.node  (some Tryz.t386) .nil
  .nil))  (.node  (some Tryz.t194)  (.node  (some Tryz.t322) .nil .nil)  (.node  (some Tryz.t450) .nil .nil)))  (.node  (some Tryz.t98)  (.node  (some Tryz.t162)
   (.node  (some Tryz.t290) .nil .nil)  (.node  (some Tryz.t418) .nil .nil))  (.node  (some Tryz.t226)  (.node  (some Tryz.t354) .nil .nil) .nil)))  (.node 
  (some Tryz.t50)  (.node  (some Tryz.t82)  (.node  (some Tryz.t146)  (.node  (some Tryz.t274) .nil .nil)  (.node  (some Tryz.t402) .nil .nil))  (.node  (some
  Tryz.t210)  (.node  (some Tryz.t338) .nil .nil) .nil))  (.node  (some Tryz.t114)  (.node  (some Tryz.t178)  (.node  (some Tryz.t306) .nil .nil)  (.node  (some
  Tryz.t434) .nil .nil))  (.node  (some Tryz.t242)  (.node  (some Tryz.t370) .nil .nil) .nil))))  (.node  (some Tryz.t26)  (.node  (some Tryz.t42)  (.node  (some
  Tryz.t74)  (.node  (some Tryz.t138)  (.node  (some Tryz.t266) .nil .nil)  (.node  (some Tryz.t394) .nil .nil))  (.node  (some Tryz.t202)  (.node  (some
  Tryz.t330) .nil .nil) .nil))  (.node  (some Tryz.t106)  (.node  (some Tryz.t170)  (.node  (some Tryz.t298) .nil .nil)  (.node  (some Tryz.t426) .nil .nil)) 
  (.node  (some Tryz.t234)  (.node  (some Tryz.t362) .nil .nil) .nil)))  (.node  (some Tryz.t58)  (.node  (some Tryz.t90)  (.node  (some Tryz.t154)  (.node 
  (some Tryz.t282) .nil .nil)  (.node  (some Tryz.t410) .nil .nil))  (.node  (some Tryz.t218)  (.node  (some Tryz.t346) .nil .nil) .nil))  (.node  (some
  Tryz.t122)  (.node  (some Tryz.t186)  (.node  (some Tryz.t314) .nil .nil)  (.node  (some Tryz.t442) .nil .nil))  (.node  (some Tryz.t250)  (.node  (some
  Tryz.t378) .nil .nil) .nil)))))  (.node  (some Tryz.t14)  (.node  (some Tryz.t22)  (.node  (some Tryz.t38)  (.node  (some Tryz.t70)  (.node  (some Tryz.t134) 
  (.node  (some Tryz.t262) .nil .nil)  (.node  (some Tryz.t390) .nil .nil))  (.node  (some Tryz.t198)  (.node  (some Tryz.t326) .nil .nil)  (.node  (some
  Tryz.t454) .nil .nil)))  (.node  (some Tryz.t102)  (.node  (some Tryz.t166)  (.node  (some Tryz.t294) .nil .nil)  (.node  (some Tryz.t422) .nil .nil))  (.node 
  (some Tryz.t230)  (.node  (some Tryz.t358) .nil .nil) .nil)))  (.node  (some Tryz.t54)  (.node  (some Tryz.t86)  (.node  (some Tryz.t150)  (.node  (some
  Tryz.t278) .nil .nil)  (.node  (some Tryz.t406) .nil .nil))  (.node  (some Tryz.t214)  (.node  (some Tryz.t342) .nil .nil) .nil))  (.node  (some Tryz.t118) 
  (.node  (some Tryz.t182)  (.node  (some Tryz.t310) .nil .nil)  (.node  (some Tryz.t438) .nil .nil))  (.node  (some Tryz.t246)  (.node  (some Tryz.t374) .nil
  .nil) .nil))))  (.node  (some Tryz.t30)  (.node  (some Tryz.t46)  (.node  (some Tryz.t78)  (.node  (some Tryz.t142)  (.node  (some Tryz.t270) .nil .nil) 
  (.node  (some Tryz.t398) .nil .nil))  (.node  (some Tryz.t206)  (.node  (some Tryz.t334) .nil .nil) .nil))  (.node  (some Tryz.t110)  (.node  (some Tryz.t174) 
  (.node  (some Tryz.t302) .nil .nil)  (.node  (some Tryz.t430) .nil .nil))  (.node  (some Tryz.t238)  (.node  (some Tryz.t366) .nil .nil) .nil)))  (.node  (some
  Tryz.t62)  (.node  (some Tryz.t94)  (.node  (some Tryz.t158)  (.node  (some Tryz.t286) .nil .nil)  (.node  (some Tryz.t414) .nil .nil))  (.node  (some
  Tryz.t222)  (.node  (some Tryz.t350) .nil .nil) .nil))  (.node  (some Tryz.t126)  (.node  (some Tryz.t190)  (.node  (some Tryz.t318) .nil .nil)  (.node  (some
  Tryz.t446) .nil .nil))  (.node  (some Tryz.t254)  (.node  (some Tryz.t382) .nil .nil) .nil))))))))
def EQ : Ev.Tr Bool :=
  (.node none  (.node none  (.node none  (.node  (some false)  (.node none  (.node  (some false)  (.node  (some false)  (.node  (some false) .nil .nil)  (.node 
  (some false) .nil  (.node  (some false) .nil .nil)))  (.node  (some false)  (.node none .nil  (.node  (some false) .nil .nil)) .nil))  (.node none  (.node none
   (.node none  (.node  (some false) .nil .nil)  (.node  (some false) .nil .nil))  (.node  (some false) .nil .nil))  (.node none  (.node none  (.node  (some
  false) .nil .nil) .nil) .nil)))  (.node none  (.node  (some false)  (.node  (some false)  (.node  (some false) .nil .nil)  (.node none .nil  (.node  (some
  false) .nil .nil)))  (.node none .nil  (.node  (some false) .nil .nil)))  (.node none .nil  (.node none  (.node  (some false) .nil .nil)  (.node none  (.node 
  (some false) .nil .nil) .nil)))))  (.node none  (.node  (some false)  (.node none  (.node none  (.node none  (.node  (some false) .nil .nil) .nil) .nil) 
  (.node none .nil  (.node none  (.node  (some false) .nil .nil) .nil)))  (.node none  (.node none  (.node none  (.node  (some false) .nil .nil) .nil) .nil) 
  (.node  (some false) .nil  (.node none  (.node  (some false) .nil .nil) .nil))))  (.node none  (.node none .nil  (.node  (some false)  (.node  (some false)
  .nil .nil)  (.node  (some false)  (.node  (some false) .nil .nil) .nil)))  (.node none .nil  (.node  (some false) .nil .nil)))))  (.node none  (.node none 
  (.node none  (.node none .nil  (.node none .nil  (.node  (some false) .nil .nil)))  (.node  (some false)  (.node none  (.node  (some false)  (.node  (some
  false) .nil .nil) .nil) .nil)  (.node none  (.node none  (.node  (some false) .nil .nil) .nil) .nil)))  (.node none  (.node none .nil  (.node  (some false)
  .nil .nil))  (.node none  (.node none  (.node  (some false) .nil .nil) .nil) .nil)))  (.node  (some false)  (.node none  (.node none  (.node  (some false) .nil
  .nil) .nil)  (.node  (some false) .nil  (.node none  (.node none .nil  (.node  (some false) .nil .nil)) .nil)))  (.node  (some false)  (.node none .nil  (.node
  none .nil  (.node  (some false) .nil .nil)))  (.node none  (.node none  (.node  (some false) .nil .nil) .nil)  (.node none  (.node none  (.node  (some false)
  .nil .nil)  (.node  (some false) .nil .nil)) .nil))))))  (.node none  (.node none  (.node  (some false)  (.node none  (.node  (some false)  (.node none .nil 
  (.node  (some false) .nil  (.node  (some false) .nil .nil))) .nil)  (.node  (some false)  (.node none  (.node  (some false) .nil .nil) .nil) .nil))  (.node
  none  (.node none  (.node  (some false)  (.node  (some false)  (.node  (some false) .nil .nil) .nil)  (.node none .nil  (.node  (some false) .nil .nil))) 
  (.node  (some false) .nil .nil))  (.node none  (.node none  (.node  (some false) .nil .nil) .nil)  (.node none  (.node  (some false) .nil .nil) .nil)))) 
  (.node none  (.node none .nil  (.node  (some false)  (.node none  (.node none  (.node  (some false) .nil .nil) .nil) .nil)  (.node  (some false) .nil  (.node
  none  (.node  (some false) .nil .nil) .nil))))  (.node none  (.node none .nil  (.node none .nil  (.node  (some false)  (.node  (some false) .nil .nil) .nil))) 
  (.node none  (.node none  (.node  (some false) .nil .nil) .nil)  (.node  (some false)  (.node none .nil  (.node  (some false) .nil .nil)) .nil)))))  (.node
  none  (.node none  (.node  (some false)  (.node none  (.node none  (.node none  (.node  (some false) .nil .nil) .nil) .nil)  (.node none  (.node none .nil 
  (.node  (some false) .nil .nil))  (.node none  (.node  (some false) .nil .nil) .nil)))  (.node none  (.node none  (.node none  (.node  (some false) .nil .nil)
  .nil) .nil)  (.node none  (.node none  (.node  (some false) .nil .nil) .nil) .nil)))  (.node none  (.node none .nil  (.node  (some false) .nil .nil))  (.node
  none  (.node none  (.node none .nil  (.node  (some false) .nil .nil)) .nil)  (.node none .nil  (.node none  (.node  (some false) .nil .nil) .nil)))))  (.node 
  (some false)  (.node none  (.node  (some false)  (.node  (some false) .nil .nil)  (.node none .nil  (.node  (some false) .nil .nil)))  (.node none .nil  (.node
  none  (.node none .nil  (.node  (some false) .nil .nil)) .nil)))  (.node  (some false)  (.node none  (.node none  (.node none  (.node  (some false) .nil .nil)
  .nil)  (.node  (some false) .nil .nil)) .nil)  (.node none  (.node  (some false) .nil .nil)  (.node  (some false)  (.node none  (.node  (some false) .nil .nil)
   (.node  (some false) .nil .nil)) .nil)))))))
def ST : Ev.Tr Bool :=
  (.node none  (.node none  (.node none  (.node  (some false)  (.node none  (.node  (some false)  (.node  (some false)  (.node  (some false) .nil .nil)  (.node 
  (some false) .nil  (.node  (some true) .nil .nil)))  (.node  (some false)  (.node none .nil  (.node  (some false) .nil .nil)) .nil))  (.node none  (.node none 
  (.node none  (.node  (some false) .nil .nil)  (.node  (some false) .nil .nil))  (.node  (some false) .nil .nil))  (.node none  (.node none  (.node  (some
  false) .nil .nil) .nil) .nil)))  (.node none  (.node  (some false)  (.node  (some false)  (.node  (some false) .nil .nil)  (.node none .nil  (.node  (some
  true) .nil .nil)))  (.node none .nil  (.node  (some false) .nil .nil)))  (.node none .nil  (.node none  (.node  (some false) .nil .nil)  (.node none  (.node 
  (some false) .nil .nil) .nil)))))  (.node none  (.node  (some true)  (.node none  (.node none  (.node none  (.node  (some false) .nil .nil) .nil) .nil)  (.node
  none .nil  (.node none  (.node  (some false) .nil .nil) .nil)))  (.node none  (.node none  (.node none  (.node  (some false) .nil .nil) .nil) .nil)  (.node 
  (some false) .nil  (.node none  (.node  (some false) .nil .nil) .nil))))  (.node none  (.node none .nil  (.node  (some false)  (.node  (some false) .nil .nil) 
  (.node  (some false)  (.node  (some false) .nil .nil) .nil)))  (.node none .nil  (.node  (some false) .nil .nil)))))  (.node none  (.node none  (.node none 
  (.node none .nil  (.node none .nil  (.node  (some false) .nil .nil)))  (.node  (some false)  (.node none  (.node  (some false)  (.node  (some false) .nil .nil)
  .nil) .nil)  (.node none  (.node none  (.node  (some false) .nil .nil) .nil) .nil)))  (.node none  (.node none .nil  (.node  (some false) .nil .nil))  (.node
  none  (.node none  (.node  (some false) .nil .nil) .nil) .nil)))  (.node  (some true)  (.node none  (.node none  (.node  (some false) .nil .nil) .nil)  (.node 
  (some false) .nil  (.node none  (.node none .nil  (.node  (some false) .nil .nil)) .nil)))  (.node  (some false)  (.node none .nil  (.node none .nil  (.node 
  (some false) .nil .nil)))  (.node none  (.node none  (.node  (some false) .nil .nil) .nil)  (.node none  (.node none  (.node  (some false) .nil .nil)  (.node 
  (some true) .nil .nil)) .nil))))))  (.node none  (.node none  (.node  (some false)  (.node none  (.node  (some false)  (.node none .nil  (.node  (some false)
  .nil  (.node  (some true) .nil .nil))) .nil)  (.node  (some false)  (.node none  (.node  (some false) .nil .nil) .nil) .nil))  (.node none  (.node none  (.node
   (some false)  (.node  (some false)  (.node  (some false) .nil .nil) .nil)  (.node none .nil  (.node  (some true) .nil .nil)))  (.node  (some false) .nil
  .nil))  (.node none  (.node none  (.node  (some false) .nil .nil) .nil)  (.node none  (.node  (some false) .nil .nil) .nil))))  (.node none  (.node none .nil 
  (.node  (some false)  (.node none  (.node none  (.node  (some false) .nil .nil) .nil) .nil)  (.node  (some false) .nil  (.node none  (.node  (some false) .nil
  .nil) .nil))))  (.node none  (.node none .nil  (.node none .nil  (.node  (some false)  (.node  (some false) .nil .nil) .nil)))  (.node none  (.node none 
  (.node  (some false) .nil .nil) .nil)  (.node  (some false)  (.node none .nil  (.node  (some true) .nil .nil)) .nil)))))  (.node none  (.node none  (.node 
  (some true)  (.node none  (.node none  (.node none  (.node  (some false) .nil .nil) .nil) .nil)  (.node none  (.node none .nil  (.node  (some false) .nil
  .nil))  (.node none  (.node  (some false) .nil .nil) .nil)))  (.node none  (.node none  (.node none  (.node  (some false) .nil .nil) .nil) .nil)  (.node none 
  (.node none  (.node  (some false) .nil .nil) .nil) .nil)))  (.node none  (.node none .nil  (.node  (some false) .nil .nil))  (.node none  (.node none  (.node
  none .nil  (.node  (some false) .nil .nil)) .nil)  (.node none .nil  (.node none  (.node  (some false) .nil .nil) .nil)))))  (.node  (some true)  (.node none 
  (.node  (some false)  (.node  (some false) .nil .nil)  (.node none .nil  (.node  (some false) .nil .nil)))  (.node none .nil  (.node none  (.node none .nil 
  (.node  (some false) .nil .nil)) .nil)))  (.node  (some false)  (.node none  (.node none  (.node none  (.node  (some false) .nil .nil) .nil)  (.node  (some
  false) .nil .nil)) .nil)  (.node none  (.node  (some false) .nil .nil)  (.node  (some false)  (.node none  (.node  (some false) .nil .nil)  (.node  (some
  false) .nil .nil)) .nil)))))))
theorem FT_eq : FT = Ev.Tr.ofList Tryz.prog.funcs.toList := by kernel_rfl
theorem TT_eq : TT = Ev.Tr.ofList Tryz.prog.types.toList := by kernel_rfl
theorem EQ_eq : EQ = Ev.testAll (fun t => Tryz.prog.eqGuardType Tryz.prog.depth t) [7, 8, 13, 14, 18, 19, 29, 30, 31, 32, 38, 39, 48, 49, 52, 53, 63, 69, 70, 71, 72, 94, 95, 104, 105, 106, 107, 115, 116, 123, 124, 126, 127, 135, 136, 144, 145, 152, 153, 156, 157, 171, 183, 184, 191, 192, 206, 207, 225, 230, 231, 235, 236, 237, 258, 259, 264, 270, 271, 273, 274, 275, 276, 303, 305, 306, 317, 318, 354, 355, 363, 364, 371, 372, 375, 378, 399, 410, 415, 418, 437, 438, 444, 445, 446, 447, 448, 455, 456] .nil := by kernel_rfl
theorem ST_eq : ST = Ev.testAll (fun t => Tryz.prog.stoodInHeld t) [7, 8, 13, 14, 18, 19, 29, 30, 31, 32, 38, 39, 48, 49, 52, 53, 63, 69, 70, 71, 72, 94, 95, 104, 105, 106, 107, 115, 116, 123, 124, 126, 127, 135, 136, 144, 145, 152, 153, 156, 157, 171, 183, 184, 191, 192, 206, 207, 225, 230, 231, 235, 236, 237, 258, 259, 264, 270, 271, 273, 274, 275, 276, 303, 305, 306, 317, 318, 354, 355, 363, 364, 371, 372, 375, 378, 399, 410, 415, 418, 437, 438, 444, 445, 446, 447, 448, 455, 456] .nil := by kernel_rfl
theorem names_ok : Tryz.prog.funcs.toList.all (fun F => !(F.name == "runtime.NumGoroutine")) = true := by kernel_rfl
theorem mixed_ok : Tryz.prog.follows .mixedOrders = true := by kernel_rfl
def EX : List (Nat × Ev.ExtK) := [(207, (.overlaps 3))]
def KD : Ev.Tr Bool :=
  .nil
theorem KD_eq : KD = Ev.testAll (Ev.kdTest Tryz.prog) [] .nil := by kernel_rfl
theorem ex207 : Ev.ExtOK Tryz.prog 207 (.overlaps 3) := ⟨Tryz.f207, by kernel_rfl, by kernel_rfl, by kernel_rfl, by kernel_rfl, 68, 157, by kernel_rfl, by kernel_rfl, by kernel_rfl, by kernel_rfl⟩
theorem EX_ok : ∀ p, p ∈ EX → Ev.ExtOK Tryz.prog p.1 p.2 := by
  intro p hp
  unfold EX at hp
  simp only [List.mem_cons, List.not_mem_nil, or_false] at hp
  subst hp; exact ex207
noncomputable def TB : Ev.Tabs := Ev.tabsOf FT TT EQ ST EX 3 KD
theorem TB_ok : Ev.TabsOK Tryz.prog TB := Ev.tabs_ok FT_eq TT_eq names_ok EQ_eq ST_eq mixed_ok EX_ok (by kernel_rfl) KD_eq
end Go.Proofs.YtiijbjafiknbkaaGreatDoor
