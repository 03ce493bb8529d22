/- PRINTED BY A SMALL PROGRAM (gentab.py): the translation's functions and types by number, and that these tables are the program's own. -/
import Derived.Test.YtcngecdjmmjlhaaGreatEvEnd
import Derived.Test.YtcngecdjmmjlhaaGreatChecked
import Derived.KernelRfl
namespace Go.Proofs.YtcngecdjmmjlhaaGreat
open Go
noncomputable def FT : Ev.Tr Func :=
  (.node  (some Tryz.f0)  (.node  (some Tryz.f1)  (.node  (some Tryz.f3)  (.node  (some Tryz.f7)  (.node  (some Tryz.f15)  (.node  (some Tryz.f31)  (.node  (some
  Tryz.f63)  (.node  (some Tryz.f127)  (.node  (some Tryz.f255) .nil .nil)  (.node  (some Tryz.f383) .nil .nil))  (.node  (some Tryz.f191)  (.node  (some
  Tryz.f319) .nil .nil)  (.node  (some Tryz.f447) .nil .nil)))  (.node  (some Tryz.f95)  (.node  (some Tryz.f159)  (.node  (some Tryz.f287) .nil .nil)  (.node 
  (some Tryz.f415) .nil .nil))  (.node  (some Tryz.f223)  (.node  (some Tryz.f351) .nil .nil)  (.node  (some Tryz.f479) .nil .nil))))  (.node  (some Tryz.f47) 
  (.node  (some Tryz.f79)  (.node  (some Tryz.f143)  (.node  (some Tryz.f271) .nil .nil)  (.node  (some Tryz.f399) .nil .nil))  (.node  (some Tryz.f207)  (.node 
  (some Tryz.f335) .nil .nil)  (.node  (some Tryz.f463) .nil .nil)))  (.node  (some Tryz.f111)  (.node  (some Tryz.f175)  (.node  (some Tryz.f303) .nil .nil) 
  (.node  (some Tryz.f431) .nil .nil))  (.node  (some Tryz.f239)  (.node  (some Tryz.f367) .nil .nil) .nil))))  (.node  (some Tryz.f23)  (.node  (some Tryz.f39) 
  (.node  (some Tryz.f71)  (.node  (some Tryz.f135)  (.node  (some Tryz.f263) .nil .nil)  (.node  (some Tryz.f391) .nil .nil))  (.node  (some Tryz.f199)  (.node 
  (some Tryz.f327) .nil .nil)  (.node  (some Tryz.f455) .nil .nil)))  (.node  (some Tryz.f103)  (.node  (some Tryz.f167)  (.node  (some Tryz.f295) .nil .nil) 
  (.node  (some Tryz.f423) .nil .nil))  (.node  (some Tryz.f231)  (.node  (some Tryz.f359) .nil .nil)  (.node  (some Tryz.f487) .nil .nil))))  (.node  (some
  Tryz.f55)  (.node  (some Tryz.f87)  (.node  (some Tryz.f151)  (.node  (some Tryz.f279) .nil .nil)  (.node  (some Tryz.f407) .nil .nil))  (.node  (some
  Tryz.f215)  (.node  (some Tryz.f343) .nil .nil)  (.node  (some Tryz.f471) .nil .nil)))  (.node  (some Tryz.f119)  (.node  (some Tryz.f183)  (.node  (some
  Tryz.f311) .nil .nil)  (.node  (some Tryz.f439) .nil .nil))  (.node  (some Tryz.f247)  (.node  (some Tryz.f375) .nil .nil) .nil)))))  (.node  (some Tryz.f11) 
  (.node  (some Tryz.f19)  (.node  (some Tryz.f35)  (.node  (some Tryz.f67)  (.node  (some Tryz.f131)  (.node  (some Tryz.f259) .nil .nil)  (.node  (some
  Tryz.f387) .nil .nil))  (.node  (some Tryz.f195)  (.node  (some Tryz.f323) .nil .nil)  (.node  (some Tryz.f451) .nil .nil)))  (.node  (some Tryz.f99)  (.node 
  (some Tryz.f163)  (.node  (some Tryz.f291) .nil .nil)  (.node  (some Tryz.f419) .nil .nil))  (.node  (some Tryz.f227)  (.node  (some Tryz.f355) .nil .nil) 
  (.node  (some Tryz.f483) .nil .nil))))  (.node  (some Tryz.f51)  (.node  (some Tryz.f83)  (.node  (some Tryz.f147)  (.node  (some Tryz.f275) .nil .nil)  (.node
   (some Tryz.f403) .nil .nil))  (.node  (some Tryz.f211)  (.node  (some Tryz.f339) .nil .nil)  (.node  (some Tryz.f467) .nil .nil)))  (.node  (some Tryz.f115) 
  (.node  (some Tryz.f179)  (.node  (some Tryz.f307) .nil .nil)  (.node  (some Tryz.f435) .nil .nil))  (.node  (some Tryz.f243)  (.node  (some Tryz.f371) .nil
  .nil) .nil))))  (.node  (some Tryz.f27)  (.node  (some Tryz.f43)  (.node  (some Tryz.f75)  (.node  (some Tryz.f139)  (.node  (some Tryz.f267) .nil .nil) 
  (.node  (some Tryz.f395) .nil .nil))  (.node  (some Tryz.f203)  (.node  (some Tryz.f331) .nil .nil)  (.node  (some Tryz.f459) .nil .nil)))  (.node  (some
  Tryz.f107)  (.node  (some Tryz.f171)  (.node  (some Tryz.f299) .nil .nil)  (.node  (some Tryz.f427) .nil .nil))  (.node  (some Tryz.f235)  (.node  (some
  Tryz.f363) .nil .nil) .nil)))  (.node  (some Tryz.f59)  (.node  (some Tryz.f91)  (.node  (some Tryz.f155)  (.node  (some Tryz.f283) .nil .nil)  (.node  (some
  Tryz.f411) .nil .nil))  (.node  (some Tryz.f219)  (.node  (some Tryz.f347) .nil .nil)  (.node  (some Tryz.f475) .nil .nil)))  (.node  (some Tryz.f123)  (.node 
  (some Tryz.f187)  (.node  (some Tryz.f315) .nil .nil)  (.node  (some Tryz.f443) .nil .nil))  (.node  (some Tryz.f251)  (.node  (some Tryz.f379) .nil .nil)
  .nil))))))  (.node  (some Tryz.f5)  (.node  (some Tryz.f9)  (.node  (some Tryz.f17)  (.node  (some Tryz.f33)  (.node  (some Tryz.f65)  (.node  (some Tryz.f129)
   (.node  (some Tryz.f257) .nil .nil)  (.node  (some Tryz.f385) .nil .nil))  (.node  (some Tryz.f193)  (.node  (some Tryz.f321) .nil .nil)  (.node  (some
  Tryz.f449) .nil .nil)))  (.node  (some Tryz.f97)  (.node  (some Tryz.f161)  (.node  (some Tryz.f289) .nil .nil)  (.node  (some Tryz.f417) .nil .nil))  (.node 
  (some Tryz.f225)  (.node  (some Tryz.f353) .nil .nil)  (.node  (some Tryz.f481) .nil .nil))))  (.node  (some Tryz.f49)  (.node  (some Tryz.f81)  (.node  (some
  Tryz.f145)  (.node  (some Tryz.f273) .nil .nil)  (.node  (some Tryz.f401) .nil .nil))  (.node  (some Tryz.f209)  (.node  (some Tryz.f337) .nil .nil)  (.node 
  (some Tryz.f465) .nil .nil)))  (.node  (some Tryz.f113)  (.node  (some Tryz.f177)  (.node  (some Tryz.f305) .nil .nil)  (.node  (some Tryz.f433) .nil .nil)) 
  (.node  (some Tryz.f241)  (.node  (some Tryz.f369) .nil .nil) .nil))))  (.node  (some Tryz.f25)  (.node  (some Tryz.f41)  (.node  (some Tryz.f73)  (.node 
  (some Tryz.f137)  (.node  (some Tryz.f265) .nil .nil)  (.node  (some Tryz.f393) .nil .nil))  (.node  (some Tryz.f201)  (.node  (some Tryz.f329) .nil .nil) 
  (.node  (some Tryz.f457) .nil .nil)))  (.node  (some Tryz.f105)  (.node  (some Tryz.f169)  (.node  (some Tryz.f297) .nil .nil)  (.node  (some Tryz.f425) .nil
  .nil))  (.node  (some Tryz.f233)  (.node  (some Tryz.f361) .nil .nil) .nil)))  (.node  (some Tryz.f57)  (.node  (some Tryz.f89)  (.node  (some Tryz.f153) 
  (.node  (some Tryz.f281) .nil .nil)  (.node  (some Tryz.f409) .nil .nil))  (.node  (some Tryz.f217)  (.node  (some Tryz.f345) .nil .nil)  (.node  (some
  Tryz.f473) .nil .nil)))  (.node  (some Tryz.f121)  (.node  (some Tryz.f185)  (.node  (some Tryz.f313) .nil .nil)  (.node  (some Tryz.f441) .nil .nil))  (.node 
  (some Tryz.f249)  (.node  (some Tryz.f377) .nil .nil) .nil)))))  (.node  (some Tryz.f13)  (.node  (some Tryz.f21)  (.node  (some Tryz.f37)  (.node  (some
  Tryz.f69)  (.node  (some Tryz.f133)  (.node  (some Tryz.f261) .nil .nil)  (.node  (some Tryz.f389) .nil .nil))  (.node  (some Tryz.f197)  (.node  (some
  Tryz.f325) .nil .nil)  (.node  (some Tryz.f453) .nil .nil)))  (.node  (some Tryz.f101)  (.node  (some Tryz.f165)  (.node  (some Tryz.f293) .nil .nil)  (.node 
  (some Tryz.f421) .nil .nil))  (.node  (some Tryz.f229)  (.node  (some Tryz.f357) .nil .nil)  (.node  (some Tryz.f485) .nil .nil))))  (.node  (some Tryz.f53) 
  (.node  (some Tryz.f85)  (.node  (some Tryz.f149)  (.node  (some Tryz.f277) .nil .nil)  (.node  (some Tryz.f405) .nil .nil))  (.node  (some Tryz.f213)  (.node 
  (some Tryz.f341) .nil .nil)  (.node  (some Tryz.f469) .nil .nil)))  (.node  (some Tryz.f117)  (.node  (some Tryz.f181)  (.node  (some Tryz.f309) .nil .nil) 
  (.node  (some Tryz.f437) .nil .nil))  (.node  (some Tryz.f245)  (.node  (some Tryz.f373) .nil .nil) .nil))))  (.node  (some Tryz.f29)  (.node  (some Tryz.f45) 
  (.node  (some Tryz.f77)  (.node  (some Tryz.f141)  (.node  (some Tryz.f269) .nil .nil)  (.node  (some Tryz.f397) .nil .nil))  (.node  (some Tryz.f205)  (.node 
  (some Tryz.f333) .nil .nil)  (.node  (some Tryz.f461) .nil .nil)))  (.node  (some Tryz.f109)  (.node  (some Tryz.f173)  (.node  (some Tryz.f301) .nil .nil) 
  (.node  (some Tryz.f429) .nil .nil))  (.node  (some Tryz.f237)  (.node  (some Tryz.f365) .nil .nil) .nil)))  (.node  (some Tryz.f61)  (.node  (some Tryz.f93) 
  (.node  (some Tryz.f157)  (.node  (some Tryz.f285) .nil .nil)  (.node  (some Tryz.f413) .nil .nil))  (.node  (some Tryz.f221)  (.node  (some Tryz.f349) .nil
  .nil)  (.node  (some Tryz.f477) .nil .nil)))  (.node  (some Tryz.f125)  (.node  (some Tryz.f189)  (.node  (some Tryz.f317) .nil .nil)  (.node  (some Tryz.f445)
  .nil .nil))  (.node  (some Tryz.f253)  (.node  (some Tryz.f381) .nil .nil) .nil)))))))  (.node  (some Tryz.f2)  (.node  (some Tryz.f4)  (.node  (some Tryz.f8) 
  (.node  (some Tryz.f16)  (.node  (some Tryz.f32)  (.node  (some Tryz.f64)  (.node  (some Tryz.f128)  (.node  (some Tryz.f256) .nil .nil)  (.node  (some
  Tryz.f384) .nil .nil))  (.node  (some Tryz.f192)  (.node  (some Tryz.f320) .nil .nil)  (.node  (some Tryz.f448) .nil .nil)))  (.node  (some Tryz.f96)  (.node 
  (some Tryz.f160)  (.node  (some Tryz.f288) .nil .nil)  (.node  (some Tryz.f416) .nil .nil))  (.node  (some Tryz.f224)  (.node  (some Tryz.f352) .nil .nil) 
  (.node  (some Tryz.f480) .nil .nil))))  (.node  (some Tryz.f48)  (.node  (some Tryz.f80)  (.node  (some Tryz.f144)  (.node  (some Tryz.f272) .nil .nil)  (.node
   (some Tryz.f400) .nil .nil))  (.node  (some Tryz.f208)  (.node  (some Tryz.f336) .nil .nil)  (.node  (some Tryz.f464) .nil .nil)))  (.node  (some Tryz.f112) 
  (.node  (some Tryz.f176)  (.node  (some Tryz.f304) .nil .nil)  (.node  (some Tryz.f432) .nil .nil))  (.node  (some Tryz.f240)  (.node  (some Tryz.f368) .nil
  .nil) .nil))))  (.node  (some Tryz.f24)  (.node  (some Tryz.f40)  (.node  (some Tryz.f72)  (.node  (some Tryz.f136)  (.node  (some Tryz.f264) .nil .nil) 
  (.node  (some Tryz.f392) .nil .nil))  (.node  (some Tryz.f200)  (.node  (some Tryz.f328) .nil .nil)  (.node  (some Tryz.f456) .nil .nil)))  (.node  (some
  Tryz.f104)  (.node  (some Tryz.f168)  (.node  (some Tryz.f296) .nil .nil)  (.node  (some Tryz.f424) .nil .nil))  (.node  (some Tryz.f232)  (.node  (some
  Tryz.f360) .nil .nil) .nil)))  (.node  (some Tryz.f56)  (.node  (some Tryz.f88)  (.node  (some Tryz.f152)  (.node  (some Tryz.f280) .nil .nil)  (.node  (some
  Tryz.f408) .nil .nil))  (.node  (some Tryz.f216)  (.node  (some Tryz.f344) .nil .nil)  (.node  (some Tryz.f472) .nil .nil)))  (.node  (some Tryz.f120)  (.node 
  (some Tryz.f184)  (.node  (some Tryz.f312) .nil .nil)  (.node  (some Tryz.f440) .nil .nil))  (.node  (some Tryz.f248)  (.node  (some Tryz.f376) .nil .nil)
  .nil)))))  (.node  (some Tryz.f12)  (.node  (some Tryz.f20)  (.node  (some Tryz.f36)  (.node  (some Tryz.f68)  (.node  (some Tryz.f132)  (.node  (some
  Tryz.f260) .nil .nil)  (.node  (some Tryz.f388) .nil .nil))  (.node  (some Tryz.f196)  (.node  (some Tryz.f324) .nil .nil)  (.node  (some Tryz.f452) .nil
  .nil)))  (.node  (some Tryz.f100)  (.node  (some Tryz.f164)  (.node  (some Tryz.f292) .nil .nil)  (.node  (some Tryz.f420) .nil .nil))  (.node  (some
  Tryz.f228)  (.node  (some Tryz.f356) .nil .nil)  (.node  (some Tryz.f484) .nil .nil))))  (.node  (some Tryz.f52)  (.node  (some Tryz.f84)  (.node  (some
  Tryz.f148)  (.node  (some Tryz.f276) .nil .nil)  (.node  (some Tryz.f404) .nil .nil))  (.node  (some Tryz.f212)  (.node  (some Tryz.f340) .nil .nil)  (.node 
  (some Tryz.f468) .nil .nil)))  (.node  (some Tryz.f116)  (.node  (some Tryz.f180)  (.node  (some Tryz.f308) .nil .nil)  (.node  (some Tryz.f436) .nil .nil)) 
  (.node  (some Tryz.f244)  (.node  (some Tryz.f372) .nil .nil) .nil))))  (.node  (some Tryz.f28)  (.node  (some Tryz.f44)  (.node  (some Tryz.f76)  (.node 
  (some Tryz.f140)  (.node  (some Tryz.f268) .nil .nil)  (.node  (some Tryz.f396) .nil .nil))  (.node  (some Tryz.f204)  (.node  (some Tryz.f332) .nil .nil) 
  (.node  (some Tryz.f460) .nil .nil)))  (.node  (some Tryz.f108)  (.node  (some Tryz.f172)  (.node  (some Tryz.f300) .nil .nil)  (.node  (some Tryz.f428) .nil
  .nil))  (.node  (some Tryz.f236)  (.node  (some Tryz.f364) .nil .nil) .nil)))  (.node  (some Tryz.f60)  (.node  (some Tryz.f92)  (.node  (some Tryz.f156) 
  (.node  (some Tryz.f284) .nil .nil)  (.node  (some Tryz.f412) .nil .nil))  (.node  (some Tryz.f220)  (.node  (some Tryz.f348) .nil .nil)  (.node  (some
  Tryz.f476) .nil .nil)))  (.node  (some Tryz.f124)  (.node  (some Tryz.f188)  (.node  (some Tryz.f316) .nil .nil)  (.node  (some Tryz.f444) .nil .nil))  (.node 
  (some Tryz.f252)  (.node  (some Tryz.f380) .nil .nil) .nil))))))  (.node  (some Tryz.f6)  (.node  (some Tryz.f10)  (.node  (some Tryz.f18)  (.node  (some
  Tryz.f34)  (.node  (some Tryz.f66)  (.node  (some Tryz.f130)  (.node  (some Tryz.f258) .nil .nil)  (.node  (some Tryz.f386) .nil .nil))  (.node  (some
  Tryz.f194)  (.node  (some Tryz.f322) .nil .nil)  (.node  (some Tryz.f450) .nil .nil)))  (.node  (some Tryz.f98)  (.node  (some Tryz.f162)  (.node  (some
  Tryz.f290) .nil .nil)  (.node  (some Tryz.f418) .nil .nil))  (.node  (some Tryz.f226)  (.node  (some Tryz.f354) .nil .nil)  (.node  (some Tryz.f482) .nil
  .nil))))  (.node  (some Tryz.f50)  (.node  (some Tryz.f82)  (.node  (some Tryz.f146)  (.node  (some Tryz.f274) .nil .nil)  (.node  (some Tryz.f402) .nil .nil))
   (.node  (some Tryz.f210)  (.node  (some Tryz.f338) .nil .nil)  (.node  (some Tryz.f466) .nil .nil)))  (.node  (some Tryz.f114)  (.node  (some Tryz.f178) 
  (.node  (some Tryz.f306) .nil .nil)  (.node  (some Tryz.f434) .nil .nil))  (.node  (some Tryz.f242)  (.node  (some Tryz.f370) .nil .nil) .nil))))  (.node 
  (some Tryz.f26)  (.node  (some Tryz.f42)  (.node  (some Tryz.f74)  (.node  (some Tryz.f138)  (.node  (some Tryz.f266) .nil .nil)  (.node  (some Tryz.f394) .nil
  .nil))  (.node  (some Tryz.f202)  (.node  (some Tryz.f330) .nil .nil)  (.node  (some Tryz.f458) .nil .nil)))  (.node  (some Tryz.f106)  (.node  (some
  Tryz.f170)  (.node  (some Tryz.f298) .nil .nil)  (.node  (some Tryz.f426) .nil .nil))  (.node  (some Tryz.f234)  (.node  (some Tryz.f362) .nil .nil) .nil))) 
  (.node  (some Tryz.f58)  (.node  (some Tryz.f90)  (.node  (some Tryz.f154)  (.node  (some Tryz.f282) .nil .nil)  (.node  (some Tryz.f410) .nil .nil))  (.node 
  (some Tryz.f218)  (.node  (some Tryz.f346) .nil .nil)  (.node  (some Tryz.f474) .nil .nil)))  (.node  (some Tryz.f122)  (.node  (some Tryz.f186)  (.node  (some
  Tryz.f314) .nil .nil)  (.node  (some Tryz.f442) .nil .nil))  (.node  (some Tryz.f250)  (.node  (some Tryz.f378) .nil .nil) .nil)))))  (.node  (some Tryz.f14) 
  (.node  (some Tryz.f22)  (.node  (some Tryz.f38)  (.node  (some Tryz.f70)  (.node  (some Tryz.f134)  (.node  (some Tryz.f262) .nil .nil)  (.node  (some
  Tryz.f390) .nil .nil))  (.node  (some Tryz.f198)  (.node  (some Tryz.f326) .nil .nil)  (.node  (some Tryz.f454) .nil .nil)))  (.node  (some Tryz.f102)  (.node 
  (some Tryz.f166)  (.node  (some Tryz.f294) .nil .nil)  (.node  (some Tryz.f422) .nil .nil))  (.node  (some Tryz.f230)  (.node  (some Tryz.f358) .nil .nil) 
  (.node  (some Tryz.f486) .nil .nil))))  (.node  (some Tryz.f54)  (.node  (some Tryz.f86)  (.node  (some Tryz.f150)  (.node  (some Tryz.f278) .nil .nil)  (.node
   (some Tryz.f406) .nil .nil))  (.node  (some Tryz.f214)  (.node  (some Tryz.f342) .nil .nil)  (.node  (some Tryz.f470) .nil .nil)))  (.node  (some Tryz.f118) 
  (.node  (some Tryz.f182)  (.node  (some Tryz.f310) .nil .nil)  (.node  (some Tryz.f438) .nil .nil))  (.node  (some Tryz.f246)  (.node  (some Tryz.f374) .nil
  .nil) .nil))))  (.node  (some Tryz.f30)  (.node  (some Tryz.f46)  (.node  (some Tryz.f78)  (.node  (some Tryz.f142)  (.node  (some Tryz.f270) .nil .nil) 
  (.node  (some Tryz.f398) .nil .nil))  (.node  (some Tryz.f206)  (.node  (some Tryz.f334) .nil .nil)  (.node  (some Tryz.f462) .nil .nil)))  (.node  (some
  Tryz.f110)  (.node  (some Tryz.f174)  (.node  (some Tryz.f302) .nil .nil)  (.node  (some Tryz.f430) .nil .nil))  (.node  (some Tryz.f238)  (.node  (some
  Tryz.f366) .nil .nil) .nil)))  (.node  (some Tryz.f62)  (.node  (some Tryz.f94)  (.node  (some Tryz.f158)  (.node  (some Tryz.f286) .nil .nil)  (.node  (some
  Tryz.f414) .nil .nil))  (.node  (some Tryz.f222)  (.node  (some Tryz.f350) .nil .nil)  (.node  (some Tryz.f478) .nil .nil)))  (.node  (some Tryz.f126)  (.node 
  (some Tryz.f190)  (.node  (some Tryz.f318) .nil .nil)  (.node  (some Tryz.f446) .nil .nil))  (.node  (some Tryz.f254)  (.node  (some Tryz.f382) .nil .nil)
  .nil))))))))
noncomputable def TT : Ev.Tr TypeInfo :=
  (.node  (some Tryz.t0)  (.node  (some Tryz.t1)  (.node  (some Tryz.t3)  (.node  (some Tryz.t7)  (.node  (some Tryz.t15)  (.node  (some Tryz.t31)  (.node  (some
  Tryz.t63)  (.node  (some Tryz.t127)  (.node  (some Tryz.t255)  (.node  (some Tryz.t511) .nil .nil) .nil)  (.node  (some Tryz.t383) .nil .nil))  (.node  (some
  Tryz.t191)  (.node  (some Tryz.t319)  (.node  (some Tryz.t575) .nil .nil) .nil)  (.node  (some Tryz.t447) .nil .nil)))  (.node  (some Tryz.t95)  (.node  (some
  Tryz.t159)  (.node  (some Tryz.t287)  (.node  (some Tryz.t543) .nil .nil) .nil)  (.node  (some Tryz.t415) .nil .nil))  (.node  (some Tryz.t223)  (.node  (some
  Tryz.t351)  (.node  (some Tryz.t607) .nil .nil) .nil)  (.node  (some Tryz.t479) .nil .nil))))  (.node  (some Tryz.t47)  (.node  (some Tryz.t79)  (.node  (some
  Tryz.t143)  (.node  (some Tryz.t271)  (.node  (some Tryz.t527) .nil .nil) .nil)  (.node  (some Tryz.t399) .nil .nil))  (.node  (some Tryz.t207)  (.node  (some
  Tryz.t335)  (.node  (some Tryz.t591) .nil .nil) .nil)  (.node  (some Tryz.t463) .nil .nil)))  (.node  (some Tryz.t111)  (.node  (some Tryz.t175)  (.node  (some
  Tryz.t303)  (.node  (some Tryz.t559) .nil .nil) .nil)  (.node  (some Tryz.t431) .nil .nil))  (.node  (some Tryz.t239)  (.node  (some Tryz.t367) .nil .nil) 
  (.node  (some Tryz.t495) .nil .nil)))))  (.node  (some Tryz.t23)  (.node  (some Tryz.t39)  (.node  (some Tryz.t71)  (.node  (some Tryz.t135)  (.node  (some
  Tryz.t263)  (.node  (some Tryz.t519) .nil .nil) .nil)  (.node  (some Tryz.t391) .nil .nil))  (.node  (some Tryz.t199)  (.node  (some Tryz.t327)  (.node  (some
  Tryz.t583) .nil .nil) .nil)  (.node  (some Tryz.t455) .nil .nil)))  (.node  (some Tryz.t103)  (.node  (some Tryz.t167)  (.node  (some Tryz.t295)  (.node  (some
  Tryz.t551) .nil .nil) .nil)  (.node  (some Tryz.t423) .nil .nil))  (.node  (some Tryz.t231)  (.node  (some Tryz.t359)  (.node  (some Tryz.t615) .nil .nil)
  .nil)  (.node  (some Tryz.t487) .nil .nil))))  (.node  (some Tryz.t55)  (.node  (some Tryz.t87)  (.node  (some Tryz.t151)  (.node  (some Tryz.t279)  (.node 
  (some Tryz.t535) .nil .nil) .nil)  (.node  (some Tryz.t407) .nil .nil))  (.node  (some Tryz.t215)  (.node  (some Tryz.t343)  (.node  (some Tryz.t599) .nil
  .nil) .nil)  (.node  (some Tryz.t471) .nil .nil)))  (.node  (some Tryz.t119)  (.node  (some Tryz.t183)  (.node  (some Tryz.t311)  (.node  (some Tryz.t567) .nil
  .nil) .nil)  (.node  (some Tryz.t439) .nil .nil))  (.node  (some Tryz.t247)  (.node  (some Tryz.t375) .nil .nil)  (.node  (some Tryz.t503) .nil .nil)))))) 
  (.node  (some Tryz.t11)  (.node  (some Tryz.t19)  (.node  (some Tryz.t35)  (.node  (some Tryz.t67)  (.node  (some Tryz.t131)  (.node  (some Tryz.t259)  (.node 
  (some Tryz.t515) .nil .nil) .nil)  (.node  (some Tryz.t387) .nil .nil))  (.node  (some Tryz.t195)  (.node  (some Tryz.t323)  (.node  (some Tryz.t579) .nil
  .nil) .nil)  (.node  (some Tryz.t451) .nil .nil)))  (.node  (some Tryz.t99)  (.node  (some Tryz.t163)  (.node  (some Tryz.t291)  (.node  (some Tryz.t547) .nil
  .nil) .nil)  (.node  (some Tryz.t419) .nil .nil))  (.node  (some Tryz.t227)  (.node  (some Tryz.t355)  (.node  (some Tryz.t611) .nil .nil) .nil)  (.node  (some
  Tryz.t483) .nil .nil))))  (.node  (some Tryz.t51)  (.node  (some Tryz.t83)  (.node  (some Tryz.t147)  (.node  (some Tryz.t275)  (.node  (some Tryz.t531) .nil
  .nil) .nil)  (.node  (some Tryz.t403) .nil .nil))  (.node  (some Tryz.t211)  (.node  (some Tryz.t339)  (.node  (some Tryz.t595) .nil .nil) .nil)  (.node  (some
  Tryz.t467) .nil .nil)))  (.node  (some Tryz.t115)  (.node  (some Tryz.t179)  (.node  (some Tryz.t307)  (.node  (some Tryz.t563) .nil .nil) .nil)  (.node  (some
  Tryz.t435) .nil .nil))  (.node  (some Tryz.t243)  (.node  (some Tryz.t371) .nil .nil)  (.node  (some Tryz.t499) .nil .nil)))))  (.node  (some Tryz.t27)  (.node
   (some Tryz.t43)  (.node  (some Tryz.t75)  (.node  (some Tryz.t139)  (.node  (some Tryz.t267)  (.node  (some Tryz.t523) .nil .nil) .nil)  (.node  (some
  Tryz.t395) .nil .nil))  (.node  (some Tryz.t203)  (.node  (some Tryz.t331)  (.node  (some Tryz.t587) .nil .nil) .nil)  (.node  (some Tryz.t459) .nil .nil))) 
  (.node  (some Tryz.t107)  (.node  (some Tryz.t171)  (.node  (some Tryz.t299)  (.node  (some Tryz.t555) .nil .nil) .nil)  (.node  (some Tryz.t427) .nil .nil)) 
  (.node  (some Tryz.t235)  (.node  (some Tryz.t363) .nil .nil)  (.node  (some Tryz.t491) .nil .nil))))  (.node  (some Tryz.t59)  (.node  (some Tryz.t91)  (.node
   (some Tryz.t155)  (.node  (some Tryz.t283)  (.node  (some Tryz.t539) .nil .nil) .nil)  (.node  (some Tryz.t411) .nil .nil))  (.node  (some Tryz.t219)  (.node 
  (some Tryz.t347)  (.node  (some Tryz.t603) .nil .nil) .nil)  (.node  (some Tryz.t475) .nil .nil)))  (.node  (some Tryz.t123)  (.node  (some Tryz.t187)  (.node 
  (some Tryz.t315)  (.node  (some Tryz.t571) .nil .nil) .nil)  (.node  (some Tryz.t443) .nil .nil))  (.node  (some Tryz.t251)  (.node  (some Tryz.t379) .nil
  .nil)  (.node  (some Tryz.t507) .nil .nil)))))))  (.node  (some Tryz.t5)  (.node  (some Tryz.t9)  (.node  (some Tryz.t17)  (.node  (some Tryz.t33)  (.node 
  (some Tryz.t65)  (.node  (some Tryz.t129)  (.node  (some Tryz.t257)  (.node  (some Tryz.t513) .nil .nil) .nil)  (.node  (some Tryz.t385) .nil .nil))  (.node 
  (some Tryz.t193)  (.node  (some Tryz.t321)  (.node  (some Tryz.t577) .nil .nil) .nil)  (.node  (some Tryz.t449) .nil .nil)))  (.node  (some Tryz.t97)  (.node 
  (some Tryz.t161)  (.node  (some Tryz.t289)  (.node  (some Tryz.t545) .nil .nil) .nil)  (.node  (some Tryz.t417) .nil .nil))  (.node  (some Tryz.t225)  (.node 
  (some Tryz.t353)  (.node  (some Tryz.t609) .nil .nil) .nil)  (.node  (some Tryz.t481) .nil .nil))))  (.node  (some Tryz.t49)  (.node  (some Tryz.t81)  (.node 
  (some Tryz.t145)  (.node  (some Tryz.t273)  (.node  (some Tryz.t529) .nil .nil) .nil)  (.node  (some Tryz.t401) .nil .nil))  (.node  (some Tryz.t209)  (.node 
  (some Tryz.t337)  (.node  (some Tryz.t593) .nil .nil) .nil)  (.node  (some Tryz.t465) .nil .nil)))  (.node  (some Tryz.t113)  (.node  (some Tryz.t177)  (.node 
  (some Tryz.t305)  (.node  (some Tryz.t561) .nil .nil) .nil)  (.node  (some Tryz.t433) .nil .nil))  (.node  (some Tryz.t241)  (.node  (some Tryz.t369) .nil
  .nil)  (.node  (some Tryz.t497) .nil .nil)))))  (.node  (some Tryz.t25)  (.node  (some Tryz.t41)  (.node  (some Tryz.t73)  (.node  (some Tryz.t137)  (.node 
  (some Tryz.t265)  (.node  (some Tryz.t521) .nil .nil) .nil)  (.node  (some Tryz.t393) .nil .nil))  (.node  (some Tryz.t201)  (.node  (some Tryz.t329)  (.node 
  (some Tryz.t585) .nil .nil) .nil)  (.node  (some Tryz.t457) .nil .nil)))  (.node  (some Tryz.t105)  (.node  (some Tryz.t169)  (.node  (some Tryz.t297)  (.node 
  (some Tryz.t553) .nil .nil) .nil)  (.node  (some Tryz.t425) .nil .nil))  (.node  (some Tryz.t233)  (.node  (some Tryz.t361) .nil .nil)  (.node  (some
  Tryz.t489) .nil .nil))))  (.node  (some Tryz.t57)  (.node  (some Tryz.t89)  (.node  (some Tryz.t153)  (.node  (some Tryz.t281)  (.node  (some Tryz.t537) .nil
  .nil) .nil)  (.node  (some Tryz.t409) .nil .nil))  (.node  (some Tryz.t217)  (.node  (some Tryz.t345)  (.node  (some Tryz.t601) .nil .nil) .nil)  (.node  (some
  Tryz.t473) .nil .nil)))  (.node  (some Tryz.t121)  (.node  (some Tryz.t185)  (.node  (some Tryz.t313)  (.node  (some Tryz.t569) .nil .nil) .nil)  (.node  (some
  Tryz.t441) .nil .nil))  (.node  (some Tryz.t249)  (.node  (some Tryz.t377) .nil .nil)  (.node  (some Tryz.t505) .nil .nil))))))  (.node  (some Tryz.t13) 
  (.node  (some Tryz.t21)  (.node  (some Tryz.t37)  (.node  (some Tryz.t69)  (.node  (some Tryz.t133)  (.node  (some Tryz.t261)  (.node  (some Tryz.t517) .nil
  .nil) .nil)  (.node  (some Tryz.t389) .nil .nil))  (.node  (some Tryz.t197)  (.node  (some Tryz.t325)  (.node  (some Tryz.t581) .nil .nil) .nil)  (.node  (some
  Tryz.t453) .nil .nil)))  (.node  (some Tryz.t101)  (.node  (some Tryz.t165)  (.node  (some Tryz.t293)  (.node  (some Tryz.t549) .nil .nil) .nil)  (.node  (some
  Tryz.t421) .nil .nil))  (.node  (some Tryz.t229)  (.node  (some Tryz.t357)  (.node  (some Tryz.t613) .nil .nil) .nil)  (.node  (some Tryz.t485) .nil .nil)))) 
  (.node  (some Tryz.t53)  (.node  (some Tryz.t85)  (.node  (some Tryz.t149)  (.node  (some Tryz.t277)  (.node  (some Tryz.t533) .nil .nil) .nil)  (.node  (some
  Tryz.t405) .nil .nil))  (.node  (some Tryz.t213)  (.node  (some Tryz.t341)  (.node  (some Tryz.t597) .nil .nil) .nil)  (.node  (some Tryz.t469) .nil .nil))) 
  (.node  (some Tryz.t117)  (.node  (some Tryz.t181)  (.node  (some Tryz.t309)  (.node  (some Tryz.t565) .nil .nil) .nil)  (.node  (some Tryz.t437) .nil .nil)) 
  (.node  (some Tryz.t245)  (.node  (some Tryz.t373) .nil .nil)  (.node  (some Tryz.t501) .nil .nil)))))  (.node  (some Tryz.t29)  (.node  (some Tryz.t45) 
  (.node  (some Tryz.t77)  (.node  (some Tryz.t141)  (.node  (some Tryz.t269)  (.node  (some Tryz.t525) .nil .nil) .nil)  (.node  (some Tryz.t397) .nil .nil)) 
  (.node  (some Tryz.t205)  (.node  (some Tryz.t333)  (.node  (some Tryz.t589) .nil .nil) .nil)  (.node  (some Tryz.t461) .nil .nil)))  (.node  (some Tryz.t109) 
  (.node  (some Tryz.t173)  (.node  (some Tryz.t301)  (.node  (some Tryz.t557) .nil .nil) .nil)  (.node  (some Tryz.t429) .nil .nil))  (.node  (some Tryz.t237) 
  (.node  (some Tryz.t365) .nil .nil)  (.node  (some Tryz.t493) .nil .nil))))  (.node  (some Tryz.t61)  (.node  (some Tryz.t93)  (.node  (some Tryz.t157)  (.node
   (some Tryz.t285)  (.node  (some Tryz.t541) .nil .nil) .nil)  (.node  (some Tryz.t413) .nil .nil))  (.node  (some Tryz.t221)  (.node  (some Tryz.t349)  (.node 
  (some Tryz.t605) .nil .nil) .nil)  (.node  (some Tryz.t477) .nil .nil)))  (.node  (some Tryz.t125)  (.node  (some Tryz.t189)  (.node  (some Tryz.t317)  (.node 
  (some Tryz.t573) .nil .nil) .nil)  (.node  (some Tryz.t445) .nil .nil))  (.node  (some Tryz.t253)  (.node  (some Tryz.t381) .nil .nil)  (.node  (some
  Tryz.t509) .nil .nil))))))))  (.node  (some Tryz.t2)  (.node  (some Tryz.t4)  (.node  (some Tryz.t8)  (.node  (some Tryz.t16)  (.node  (some Tryz.t32)  (.node 
  (some Tryz.t64)  (.node  (some Tryz.t128)  (.node  (some Tryz.t256)  (.node  (some Tryz.t512) .nil .nil) .nil)  (.node  (some Tryz.t384) .nil .nil))  (.node 
  (some Tryz.t192)  (.node  (some Tryz.t320)  (.node  (some Tryz.t576) .nil .nil) .nil)  (.node  (some Tryz.t448) .nil .nil)))  (.node  (some Tryz.t96)  (.node 
  (some Tryz.t160)  (.node  (some Tryz.t288)  (.node  (some Tryz.t544) .nil .nil) .nil)  (.node  (some Tryz.t416) .nil .nil))  (.node  (some Tryz.t224)  (.node 
  (some Tryz.t352)  (.node  (some Tryz.t608) .nil .nil) .nil)  (.node  (some Tryz.t480) .nil .nil))))  (.node  (some Tryz.t48)  (.node  (some Tryz.t80)  (.node 
  (some Tryz.t144)  (.node  (some Tryz.t272)  (.node  (some Tryz.t528) .nil .nil) .nil)  (.node  (some Tryz.t400) .nil .nil))  (.node  (some Tryz.t208)  (.node 
  (some Tryz.t336)  (.node  (some Tryz.t592) .nil .nil) .nil)  (.node  (some Tryz.t464) .nil .nil)))  (.node  (some Tryz.t112)  (.node  (some Tryz.t176)  (.node 
  (some Tryz.t304)  (.node  (some Tryz.t560) .nil .nil) .nil)  (.node  (some Tryz.t432) .nil .nil))  (.node  (some Tryz.t240)  (.node  (some Tryz.t368) .nil
  .nil)  (.node  (some Tryz.t496) .nil .nil)))))  (.node  (some Tryz.t24)  (.node  (some Tryz.t40)  (.node  (some Tryz.t72)  (.node  (some Tryz.t136)  (.node 
  (some Tryz.t264)  (.node  (some Tryz.t520) .nil .nil) .nil)  (.node  (some Tryz.t392) .nil .nil))  (.node  (some Tryz.t200)  (.node  (some Tryz.t328)  (.node 
  (some Tryz.t584) .nil .nil) .nil)  (.node  (some Tryz.t456) .nil .nil)))  (.node  (some Tryz.t104)  (.node  (some Tryz.t168)  (.node  (some Tryz.t296)  (.node 
  (some Tryz.t552) .nil .nil) .nil)  (.node  (some Tryz.t424) .nil .nil))  (.node  (some Tryz.t232)  (.node  (some Tryz.t360)  (.node  (some Tryz.t616) .nil
  .nil) .nil)  (.node  (some Tryz.t488) .nil .nil))))  (.node  (some Tryz.t56)  (.node  (some Tryz.t88)  (.node  (some Tryz.t152)  (.node  (some Tryz.t280) 
  (.node  (some Tryz.t536) .nil .nil) .nil)  (.node  (some Tryz.t408) .nil .nil))  (.node  (some Tryz.t216)  (.node  (some Tryz.t344)  (.node  (some Tryz.t600)
  .nil .nil) .nil)  (.node  (some Tryz.t472) .nil .nil)))  (.node  (some Tryz.t120)  (.node  (some Tryz.t184)  (.node  (some Tryz.t312)  (.node  (some Tryz.t568)
  .nil .nil) .nil)  (.node  (some Tryz.t440) .nil .nil))  (.node  (some Tryz.t248)  (.node  (some Tryz.t376) .nil .nil)  (.node  (some Tryz.t504) .nil .nil))))))
   (.node  (some Tryz.t12)  (.node  (some Tryz.t20)  (.node  (some Tryz.t36)  (.node  (some Tryz.t68)  (.node  (some Tryz.t132)  (.node  (some Tryz.t260)  (.node
   (some Tryz.t516) .nil .nil) .nil)  (.node  (some Tryz.t388) .nil .nil))  (.node  (some Tryz.t196)  (.node  (some Tryz.t324)  (.node  (some Tryz.t580) .nil
  .nil) .nil)  (.node  (some Tryz.t452) .nil .nil)))  (.node  (some Tryz.t100)  (.node  (some Tryz.t164)  (.node  (some Tryz.t292)  (.node  (some Tryz.t548) .nil
  .nil) .nil)  (.node  (some Tryz.t420) .nil .nil))  (.node  (some Tryz.t228)  (.node  (some Tryz.t356)  (.node  (some Tryz.t612) .nil .nil) .nil)  (.node  (some
  Tryz.t484) .nil .nil))))  (.node  (some Tryz.t52)  (.node  (some Tryz.t84)  (.node  (some Tryz.t148)  (.node  (some Tryz.t276)  (.node  (some Tryz.t532) .nil
  .nil) .nil)  (.node  (some Tryz.t404) .nil .nil))  (.node  (some Tryz.t212)  (.node  (some Tryz.t340)  (.node  (some Tryz.t596) .nil .nil) .nil)  (.node  (some
  Tryz.t468) .nil .nil)))  (.node  (some Tryz.t116)  (.node  (some Tryz.t180)  (.node  (some Tryz.t308)  (.node  (some Tryz.t564) .nil .nil) .nil)  (.node  (some
  Tryz.t436) .nil .nil))  (.node  (some Tryz.t244)  (.node  (some Tryz.t372) .nil .nil)  (.node  (some Tryz.t500) .nil .nil)))))  (.node  (some Tryz.t28)  (.node
   (some Tryz.t44)  (.node  (some Tryz.t76)  (.node  (some Tryz.t140)  (.node  (some Tryz.t268)  (.node  (some Tryz.t524) .nil .nil) .nil)  (.node  (some
  Tryz.t396) .nil .nil))  (.node  (some Tryz.t204)  (.node  (some Tryz.t332)  (.node  (some Tryz.t588) .nil .nil) .nil)  (.node  (some Tryz.t460) .nil .nil))) 
  (.node  (some Tryz.t108)  (.node  (some Tryz.t172)  (.node  (some Tryz.t300)  (.node  (some Tryz.t556) .nil .nil) .nil)  (.node  (some Tryz.t428) .nil .nil)) 
  (.node  (some Tryz.t236)  (.node  (some Tryz.t364) .nil .nil)  (.node  (some Tryz.t492) .nil .nil))))  (.node  (some Tryz.t60)  (.node  (some Tryz.t92)  (.node
   (some Tryz.t156)  (.node  (some Tryz.t284)  (.node  (some Tryz.t540) .nil .nil) .nil)  (.node  (some Tryz.t412) .nil .nil))  (.node  (some Tryz.t220)  (.node 
  (some Tryz.t348)  (.node  (some Tryz.t604) .nil .nil) .nil)  (.node  (some Tryz.t476) .nil .nil)))  (.node  (some Tryz.t124)  (.node  (some Tryz.t188)  (.node 
  (some Tryz.t316)  (.node  (some Tryz.t572) .nil .nil) .nil)  (.node  (some Tryz.t444) .nil .nil))  (.node  (some Tryz.t252)  (.node  (some Tryz.t380) .nil
  .nil)  (.node  (some Tryz.t508) .nil .nil)))))))  (.node  (some Tryz.t6)  (.node  (some Tryz.t10)  (.node  (some Tryz.t18)  (.node  (some Tryz.t34)  (.node 
  (some Tryz.t66)  (.node  (some Tryz.t130)  (.node  (some Tryz.t258)  (.node  (some Tryz.t514) .nil .nil) .nil)  (.node  (some Tryz.t386) .nil .nil))  (.node 
  (some Tryz.t194)  (.node  (some Tryz.t322)  (.node  (some Tryz.t578) .nil .nil) .nil)  (.node  (some Tryz.t450) .nil .nil)))  (.node  (some Tryz.t98)  (.node 
  (some Tryz.t162)  (.node  (some Tryz.t290)  (.node  (some Tryz.t546) .nil .nil) .nil)  (.node  (some Tryz.t418) .nil .nil))  (.node  (some Tryz.t226)  (.node 
  (some Tryz.t354)  (.node  (some Tryz.t610) .nil .nil) .nil)  (.node  (some Tryz.t482) .nil .nil))))  (.node  (some Tryz.t50)  (.node  (some Tryz.t82)  (.node 
  (some Tryz.t146)  (.node  (some Tryz.t274)  (.node  (some Tryz.t530) .nil .nil) .nil)  (.node  (some Tryz.t402) .nil .nil))  (.node  (some Tryz.t210)  (.node 
  (some Tryz.t338)  (.node  (some Tryz.t594) .nil .nil) .nil)  (.node  (some Tryz.t466) .nil .nil)))  (.node  (some Tryz.t114)  (.node  (some Tryz.t178)  (.node 
  (some Tryz.t306)  (.node  (some Tryz.t562) .nil .nil) .nil)  (.node  (some Tryz.t434) .nil .nil))  (.node  (some Tryz.t242)  (.node  (some Tryz.t370) .nil
  .nil)  (.node  (some Tryz.t498) .nil .nil)))))  (.node  (some Tryz.t26)  (.node  (some Tryz.t42)  (.node  (some Tryz.t74)  (.node  (some Tryz.t138)  (.node 
  (some Tryz.t266)  (.node  (some Tryz.t522) .nil .nil) .nil)  (.node  (some Tryz.t394) .nil .nil))  (.node  (some Tryz.t202)  (.node  (some Tryz.t330)  (.node 
  (some Tryz.t586) .nil .nil) .nil)  (.node  (some Tryz.t458) .nil .nil)))  (.node  (some Tryz.t106)  (.node  (some Tryz.t170)  (.node  (some Tryz.t298)  (.node 
  (some Tryz.t554) .nil .nil) .nil)  (.node  (some Tryz.t426) .nil .nil))  (.node  (some Tryz.t234)  (.node  (some Tryz.t362) .nil .nil)  (.node  (some
  Tryz.t490) .nil .nil))))  (.node  (some Tryz.t58)  (.node  (some Tryz.t90)  (.node  (some Tryz.t154)  (.node  (some Tryz.t282)  (.node  (some Tryz.t538) .nil
  .nil) .nil)  (.node  (some Tryz.t410) .nil .nil))  (.node  (some Tryz.t218)  (.node  (some Tryz.t346)  (.node  (some Tryz.t602) .nil .nil) .nil)  (.node  (some
  Tryz.t474) .nil .nil)))  (.node  (some Tryz.t122)  (.node  (some Tryz.t186)  (.node  (some Tryz.t314)  (.node  (some Tryz.t570) .nil .nil) .nil)  (.node  (some
  Tryz.t442) .nil .nil))  (.node  (some Tryz.t250)  (.node  (some Tryz.t378) .nil .nil)  (.node  (some Tryz.t506) .nil .nil))))))  (.node  (some Tryz.t14) 
  (.node  (some Tryz.t22)  (.node  (some Tryz.t38)  (.node  (some Tryz.t70)  (.node  (some Tryz.t134)  (.node  (some Tryz.t262)  (.node  (some Tryz.t518) .nil
  .nil) .nil)  (.node  (some Tryz.t390) .nil .nil))  (.node  (some Tryz.t198)  (.node  (some Tryz.t326)  (.node  (some Tryz.t582) .nil .nil) .nil)  (.node  (some
  Tryz.t454) .nil .nil)))  (.node  (some Tryz.t102)  (.node  (some Tryz.t166)  (.node  (some Tryz.t294)  (.node  (some Tryz.t550) .nil .nil) .nil)  (.node  (some
  Tryz.t422) .nil .nil))  (.node  (some Tryz.t230)  (.node  (some Tryz.t358)  (.node  (some Tryz.t614) .nil .nil) .nil)  (.node  (some Tryz.t486) .nil .nil)))) 
  (.node  (some Tryz.t54)  (.node  (some Tryz.t86)  (.node  (some Tryz.t150)  (.node  (some Tryz.t278)  (.node  (some Tryz.t534) .nil .nil) .nil)  (.node  (some
  Tryz.t406) .nil .nil))  (.node  (some Tryz.t214)  (.node  (some Tryz.t342)  (.node  (some Tryz.t598) .nil .nil) .nil)  (.node  (some Tryz.t470) .nil .nil))) 
  (.node  (some Tryz.t118)  (.node  (some Tryz.t182)  (.node  (some Tryz.t310)  (.node  (some Tryz.t566) .nil .nil) .nil)  (.node  (some Tryz.t438) .nil .nil)) 
  (.node  (some Tryz.t246)  (.node  (some Tryz.t374) .nil .nil)  (.node  (some Tryz.t502) .nil .nil)))))  (.node  (some Tryz.t30)  (.node  (some Tryz.t46) 
  (.node  (some Tryz.t78)  (.node  (some Tryz.t142)  (.node  (some Tryz.t270)  (.node  (some Tryz.t526) .nil .nil) .nil)  (.node  (some Tryz.t398) .nil .nil)) 
  (.node  (some Tryz.t206)  (.node  (some Tryz.t334)  (.node  (some Tryz.t590) .nil .nil) .nil)  (.node  (some Tryz.t462) .nil .nil)))  (.node  (some Tryz.t110) 
  (.node  (some Tryz.t174)  (.node  (some Tryz.t302)  (.node  (some Tryz.t558) .nil .nil) .nil)  (.node  (some Tryz.t430) .nil .nil))  (.node  (some Tryz.t238) 
  (.node  (some Tryz.t366) .nil .nil)  (.node  (some Tryz.t494) .nil .nil))))  (.node  (some Tryz.t62)  (.node  (some Tryz.t94)  (.node  (some Tryz.t158)  (.node
   (some Tryz.t286)  (.node  (some Tryz.t542) .nil .nil) .nil)  (.node  (some Tryz.t414) .nil .nil))  (.node  (some Tryz.t222)  (.node  (some Tryz.t350)  (.node 
  (some Tryz.t606) .nil .nil) .nil)  (.node  (some Tryz.t478) .nil .nil)))  (.node  (some Tryz.t126)  (.node  (some Tryz.t190)  (.node  (some Tryz.t318)  (.node 
  (some Tryz.t574) .nil .nil) .nil)  (.node  (some Tryz.t446) .nil .nil))  (.node  (some Tryz.t254)  (.node  (some Tryz.t382) .nil .nil)  (.node  (some
  Tryz.t510) .nil .nil)))))))))
def EQ : Ev.Tr Bool :=
  (.node none  (.node none  (.node none  (.node  (some false)  (.node none  (.node none  (.node none  (.node none  (.node none  (.node  (some false) .nil .nil)
  .nil) .nil)  (.node none  (.node  (some false) .nil .nil) .nil))  (.node none .nil  (.node none  (.node none  (.node  (some false) .nil .nil) .nil) .nil))) 
  (.node  (some false)  (.node none  (.node none  (.node none  (.node  (some false) .nil .nil) .nil) .nil) .nil) .nil))  (.node none  (.node  (some false) 
  (.node none  (.node none  (.node none  (.node  (some false) .nil .nil) .nil) .nil) .nil)  (.node none .nil  (.node none  (.node none  (.node  (some false) .nil
  .nil) .nil)  (.node  (some false) .nil .nil))))  (.node  (some false)  (.node none  (.node  (some false)  (.node  (some false) .nil .nil) .nil)  (.node none
  .nil  (.node  (some false) .nil .nil)))  (.node none  (.node none  (.node  (some false) .nil .nil) .nil) .nil))))  (.node none  (.node  (some false)  (.node 
  (some false)  (.node  (some false)  (.node none  (.node none  (.node  (some false) .nil .nil) .nil)  (.node  (some false) .nil .nil)) .nil)  (.node  (some
  false) .nil .nil))  (.node none  (.node  (some false) .nil .nil)  (.node none  (.node none  (.node none  (.node  (some false) .nil .nil) .nil) .nil) .nil))) 
  (.node none .nil  (.node none  (.node none  (.node none  (.node none  (.node  (some false) .nil .nil) .nil)  (.node  (some false) .nil .nil))  (.node none 
  (.node none  (.node  (some false) .nil .nil) .nil) .nil))  (.node none  (.node none  (.node  (some false) .nil .nil) .nil)  (.node none .nil  (.node  (some
  false) .nil .nil)))))))  (.node none  (.node none  (.node none  (.node none  (.node none  (.node none  (.node  (some false) .nil .nil) .nil)  (.node none .nil 
  (.node  (some false) .nil .nil)))  (.node none  (.node none  (.node  (some false) .nil .nil) .nil) .nil))  (.node none  (.node  (some false) .nil .nil)  (.node
  none  (.node none  (.node  (some false) .nil .nil) .nil)  (.node none  (.node  (some false) .nil .nil) .nil))))  (.node none  (.node none  (.node none .nil 
  (.node none  (.node  (some false) .nil .nil) .nil))  (.node  (some false) .nil .nil))  (.node none  (.node none  (.node none .nil  (.node  (some false) .nil
  .nil)) .nil) .nil)))  (.node  (some false)  (.node none  (.node  (some false)  (.node none  (.node  (some false) .nil .nil)  (.node none  (.node  (some false)
  .nil .nil) .nil))  (.node  (some false)  (.node none  (.node  (some false) .nil .nil) .nil)  (.node none  (.node none  (.node  (some false) .nil .nil) .nil)
  .nil)))  (.node none  (.node none  (.node none  (.node none  (.node  (some false) .nil .nil) .nil)  (.node  (some false) .nil .nil))  (.node none  (.node 
  (some false) .nil .nil) .nil)) .nil))  (.node none  (.node none  (.node none  (.node  (some false)  (.node  (some false) .nil .nil) .nil)  (.node none .nil 
  (.node  (some false) .nil .nil)))  (.node none  (.node  (some false) .nil .nil) .nil))  (.node none  (.node none  (.node none .nil  (.node  (some false) .nil
  .nil))  (.node none  (.node none  (.node  (some false) .nil .nil) .nil) .nil))  (.node  (some false)  (.node none  (.node none  (.node  (some false) .nil .nil)
  .nil) .nil) .nil))))))  (.node none  (.node none  (.node  (some false)  (.node none  (.node none  (.node none  (.node none  (.node  (some false)  (.node  (some
  false) .nil .nil) .nil) .nil)  (.node none  (.node  (some false) .nil .nil)  (.node  (some false) .nil .nil))) .nil)  (.node none .nil  (.node none  (.node
  none  (.node  (some false)  (.node  (some false) .nil .nil) .nil) .nil)  (.node none  (.node  (some false) .nil .nil)  (.node  (some false) .nil .nil))))) 
  (.node none  (.node  (some false)  (.node none  (.node none  (.node none  (.node  (some false) .nil .nil) .nil) .nil)  (.node none  (.node  (some false) .nil
  .nil) .nil))  (.node none .nil  (.node none  (.node none  (.node  (some false) .nil .nil) .nil) .nil)))  (.node  (some false)  (.node none  (.node none  (.node
   (some false) .nil .nil)  (.node  (some false) .nil .nil))  (.node none .nil  (.node  (some false) .nil .nil))) .nil)))  (.node none  (.node none  (.node 
  (some false)  (.node  (some false) .nil  (.node none  (.node  (some false) .nil .nil) .nil))  (.node  (some false)  (.node none  (.node  (some false) .nil
  .nil) .nil) .nil))  (.node none  (.node  (some false)  (.node none  (.node none  (.node  (some false) .nil .nil) .nil)  (.node  (some false) .nil .nil)) 
  (.node none  (.node  (some false) .nil .nil) .nil)) .nil))  (.node none  (.node none  (.node none  (.node none  (.node  (some false) .nil .nil) .nil) .nil)
  .nil)  (.node none  (.node none  (.node none  (.node none  (.node  (some false) .nil .nil) .nil)  (.node  (some false) .nil .nil))  (.node none  (.node none 
  (.node  (some false) .nil .nil) .nil) .nil))  (.node  (some false)  (.node none  (.node none  (.node  (some false) .nil .nil) .nil) .nil)  (.node  (some false)
  .nil .nil))))))  (.node none  (.node none  (.node  (some false)  (.node none  (.node none  (.node none .nil  (.node  (some false) .nil .nil)) .nil)  (.node 
  (some false)  (.node none  (.node  (some false) .nil .nil) .nil) .nil))  (.node none  (.node  (some false) .nil .nil) .nil))  (.node none  (.node none .nil 
  (.node  (some false) .nil .nil))  (.node none .nil  (.node none  (.node none  (.node  (some false)  (.node  (some false) .nil .nil) .nil) .nil)  (.node none
  .nil  (.node  (some false) .nil .nil))))))  (.node  (some false)  (.node none  (.node  (some false)  (.node none  (.node  (some false) .nil .nil) .nil)  (.node
  none .nil  (.node none  (.node none  (.node  (some false) .nil .nil) .nil)  (.node  (some false) .nil .nil))))  (.node none  (.node none  (.node  (some false)
  .nil .nil)  (.node none  (.node  (some false) .nil .nil) .nil)) .nil))  (.node none  (.node  (some false)  (.node none  (.node  (some false) .nil .nil)  (.node
  none .nil  (.node  (some false) .nil .nil)))  (.node none  (.node  (some false) .nil .nil)  (.node none  (.node  (some false) .nil .nil) .nil)))  (.node none 
  (.node none  (.node none .nil  (.node  (some false) .nil .nil))  (.node none  (.node none  (.node  (some false) .nil .nil) .nil) .nil)) .nil))))))
def ST : Ev.Tr Bool :=
  (.node none  (.node none  (.node none  (.node  (some false)  (.node none  (.node none  (.node none  (.node none  (.node none  (.node  (some false) .nil .nil)
  .nil) .nil)  (.node none  (.node  (some false) .nil .nil) .nil))  (.node none .nil  (.node none  (.node none  (.node  (some true) .nil .nil) .nil) .nil))) 
  (.node  (some false)  (.node none  (.node none  (.node none  (.node  (some false) .nil .nil) .nil) .nil) .nil) .nil))  (.node none  (.node  (some false) 
  (.node none  (.node none  (.node none  (.node  (some false) .nil .nil) .nil) .nil) .nil)  (.node none .nil  (.node none  (.node none  (.node  (some true) .nil
  .nil) .nil)  (.node  (some false) .nil .nil))))  (.node  (some false)  (.node none  (.node  (some false)  (.node  (some false) .nil .nil) .nil)  (.node none
  .nil  (.node  (some false) .nil .nil)))  (.node none  (.node none  (.node  (some false) .nil .nil) .nil) .nil))))  (.node none  (.node  (some true)  (.node 
  (some false)  (.node  (some false)  (.node none  (.node none  (.node  (some false) .nil .nil) .nil)  (.node  (some false) .nil .nil)) .nil)  (.node  (some
  false) .nil .nil))  (.node none  (.node  (some false) .nil .nil)  (.node none  (.node none  (.node none  (.node  (some false) .nil .nil) .nil) .nil) .nil))) 
  (.node none .nil  (.node none  (.node none  (.node none  (.node none  (.node  (some false) .nil .nil) .nil)  (.node  (some false) .nil .nil))  (.node none 
  (.node none  (.node  (some true) .nil .nil) .nil) .nil))  (.node none  (.node none  (.node  (some false) .nil .nil) .nil)  (.node none .nil  (.node  (some
  false) .nil .nil)))))))  (.node none  (.node none  (.node none  (.node none  (.node none  (.node none  (.node  (some false) .nil .nil) .nil)  (.node none .nil 
  (.node  (some true) .nil .nil)))  (.node none  (.node none  (.node  (some false) .nil .nil) .nil) .nil))  (.node none  (.node  (some false) .nil .nil)  (.node
  none  (.node none  (.node  (some false) .nil .nil) .nil)  (.node none  (.node  (some false) .nil .nil) .nil))))  (.node none  (.node none  (.node none .nil 
  (.node none  (.node  (some false) .nil .nil) .nil))  (.node  (some false) .nil .nil))  (.node none  (.node none  (.node none .nil  (.node  (some false) .nil
  .nil)) .nil) .nil)))  (.node  (some true)  (.node none  (.node  (some false)  (.node none  (.node  (some false) .nil .nil)  (.node none  (.node  (some false)
  .nil .nil) .nil))  (.node  (some false)  (.node none  (.node  (some false) .nil .nil) .nil)  (.node none  (.node none  (.node  (some true) .nil .nil) .nil)
  .nil)))  (.node none  (.node none  (.node none  (.node none  (.node  (some true) .nil .nil) .nil)  (.node  (some false) .nil .nil))  (.node none  (.node  (some
  false) .nil .nil) .nil)) .nil))  (.node none  (.node none  (.node none  (.node  (some false)  (.node  (some false) .nil .nil) .nil)  (.node none .nil  (.node 
  (some false) .nil .nil)))  (.node none  (.node  (some false) .nil .nil) .nil))  (.node none  (.node none  (.node none .nil  (.node  (some false) .nil .nil)) 
  (.node none  (.node none  (.node  (some false) .nil .nil) .nil) .nil))  (.node  (some false)  (.node none  (.node none  (.node  (some false) .nil .nil) .nil)
  .nil) .nil))))))  (.node none  (.node none  (.node  (some false)  (.node none  (.node none  (.node none  (.node none  (.node  (some false)  (.node  (some
  false) .nil .nil) .nil) .nil)  (.node none  (.node  (some false) .nil .nil)  (.node  (some true) .nil .nil))) .nil)  (.node none .nil  (.node none  (.node none
   (.node  (some false)  (.node  (some false) .nil .nil) .nil) .nil)  (.node none  (.node  (some false) .nil .nil)  (.node  (some false) .nil .nil)))))  (.node
  none  (.node  (some false)  (.node none  (.node none  (.node none  (.node  (some false) .nil .nil) .nil) .nil)  (.node none  (.node  (some false) .nil .nil)
  .nil))  (.node none .nil  (.node none  (.node none  (.node  (some true) .nil .nil) .nil) .nil)))  (.node  (some false)  (.node none  (.node none  (.node  (some
  false) .nil .nil)  (.node  (some false) .nil .nil))  (.node none .nil  (.node  (some false) .nil .nil))) .nil)))  (.node none  (.node none  (.node  (some
  false)  (.node  (some false) .nil  (.node none  (.node  (some false) .nil .nil) .nil))  (.node  (some false)  (.node none  (.node  (some false) .nil .nil)
  .nil) .nil))  (.node none  (.node  (some false)  (.node none  (.node none  (.node  (some true) .nil .nil) .nil)  (.node  (some false) .nil .nil))  (.node none 
  (.node  (some false) .nil .nil) .nil)) .nil))  (.node none  (.node none  (.node none  (.node none  (.node  (some false) .nil .nil) .nil) .nil) .nil)  (.node
  none  (.node none  (.node none  (.node none  (.node  (some false) .nil .nil) .nil)  (.node  (some false) .nil .nil))  (.node none  (.node none  (.node  (some
  true) .nil .nil) .nil) .nil))  (.node  (some false)  (.node none  (.node none  (.node  (some false) .nil .nil) .nil) .nil)  (.node  (some false) .nil
  .nil))))))  (.node none  (.node none  (.node  (some true)  (.node none  (.node none  (.node none .nil  (.node  (some false) .nil .nil)) .nil)  (.node  (some
  false)  (.node none  (.node  (some false) .nil .nil) .nil) .nil))  (.node none  (.node  (some false) .nil .nil) .nil))  (.node none  (.node none .nil  (.node 
  (some false) .nil .nil))  (.node none .nil  (.node none  (.node none  (.node  (some false)  (.node  (some false) .nil .nil) .nil) .nil)  (.node none .nil 
  (.node  (some false) .nil .nil))))))  (.node  (some true)  (.node none  (.node  (some false)  (.node none  (.node  (some false) .nil .nil) .nil)  (.node none
  .nil  (.node none  (.node none  (.node  (some true) .nil .nil) .nil)  (.node  (some false) .nil .nil))))  (.node none  (.node none  (.node  (some false) .nil
  .nil)  (.node none  (.node  (some false) .nil .nil) .nil)) .nil))  (.node none  (.node  (some false)  (.node none  (.node  (some false) .nil .nil)  (.node none
  .nil  (.node  (some false) .nil .nil)))  (.node none  (.node  (some false) .nil .nil)  (.node none  (.node  (some false) .nil .nil) .nil)))  (.node none 
  (.node none  (.node none .nil  (.node  (some false) .nil .nil))  (.node none  (.node none  (.node  (some true) .nil .nil) .nil) .nil)) .nil))))))
theorem FT_eq : FT = Ev.Tr.ofList Tryz.prog.funcs.toList := by kernel_rfl
theorem TT_eq : TT = Ev.Tr.ofList Tryz.prog.types.toList := by kernel_rfl
theorem EQ_eq : EQ = Ev.testAll (fun t => Tryz.prog.eqGuardType Tryz.prog.depth t) [7, 8, 13, 14, 18, 19, 35, 36, 37, 38, 39, 40, 46, 47, 55, 56, 67, 68, 81, 82, 83, 84, 98, 99, 100, 101, 105, 106, 124, 125, 133, 134, 141, 142, 150, 151, 173, 174, 252, 256, 257, 268, 269, 279, 280, 289, 290, 292, 293, 304, 305, 311, 314, 315, 319, 320, 324, 325, 328, 329, 340, 341, 342, 366, 368, 369, 386, 387, 404, 405, 408, 409, 411, 412, 413, 414, 448, 449, 461, 462, 471, 472, 486, 487, 496, 506, 507, 511, 512, 515, 519, 520, 527, 532, 533, 539, 540, 560, 563, 570, 572, 573, 603, 604, 605, 606, 607, 613, 614, 615, 616] .nil := by kernel_rfl
theorem ST_eq : ST = Ev.testAll (fun t => Tryz.prog.stoodInHeld t) [7, 8, 13, 14, 18, 19, 35, 36, 37, 38, 39, 40, 46, 47, 55, 56, 67, 68, 81, 82, 83, 84, 98, 99, 100, 101, 105, 106, 124, 125, 133, 134, 141, 142, 150, 151, 173, 174, 252, 256, 257, 268, 269, 279, 280, 289, 290, 292, 293, 304, 305, 311, 314, 315, 319, 320, 324, 325, 328, 329, 340, 341, 342, 366, 368, 369, 386, 387, 404, 405, 408, 409, 411, 412, 413, 414, 448, 449, 461, 462, 471, 472, 486, 487, 496, 506, 507, 511, 512, 515, 519, 520, 527, 532, 533, 539, 540, 560, 563, 570, 572, 573, 603, 604, 605, 606, 607, 613, 614, 615, 616] .nil := by kernel_rfl
theorem names_ok : Tryz.prog.funcs.toList.all (fun F => !(F.name == "runtime.NumGoroutine")) = true := by kernel_rfl
theorem mixed_ok : Tryz.prog.follows .mixedOrders = true := by kernel_rfl
def EX : List (Nat × Ev.ExtK) := [(142, (.overlaps 3)), (230, (.overlaps 3)), (318, .valueOf), (319, .valueLen), (321, (.overlaps 1)), (374, .same)]
def KD : Ev.Tr Bool :=
  (.node none  (.node none  (.node none  (.node none  (.node none  (.node  (some true) .nil .nil)  (.node none .nil  (.node  (some true) .nil .nil))) .nil)  (.node
  none  (.node none  (.node none .nil  (.node none  (.node none  (.node  (some true) .nil .nil) .nil) .nil))  (.node none  (.node none  (.node  (some true) .nil
  .nil) .nil)  (.node none .nil  (.node none .nil  (.node  (some true) .nil .nil)))))  (.node  (some true)  (.node none  (.node none  (.node none  (.node  (some
  true) .nil .nil) .nil) .nil)  (.node none .nil  (.node none  (.node  (some true) .nil .nil) .nil))) .nil)))  (.node none  (.node none  (.node none  (.node none
  .nil  (.node  (some true) .nil .nil))  (.node none  (.node none .nil  (.node none .nil  (.node  (some true) .nil .nil))) .nil))  (.node none  (.node  (some
  true) .nil .nil) .nil))  (.node none  (.node none  (.node none .nil  (.node none  (.node  (some true) .nil .nil) .nil))  (.node none  (.node none  (.node 
  (some true) .nil .nil) .nil)  (.node none .nil  (.node none .nil  (.node  (some true) .nil .nil)))))  (.node none  (.node  (some true)  (.node  (some true)
  .nil .nil) .nil)  (.node none  (.node none  (.node none  (.node none  (.node  (some true) .nil .nil) .nil) .nil) .nil) .nil)))))  (.node none  (.node none 
  (.node none  (.node none  (.node none .nil  (.node none  (.node  (some true) .nil .nil) .nil))  (.node none  (.node  (some true)  (.node none  (.node  (some
  true) .nil .nil) .nil) .nil) .nil)) .nil)  (.node none  (.node none .nil  (.node none  (.node none  (.node  (some true) .nil .nil) .nil)  (.node none .nil 
  (.node  (some true) .nil  (.node  (some true) .nil .nil)))))  (.node none  (.node none .nil  (.node none  (.node  (some true) .nil .nil) .nil))  (.node none 
  (.node none  (.node none  (.node  (some true) .nil .nil) .nil) .nil)  (.node none  (.node none .nil  (.node  (some true) .nil .nil)) .nil)))))  (.node none 
  (.node none  (.node none .nil  (.node none  (.node none  (.node  (some true) .nil .nil) .nil)  (.node none .nil  (.node  (some true) .nil .nil))))  (.node none
   (.node none  (.node  (some true)  (.node none .nil  (.node  (some true) .nil .nil)) .nil)  (.node none  (.node  (some true) .nil .nil) .nil)) .nil))  (.node
  none  (.node none .nil  (.node none  (.node none  (.node none  (.node  (some true) .nil .nil) .nil) .nil) .nil)) .nil))))
theorem KD_eq : KD = Ev.testAll (Ev.kdTest Tryz.prog) [27, 31, 41, 45, 74, 77, 80, 97, 111, 146, 147, 148, 149, 160, 165, 170, 172, 242, 244, 267, 272, 278, 284, 291, 363, 394, 444, 465, 499, 500, 501, 541] .nil := by kernel_rfl
theorem ex142 : Ev.ExtOK Tryz.prog 142 (.overlaps 3) := ⟨Tryz.f142, by kernel_rfl, by kernel_rfl, by kernel_rfl, by kernel_rfl, 80, 134, by kernel_rfl, by kernel_rfl, by kernel_rfl, by kernel_rfl⟩
theorem ex230 : Ev.ExtOK Tryz.prog 230 (.overlaps 3) := ⟨Tryz.f230, by kernel_rfl, by kernel_rfl, by kernel_rfl, by kernel_rfl, 74, 84, by kernel_rfl, by kernel_rfl, by kernel_rfl, by kernel_rfl⟩
theorem ex318 : Ev.ExtOK Tryz.prog 318 .valueOf := ⟨Tryz.f318, by kernel_rfl, by kernel_rfl, by kernel_rfl, by kernel_rfl, by show Extern.find _ = some _; kernel_rfl⟩
theorem ex319 : Ev.ExtOK Tryz.prog 319 .valueLen := ⟨Tryz.f319, by kernel_rfl, by kernel_rfl, by kernel_rfl, by kernel_rfl, by show Extern.find _ = some _; kernel_rfl⟩
theorem ex321 : Ev.ExtOK Tryz.prog 321 (.overlaps 1) := ⟨Tryz.f321, by kernel_rfl, by kernel_rfl, by kernel_rfl, by kernel_rfl, 77, 33, by kernel_rfl, by kernel_rfl, by kernel_rfl, by kernel_rfl⟩
theorem ex374 : Ev.ExtOK Tryz.prog 374 .same := ⟨Tryz.f374, by kernel_rfl, by kernel_rfl, by kernel_rfl, by kernel_rfl, by show Extern.find _ = some _; kernel_rfl⟩
theorem EX_ok : ∀ p, p ∈ EX → Ev.ExtOK Tryz.prog p.1 p.2 := by
  intro p hp
  unfold EX at hp
  simp only [List.mem_cons, List.not_mem_nil, or_false] at hp
  rcases hp with rfl | rfl | rfl | rfl | rfl | rfl
  · exact ex142
  · exact ex230
  · exact ex318
  · exact ex319
  · exact ex321
  · exact ex374
noncomputable def TB : Ev.Tabs := Ev.tabsOf FT TT EQ ST EX 0 KD
theorem TB_ok : Ev.TabsOK Tryz.prog TB := Ev.tabs_ok FT_eq TT_eq names_ok EQ_eq ST_eq mixed_ok EX_ok (by kernel_rfl) KD_eq
end Go.Proofs.YtcngecdjmmjlhaaGreat
