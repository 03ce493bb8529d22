/- The calls of the law that name no block, and what each answers (20 of them): no more than their names; that they are the program's is told in YtbmdcfehionkpaaGreatMemo. -/
import Derived.Test.YtbmdcfehionkpaaGreatGak
import Derived.Test.YtbmdcfehionkpaaGreatCrc
set_option linter.unusedVariables false
namespace Go.Proofs.YtbmdcfehionkpaaGreat
open Go Ev
def M0 : Ev.Memo := .nil
noncomputable def TM0 : Ev.Tabs := TB.withSm (Ev.memoSm M0 crcSm)
/-- careenage/careenagekit.Times -/
def a1 : List AV := [bs 1 0, .int .i64 104]
def v1 : AV := bs 104 0
def M1 : Ev.Memo := M0.add 12 a1 v1
noncomputable def TM1 : Ev.Tabs := TB.withSm (Ev.memoSm M1 crcSm)
/-- careenage/careenageref04.rest -/
def a2 : List AV := [.agg [.int .i64 2, .int .i64 0, .int .u32 2, .int .u32 0, .int .u64 5, bs 104 0]]
def v2 : AV := bs 124
  327637145289354869995572637397706471472151169434624368762169866593219460202828301164933136138960919052340693635750046706364200091425826377130894909154749302483711563011162921111133226509664099581275987221111114841419283356080190365820641714900590572235024202134628260624305420095026358937232343040
def M2 : Ev.Memo := M1.add 38 a2 v2
noncomputable def TM2 : Ev.Tabs := TB.withSm (Ev.memoSm M2 crcSm)
/-- careenage/careenageref04.Put -/
def a3 : List AV := [.int .i64 128, .agg [.int .i64 2, .int .i64 0, .int .u32 2, .int .u32 0, .int .u64 5, bs 104 0]]
def v3 : AV := .tuple [bs 128
  98168385020520629751448125420452425613226001205529690635038727649056328816345231966305319547916979588120448628068862913245412710558484397151797846473782778909692017204511425046889131635822991325729207733067713440999498014550230647624608875350960121108922731771955827941399007446559070663637328485398672834560,
  .int .i64 0]
def M3 : Ev.Memo := M2.add 20 a3 v3
noncomputable def TM3 : Ev.Tabs := TB.withSm (Ev.memoSm M3 crcSm)
/-- careenage/careenagekit.Times -/
def a4 : List AV := [bs 1 0, .int .i64 256]
def v4 : AV := bs 256 0
def M4 : Ev.Memo := M3.add 12 a4 v4
noncomputable def TM4 : Ev.Tabs := TB.withSm (Ev.memoSm M4 crcSm)
/-- careenage/frame.Get -/
def a5 : List AV := [.int .i64 128, .int .u32 2, bs 128
  98168385020520629751448125420452425613226001205529690635038727649056328816345231966305319547916979588120448628068862913245412710558484397151797846473782778909692017204511425046889131635822991325729207733067713440999498014550230647624608875350960121108922731771955827941399007446559070663637328485398672834560]
def v5 : AV := .tuple [.agg [.int .i64 2, .int .i64 0, .int .u32 2, .int .u32 0, .int .u64 5, bs 104 0], .int .i64 0]
def M5 : Ev.Memo := M4.add 105 a5 v5
noncomputable def TM5 : Ev.Tabs := TB.withSm (Ev.memoSm M5 crcSm)
/-- careenage/frame.Read -/
def a6 : List AV := [.int .i64 128, bs 384
  98168385020520629751448125420452425613226001205529690635038727649056328816345231966305319547916979588120448628068862913245412710558484397151797846473782778909692017204511425046889131635822991325729207733067713440999498014550230647624608875350960121108922731771955827941399007446559070663637328485398672834560,
  .int .u32 2]
def v6 : AV := .tuple [.agg [.int .i64 2, .int .i64 0, .int .u32 2, .int .u32 0, .int .u64 5, bs 104 0], .int .i64 0]
def M6 : Ev.Memo := M5.add 76 a6 v6
noncomputable def TM6 : Ev.Tabs := TB.withSm (Ev.memoSm M6 crcSm)
/-- careenage/catalog.Del -/
def a7 : List AV := [.nilslice, bs 10 512071488064234060082788]
def v7 : AV := .nilslice
def M7 : Ev.Memo := M6.add 173 a7 v7
noncomputable def TM7 : Ev.Tabs := TB.withSm (Ev.memoSm M7 crcSm)
/-- careenage/catalog.may -/
def a8 : List AV := [.int .i64 128, .nilslice]
def v8 : AV := .bool true
def M8 : Ev.Memo := M7.add 150 a8 v8
noncomputable def TM8 : Ev.Tabs := TB.withSm (Ev.memoSm M8 crcSm)
/-- careenage/frame.Body -/
def a9 : List AV := [.int .i64 128, .nilslice]
def v9 : AV := .tuple [bs 104 0, .int .i64 0]
def M9 : Ev.Memo := M8.add 136 a9 v9
noncomputable def TM9 : Ev.Tabs := TB.withSm (Ev.memoSm M9 crcSm)
/-- careenage/catalog.Of -/
def a10 : List AV := [.agg [.int .i64 2, .int .i64 0, .int .u32 2, .int .u32 0, .int .u64 5, bs 104 0]]
def v10 : AV := .tuple [.nilslice, .int .i64 0]
def M10 : Ev.Memo := M9.add 92 a10 v10
noncomputable def TM10 : Ev.Tabs := TB.withSm (Ev.memoSm M10 crcSm)
/-- careenage/frame.Get -/
def a11 : List AV := [.int .i64 128, .int .u32 0, bs 128 0]
def v11 : AV := .tuple [.agg [.int .i64 0, .int .i64 0, .int .u32 0, .int .u32 0, .int .u64 0, .str []], .int .i64 4]
def M11 : Ev.Memo := M10.add 105 a11 v11
noncomputable def TM11 : Ev.Tabs := TB.withSm (Ev.memoSm M11 crcSm)
/-- careenage/frame.Read -/
def a12 : List AV := [.int .i64 128, bs 384
  98168385020520629751448125420452425613226001205529690635038727649056328816345231966305319547916979588120448628068862913245412710558484397151797846473782778909692017204511425046889131635822991325729207733067713440999498014550230647624608875350960121108922731771955827941399007446559070663637328485398672834560,
  .int .u32 0]
def v12 : AV := .tuple [.agg [.int .i64 0, .int .i64 0, .int .u32 0, .int .u32 0, .int .u64 0, .str []], .int .i64 4]
def M12 : Ev.Memo := M11.add 76 a12 v12
noncomputable def TM12 : Ev.Tabs := TB.withSm (Ev.memoSm M12 crcSm)
/-- careenage/frame.Get -/
def a13 : List AV := [.int .i64 128, .int .u32 1, bs 128 0]
def v13 : AV := .tuple [.agg [.int .i64 0, .int .i64 0, .int .u32 0, .int .u32 0, .int .u64 0, .str []], .int .i64 4]
def M13 : Ev.Memo := M12.add 105 a13 v13
noncomputable def TM13 : Ev.Tabs := TB.withSm (Ev.memoSm M13 crcSm)
/-- careenage/frame.Read -/
def a14 : List AV := [.int .i64 128, bs 384
  98168385020520629751448125420452425613226001205529690635038727649056328816345231966305319547916979588120448628068862913245412710558484397151797846473782778909692017204511425046889131635822991325729207733067713440999498014550230647624608875350960121108922731771955827941399007446559070663637328485398672834560,
  .int .u32 1]
def v14 : AV := .tuple [.agg [.int .i64 0, .int .i64 0, .int .u32 0, .int .u32 0, .int .u64 0, .str []], .int .i64 4]
def M14 : Ev.Memo := M13.add 76 a14 v14
noncomputable def TM14 : Ev.Tabs := TB.withSm (Ev.memoSm M14 crcSm)
/-- careenage/meta.Both -/
def a15 : List AV := [.int .i64 128, bs 384
  98168385020520629751448125420452425613226001205529690635038727649056328816345231966305319547916979588120448628068862913245412710558484397151797846473782778909692017204511425046889131635822991325729207733067713440999498014550230647624608875350960121108922731771955827941399007446559070663637328485398672834560]
def v15 : AV := .tuple [.agg [.int .u64 0, .int .i64 0, .int .u32 0, .int .u32 0, .int .u32 0, .int .u64 0, .int .i64 0, .int .u32 0, .int .u32 0, .int .u32 0], .agg
  [.bool false, .bool false]]
def M15 : Ev.Memo := M14.add 46 a15 v15
noncomputable def TM15 : Ev.Tabs := TB.withSm (Ev.memoSm M15 crcSm)
/-- careenage/frame.Read -/
def a16 : List AV := [.int .i64 128, .str [], .int .u32 0]
def v16 : AV := .tuple [.agg [.int .i64 0, .int .i64 0, .int .u32 0, .int .u32 0, .int .u64 0, .str []], .int .i64 5]
def M16 : Ev.Memo := M15.add 76 a16 v16
noncomputable def TM16 : Ev.Tabs := TB.withSm (Ev.memoSm M16 crcSm)
/-- careenage/frame.Read -/
def a17 : List AV := [.int .i64 128, .str [], .int .u32 1]
def v17 : AV := .tuple [.agg [.int .i64 0, .int .i64 0, .int .u32 0, .int .u32 0, .int .u64 0, .str []], .int .i64 5]
def M17 : Ev.Memo := M16.add 76 a17 v17
noncomputable def TM17 : Ev.Tabs := TB.withSm (Ev.memoSm M17 crcSm)
/-- careenage/meta.Both -/
def a18 : List AV := [.int .i64 128, .str []]
def v18 : AV := .tuple [.agg [.int .u64 0, .int .i64 0, .int .u32 0, .int .u32 0, .int .u32 0, .int .u64 0, .int .i64 0, .int .u32 0, .int .u32 0, .int .u32 0], .agg
  [.bool false, .bool false]]
def M18 : Ev.Memo := M17.add 46 a18 v18
noncomputable def TM18 : Ev.Tabs := TB.withSm (Ev.memoSm M18 crcSm)
/-- careenage/scan.Cands -/
def a19 : List AV := [.int .i64 128, .str []]
def v19 : AV := .nilslice
def M19 : Ev.Memo := M18.add 16 a19 v19
noncomputable def TM19 : Ev.Tabs := TB.withSm (Ev.memoSm M19 crcSm)
/-- careenage/careenagelaw23.lives -/
def a20 : List AV := []
def v20 : AV := .bool true
def M20 : Ev.Memo := M19.add 8 a20 v20
noncomputable def TM20 : Ev.Tabs := TB.withSm (Ev.memoSm M20 crcSm)
end Go.Proofs.YtbmdcfehionkpaaGreat
