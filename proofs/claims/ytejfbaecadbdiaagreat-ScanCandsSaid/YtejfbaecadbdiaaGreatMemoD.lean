/- The calls of the law that name no block, and what each answers (5 of them): no more than their names; that they are the program's is told in YtejfbaecadbdiaaGreatMemo. -/
import Derived.Test.YtejfbaecadbdiaaGreatGak
import Derived.Test.YtejfbaecadbdiaaGreatCrc
set_option linter.unusedVariables false
namespace Go.Proofs.YtejfbaecadbdiaaGreat
open Go Ev
def M0:Ev.b7a:=.nil
noncomputable def TM0:Ev.a0k:=TB.a2s (Ev.b4n M0 b1d)
def a1:List AV:=[.int .i64 128,.agg [.int .i64 2,.int .i64 0,.int .u32 2,.int .u32 0,.int .u64 5,bs 104 0]]
def v1:AV:=.tuple [bs 128
 98168385020520629751448125420452425613226001205529690635038727649056328816345231966305319547916979588120448628068862913245412710558484397151797846473782778909692017204511425046889131635822991325729207733067713440999498014550230647624608875350960121108922731771955827941399007446559070663637328485398672834560,
 .int .i64 0]
def M1:Ev.b7a:=M0.add 26 a1 v1
noncomputable def TM1:Ev.a0k:=TB.a2s (Ev.b4n M1 b1d)
def a2:List AV:=[.int .i64 128,.int .u32 2,bs 128
 98168385020520629751448125420452425613226001205529690635038727649056328816345231966305319547916979588120448628068862913245412710558484397151797846473782778909692017204511425046889131635822991325729207733067713440999498014550230647624608875350960121108922731771955827941399007446559070663637328485398672834560]
def v2:AV:=.tuple [.agg [.int .i64 2,.int .i64 0,.int .u32 2,.int .u32 0,.int .u64 5,bs 104 0],.int .i64 0]
def M2:Ev.b7a:=M1.add 97 a2 v2
noncomputable def TM2:Ev.a0k:=TB.a2s (Ev.b4n M2 b1d)
def a3:List AV:=[.int .i64 128,.int .u32 0,bs 128 0]
def v3:AV:=.tuple [.agg [.int .i64 0,.int .i64 0,.int .u32 0,.int .u32 0,.int .u64 0,.str []],.int .i64 4]
def M3:Ev.b7a:=M2.add 97 a3 v3
noncomputable def TM3:Ev.a0k:=TB.a2s (Ev.b4n M3 b1d)
def a4:List AV:=[.int .i64 128,.int .u32 1,bs 128 0]
def v4:AV:=.tuple [.agg [.int .i64 0,.int .i64 0,.int .u32 0,.int .u32 0,.int .u64 0,.str []],.int .i64 4]
def M4:Ev.b7a:=M3.add 97 a4 v4
noncomputable def TM4:Ev.a0k:=TB.a2s (Ev.b4n M4 b1d)
def a5:List AV:=[]
def v5:AV:=.bool true
def M5:Ev.b7a:=M4.add 6 a5 v5
noncomputable def TM5:Ev.a0k:=TB.a2s (Ev.b4n M5 b1d)
end Go.Proofs.YtejfbaecadbdiaaGreat
