/- The calls of the law that name no block, and what each answers (1 of them): no more than their names; that they are the program's is told in YthdlebegkhnbiaaGreatMemo. -/
import Derived.Test.YthdlebegkhnbiaaGreatGak
import Derived.Test.YthdlebegkhnbiaaGreatCrc
set_option linter.unusedVariables false
namespace Go.Proofs.YthdlebegkhnbiaaGreat
open Go Ev
def M0:Ev.Memo:=.nil
noncomputable def TM0:Ev.Tabs:=TB.withSm (Ev.memoSm M0 crcSm)
def a1:List AV:=[]
def v1:AV:=.bool true
def M1:Ev.Memo:=M0.add 5 a1 v1
noncomputable def TM1:Ev.Tabs:=TB.withSm (Ev.memoSm M1 crcSm)
end Go.Proofs.YthdlebegkhnbiaaGreat
