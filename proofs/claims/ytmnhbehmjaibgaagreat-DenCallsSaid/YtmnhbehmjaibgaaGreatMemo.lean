/- The calls of the law that name no block answer what MemoD says, at any memory: the machine's word. -/
import Derived.Test.YtmnhbehmjaibgaaGreatMemoC1
namespace Go.Proofs.YtmnhbehmjaibgaaGreat
open Go Go.RowKit Ev
theorem f0f:Ev.a9n Tryz.prog M0:=.nil
theorem f0b:Ev.a9n Tryz.prog M1:=f0f.add (b0q.a2o _) (Ev.a9j f0f b0h) c1
theorem e9s:Ev.a9n Tryz.prog M2:=f0b.add (b0q.a2o _) (Ev.a9j f0b b0h) c2
theorem e9y:Ev.a9n Tryz.prog M3:=e9s.add (b0q.a2o _) (Ev.a9j e9s b0h) c3
theorem f0h:Ev.a9n Tryz.prog M4:=e9y.add (b0q.a2o _) (Ev.a9j e9y b0h) c4
theorem f3a (w:World):Calls Tryz.prog 7 #[] w fun e w'=>e=.returned (.bool true)∧Below w.heap.size w w' :=
 Ev.c8b (b0q.a2o _) (Ev.a9j f0h b0h) c5 w
end Go.Proofs.YtmnhbehmjaibgaaGreat
