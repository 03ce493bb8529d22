/- The calls of the law that name no block answer what MemoD says, at any memory: the machine's word. -/
import Derived.Test.YtejfbaecadbdiaaGreatMemoC1
namespace Go.Proofs.YtejfbaecadbdiaaGreat
open Go Go.RowKit Ev
theorem e9w:Ev.a9s Tryz.prog M0:=.nil
theorem e9z:Ev.a9s Tryz.prog M1:=e9w.add (b0s.a2s _) (Ev.a9m e9w a9o) c1
theorem f0e:Ev.a9s Tryz.prog M2:=e9z.add (b0s.a2s _) (Ev.a9m e9z a9o) c2
theorem e9m:Ev.a9s Tryz.prog M3:=f0e.add (b0s.a2s _) (Ev.a9m f0e a9o) c3
theorem e9y:Ev.a9s Tryz.prog M4:=e9m.add (b0s.a2s _) (Ev.a9m e9m a9o) c4
theorem f2w (w:World):Calls Tryz.prog 6 #[] w fun e w'=>e=.returned (.bool true)∧Below w.heap.size w w' :=
 Ev.c8n (b0s.a2s _) (Ev.a9m e9y a9o) c5 w
end Go.Proofs.YtejfbaecadbdiaaGreat
