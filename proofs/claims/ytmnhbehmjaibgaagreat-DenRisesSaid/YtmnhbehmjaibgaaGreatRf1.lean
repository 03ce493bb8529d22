/- What the functions of this part answer at any input, told by the rules over the evaluator. Conditions: those that each theorem states. -/
import Derived.Test.YtmnhbehmjaibgaaGreatLv
import Derived.Test.YtmnhbehmjaibgaaGreatOvr
set_option linter.unusedVariables false
set_option linter.unusedSimpArgs false
open Go Ev
namespace Go.Proofs.YtmnhbehmjaibgaaGreat
set_option maxRecDepth 10000
set_option maxHeartbeats 4000000
theorem rgood_w {n:Nat} (hn:0<n) (s:Int) (h:Heap):(TV n).sm 38 [.int .i64 s] h=some (.bool (decide (Good s)),h):=by
 refine w_of hn rfl rfl rfl fun n hn=>body_j rfl rfl ?_
 unfold Good
 exact auto
theorem rpages_w {n:Nat} (hn:1<n) (s:Int) (img:List UInt8) (hi:img.length<9223372036854775808) (h:Heap):(TV n).sm 10 [.int .i64 s,.str img] h=some (.int .i64 (pages s img),h):=by
 refine w_of hn rfl rfl rfl fun n hn=>body_j rfl rfl ?_
 have w1:=rgood_w (n:=n) (by omega) s
 unfold pages
 by_cases g:Good s
 ·rw [decide_eq_true g] at w1
  have g1:=g.1
  have g2:=g.2.1
  have e:(img.length:Int).tdiv s=((img.length / s.toNat:Nat):Int):=by
   obtain ⟨m,rfl⟩:=Int.eq_ofNat_of_zero_le (show 0≤s by omega)
   rfl
  have hq:img.length / s.toNat≤img.length:=Nat.div_le_self _ _
  rw [if_pos g,← e]
  have hq0:(0:Int)≤(img.length / s.toNat:Nat):=Int.natCast_nonneg _
  rw [← Int.ofNat_le,← e] at hq
  rw [← e] at hq0
  exact auto
 ·rw [if_neg g]
  rw [decide_eq_false g] at w1
  exact auto
set_option maxRecDepth 10000
set_option maxHeartbeats 4000000
theorem light_w {n:Nat} (hn:0<n) (img:List UInt8) (hi:img.length<9223372036854775808) (h:Heap):(TV n).sm 8 [.str img] h=some (.bool (decide (img.length≤5000)),h):=by
 refine w_of hn rfl rfl rfl fun n hn=>body_j rfl rfl ?_
 refine walk ?_
 exact jg_ret1 (by exact hres) (av_d (by omega))
end Go.Proofs.YtmnhbehmjaibgaaGreat
