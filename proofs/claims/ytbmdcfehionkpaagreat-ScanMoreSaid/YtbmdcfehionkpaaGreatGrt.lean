/- What the functions of this part answer at any input, told by the rules over the evaluator. Conditions: those that each theorem states. -/
import Derived.Test.YtbmdcfehionkpaaGreatGap
import Derived.Test.YtbmdcfehionkpaaGreatMof
import Derived.Test.YtbmdcfehionkpaaGreatScp
open Go Ev
namespace Go.Proofs.YtbmdcfehionkpaaGreat
set_option maxRecDepth 10000
set_option linter.unusedVariables false
set_option linter.unusedSimpArgs false
set_option maxHeartbeats 4000000
set_option linter.unusedVariables false
/-! ### scan.Greatest -/
def gmax (l : List Rt) : Nat := l.foldl (fun m r => max m r.tx) 0
theorem gmax_add (l : List Rt) (r : Rt) : gmax (l ++ [r]) = max (gmax l) r.tx := by simp [gmax]
theorem ifmax (x y : Nat) : (if (y : Int) > (x : Int) then (y : Int) else (x : Int)) = ((max x y : Nat) : Int) := by split <;> omega
def upM (m : Nat) (x : Mt × Bool) : Nat := if x.2 = true then max m x.1.tx else m
def mAtG (m : Nat) (a b : Mt × Bool) (i : Nat) : Nat := if i = 0 then m else if i = 1 then upM m a else upM (upM m a) b
noncomputable def greatR (z : Int) (img : List UInt8) : Nat := upM (upM (gmax (scanR z img)) (metaR z img 0)) (metaR z img 1)
theorem great_g {n : Nat} (hn : 8 < n) {z : Int} {img : List UInt8} {h : Heap} (hk : h.ok) (hi : img.length ≤ 20000) : Gives (TV n) 18 [.int .i64 z, .str img] h (fun v h' => v = .int .u64 (greatR z img) ∧ Ext h h') := by
  refine call_jl (no_w rfl rfl) rfl rfl ?_
  refine walk ?_
  refine jo_call (sEach_g z img _) rfl rfl rfl rfl ?_
  rintro _ _ ⟨rfl, rfl⟩
  refine walk ?_
  refine GJ.gen [(0, .int .i64 z), (1, .str img), (5, .ptr h.next 0), (13, .func (.func 69) [] [.ptr (h.next + 1) 0, .ptr (h.next + 1 + 1) 0])] (fun g => Ext h g ∧ g.ok ∧ g.next = h.next + 1 + 1 + 1 ∧ g.get h.next = some (.cells 28 [.int .u64 0] true) ∧ g.get (h.next + 1) = some (.cells 3 [.int .i64 z] true) ∧ g.get (h.next + 1 + 1) = some (.cells 9 [.str img] true)) (by exact hsub) ⟨by exact hext, by exact hok, rfl, by exact hget, by exact hget, by exact hget⟩ ?_
  rintro g ⟨xg, kg, ng, gb, g1, g2⟩
  refine jg_range (P := fun h4 => Ext h h4 ∧ h4.ok ∧ g.next + 2 ≤ h4.next ∧ h4.get h.next = some (.cells 28 [.int .u64 (gmax (scanR z img))] true) ∧ h4.get g.next = some (.dfr (some [])) ∧ (∃ fn tm nt ps as' bd dd, h4.get (g.next + 1) = some (.loop .ready none fn tm nt ps as' bd dd))) rfl rfl rfl rfl ?_ ?_
  · intro tm hs
    have hs2 : Sees tm [(5, .ptr h.next 0)] := hs.sub hsub
    refine Gives.mono (scan1_g (n := n) hn (z := z) (img := img) (b1 := h.next + 1) (b2 := h.next + 1 + 1) (I := BoxI (fun l => [.int .u64 (gmax l)]) 28 h.next (g.next + 1) g.next _) (S0 := fun c => c = h.next ∨ g.next ≤ c ∧ c < g.next + 2) (box_yld (p := 14) rfl ?_) (by exact hok) hi ⟨?_, .inl rfl, by right; omega, by right; omega, by omega, by omega, by omega, get_new _ _, by exact hget, by exact hget⟩ (by exact hget) (by exact hget) (by omega) (by omega) (by show h.next + 1 < g.next + 1 + 1; omega) (by show h.next + 1 + 1 < g.next + 1 + 1; omega)) ?_
    · intro S acc s h2 la i
      have lb := i.low _ i.sb
      have ll := i.low _ i.sl
      have ld := i.low _ i.sd
      have gl := i.gl
      have gd := i.gd
      have gbx := i.gb
      have n1 := i.n1
      have n2 := i.n2
      have n3 := i.n3
      refine round_of (hs2.set 14 _) ?_
      refine walk ?_
      refine jg_nil fun tm1 hs1 => ⟨tm1, _, _, none, _, _, _, _, _, _, _, rfl, hs1, by exact hget, ?_⟩
      refine walk ?_
      refine jg_nil fun tm3 hs3 => ⟨_, _, _, none, _, _, _, _, _, _, _, rfl, by exact hget, rfl, ⟨by show h2.next ≤ h2.next + 1; omega, fun c hc hh => ?_, fun k => by exact hok⟩, S, fun c q => .inl q, fun c q => by have := i.low c q; show c < h2.next + 1; omega, i.sb, i.sl, i.sd, i.n1, i.n2, i.n3, by exact Heap.gs _ _ _, by exact hget, ?_⟩
      · have c1 : c ≠ h.next := fun e => hh (by rw [e]; exact i.sb)
        have c2 : c ≠ g.next + 1 := fun e => hh (by rw [e]; exact i.sl)
        have c3 : c ≠ h2.next := by omega
        exact (Heap.gn _ _ _ _ c2).trans ((Heap.gn _ _ _ _ c1).trans ((Heap.gn _ _ _ _ c2).trans ((Heap.gn _ _ _ _ c3).trans (Heap.ga _ _ _ c3))))
      · rw [gmax_add, ← ifmax]
        exact hget
    · rintro c (q | q)
      · show c < g.next + 1 + 1; omega
      · show c < g.next + 1 + 1; omega
    · rintro _ h' ⟨rfl, S, acc, t, k, i, s, la, rfl⟩
      have tn : g.next + 1 + 1 ≤ h'.next := t.nx
      exact ⟨⟨by omega, fun c hc => by rw [t.old c (by show c < g.next + 1 + 1; omega) (fun q => by omega)]; exact (Heap.ga _ _ _ (by show c ≠ g.next + 1; omega)).trans ((Heap.ga _ _ _ (by omega)).trans (xg.old c hc)), fun _ => k⟩, k, tn, i.gb, i.gd, ⟨_, _, _, _, _, _, _, i.gl⟩⟩
  · rintro h4 ⟨x4, k4, n4, gb4, gd4, ⟨fn, tm, nt, ps, as', bd, dd, gl⟩⟩
    refine ⟨_, fn, tm, nt, ps, as', bd, dd, gl, (by intro c; cases c), ?_⟩
    have w1 := metBoth_w (n := n) (by omega) z img (by omega)
    have ge : greatR z img = upM (upM (gmax (scanR z img)) (metaR z img 0)) (metaR z img 1) := rfl
    unfold bothA at w1
    rw [ge]
    generalize metaR z img 0 = m0 at w1 ⊢
    generalize metaR z img 1 = m1 at w1 ⊢
    generalize gmax (scanR z img) = mx at gb4 ⊢
    obtain ⟨m0, r0⟩ := m0
    obtain ⟨m1, r1⟩ := m1
    dsimp only at w1 ⊢
    refine GJ.gen [(0, .int .i64 z), (1, .str img), (5, .ptr h.next 0)] (fun h5 => Ext h h5 ∧ h5.ok ∧ g.next + 2 ≤ h5.next ∧ h5.get h.next = some (.cells 28 [.int .u64 mx] true) ∧ h5.get g.next = some (.dfr (some []))) (by exact hsub) ⟨?_, by exact hok, n4, by exact hget, by exact hget⟩ ?_
    · exact Ext.st x4 _ _ (by omega) (by omega)
    clear x4 k4 n4 gb4 gd4 gl
    rintro h5 ⟨x5, k5, n5, gb5, gd5⟩
    refine walk ?_
    refine jg_loop (ι := Nat) (fun i => 2 - i) (fun i => [(5, .ptr h.next 0), (7, .ptr h5.next 0), (25, .agg [.bool r0, .bool r1]), (26, .int .i64 (i : Nat))]) (fun i h6 => i ≤ 2 ∧ Ext h h6 ∧ h6.ok ∧ h5.next + 2 ≤ h6.next ∧ h6.get h.next = some (.cells 28 [.int .u64 (mAtG mx (m0, r0) (m1, r1) i)] true) ∧ h6.get h5.next = some (.cells 44 (m0.cs ++ m1.cs) true) ∧ h6.get g.next = some (.dfr (some []))) 0 (by exact hsub) ⟨by omega, by exact hext, by exact hok, by show h5.next + 2 ≤ h5.next + 1 + 1; omega, by exact hget, by exact hget, by exact hget⟩ ?_
    rintro i h6 ⟨hi6, x6, k6, n6, gb6, gm6, gd6⟩ next
    by_cases c : i < 2
    case neg =>
      obtain rfl : i = 2 := by omega
      refine walk ?_
      refine jg_fin fun tm2 hs => ?_
      refine leave_collected (by exact hget) (leave_ret hs rfl rfl ⟨_, _, rfl, rfl, ?_⟩)
      exact Ext.st x6 _ _ (by omega) (by omega)
    rcases (by omega : i = 0 ∨ i = 1) with rfl | rfl
    · cases r0 with
      | false =>
        refine walk ?_
        refine next (1) (by omega) (by exact hsub) ⟨by omega, by exact hext, by exact hok, by show h5.next + 2 ≤ h6.next; omega, by exact hget, by exact hget, by exact hget⟩
      | true =>
        refine walk ?_
        refine jg_drawn (q := 7) (ms := [0, 0, 2, 6, 14, 31, 63]) (hl := [[32, 33, 34, 35], [31], [31], [31], [31], [], []]) hok rfl (by kernel_rfl) (by kernel_rfl) rfl ?_
        refine walk ?_
        refine next (1) (by omega) (by exact hsub) ⟨by omega, Ext.st (by exact hext) _ _ (Nat.le_refl _) (by show h.next < h6.next + 7; omega), ok_st (by exact hok) _ _ (by show h.next < h6.next + 7; omega), by show h5.next + 2 ≤ h6.next + 7; omega, ?_, by exact hget, by exact hget⟩
        refine (Heap.gs _ _ _).trans ?_
        show some (AObj.cells 28 [.int .u64 (if (m0.tx : Int) > (mx : Int) then (m0.tx : Int) else (mx : Int))] true) = some (.cells 28 [.int .u64 ((max mx m0.tx : Nat) : Int)] true)
        rw [ifmax]
    · cases r1 with
      | false =>
        refine walk ?_
        refine next (2) (by omega) (by exact hsub) ⟨by omega, by exact hext, by exact hok, by show h5.next + 2 ≤ h6.next; omega, by exact hget, by exact hget, by exact hget⟩
      | true =>
        refine walk ?_
        refine jg_drawn (q := 7) (ms := [0, 0, 2, 6, 14, 31, 63]) (hl := [[32, 33, 34, 35], [31], [31], [31], [31], [], []]) hok rfl (by kernel_rfl) (by kernel_rfl) rfl ?_
        refine walk ?_
        refine next (2) (by omega) (by exact hsub) ⟨by omega, Ext.st (by exact hext) _ _ (Nat.le_refl _) (by show h.next < h6.next + 7; omega), ok_st (by exact hok) _ _ (by show h.next < h6.next + 7; omega), by show h5.next + 2 ≤ h6.next + 7; omega, ?_, by exact hget, by exact hget⟩
        refine (Heap.gs _ _ _).trans ?_
        show some (AObj.cells 28 [.int .u64 (if (m1.tx : Int) > ((upM mx (m0, r0) : Nat) : Int) then (m1.tx : Int) else ((upM mx (m0, r0) : Nat) : Int))] true) = some (.cells 28 [.int .u64 ((max (upM mx (m0, r0)) m1.tx : Nat) : Int)] true)
        rw [ifmax]
end Go.Proofs.YtbmdcfehionkpaaGreat
