/- What the functions of this part answer at any input, told by the rules over the evaluator. Conditions: those that each theorem states. -/
import Derived.Test.YthdlebegkhnbiaaGreatEaw
open Go Ev
namespace Go.Proofs.YthdlebegkhnbiaaGreat
set_option maxRecDepth 10000
set_option linter.unusedVariables false
set_option linter.unusedSimpArgs false
set_option maxHeartbeats 4000000
set_option linter.unusedVariables false
/-! ### walk.Walk -/
def zeroSn : Sn := ⟨⟨0, 0, 0, 0, 0, [], [], false⟩, 0, Pg.zero⟩
/-- a sequence: with any yield that keeps its promise it tells what Ψ says -/
def SeqOf {α : Type} (T : Ev.Tabs) (g : FuncId) (cap : List AV) (enc : α → List AV) (h0 : Heap) (Ψ : List α → Prop) : Prop :=
  ∀ (l : Nat) (I : (Nat → Prop) → List α → Heap → Prop) (S0 : Nat → Prop) (h : Heap), Yld T l enc I → h.ok → Ext h0 h → I S0 [] h → (∀ c, S0 c → h0.next ≤ c) → Gives T g ([.func (.yield l) [] []] ++ cap) h (fun v h' => v = .tuple [] ∧ ∃ S acc, Ev.Touch S0 h h' ∧ h'.ok ∧ I S acc h' ∧ (∀ c, S c → S0 c ∨ h.next ≤ c) ∧ acc.length ≤ 300000 ∧ Ψ acc)
theorem appSeq_g {n : Nat} {g : FuncId} {cap : List AV} {F : Func} {c : Code} {h0 : Heap} {Ψ : List Sn → Prop} (hF : (TV n).fn g = some F) (hb : F.body = some c) (hk : h0.ok) (sp : SeqOf (TV n) g cap Sn.cs h0 Ψ) :
    Gives (TV n) 22 [.nilslice, .func (.func g) [] cap] h0 (fun v h' => ∃ acc, Ext h0 h' ∧ OwnLS Sn.cs 34 15 (h0.next ≤ ·) h' v acc ∧ acc.length ≤ 300000 ∧ Ψ acc) := by
  refine call_jl (no_w rfl rfl) rfl rfl ?_
  refine walk ?_
  refine jg_range (P := fun h4 => ∃ acc u, Ext h0 h4 ∧ h4.ok ∧ h0.next + 3 ≤ h4.next ∧ h4.get h0.next = some (.cells 25 [u] true) ∧ h4.get (h0.next + 1) = some (.dfr (some [])) ∧ (∃ fn tm nt ps as' bd dd, h4.get (h0.next + 1 + 1) = some (.loop .ready none fn tm nt ps as' bd dd)) ∧ OwnLS Sn.cs 34 15 (fun c => h0.next ≤ c ∧ c ≠ h0.next ∧ c ≠ h0.next + 1 + 1 ∧ c ≠ h0.next + 1) h4 u acc ∧ acc.length ≤ 300000 ∧ Ψ acc) rfl rfl hF hb ?_ ?_
  · intro tm hs
    have hs2 : Sees tm [(2, .ptr h0.next 0)] := hs.sub hsub
    refine Gives.mono (sp _ (SeqI Sn.cs 25 34 15 h0.next (h0.next + 1 + 1) (h0.next + 1) _) (fun c => h0.next ≤ c ∧ c < h0.next + 3) _ (seq_yld (p := 7) rfl ?_) (by exact hok) (by exact hext) ⟨fun c q => q.2, by constructor <;> omega, by constructor <;> omega, by constructor <;> omega, by omega, by omega, by omega, get_new _ _, by exact hget, .nilslice, by exact hget, .nil⟩ (fun c q => q.1)) ?_
    · intro S acc s h la i
      obtain ⟨u, gb, ow⟩ := i.own
      have lb := i.low _ i.sb
      have ll := i.low _ i.sl
      have ld := i.low _ i.sd
      have gl := i.gl
      have gd := i.gd
      obtain ⟨v6, h6, e6, ⟨vc6, vo6⟩, g6, gl6, t6, S6, s6, i6⟩ := seq_end (T := TV n) (rest := [25]) s (.cells 34 zeroSn.cs true) (.cells 34 s.cs true) i gb ow (by omega) rfl rfl rfl rfl rfl (by exact Nat.le_of_ble_eq_true rfl) rfl (by decide) rfl
      refine round_of (hs2.set 7 _) ?_
      refine walk ?_
      refine jg_nil fun tm1 hs1 => ⟨tm1, _, _, none, _, _, _, _, _, _, _, rfl, hs1, by exact hget, ?_⟩
      refine walk ?_
      exact jg_nil fun tm3 hs3 => ⟨_, _, _, none, _, _, _, _, _, _, _, rfl, gl6, rfl, t6, S6, s6, i6⟩
    · rintro _ h' ⟨rfl, S, acc, t, k, i, s, la, ψ⟩
      obtain ⟨u, gb, ow⟩ := i.own
      exact ⟨acc, u, ⟨by have := t.nx; have : h0.next + 1 + 1 + 1 ≤ h'.next := this; omega, fun c hc => by rw [t.old c (by show c < h0.next + 1 + 1 + 1; omega) (fun q => by omega)]; exact (Heap.ga _ _ _ (by show c ≠ h0.next + 1 + 1; omega)).trans ((Heap.ga _ _ _ (by show c ≠ h0.next + 1; omega)).trans (Heap.ga _ _ _ (by omega))), fun _ => k⟩, k, t.nx, gb, i.gd, ⟨_, _, _, _, _, _, _, i.gl⟩, ow.mono fun c q _ => ⟨by rcases s c q.1 with r | r; exact r.1; (have r : h0.next + 1 + 1 + 1 ≤ c := r; omega), q.2⟩, la, ψ⟩
  · rintro h4 ⟨acc, u, x4, k4, n4, gb, gd, ⟨fn, tm, nt, ps, as', bd, dd, gl⟩, ow, la, ψ⟩
    refine ⟨_, fn, tm, nt, ps, as', bd, dd, gl, (by intro c; cases c), ?_⟩
    refine walk ?_
    refine jg_fin fun tm2 hs => ?_
    refine leave_collected (by exact hget) (leave_ret (vs := [u]) hs rfl rfl ⟨_, _, rfl, acc, ?_, ?_, la, ψ⟩)
    · exact Ext.st (Ext.st x4 _ _ (by show h0.next ≤ h0.next + 1 + 1; omega) (by show h0.next + 1 + 1 < h4.next; omega)) _ _ (by show h0.next ≤ h0.next + 1; omega) (by show h0.next + 1 < h4.next; omega)
    · refine OwnS.mono (OwnS.keep ow (fun c q _ => ?_) (Nat.le_refl _)) fun c q _ => q.1
      rw [Heap.gn _ _ _ _ (by show c ≠ h0.next + 1; omega), Heap.gn _ _ _ _ (by show c ≠ h0.next + 1 + 1; omega)]
def RunR (z : Int) (img : List UInt8) (root : Nat) (acc : List Sn) : Prop := root = 0 ∧ acc = [] ∨ root ≠ 0 ∧ Run z img [] [root0 root] acc
theorem wEach_g {n : Nat} (z : Int) (img : List UInt8) (root : Nat) (h : Heap) : Gives (TV n) 13 [.int .i64 z, .str img, .int .u32 root] h (fun v h' => v = .func (.func 23) [] [.ptr (h.next + 2) 0, .ptr h.next 0, .ptr (h.next + 1) 0] ∧ h' = ((h.alloc (.cells 3 [.int .i64 z] true)).alloc (.cells 9 [.str img] true)).alloc (.cells 22 [.int .u32 root] true)) := by
  refine call_j (no_w rfl rfl) rfl rfl ?_
  refine walk ?_
  exact jg_ret1 (by exact hres) ⟨rfl, rfl⟩
theorem each_seq {n : Nat} (hn : 9 < n) {z : Int} {img : List UInt8} {root b1 b2 b3 : Nat} {h0 : Heap} (hi : img.length ≤ 5000) (hr : root < 4294967296)
    (g1 : h0.get b1 = some (.cells 22 [.int .u32 root] true)) (g2 : h0.get b2 = some (.cells 3 [.int .i64 z] true)) (g3 : h0.get b3 = some (.cells 9 [.str img] true)) (l1 : b1 < h0.next) (l2 : b2 < h0.next) (l3 : b3 < h0.next) :
    SeqOf (TV n) 23 [.ptr b1 0, .ptr b2 0, .ptr b3 0] Sn.cs h0 (RunR z img root) := by
  intro l I S0 h yl hk x i0 s0
  have nx := x.nx
  exact each1_g hn yl hk hi hr i0 ((x.old _ l1).trans g1) ((x.old _ l2).trans g2) ((x.old _ l3).trans g3) (fun q => by have := s0 _ q; omega) (fun q => by have := s0 _ q; omega) (fun q => by have := s0 _ q; omega) (by omega) (by omega) (by omega)
theorem collect_g {n : Nat} {g : FuncId} {cap : List AV} {F : Func} {c : Code} {h0 : Heap} {Ψ : List Sn → Prop} (hF : (TV n).fn g = some F) (hb : F.body = some c) (hk : h0.ok) (sp : SeqOf (TV n) g cap Sn.cs h0 Ψ) :
    Gives (TV n) 12 [.func (.func g) [] cap] h0 (fun v h' => ∃ acc, Ext h0 h' ∧ OwnLS Sn.cs 34 15 (h0.next ≤ ·) h' v acc ∧ acc.length ≤ 300000 ∧ Ψ acc) := by
  refine call_j (no_w rfl rfl) rfl rfl ?_
  refine walk ?_
  refine jo_call (appSeq_g hF hb hk sp) rfl rfl rfl rfl ?_
  intro v h1 p
  refine walk ?_
  exact jg_ret1 (by exact hres) p
theorem walk_g {n : Nat} (hn : 9 < n) {z : Int} {img : List UInt8} {root : Nat} {h : Heap} (hk : h.ok) (hi : img.length ≤ 5000) (hr : root < 4294967296) : Gives (TV n) 7 [.int .i64 z, .str img, .int .u32 root] h (fun v h' => ∃ acc, Ext h h' ∧ OwnLS Sn.cs 34 15 (h.next ≤ ·) h' v acc ∧ acc.length ≤ 300000 ∧ RunR z img root acc) := by
  refine call_j (no_w rfl rfl) rfl rfl ?_
  refine walk ?_
  refine jo_call (wEach_g z img root _) rfl rfl rfl rfl ?_
  rintro _ _ ⟨rfl, rfl⟩
  refine walk ?_
  refine jo_call (collect_g rfl rfl (by exact hok) (each_seq (n := n) hn (z := z) (img := img) (root := root) hi hr (by exact hget) (by exact hget) (by exact hget) (by show h.next + 2 < h.next + 1 + 1 + 1; omega) (by show h.next < h.next + 1 + 1 + 1; omega) (by show h.next + 1 < h.next + 1 + 1 + 1; omega))) rfl rfl rfl rfl ?_
  rintro v h1 ⟨acc, x, o, la, ψ⟩
  refine walk ?_
  exact jg_ret1 (by exact hres) ⟨acc, Ext.trans (by exact hext) x, o.mono fun c q _ => by have q : h.next + 1 + 1 + 1 ≤ c := q; omega, la, ψ⟩
end Go.Proofs.YthdlebegkhnbiaaGreat
