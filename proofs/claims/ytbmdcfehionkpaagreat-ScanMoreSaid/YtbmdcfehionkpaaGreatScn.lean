/- What the functions of this part answer at any input, told by the rules over the evaluator. Conditions: those that each theorem states. -/
import Derived.Test.YtbmdcfehionkpaaGreatGao
import Derived.Test.YtbmdcfehionkpaaGreatRf1
import Derived.Test.YtbmdcfehionkpaaGreatDen
open Go Ev
namespace Go.Proofs.YtbmdcfehionkpaaGreat
set_option maxRecDepth 10000
set_option linter.unusedVariables false
set_option linter.unusedSimpArgs false
set_option maxHeartbeats 4000000
set_option linter.unusedVariables false
/-! ### scan.Each$1 -/
theorem of_g {n : Nat} (k : Int) (h : Heap) : Gives (TV n) 99 [.int .i64 k] h (fun v h' => v = .func (.func 126) [] [.ptr h.next 0] ∧ h' = h.alloc (.cells 3 [.int .i64 k] true)) := by
  refine call_j (no_w rfl rfl) rfl rfl ?_
  refine walk ?_
  exact jg_ret1 (by exact hres) ⟨rfl, rfl⟩
theorem try_g {n : Nat} (hn : 8 < n) {z : Int} {img : List UInt8} {p b : Nat} {k : Int} {h : Heap} (hi : img.length < 1000000) (hp : p < 4294967296) (hk : h.ok) (gb : h.get b = some (.cells 3 [.int .i64 k] true)) (hb : b < h.next) :
    Gives (TV n) 126 [.agg [.int .i64 z, .str img], .int .u32 p, .ptr b 0] h (fun v h' => v = .tuple [(rightR z img p k).1.av, .bool (rightR z img p k).2] ∧ Ext h h') := by
  refine call_j (no_w rfl rfl) rfl rfl ?_
  have w1 := Right_w (n := n) (by omega) z img p k hi hp
  have hb2 : b ≠ h.next := by omega
  have hb3 : b ≠ h.next + 1 := by omega
  refine walk ?_
  exact jg_ret2 (by exact hres) ⟨rfl, by exact hext⟩
/-- what a page can be: a closure for each kind -/
def clo (b : Nat) : List AV := [.func (.func 126) [] [.ptr b 0]]
def KindAt (h : Heap) (bs : List Nat) : Prop := ∀ i b, bs[i]? = some b → b < h.next ∧ h.get b = some (.cells 3 [.int .i64 (2 + i : Nat)] true)
theorem tries_g {n : Nat} {h : Heap} (hk : h.ok) : Gives (TV n) 70 [] h (fun v h' => ∃ bs, bs.length = 5 ∧ Ext h h' ∧ KindAt h' bs ∧ (∀ b ∈ bs, h.next ≤ b) ∧ OwnLS clo 143 1 (h.next ≤ ·) h' v bs) := by
  refine call_j (no_w rfl rfl) rfl rfl ?_
  refine walk ?_
  refine jg_loop (ι := List Nat × (Nat → Prop) × AV) (fun a => 5 - a.1.length) (fun a => [(1, a.2.2), (2, .int .i64 (2 + a.1.length : Nat))]) (fun a h2 => a.1.length ≤ 5 ∧ Ext h h2 ∧ KindAt h2 a.1 ∧ (∀ b ∈ a.1, h.next ≤ b ∧ ¬ a.2.1 b) ∧ (∀ c, a.2.1 c → h.next ≤ c ∧ c < h2.next) ∧ OwnLS clo 143 1 a.2.1 h2 a.2.2 a.1) ([], (fun _ => False), .nilslice) hsub ⟨by decide, .refl _, fun i b q => by simp at q, fun b q => by simp at q, fun c q => q.elim, .nil⟩ ?_
  rintro ⟨bs, S, u⟩ h2 ⟨hl, x2, ka, kb, kc, ow⟩ next
  dsimp only at hl ka kb kc ow next ⊢
  have k2 := x2.ok hk
  have nx := x2.nx
  by_cases c : bs.length < 5
  case neg =>
    refine walk ?_
    exact jg_ret1 (by exact hres) ⟨bs, by omega, x2, ka, fun b q => (kb b q).1, ow.mono fun c q _ => (kc c q).1⟩
  refine walk ?_
  refine jo_call (of_g _ _) rfl rfl rfl rfl ?_
  rintro _ _ ⟨rfl, rfl⟩
  refine walk ?_
  obtain ⟨v7, h7, e7, o7, t7⟩ := app_row_s (T := TV n) (st := 141) (rest := [141]) (h := (h2.alloc (.cells 3 [.int .i64 (2 + bs.length : Nat)] true)).alloc (.cells 143 (clo h2.next) true)) (x := h2.next) ((ow.keep (h' := (h2.alloc (.cells 3 [.int .i64 (2 + bs.length : Nat)] true)).alloc (.cells 143 (clo h2.next) true)) (fun c q hl => by rw [Heap.ga _ _ _ (by show c ≠ h2.next + 1; omega), Heap.ga _ _ _ (by omega)]) (by show h2.next ≤ h2.next + 1 + 1; omega))) (get_new _ _) (by show h2.next + 1 < h2.next + 1 + 1; omega) (by omega) rfl rfl rfl rfl rfl (by exact Nat.le_of_ble_eq_true rfl) rfl (by decide) rfl
  have e : ((2 + bs.length : Nat) : Int) + 1 = ((2 + (bs ++ [h2.next]).length : Nat) : Int) := by simp; omega
  have n7 : h2.next + 1 + 1 ≤ h7.next := t7.nx
  have y7 : ∀ c, c < h2.next → ¬ S c → h7.get c = h2.get c := fun c hc hs => (t7.old c (by show c < h2.next + 1 + 1; omega) hs).trans ((Heap.ga _ _ _ (by show c ≠ h2.next + 1; omega)).trans (Heap.ga _ _ _ (by omega)))
  have ns : ¬ S h2.next := fun q => Nat.lt_irrefl _ (kc _ q).2
  have g7 : h7.get h2.next = some (.cells 3 [.int .i64 (2 + bs.length : Nat)] true) := (t7.old h2.next (by show h2.next < h2.next + 1 + 1; omega) ns).trans ((Heap.ga _ _ _ (by show h2.next ≠ h2.next + 1; omega)).trans (get_new _ _))
  refine walk ?_
  rw [e]
  refine next (bs ++ [h2.next], (fun c => (S c ∨ h2.next + 1 + 1 ≤ c) ∧ c < h7.next), v7) (by simp only [List.length_append, List.length_cons, List.length_nil]; omega) (by exact hsub) ⟨by simp; omega, ⟨by omega, fun c hc => (y7 c (by omega) (fun q => by have := (kc c q).1; omega)).trans (x2.old c hc), fun _ => t7.ok (ok_al (ok_al k2 _) _)⟩, ?_, ?_, ?_, o7.mono fun c q r => ⟨q, r⟩⟩
  · intro i b q
    rcases Nat.lt_or_ge i bs.length with r | r
    · rw [List.getElem?_append_left r] at q
      obtain ⟨q1, q2⟩ := ka i b q
      exact ⟨by omega, (y7 b q1 (kb b (List.mem_of_getElem? q)).2).trans q2⟩
    · have hi : i = bs.length := by
        have := (List.getElem?_eq_some_iff.1 q).1
        simp at this
        omega
      subst hi
      simp at q
      subst q
      exact ⟨by omega, g7⟩
  · intro b q
    rcases List.mem_append.1 q with q | q
    · obtain ⟨i, hi⟩ := List.getElem?_of_mem q
      have := (ka i b hi).1
      exact ⟨(kb b q).1, fun r => by rcases r.1 with r | r; exact (kb b q).2 r; omega⟩
    · obtain rfl := List.mem_singleton.1 q
      exact ⟨nx, fun r => by rcases r.1 with r | r; exact ns r; omega⟩
  · rintro c ⟨q, r⟩
    refine ⟨?_, r⟩
    rcases q with q | q
    · exact (kc c q).1
    · omega
/-! ### what is told -/
structure Rt where
  page : Nat
  kind : Int
  tx : Nat
  deriving DecidableEq
def Rt.cs (r : Rt) : List AV := [.int .u32 r.page, .int .i64 r.kind, .int .u64 r.tx]
noncomputable def rtOf (z : Int) (img : List UInt8) (p : Nat) (k : Int) : List Rt := if (rightR z img p k).2 = true then [⟨(rightR z img p k).1.page, (rightR z img p k).1.kind, (rightR z img p k).1.tx⟩] else []
noncomputable def scanN (z : Int) (img : List UInt8) (p j : Nat) : List Rt := (List.range j).flatMap fun i => rtOf z img p (2 + i : Nat)
noncomputable def scanTo (z : Int) (img : List UInt8) (i : Nat) : List Rt := (List.range i).flatMap fun q => scanN z img (2 + q) 5
noncomputable def scanR (z : Int) (img : List UInt8) : List Rt := scanTo z img (pages z img - 2)
theorem rtOf_len (z : Int) (img : List UInt8) (p : Nat) (k : Int) : (rtOf z img p k).length ≤ 1 := by unfold rtOf; split <;> simp
theorem scanN_succ (z : Int) (img : List UInt8) (p j : Nat) : scanN z img p (j + 1) = scanN z img p j ++ rtOf z img p (2 + j : Nat) := by unfold scanN; rw [List.range_succ, List.flatMap_append]; simp
theorem scanTo_succ (z : Int) (img : List UInt8) (i : Nat) : scanTo z img (i + 1) = scanTo z img i ++ scanN z img (2 + i) 5 := by unfold scanTo; rw [List.range_succ, List.flatMap_append]; simp
theorem scanN_len (z : Int) (img : List UInt8) (p : Nat) : ∀ j, (scanN z img p j).length ≤ j
  | 0 => by simp [scanN]
  | j + 1 => by
    rw [scanN_succ, List.length_append]
    have := scanN_len z img p j
    have := rtOf_len z img p (2 + j : Nat)
    omega
theorem scanTo_len (z : Int) (img : List UInt8) : ∀ i, (scanTo z img i).length ≤ 5 * i
  | 0 => by simp [scanTo]
  | i + 1 => by
    rw [scanTo_succ, List.length_append]
    have := scanTo_len z img i
    have := scanN_len z img (2 + i) 5
    omega
structure ScnI (z : Int) (img : List UInt8) (bs : List Nat) (I : (Nat → Prop) → List Rt → Heap → Prop) (S0 : Nat → Prop) (h0 : Heap) (bf : Nat) (w : AV) (acc : List Rt) (S : Nat → Prop) (h : Heap) : Prop where
  t : Ev.Touch S0 h0 h
  k : h.ok
  i : I S acc h
  low : ∀ c, S c → c < h.next
  s : ∀ c, S c → S0 c ∨ h0.next ≤ c
  ka : KindAt h bs
  kb : ∀ b ∈ bs, ¬ S b
  fl : bf < h.next
  fn : ¬ S bf
  fg : h.get bf = some (.cells 140 [.int .i64 z, .str img] true)
  ow : OwnLS clo 143 1 (fun c => ¬ S c ∧ c < h.next) h w bs
theorem ScnI.ext {T : Ev.Tabs} {l : Nat} {z : Int} {img : List UInt8} {bs : List Nat} {I : (Nat → Prop) → List Rt → Heap → Prop} {S0 S : Nat → Prop} {h0 h h' : Heap} {bf : Nat} {w : AV} {acc : List Rt} (yl : Yld T l Rt.cs I) (e : ScnI z img bs I S0 h0 bf w acc S h) (x : Ext h h') : ScnI z img bs I S0 h0 bf w acc S h' := by
  have nx := x.nx
  have nt := e.t.nx
  exact { t := ⟨by omega, fun c hc hh => (x.old c (by omega)).trans (e.t.old c hc hh), fun _ => x.ok e.k⟩, k := x.ok e.k, i := yl.stable S acc h h' e.i nx (fun c _ hl => x.old c hl) x.ok, low := (fun c q => Nat.lt_of_lt_of_le (e.low c q) nx), s := e.s, ka := (fun i b q => ⟨Nat.lt_of_lt_of_le (e.ka i b q).1 nx, (x.old _ (e.ka i b q).1).trans (e.ka i b q).2⟩), kb := e.kb, fl := Nat.lt_of_lt_of_le e.fl nx, fn := e.fn, fg := (x.old _ e.fl).trans e.fg, ow := (e.ow.keep (h' := h') (fun c _ hl => x.old c hl) nx).mono fun c q _ => ⟨q.1, Nat.lt_of_lt_of_le q.2 nx⟩ }
theorem ScnI.yield {T : Ev.Tabs} {l : Nat} {z : Int} {img : List UInt8} {bs : List Nat} {I : (Nat → Prop) → List Rt → Heap → Prop} {S0 S S' : Nat → Prop} {h0 h h' : Heap} {bf : Nat} {w : AV} {acc acc' : List Rt} (yl : Yld T l Rt.cs I) (e : ScnI z img bs I S0 h0 bf w acc S h) (x : Ev.Touch S h h') (s' : ∀ c, S' c → S c ∨ h.next ≤ c) (i' : I S' acc' h') : ScnI z img bs I S0 h0 bf w acc' S' h' := by
  have nx := x.nx
  have nt := e.t.nx
  have nS : ∀ c, c < h.next → ¬ S c → ¬ S' c := fun c hc hh q => by
    rcases s' c q with r | r
    · exact hh r
    · omega
  have kl : ∀ i b, bs[i]? = some b → b ∈ bs := fun i b q => List.mem_of_getElem? q
  exact { t := ⟨by omega, fun c hc hh => (x.old c (by omega) (fun q => by rcases e.s c q with r | r; exact hh r; omega)).trans (e.t.old c hc hh), fun _ => x.ok e.k⟩, k := x.ok e.k, i := i', low := yl.low S' acc' h' i', s := (fun c q => by rcases s' c q with r | r; exact e.s c r; exact .inr (by omega)), ka := (fun i b q => ⟨Nat.lt_of_lt_of_le (e.ka i b q).1 nx, (x.old _ (e.ka i b q).1 (e.kb b (kl i b q))).trans (e.ka i b q).2⟩), kb := (fun b q => by obtain ⟨i, hi⟩ := List.getElem?_of_mem q; exact nS b (e.ka i b hi).1 (e.kb b q)), fl := Nat.lt_of_lt_of_le e.fl nx, fn := nS _ e.fl e.fn, fg := (x.old _ e.fl e.fn).trans e.fg, ow := (e.ow.keep (h' := h') (fun c q hl => x.old c hl q.1) nx).mono fun c q _ => ⟨nS c q.2 q.1, Nat.lt_of_lt_of_le q.2 nx⟩ }
end Go.Proofs.YtbmdcfehionkpaaGreat
