/- Candidates that came in, read; RankBest at none. Conditions: those that each theorem states. -/
import Derived.Test.YtebcbfpehalmjaaR2
import Derived.Test.YtebcbfpehalmjaaR3
import Derived.Test.YtebcbfpehalmjaaEvArg
open Go Ev
namespace Go.Proofs.Ytebcbfpehalmjaa
set_option maxRecDepth 10000
set_option linter.unusedVariables false
set_option linter.unusedSimpArgs false
theorem F3_nilslice (k : Int) (h : Heap) (hok : h.ok) : Gives TD 3 [.nilslice, .int .i64 k] h (fun v' h' => v' = .bool true ∧ Ext h h') := by
  refine call_of rfl rfl rfl fun tm hs => ?_
  refine go_seq (go_region ?_)
  refine ops_val hs rfl rfl rfl rfl fun tm hs => ?_
  refine ops_nil (go_seq (go_seq (go_region ?_)))
  refine ops_call hs rfl rfl rfl rfl (F5_gives h hok) ?_
  rintro _ h1 ⟨rfl, e1⟩ tm hs
  refine ops_val hs rfl rfl rfl rfl fun tm hs => ?_
  refine ops_nil (go_if hs rfl (fun hc => ?_) (fun _ => ?_))
  · cases hc
  refine go_skip (go_seq (go_seq (go_region ?_)))
  refine ops_val hs rfl rfl rfl rfl fun tm hs => ?_
  refine ops_val hs rfl rfl rfl rfl fun tm hs => ?_
  refine ops_val hs rfl rfl rfl rfl fun tm hs => ?_
  refine ops_nil (go_if hs rfl (fun hc => by cases hc) (fun hc => ?_))
  refine go_skip (go_seq (go_region ?_))
  refine ops_val hs rfl rfl rfl rfl fun tm hs => ?_
  refine ops_call hs rfl rfl rfl rfl (F7_gives _ 0 [] h1 ⟨rfl, rfl⟩ (by omega)) ?_
  rintro v2 h2 ⟨x2, e2⟩ tm hs
  have e2 := e1.trans e2
  refine ops_call hs rfl rfl rfl rfl (F6_gives [] v2 h2 (e2.ok hok) x2 (by decide)) ?_
  rintro _ h3 ⟨rfl, e3⟩ tm hs
  have e3 := e2.trans e3
  refine ops_val hs rfl rfl rfl rfl fun tm hs => ?_
  refine ops_val hs rfl rfl rfl rfl fun tm hs => ?_
  refine ops_val hs rfl rfl rfl rfl fun tm hs => ?_
  refine ops_val (h' := h3.alloc (.cells 27 (cells ⟨0, 0, false⟩) true)) hs rfl rfl rfl rfl fun tm hs => ?_
  refine ops_skip hs rfl rfl (o_storeN (n := 3) rfl rfl rfl rfl rfl (get_new _ _) (Nat.le_refl 3)) ?_
  refine ops_val hs rfl rfl rfl rfl fun tm hs => ?_
  have e4 : Ext h ((h3.alloc (.cells 27 (cells ⟨0, 0, false⟩) true)).set h3.next (.cells 27 (over (cells ⟨0, 0, false⟩) 0 (cells (bestGo []).1)) true)) := (e3.trans (Ext.alloc _ _)).setL e3.nx (by show h3.next < h3.next + 1; omega) _
  refine ops_nil ?_
  refine go_seq (go_seq (go_region ?_))
  refine ops_val hs rfl rfl rfl rfl fun tm hs => ?_
  refine ops_val hs rfl rfl rfl rfl fun tm hs => ?_
  refine ops_val hs rfl rfl rfl rfl fun tm hs => ?_
  refine ops_nil (go_if hs rfl (fun hc => ?_) (fun hc => by cases hc))
  refine go_seq (go_region ?_)
  refine ops_val hs rfl rfl rfl rfl fun tm hs => ?_
  refine ops_val hs rfl rfl rfl rfl fun tm hs => ?_
  refine ops_val hs rfl rfl rfl rfl fun tm hs => ?_
  exact ops_nil (go_ret (ends_ret hs rfl ⟨rfl, e4⟩))
theorem F3_eslice (k : Int) (h : Heap) (hok : h.ok) : Gives TD 3 [.eslice, .int .i64 k] h (fun v' h' => v' = .bool true ∧ Ext h h') := by
  refine call_of rfl rfl rfl fun tm hs => ?_
  refine go_seq (go_region ?_)
  refine ops_val hs rfl rfl rfl rfl fun tm hs => ?_
  refine ops_nil (go_seq (go_seq (go_region ?_)))
  refine ops_call hs rfl rfl rfl rfl (F5_gives h hok) ?_
  rintro _ h1 ⟨rfl, e1⟩ tm hs
  refine ops_val hs rfl rfl rfl rfl fun tm hs => ?_
  refine ops_nil (go_if hs rfl (fun hc => ?_) (fun _ => ?_))
  · cases hc
  refine go_skip (go_seq (go_seq (go_region ?_)))
  refine ops_val hs rfl rfl rfl rfl fun tm hs => ?_
  refine ops_val hs rfl rfl rfl rfl fun tm hs => ?_
  refine ops_val hs rfl rfl rfl rfl fun tm hs => ?_
  refine ops_nil (go_if hs rfl (fun hc => by cases hc) (fun hc => ?_))
  refine go_skip (go_seq (go_region ?_))
  refine ops_val hs rfl rfl rfl rfl fun tm hs => ?_
  refine ops_call hs rfl rfl rfl rfl (F7_gives _ 0 [] h1 ⟨rfl, rfl⟩ (by omega)) ?_
  rintro v2 h2 ⟨x2, e2⟩ tm hs
  have e2 := e1.trans e2
  refine ops_call hs rfl rfl rfl rfl (F6_gives [] v2 h2 (e2.ok hok) x2 (by decide)) ?_
  rintro _ h3 ⟨rfl, e3⟩ tm hs
  have e3 := e2.trans e3
  refine ops_val hs rfl rfl rfl rfl fun tm hs => ?_
  refine ops_val hs rfl rfl rfl rfl fun tm hs => ?_
  refine ops_val hs rfl rfl rfl rfl fun tm hs => ?_
  refine ops_val (h' := h3.alloc (.cells 27 (cells ⟨0, 0, false⟩) true)) hs rfl rfl rfl rfl fun tm hs => ?_
  refine ops_skip hs rfl rfl (o_storeN (n := 3) rfl rfl rfl rfl rfl (get_new _ _) (Nat.le_refl 3)) ?_
  refine ops_val hs rfl rfl rfl rfl fun tm hs => ?_
  have e4 : Ext h ((h3.alloc (.cells 27 (cells ⟨0, 0, false⟩) true)).set h3.next (.cells 27 (over (cells ⟨0, 0, false⟩) 0 (cells (bestGo []).1)) true)) := (e3.trans (Ext.alloc _ _)).setL e3.nx (by show h3.next < h3.next + 1; omega) _
  refine ops_nil ?_
  refine go_seq (go_seq (go_region ?_))
  refine ops_val hs rfl rfl rfl rfl fun tm hs => ?_
  refine ops_val hs rfl rfl rfl rfl fun tm hs => ?_
  refine ops_val hs rfl rfl rfl rfl fun tm hs => ?_
  refine ops_nil (go_if hs rfl (fun hc => ?_) (fun hc => by cases hc))
  refine go_seq (go_region ?_)
  refine ops_val hs rfl rfl rfl rfl fun tm hs => ?_
  refine ops_val hs rfl rfl rfl rfl fun tm hs => ?_
  refine ops_val hs rfl rfl rfl rfl fun tm hs => ?_
  exact ops_nil (go_ret (ends_ret hs rfl ⟨rfl, e4⟩))

open Go.RowKit Go.Proofs
section
open Go.ChangeShapes Go.WideShapes Go.Deep
variable {H : Type} {enc : TypeId × Value → H}
theorem Try.cells27 : Try.prog.cellsOf 27 = 3 := by kernel_rfl
theorem Try.cells24 : Try.prog.cellsOf 24 = 1 := by kernel_rfl
theorem Try.cells25 : Try.prog.cellsOf 25 = 1 := by kernel_rfl
theorem Try.cells4 : Try.prog.cellsOf 4 = 1 := by kernel_rfl
/-- candidates that came in -/
theorem read_cands {W : World} {fuel : Nat} {cs : List Value} {x : DataW H × List MemPlace} (h : DataW.trod enc Try.prog W 0 (fun _ => true) true fuel 22 cs = some x) :
    cs = [.slice none 0 0] ∨ ∃ (a : Addr) (len cap : Nat) (l : List Cnd), cs = [.slice (some a) len cap] ∧ len ≤ cap ∧ cap ≤ maxLen ∧ l.length = len ∧ (∀ (i : Nat) (c : Cnd), l[i]? = some c → ∀ (r : Nat) (v : Value), (encC c)[r]? = some v → W.cell? (a.add (i * 3 + r)) = some v) ∧ ∀ c ∈ l, 0 ≤ c.tx := by
  rcases open_slice Try.underlying22 h with ⟨h0, _⟩ | ⟨a, len, cap, m, n, D, Pl, rfl, hb, hl, hm, hmm, rfl, hx⟩
  · exact .inl h0
  right
  have hlm : len ≤ m := by rw [hmm]; exact hl
  rw [Try.cells27] at hx
  have each : ∀ i, i < len → ∃ c : Cnd, (∀ (r : Nat) (v : Value), (encC c)[r]? = some v → W.cell? (a.add (i * 3 + r)) = some v) ∧ 0 ≤ c.tx := by
    intro i hi
    obtain ⟨cs', h1, h2⟩ := hx i (by omega)
    obtain ⟨_, hlen, hcell⟩ := World.cells?_some h1
    obtain ⟨y0, y1, y2, k, _, _, t0, t1, t2⟩ := trod_struct3 Try.underlying27 h2
    match cs', hlen with
    | [v0, v1, v2], _ =>
      simp only [Try.cells24, Try.cells25, Try.cells4, List.drop_zero, List.drop_succ_cons, List.take_succ_cons, List.take_zero] at t0 t1 t2
      obtain ⟨p, e0, _, _⟩ := DataW.trod_int Try.underlying24 t0
      obtain ⟨t, e1, _, wt⟩ := DataW.trod_int Try.underlying25 t1
      obtain ⟨b, e2, _⟩ := DataW.trod_bool Try.underlying4 t2
      cases e0; cases e1; cases e2
      have c0 := hcell 0 (by omega)
      have c1 := hcell 1 (by omega)
      have c2 := hcell 2 (by omega)
      rw [add_add] at c0 c1 c2
      have wt : 0 ≤ t := by
        simp only [Lit.wf, Bool.and_eq_true, decide_eq_true_eq] at wt
        exact wt.1
      refine ⟨⟨p, t, b⟩, fun r v hr => ?_, wt⟩
      match r, hr with
      | 0, hr => cases hr; exact c0
      | 1, hr => cases hr; exact c1
      | 2, hr => cases hr; exact c2
  obtain ⟨f, hf⟩ := choose_lt each
  refine ⟨a, len, cap, (List.range len).map f, rfl, hl, hm, by simp, fun i c hc r v hr => ?_, fun c hc => ?_⟩
  rotate_left
  · rw [List.mem_map] at hc
    obtain ⟨i, hi, rfl⟩ := hc
    exact (hf i (by simpa using hi)).2
  have hi : i < len := by
    have := (List.getElem?_eq_some_iff.1 hc).1
    simpa using this
  have e : f i = c := by simpa [hi] using hc
  exact (hf i hi).1 r v (by rw [e]; exact hr)
end
/-- a memory that holds them -/
theorem lay_cands {W : World} {a : Addr} {len cap : Nat} {l : List Cnd} (h0 : 0 < len) (hl : l.length = len) (hc : ∀ (i : Nat) (c : Cnd), l[i]? = some c → ∀ (r : Nat) (v : Value), (encC c)[r]? = some v → W.cell? (a.add (i * 3 + r)) = some v) :
    ∃ (E : En) (h : Heap), h.ok ∧ HR W.heap.size W E h W ∧ VR E (.slice 0 0 len cap) (.slice (some a) len cap) ∧ Sl h 3 (.slice 0 0 len cap) len (cndCells l) := by
  have cell : ∀ (j : Nat) (v : Value), (0 < j → W.cell? (a.add j) = some v) → (j = 0 → W.cell? a = some v) → a.spot = none → ∀ {c' e z}, W.heap[a.block]? = some (.cells c' e z) → c'[a.off + j]? = some v := by
    intro j v h1 h2 hsp c' e z hh
    have : W.cell? ⟨a.block, a.off + j, none⟩ = some v := by
      by_cases z0 : j = 0
      · subst z0
        have := h2 rfl
        obtain ⟨b, o, s⟩ := a
        simp only at hsp
        subst hsp
        exact this
      · have := h1 (by omega)
        unfold Addr.add at this
        rw [if_neg z0] at this
        exact this
    unfold World.cell? at this
    simp only [hh] at this
    simpa using this
  have hl0 : l[0]? = some l[0] := by simp
  have first := hc 0 _ hl0 0 _ rfl
  have fs : a.spot = none ∧ ∃ c' e z, W.heap[a.block]? = some (.cells c' e z) := by
    have f : W.cell? a = some (.int .u32 l[0].page) := first
    unfold World.cell? at f
    cases hh : W.heap[a.block]? with
    | none => rw [hh] at f; cases f
    | some o =>
      rw [hh] at f
      cases o with
      | cells c e z =>
        refine ⟨?_, c, e, z, rfl⟩
        cases hs : a.spot with
        | none => rfl
        | some q => simp [hs] at f
      | _ => cases f
  obtain ⟨hsp, c', e, z, hh⟩ := fs
  have get : ∀ (i : Nat) (c : Cnd), l[i]? = some c → ∀ (r : Nat) (v : Value), (encC c)[r]? = some v → c'[a.off + (i * 3 + r)]? = some v := fun i c hi r v hr =>
    cell _ v (fun _ => hc i c hi r v hr) (fun e0 => by have := hc i c hi r v hr; rw [e0] at this; exact this) hsp hh
  have hlen : (cndCells l).length = len * 3 := by rw [cndCells_len, hl]
  have hsz : a.off + len * 3 ≤ c'.size := by
    have hi : l[len - 1]? = some l[len - 1] := by simp
    have := get (len - 1) _ hi 2 _ rfl
    have := (Array.getElem?_eq_some_iff.1 this).1
    omega
  have H := hr_one W (a := a) (c' := c') (e := e) (z := z) (cs := cndCells l) hh (by omega) (fun i v hv => by
    have hi : i < len * 3 := by
      have := (List.getElem?_eq_some_iff.1 hv).1
      omega
    have hli : l[i / 3]? = some l[i / 3] := by simp
    have e1 := cndCells_get hli (show i % 3 < 3 by omega)
    rw [show i / 3 * 3 + i % 3 = i by omega, hv] at e1
    obtain ⟨v', k1, k2⟩ := (vrs_enc (En.one a (c'.size - a.off)) l[i / 3]).get e1.symm
    have := get _ _ hli _ _ k1
    rw [show i / 3 * 3 + i % 3 = i by omega] at this
    exact ⟨v', this, k2⟩)
  refine ⟨_, _, ?_, H, ?_, rfl, by show 0 < 1; omega, e, cndCells l, false, ?_, by omega, ?_⟩
  · intro b hb
    show (Tr.set .nil 0 (AObj.cells e (cndCells l) false)).get b = none
    rw [Ev.Tr.get_set, if_neg (by have : 1 ≤ b := hb; omega), Ev.Tr.get_nil]
  · have := VR.slice (E := En.one a (c'.size - a.off)) 0 0 len cap rfl
    have ea : (En.one a (c'.size - a.off)).at 0 0 = a := by
      obtain ⟨b, o, s⟩ := a
      simp only at hsp
      subst hsp
      rfl
    rw [ea] at this
    exact this
  · show (Tr.set .nil 0 (AObj.cells e (cndCells l) false)).get 0 = _
    rw [Ev.Tr.get_set, if_pos rfl]
  · rw [List.drop_zero, ← hlen, List.take_length]
end Go.Proofs.Ytebcbfpehalmjaa
