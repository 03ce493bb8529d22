/- A part of the rules by which proofs walk over what the evaluator (EvDefs) says, at values that are not known: EvArg. Conditions: those that each theorem states. -/
import Derived.Test.YtebcbfpehalmjaaEvSl
import Derived.Carry
import Derived.Deep.Strs
set_option linter.unusedVariables false
set_option linter.unusedSimpArgs false
namespace Ev
open Go Go.RowKit

/-! ### a law with parameters: from the rules to the row -/
variable {P : Program} {T : Tabs}
/-- what the rules have told of a call, in the machine's words -/
theorem gives_calls (ok : TabsOK P T) {W : World} (hsm : ∀ f args h v h', T.sm f args h = some (v, h') → TaskOK P W.heap.size W (.call f args h) (.ret v h')) {f : FuncId} {args : List AV} {h : Heap} (g : Gives T f args h fun v h' => v = .bool true ∧ Ext h h')
    {E : En} {args' : List Value} (hv : VRs E args args') (H : HR W.heap.size W E h W) : Calls P f args'.toArray W fun e w' => e = .returned (.bool true) ∧ Below W.heap.size W w' := by
  intro cs
  obtain ⟨r, hs, hl⟩ := g
  obtain ⟨n, hn⟩ := hs.ev
  have K := ev_sound (base := W.heap.size) (w0 := W) ok hsm n (.call f args h)
  rw [hn] at K
  obtain ⟨q, hq, hc⟩ := K E args' W cs hv H
  obtain ⟨v', h2, rfl, rfl, he⟩ := hl.get hq
  obtain ⟨E', w', v'', fr, p1, p2, p3, p4, p5, p6⟩ := hc
  cases p3
  exact ⟨_, w', fr, ⟨rfl, p1.wd⟩, p4, p5, p6⟩
section
open Go.ChangeShapes Go.WideShapes
variable {H : Type} {enc : TypeId × Value → H}
theorem trodAll_stays (hl : laidOutB P = true) {W W' : World} {sp : Nat → Bool} : ∀ {ts : List TypeId} {vs : List Value} {ds : List (DataW H)} {ps : List MemPlace}, (∀ t ∈ ts, P.readableRec t = true ∧ t < P.types.size) →
    DataW.TrodAll enc P W 0 (fun _ => true) true ts vs ds ps → (∀ p ∈ ps, W.sameAt W' p) → (∀ p ∈ ps, sp p.block = true) → DataW.TrodAll enc P W' 0 sp true ts vs ds ps
  | [], _, _, _, _, h, _, _ => by
    obtain ⟨rfl, rfl, rfl⟩ := trodAll_nil h
    rfl
  | t :: ts, _, _, _, hr, h, hs, hp => by
    obtain ⟨v, vs1, d, ds1, a, b, rfl, rfl, rfl, h1, h2⟩ := trodAll_cons h
    have r := hr t (List.mem_cons_self ..)
    exact ⟨a, b, WideElems.Trod_stays hl r.1 r.2 h1 (fun p k => hs p (List.mem_append_left _ k)) (fun p k => hp p (List.mem_append_left _ k)),
      trodAll_stays hl (fun t k => hr t (List.mem_cons_of_mem _ k)) h2 (fun p k => hs p (List.mem_append_right _ k)) (fun p k => hp p (List.mem_append_right _ k)), rfl⟩
/-- nothing that was there before has turned: the arguments read as they did -/
theorem post_below (hl : laidOutB P = true) {f : Func} {s : ChangeSpec} {apart fresh handsOn again : Bool} {W W' : World} {args : Array Value} {v : Value} {ds : List (DataW H)} {before : List MemPlace}
    (hr : ∀ t ∈ f.params.toList, P.readableRec t = true ∧ t < P.types.size) (hvs : s.vars = []) (hW : DataW.Whole enc P f.params.toList s.vars apart W args.toList ds [] before) (hb : Below W.heap.size W W')
    (hres : ∀ (b : Nat) (sp : Nat → Bool) (hd : Bool), DataW.TrodAll enc P W' b sp hd f.resultTypes.toList (v.resultList f.resultTypes.size) (s.fn H (ds ++ [])).results [])
    (hargs : (s.fn H (ds ++ [])).args = ds) (hvars : (s.fn H (ds ++ [])).vars = [])
    (hok : ∀ (j : Nat) (t : TypeId) (r : Value), f.resultTypes[j]? = some t → (v.resultList f.resultTypes.size)[j]? = some r → Value.okWide P W' .any 0 t r) :
    s.post enc P f apart fresh handsOn again W args v W' := by
  have hW0 := hW
  have lt := hW.lt
  have h0 : ∃ p, before = p ∧ DataW.TrodAll enc P W 0 (fun _ => true) true f.params.toList args.toList ds p ∧ W.noneFrozen before ∧ (apart = true → before.Nodup) := by
    obtain ⟨p, q, hA, hV, e, hz, hn⟩ := hW
    rw [hvs] at hV
    obtain ⟨_, rfl⟩ := trodVars_none hV
    rw [List.append_nil] at e
    exact ⟨p, e, hA, hz, hn⟩
  obtain ⟨_, rfl, hA, hz, hn⟩ := h0
  have same : ∀ p ∈ before, W.sameAt W' p := fun p hp => hb.same (lt p hp)
  have A : ∀ sp : Nat → Bool, (∀ p ∈ before, sp p.block = true) → DataW.TrodAll enc P W' 0 sp true f.params.toList args.toList (s.fn H (ds ++ [])).args before := fun sp hsp => by
    rw [hargs]
    exact trodAll_stays hl hr hA same hsp
  have V : ∀ sp : Nat → Bool, DataW.TrodVars enc P W' sp s.vars (s.fn H (ds ++ [])).vars [] := fun sp => by
    rw [hvs, hvars]
    rfl
  have hold : ∀ p ∈ before, (fun b => decide (b < W.heap.size)) p.block = true := fun p hp => by simpa using lt p hp
  refine ⟨ds, [], before, [], before, [], hW0, hres _ _ _, A _ hold, V _, hb.frame _, fun _ => ?_⟩
  refine ⟨hok, _, _, ([] ++ before) ++ [], ⟨[] ++ before, [], trodAll_append (A _ (fun _ _ => rfl)) (hres _ _ _), V _, rfl, ?_, ?_⟩, ?_⟩
  · intro b off hp
    have hp : MemPlace.cell b off ∈ before := by simpa using hp
    rw [hb.frozen (p := ⟨b, off, none⟩) (lt _ hp)]
    exact hz b off hp
  · intro ha
    simpa using hn ha
  · intro p hp _
    simpa using hp
end
/-! ### memories that hold what came in -/
/-- one row that came in -/
def En.one (a : Addr) (n : Nat) : En := ⟨fun _ => a.block, fun _ => a.off, fun _ => n, fun b => b = 0⟩
theorem hr_none (W : World) : HR W.heap.size W En.none ⟨.nil, 0⟩ W := HR.start W
theorem hr_one (W : World) {a : Addr} {c' : Array Value} {e : TypeId} {z : Nat × Nat} {cs : List AV} (hh : W.heap[a.block]? = some (.cells c' e z)) (hn : a.off + cs.length ≤ c'.size)
    (hv : ∀ (i : Nat) (v : AV), cs[i]? = some v → ∃ v', c'[a.off + i]? = some v' ∧ VR (En.one a (c'.size - a.off)) v v') : HR W.heap.size W (En.one a (c'.size - a.off)) ⟨Tr.set .nil 0 (.cells e cs false), 1⟩ W := by
  have hlt : a.block < W.heap.size := (Array.getElem?_eq_some_iff.1 hh).1
  have hget : ∀ b o, (⟨Tr.set .nil 0 (.cells e cs false), 1⟩ : Heap).get b = some o → b = 0 ∧ o = .cells e cs false := by
    intro b o h
    have h : (Tr.set .nil 0 (AObj.cells e cs false)).get b = some o := h
    rw [Tr.get_set] at h
    by_cases hb : b = 0
    · rw [if_pos hb] at h; cases h; exact ⟨hb, rfl⟩
    · rw [if_neg hb, Tr.get_nil] at h; cases h
  refine ⟨fun b h => ?_, fun b o h hg => ?_, fun b b' o o' _ _ hg _ w1 => ?_, Below.refl _ _, Nat.le_refl _, Nat.le_refl _, fun b h => hlt⟩
  · cases h; exact Nat.zero_lt_one
  · obtain ⟨rfl, rfl⟩ := hget b o hg
    exact ⟨c', z, hh, by show _ = a.off + (c'.size - a.off); omega, by show _ ≤ c'.size - a.off; omega, hv, (fun h => by cases h), fun _ => hlt⟩
  · obtain ⟨rfl, rfl⟩ := hget b o hg
    cases w1
end Ev
