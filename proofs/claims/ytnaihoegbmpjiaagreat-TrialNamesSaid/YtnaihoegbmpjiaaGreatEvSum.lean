/- A part of the rules by which proofs walk over what the evaluator (EvDefs) says, at values that are not known: EvSum. Conditions: those that each theorem states. -/
import Derived.Test.YtnaihoegbmpjiaaGreatEvWp3
set_option linter.unusedVariables false
set_option linter.unusedSimpArgs false
namespace Ev
open Go Go.RowKit

variable {P : Program} {T : Tabs} {base : Nat} {w0 : World}

/-! ### what a call left behind may be forgotten -/
theorem FnR.back {E E' : En} (le : E.Le E') {f g g' : Fn} (h : FnR E f g) (h' : FnR E' f g') : FnR E f g' := by
  cases h with
  | yield l d =>
    cases h' with
    | yield _ d' => rw [le.blk l d]; exact .yield l d
    | same _ hn => exact absurd rfl (hn l)
  | same _ hn =>
    cases h' with
    | yield l _ => exact absurd rfl (hn l)
    | same _ _ => exact .same _ hn
mutual
theorem VR.back {E E' : En} (le : E.Le E') : ∀ {a : AV} {v v' : Value}, VR E a v → VR E' a v' → VR E a v'
  | _, _, _, .bool b, .bool _ => .bool b
  | _, _, _, .int k n, .int _ _ => .int k n
  | _, _, _, .str s, .str _ => .str s
  | _, _, _, .ptr b o h, .ptr _ _ _ => by rw [le.at_ h]; exact .ptr b o h
  | _, _, _, .nilptr, .nilptr => .nilptr
  | _, _, _, .slice b o n c h, .slice _ _ _ _ _ => by rw [le.at_ h]; exact .slice b o n c h
  | _, _, _, .oslice b o n sz k h hk, .oslice _ _ _ _ k' _ hk' => by rw [le.at_ h]; exact .oslice b o n sz k' h (by rw [hk', le.ext b h])
  | _, _, _, .eslice a k, .eslice a' k' => .eslice a' k'
  | _, _, _, .nilslice, .nilslice => .nilslice
  | _, _, _, .map b h, .map _ _ => by rw [le.blk b h]; exact .map b h
  | _, _, _, .nilmap, .nilmap => .nilmap
  | _, _, _, .func f f' hf l m l' m' hl hm, .func _ _ hf2 _ _ _ _ hl2 hm2 => .func f _ (hf.back le hf2) l m _ _ (VRs.back le hl hl2) (VRs.back le hm hm2)
  | _, _, _, .nilfunc, .nilfunc => .nilfunc
  | _, _, _, .iface t v v' h, .iface _ _ _ h2 => .iface t v _ (VR.back le h h2)
  | _, _, _, .niliface, .niliface => .niliface
  | _, _, _, .agg l l' h, .agg _ _ h2 => .agg l _ (VRs.back le h h2)
  | _, _, _, .tuple l l' h, .tuple _ _ h2 => .tuple l _ (VRs.back le h h2)
  | _, _, _, .raw b o, .raw _ _ => .raw b o
  | _, _, _, .own b n h h0 hk, .own _ _ _ _ _ => by rw [le.at_ h]; exact .own b n h h0 hk
theorem VRs.back {E E' : En} (le : E.Le E') : ∀ {a : List AV} {v v' : List Value}, VRs E a v → VRs E' a v' → VRs E a v'
  | _, _, _, .nil, .nil => .nil
  | _, _, _, .cons v v' l l' h hl, .cons _ _ _ _ h2 hl2 => .cons _ _ _ _ (VR.back le h h2) (VRs.back le hl hl2)
end
theorem ER.back {E E' : En} (le : E.Le E') : ∀ {d : List (AV × AV × Nat)} {e e' : List MapEntry}, ER E d e → ER E' d e' → ER E d e'
  | _, _, _, .nil, .nil => .nil
  | _, _, _, .cons k v k' v' n l l' hk hv hl, .cons _ _ _ _ _ _ _ hk2 hv2 hl2 => .cons _ _ _ _ _ _ _ (hk.back le hk2) (hv.back le hv2) (hl.back le hl2)
theorem DR.back {E E' : En} (le : E.Le E') {d : ADef} {e e' : Deferred} (h : DR E d e) (h' : DR E' d e') : DR E d e' := by
  cases h with
  | fn f f' hf l m l' m' hl hm => cases h' with | fn _ _ hf2 _ _ _ _ hl2 hm2 => exact .fn _ _ (hf.back le hf2) _ _ _ _ (hl.back le hl2) (hm.back le hm2)
  | collected b h => cases h' with | collected _ h2 => rw [le.blk b h]; exact .collected b h
theorem DRs.back {E E' : En} (le : E.Le E') : ∀ {d : List ADef} {e e' : List Deferred}, DRs E d e → DRs E' d e' → DRs E d e'
  | _, _, _, .nil, .nil => .nil
  | _, _, _, .cons _ _ _ _ h hl, .cons _ _ _ _ h2 hl2 => .cons _ _ _ _ (h.back le h2) (hl.back le hl2)
theorem OR'.back {E E' : En} (le : E.Le E') {b : Nat} (d : E.dom b) {w w' : World} {o : AObj} (h : OR' base E b w o) (h' : OR' base E' b w' o) : OR' base E b w' o := by
  cases o with
  | cells e cs rw =>
    obtain ⟨c, z, p1, p2, p3, p4, p5, p6⟩ := h
    obtain ⟨c', z', q1, q2, q3, q4, q5, q6⟩ := h'
    rw [le.blk b d] at q1 q5 q6
    rw [le.off b d, le.ext b d] at q2
    rw [le.ext b d] at q3
    refine ⟨c', z', q1, q2, q3, fun i v hv => ?_, q5, q6⟩
    obtain ⟨v0, _, r2⟩ := p4 i v hv
    obtain ⟨v1, s1, s2⟩ := q4 i v hv
    rw [le.off b d] at s1
    exact ⟨v1, s1, r2.back le s2⟩
  | map es clock =>
    obtain ⟨p0, es1, p1, p2⟩ := h
    obtain ⟨q0, es2, q1, q2⟩ := h'
    rw [le.blk b d] at q1
    exact ⟨p0, es2, q1, p2.back le q2⟩
  | loop st pend fn tm nt ps as bd dd =>
    obtain ⟨p0, pd, t1, p1, p2, p3⟩ := h
    obtain ⟨q0, qd, t2, q1, q2, q3⟩ := h'
    rw [le.blk b d, le.blk dd pd] at q1
    refine ⟨p0, pd, t2, q1, q2, fun t v hv => ?_⟩
    obtain ⟨v0, _, r2⟩ := p3 t v hv
    obtain ⟨v1, s1, s2⟩ := q3 t v hv
    exact ⟨v1, s1, r2.back le s2⟩
  | dfr ds =>
    obtain ⟨p0, d1, p1, p2⟩ := h
    obtain ⟨q0, d2, q1, q2⟩ := h'
    rw [le.blk b d] at q1
    refine ⟨p0, d2, q1, ?_⟩
    cases ds with
    | none => exact q2
    | some l =>
      obtain ⟨l1, _, r1⟩ := p2
      obtain ⟨l2, e2, r2⟩ := q2
      exact ⟨l2, e2, r1.back le r2⟩
  | iter m since seen last =>
    obtain ⟨p0, po, pd, p1⟩ := h
    obtain ⟨q0, qo, qd, q1⟩ := h'
    rw [le.blk b d] at q1
    refine ⟨p0, po, pd, ?_⟩
    have : m.map E'.blk = m.map E.blk := by
      cases m with
      | none => rfl
      | some x => simp [le.blk x (pd x rfl)]
    rw [this] at q1
    exact q1
  | dead => trivial
mutual
/-- a value that names no block -/
def AV.plain : AV → Bool
  | .bool _ => true
  | .int _ _ => true
  | .str _ => true
  | .nilptr => true
  | .nilslice => true
  | .nilmap => true
  | .nilfunc => true
  | .niliface => true
  | .iface _ v => AV.plain v
  | .agg l => AV.plains l
  | .tuple l => AV.plains l
  | .raw _ _ => true
  | _ => false
def AV.plains : List AV → Bool
  | [] => true
  | v :: l => AV.plain v && AV.plains l
end
mutual
theorem VR.plain {E E' : En} : ∀ {a : AV} {v : Value}, VR E a v → a.plain = true → VR E' a v
  | _, _, .bool b, _ => .bool b
  | _, _, .int k n, _ => .int k n
  | _, _, .str s, _ => .str s
  | _, _, .nilptr, _ => .nilptr
  | _, _, .nilslice, _ => .nilslice
  | _, _, .nilmap, _ => .nilmap
  | _, _, .nilfunc, _ => .nilfunc
  | _, _, .niliface, _ => .niliface
  | _, _, .iface t v v' h, hp => .iface t v v' (VR.plain h (by simpa [AV.plain] using hp))
  | _, _, .agg l l' h, hp => .agg l l' (VRs.plain h (by simpa [AV.plain] using hp))
  | _, _, .tuple l l' h, hp => .tuple l l' (VRs.plain h (by simpa [AV.plain] using hp))
  | _, _, .raw b o, _ => .raw b o
  | _, _, .ptr .., hp => by simp [AV.plain] at hp
  | _, _, .own .., hp => by simp [AV.plain] at hp
  | _, _, .slice .., hp => by simp [AV.plain] at hp
  | _, _, .oslice .., hp => by simp [AV.plain] at hp
  | _, _, .eslice .., hp => by simp [AV.plain] at hp
  | _, _, .map .., hp => by simp [AV.plain] at hp
  | _, _, .func .., hp => by simp [AV.plain] at hp
theorem VRs.plain {E E' : En} : ∀ {a : List AV} {v : List Value}, VRs E a v → AV.plains a = true → VRs E' a v
  | _, _, .nil, _ => .nil
  | _, _, .cons v v' l l' h hl, hp => by
    simp only [AV.plains, Bool.and_eq_true] at hp
    exact .cons _ _ _ _ (VR.plain h hp.1) (VRs.plain hl hp.2)
end
theorem forget_ok {E E' : En} {f : FuncId} {args : List AV} {args' : List Value} {h h2 : Heap} {w w' : World} {v : AV} {v' : Value} {fr : Frame} {m : Machine} {cs : List Frame} (ha : VRs E args args') (H : HR base w0 E h w)
    (p1 : HR base w0 E' h2 w') (p2 : Ste E h w E' h2 w') (p3 : VR E v v') (he : Ext h h2) (p4 : Steps P m (lone fr cs w')) (p5 : fr.fn = f ∧ fr.leaving P w' (.returned v')) : CallOK P base w0 m f cs E h w (.ret v h) := by
  refine ⟨E, w', v', fr, ⟨H.dlt, fun b o hd hg => ?_, H.inj, p1.wd, p1.drawn, p1.bsz, fun b hd => ?_⟩, ⟨.refl E, fun _ h => .inl h, Nat.le_refl _, fun _ _ _ => rfl, p2.sz, p2.fr, fun _ h => .inl h⟩, p3, p4, p5⟩
  · refine OR'.back p2.le hd (H.obj b o hd hg) (p1.obj b o (p2.le.dom b hd) ?_)
    rw [he.old b (H.dlt b hd)]; exact hg
  · exact Nat.lt_of_lt_of_le (H.blt b hd) p2.sz
/-- a word that the rules have told may stand for a call -/
theorem sm_of_gives (ok : TabsOK P T) (hsm : ∀ f a h, T.sm f a h = none) {f : FuncId} {args : List AV} {h : Heap} {v : AV} (g : Gives T f args h fun v' h' => v' = v ∧ Ext h h') (hp : v.plain = true) : TaskOK P base w0 (.call f args h) (.ret v h) := by
  obtain ⟨r, hs, hl⟩ := g
  obtain ⟨n, hn⟩ := hs.ev
  have K := ev_sound (base := base) (w0 := w0) ok (fun f a h v h' hh => by rw [hsm] at hh; cases hh) n (.call f args h)
  rw [hn] at K
  intro E args' w cs ha H
  obtain ⟨q, hq, hc⟩ := K E args' w cs ha H
  obtain ⟨v', h2, rfl, rfl, he⟩ := hl.get hq
  obtain ⟨E', w', v'', fr, p1, p2, p3, p4, p5⟩ := hc
  exact ⟨_, rfl, forget_ok ha H p1 p2 (p3.plain hp) he p4 p5⟩
/-- the tables with words of their own for some functions -/
def Tabs.withSm (T : Tabs) (sm : FuncId → List AV → Heap → Option (AV × Heap)) : Tabs := { T with sm := sm }
theorem TabsOK.withSm (ok : TabsOK P T) (sm : FuncId → List AV → Heap → Option (AV × Heap)) : TabsOK P (T.withSm sm) := ⟨ok.ti, ok.und, ok.fn, ok.eqg, ok.stood, ok.mix, ok.ext, ok.rt, ok.kd⟩
theorem ev_calls_sm (ok : TabsOK P T) (hsm : ∀ (base : Nat) (w0 : World) f args h v h', T.sm f args h = some (v, h') → TaskOK P base w0 (.call f args h) (.ret v h')) {n : Nat} {f : FuncId} (hg : good (ev T n (.call f [] ⟨.nil, 0⟩)) = true) (w : World) :
    Calls P f #[] w fun e w' => e = .returned (.bool true) ∧ Below w.heap.size w w' := by
  intro cs
  have h := ev_sound (base := w.heap.size) (w0 := w) ok (hsm _ _) n (.call f [] ⟨.nil, 0⟩) En.none [] w cs .nil (HR.start w)
  obtain ⟨q, hq, h⟩ := h
  obtain ⟨h', rfl⟩ := good_leaf hg hq
  obtain ⟨E', w', v', fr, p1, p2, p3, p4, p5, p6⟩ := h
  cases p3
  exact ⟨_, w', fr, ⟨rfl, p1.wd⟩, p4, p5, p6⟩
end Ev
