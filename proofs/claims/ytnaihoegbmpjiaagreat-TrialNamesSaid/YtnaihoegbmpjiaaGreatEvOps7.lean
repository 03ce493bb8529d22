/- A part of the proof that what the evaluator (EvDefs) says of a call is what the machine does: EvOps7. Conditions: those that each theorem states. -/
import Derived.Test.YtnaihoegbmpjiaaGreatEvOps6
set_option linter.unusedVariables false
set_option linter.unusedSimpArgs false
namespace Ev
open Go Go.RowKit

variable {P : Program} {T : Tabs} {base : Nat} {w0 : World}

theorem HR.drew {E : En} {h : Heap} {w : World} (H : HR base w0 E h w) : HR base w0 E h w.drew := H.heap rfl rfl rfl rfl (by simp)
theorem ste_drew (E : En) (h : Heap) (w : World) : Ste E h w E h w.drew :=
  ⟨.refl E, fun _ h => .inl h, Nat.le_refl _, fun _ _ _ => rfl, Nat.le_refl _, fun _ _ _ => rfl, fun _ h => .inl h⟩

theorem VRs.one {E : En} : ∀ {a : List AV} {v : List Value}, VRs E a v → a.all AV.one = true → ∀ x ∈ v, x.oneCell' = true
  | _, _, .nil, _, x, hx => by simp at hx
  | _, _, .cons a v l l' h hl, ho, x, hx => by
    simp only [List.all_cons, Bool.and_eq_true] at ho
    rcases List.mem_cons.1 hx with rfl | hx
    · exact h.one ho.1
    · exact hl.one ho.2 x hx

/-- what an append comes to, in the world -/
def AppOut (base : Nat) (w0 : World) (E : En) (h : Heap) (w : World) (v : AV) (h' : Heap) (s : Sem Value) (P : Program) : Prop :=
  ∃ E' w' v', s.run P w = .ok v' w' ∧ VR E' v v' ∧ HR base w0 E' h' w' ∧ Ste E h w E' h' w'

set_option maxRecDepth 4000 in
/-- a fresh row behind an append -/
theorem app_new (ok : TabsOK P T) {ty st elem : TypeId} {rest : List TypeId} {x' : Value} (hu : T.und st = some (.slice elem)) {sz n sl sCap : Nat} {basea : Option Addr} (hsz : T.size elem = some sz)
    {ei : TypeInfo} (hei : T.ti elem = some ei) {E : En} {h : Heap} {w : World} (H : HR base w0 E h w) {new old : List AV} (S : Src P T E elem rest x' sz n new w) (hroom : roomA (sl + n) ei.bytes = true) (hzero : zeroOk T elem sz = true) (hlt : sCap < sl + n)
    (hnl : new.length = n * sz) (hol : old.length = sl * sz) {oc : Array Value} (hoc : (Builtin.firstCells sz sl (.slice basea sl sCap)).run P w.drew = .ok oc w.drew) (hov : VRs E old oc.toList) :
    AppOut base w0 E h w (.oslice h.next 0 (sl + n) sz) (h.alloc (.cells elem (old ++ new) true)) (Builtin.append_ (st :: rest).toArray ty #[.slice basea sl sCap, x']) P := by
  obtain ⟨newCap, nc, zc, h1, h2, h3, h4⟩ := append_new ok (ty := ty) hu hsz hei S hroom hzero hlt hoc
  have l1 := hov.length
  have l2 := h3.length
  simp at l1 l2
  have hsize : (oc ++ nc ++ zc).size = newCap * sz := by
    simp only [Array.size_append]
    rw [← l1, ← l2, hol, hnl, h2, ← Nat.add_mul, ← Nat.add_mul]
    congr 1; omega
  have hall : VRs E (old ++ new) (oc.toList ++ nc.toList) := hov.append h3
  have K := new_cells (base := base) (w0 := w0) H.drew elem (old ++ new) (oc ++ nc ++ zc) (by
    rw [hsize, List.length_append, hol, hnl, ← Nat.add_mul]; exact Nat.mul_le_mul_right _ h1) (fun i v hi => by
    obtain ⟨v', e1, e2⟩ := hall.get hi
    refine ⟨v', ?_, e2⟩
    have hlt : i < (oc.toList ++ nc.toList).length := (List.getElem?_eq_some_iff.1 e1).1
    rw [← Array.getElem?_toList]
    simp only [Array.toList_append]
    rw [List.getElem?_append_left (by simpa using hlt)]
    exact e1)
  obtain ⟨k1, k2, k3, k4, k5⟩ := K
  refine ⟨_, _, _, h4, ?_, k1, (ste_drew E h w).trans k2⟩
  have := VR.oslice (E := E.push h.next w.drew.heap.size 0 (oc ++ nc ++ zc).size) h.next 0 (sl + n) sz newCap k3 (by rw [k5, hsize]; simp)
  rw [k4] at this
  exact this

set_option maxHeartbeats 1000000 in
set_option maxRecDepth 4000 in
theorem append_sound (ok : TabsOK P T) {E : En} {h : Heap} {w : World} (H : HR base w0 E h w) {args : List AV} {args' : List Value} (ha : VRs E args args') (argTypes : List TypeId) (ty : TypeId) :
    Out base w0 E h w (appendA T args argTypes h) ((do pure (Next.value (← Builtin.append_ argTypes.toArray ty args'.toArray)) : Sem Next).run P w) := by
  unfold appendA
  split
  · rename_i s x st rest
    cases ha with | cons _ s' _ _ hs ha =>
    cases ha with | cons _ x' _ _ hx ha =>
    cases ha
    split
    · rename_i elem hu
      split
      · rename_i sz sl n ei hsz hsl hn hei
        split
        · rename_i new old hnew hold
          split
          · trivial
          · rename_i hc
            simp only [not_or, Bool.not_eq_false] at hc
            obtain ⟨hroom, hzero, hnl, hol⟩ := hc
            have hnl := Nat.eq_of_beq_eq_true hnl
            have hol := Nat.eq_of_beq_eq_true hol
            have S := src_of (P := P) ok H hx hn hnew hzero
            have fin : ∀ {v : AV} {h' : Heap}, AppOut base w0 E h w v h' (Builtin.append_ (st :: rest).toArray ty #[s', x']) P → Out base w0 E h w (.val v h') ((do pure (Next.value (← Builtin.append_ (st :: rest).toArray ty [s', x'].toArray)) : Sem Next).run P w) := fun h => out_val _ h
            have old2 : ∃ oc : Array Value, (Builtin.firstCells sz sl s').run P w.drew = .ok oc w.drew ∧ VRs E old oc.toList := first_sound H.drew hold hs
            obtain ⟨oc, ho1, ho2⟩ := old2
            split
            · rename_i b off len cap
              simp [lenS] at hsl; subst hsl
              cases hs with | slice _ _ _ _ hd =>
              split
              · rename_i hle
                split
                · rename_i h' hw
                  apply fin
                  obtain ⟨nc, hv, hr⟩ := append_in ok (ty := ty) (basea := some (E.at b off)) hu hsz hei S hroom hle
                  obtain ⟨w', r1, r2, r3⟩ := write_cells (P := P) H hd hw hv
                  refine ⟨E, w', _, ?_, .slice _ _ _ _ hd, r2, r3⟩
                  rw [hr]
                  simp only [inPlace, Sem.run_bind, En.at_add, r1, Result.andThen_ok, Sem.run_pure]
                · trivial
              · rename_i hle
                apply fin
                exact app_new ok hu hsz hei H S hroom hzero (by omega) hnl hol ho1 ho2
            · rename_i b off len sz'
              simp [lenS] at hsl; subst hsl
              cases hs with | oslice _ _ _ _ k hd hk =>
              split
              · rename_i e cs hg
                split
                · trivial
                · rename_i hc
                  simp only [not_or, Bool.not_eq_false, Decidable.not_not] at hc
                  obtain ⟨rfl, hsz0, rfl, hone⟩ := hc
                  have hor := H.obj b _ hd hg
                  obtain ⟨c', z, p1, p2, p3, p4, p5, p6⟩ := hor
                  obtain ⟨q1, q2⟩ := p5 rfl
                  split
                  · rename_i hle
                    have hlek : len + n ≤ k := by
                      apply Nat.le_of_mul_le_mul_right _ (Nat.pos_of_ne_zero hsz0)
                      omega
                    split
                    · rename_i h' hw
                      apply fin
                      obtain ⟨nc, hv, hr⟩ := append_in ok (ty := ty) (basea := some (E.at b off)) hu hsz hei S hroom hlek
                      obtain ⟨w', r1, r2, r3⟩ := write_cells (P := P) H hd hw hv
                      refine ⟨E, w', _, ?_, .oslice _ _ _ _ _ hd hk, r2, r3⟩
                      rw [hr]
                      simp only [inPlace, Sem.run_bind, En.at_add, r1, Result.andThen_ok, Sem.run_pure]
                    · trivial
                  · rename_i hgt
                    apply fin
                    by_cases hlek : len + n ≤ k
                    · -- in place, beyond what is known
                      obtain ⟨nc, hv, hr⟩ := append_in ok (ty := ty) (basea := some (E.at b off)) hu hsz hei S hroom hlek
                      have hncl := hv.length
                      simp at hncl
                      have hmul : len * sz' + n * sz' ≤ k * sz' := by rw [← Nat.add_mul]; exact Nat.mul_le_mul_right _ hlek
                      have hoffle : off ≤ E.ext b := by omega
                      obtain ⟨w', r1, ⟨c2, r2, r3⟩, r4, r5, r6, r7, r8, r9⟩ := conc_store (P := P) nc.toList w c' (E.off b + (off + len * sz')) 0 p1 (by simp; omega) (hv.one hone) (fun j hj hj' => by omega)
                      have hc2 : c2.size = c'.size := by
                        have := over_length c'.toList (E.off b + (off + len * sz') + 0) nc.toList (by simp; omega)
                        rw [← r3] at this; simpa using this
                      have oldv : ∀ (i : Nat) (v : AV), (old ++ new)[i]? = some v → ∃ v', c2[E.off b + off + i]? = some v' ∧ VR E v v' := by
                        intro i v hi
                        rw [← Array.getElem?_toList, r3, over_get _ _ _ (by simp; omega)]
                        by_cases hil : i < old.length
                        · rw [List.getElem?_append_left hil] at hi
                          have hold' := hold
                          unfold firstA at hold'
                          simp only at hold'
                          unfold readCells at hold'
                          rw [hg] at hold'
                          simp only at hold'
                          obtain ⟨hb, rfl⟩ := cutE_some hold'
                          rw [List.getElem?_take, if_pos (by rw [hol] at hil; exact hil), List.getElem?_drop] at hi
                          obtain ⟨v', e1, e2⟩ := p4 _ _ hi
                          refine ⟨v', ?_, e2⟩
                          rw [if_neg (by omega), Array.getElem?_toList]
                          rw [Nat.add_assoc]; exact e1
                        · rw [List.getElem?_append_right (by omega)] at hi
                          obtain ⟨v', e1, e2⟩ := hv.get hi
                          refine ⟨v', ?_, e2⟩
                          have hin : i - old.length < new.length := (List.getElem?_eq_some_iff.1 hi).1
                          rw [if_pos (by simp; omega)]
                          rw [← e1]; congr 1; omega
                      have M := move_obj H hd hg (off := off) hoffle r2 r4 r5 r6 r7 r8 r9 (by rw [hc2]; exact p2) (by rw [hc2]; exact q2) (cs2 := old ++ new) (by
                        rw [List.length_append, hol, hnl]; omega) oldv
                      refine ⟨_, w', .slice (some (E.at b off)) (len + n) k, ?_, ?_, M.1, M.2⟩
                      · rw [hr]
                        have ha : (E.at b off).add (len * sz') = ⟨E.blk b, E.off b + (off + len * sz'), none⟩ := by rw [En.at_add]; rfl
                        simp only [inPlace, Sem.run_bind, ha, r1, Result.andThen_ok, Sem.run_pure]
                      · have := VR.oslice (E := E.push h.next (E.blk b) (E.off b + off) (E.ext b - off)) h.next 0 (len + n) sz' k (.inl rfl) (by simp [En.push]; omega)
                        have he : (E.push h.next (E.blk b) (E.off b + off) (E.ext b - off)).at h.next 0 = E.at b off := by simp [En.at, En.push]
                        rw [he] at this
                        exact this
                    · have K := kill_obj H b hd
                      obtain ⟨E', w', v', r1, r2, r3, r4⟩ := app_new ok (ty := ty) hu hsz hei K.1 S hroom hzero (by omega) hnl hol ho1 ho2
                      exact ⟨E', w', v', r1, r2, r3, K.2.trans r4⟩
              · trivial
            · simp [lenS] at hsl; subst hsl
              cases hs
              split
              · rename_i hn0
                subst hn0
                apply fin
                obtain ⟨nc, hv, hr⟩ := append_in ok (ty := ty) (basea := none) (sl := 0) (sCap := 0) hu hsz hei S hroom (by omega)
                exact ⟨E, w, .slice none 0 0, by rw [hr]; simp [inPlace], .nilslice, H, .refl E h w⟩
              · rename_i hn0
                apply fin
                have := app_new ok (ty := ty) (sl := 0) (sCap := 0) (basea := none) hu hsz hei H S hroom hzero (by omega) hnl hol ho1 ho2
                simpa using this
            · simp [lenS] at hsl; subst hsl
              cases hs with | eslice a k =>
              split
              · rename_i hn0
                subst hn0
                apply fin
                obtain ⟨nc, hv, hr⟩ := append_in ok (ty := ty) (basea := some a) (sl := 0) (sCap := k) hu hsz hei S hroom (by omega)
                have : new = [] := by apply List.eq_nil_of_length_eq_zero; rw [hnl]; simp
                subst this
                have hnc : nc.toList = [] := by cases hx : nc.toList with
                  | nil => rfl
                  | cons a l => rw [hx] at hv; cases hv
                refine ⟨E, w, .slice (some a) 0 k, by rw [hr]; simp [inPlace, hnc, storeCells], .eslice _ _, H, .refl E h w⟩
              · trivial
            · trivial
        · trivial
      · trivial
    · trivial
  · trivial
end Ev
