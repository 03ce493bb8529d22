/- A part of the proof that what the evaluator (EvDefs) says of a call is what the machine does: EvOps9. Conditions: those that each theorem states. -/
import Derived.Test.YtnaihoegbmpjiaaGreatEvOps8
import Derived.RangeFuncRecord
set_option linter.unusedVariables false
set_option linter.unusedSimpArgs false
namespace Ev
open Go Go.RowKit

variable {P : Program} {T : Tabs} {base : Nat} {w0 : World}

/-! ### maps -/
theorem keyIs_some {t : TypeId} {k : AV} (h : keyIs T t k = true) : ∃ d, T.und t = some d ∧ ((∃ k0 k1 n, d = .int k0 ∧ k = .int k1 n) ∨ (∃ s, d = .string ∧ k = .str s)) := by
  unfold keyIs at h
  split at h
  · rename_i k0 k1 n hu
    exact ⟨_, hu, .inl ⟨k0, k1, n, rfl, rfl⟩⟩
  · rename_i s hu
    exact ⟨_, hu, .inr ⟨s, rfl, rfl⟩⟩
  · simp at h
theorem same_sound {d : TypeDesc} {k kk : AV} {r : Bool} (hd : (∃ k0 k1 n, d = .int k0 ∧ k = .int k1 n) ∨ (∃ s, d = .string ∧ k = .str s)) (h : sameKey k kk = some r) {E : En} {k' kk' : Value} (hk : VR E k k') (hkk : VR E kk kk') :
    Instr.sameNow d k' kk' = some r ∧ (r = true → kk = k) := by
  rcases hd with ⟨k0, k1, n, rfl, rfl⟩ | ⟨s, rfl, rfl⟩
  · cases hk
    unfold sameKey at h
    split at h
    · rename_i heq
      cases heq
      cases hkk
      split at h <;> simp at h
      rename_i hkk
      subst hkk; subst h
      simp [Instr.sameNow]
      intro e; exact e.symm
    · rename_i heq; cases heq
    · simp at h
  · cases hk
    unfold sameKey at h
    split at h
    · rename_i heq; cases heq
    · rename_i a b heq
      cases heq
      cases hkk
      simp at h; subst h
      simp [Instr.sameNow, bytesEq_eq, str_beq]
      intro e; exact e.symm
    · simp at h

/-- what a search in a map's entries finds -/
inductive FR (E : En) (k : AV) (es : List (AV × AV × Nat)) (es' : List MapEntry) (i : Nat) : Option (Nat × AV) → Option (Nat × Value) → Prop
  | none : FR E k es es' i none none
  | some (j : Nat) (v : AV) (v' : Value) (born : Nat) (k' : Value) (h : es[j]? = some (k, v, born)) (h' : es'[j]? = some { key := k', val := v', born := born }) (hv : VR E v v') : FR E k es es' i (some (i + j, v)) (some (i + j, v'))
theorem FR.up {E : En} {k : AV} {es : List (AV × AV × Nat)} {es' : List MapEntry} {i : Nat} {r : Option (Nat × AV)} {r' : Option (Nat × Value)} (e : AV × AV × Nat) (e' : MapEntry) (h : FR E k es es' (i + 1) r r') : FR E k (e :: es) (e' :: es') i r r' := by
  cases h with
  | none => exact .none
  | some j v v' born k' h1 h2 h3 =>
    have := FR.some (E := E) (k := k) (es := e :: es) (es' := e' :: es') (i := i) (j + 1) v v' born k' (by simpa using h1) (by simpa using h2) h3
    have he : i + 1 + j = i + (j + 1) := by omega
    rw [he]; exact this
theorem find_sound {d : TypeDesc} {k : AV} (hd : (∃ k0 k1 n, d = .int k0 ∧ k = .int k1 n) ∨ (∃ s, d = .string ∧ k = .str s)) {E : En} {k' : Value} (hk : VR E k k') :
    ∀ (es : List (AV × AV × Nat)) (es' : List MapEntry) (i : Nat) (r : Option (Nat × AV)), ER E es es' → findA k es i = some r → ∃ r', Instr.findNow d k' es' i = some r' ∧ FR E k es es' i r r'
  | [], _, i, r, .nil, h => by
    simp [findA] at h; subst h
    exact ⟨none, rfl, .none⟩
  | (kk, v, n) :: es, _, i, r, .cons _ _ kk' v' _ _ es' hkk hv hl, h => by
    unfold findA at h
    split at h
    · rename_i hs
      simp at h; subst h
      obtain ⟨h1, h2⟩ := same_sound hd hs hk hkk
      have := h2 rfl; subst this
      exact ⟨some (i + 0, v'), by simp only [Instr.findNow, h1]; rfl, FR.some 0 v v' n kk' rfl rfl hv⟩
    · rename_i hs
      obtain ⟨h1, _⟩ := same_sound hd hs hk hkk
      obtain ⟨r', h3, h4⟩ := find_sound hd hk es es' (i + 1) r hl h
      exact ⟨r', by simp only [Instr.findNow, h1]; exact h3, h4.up _ _⟩
    · simp at h
theorem run_checkKey' (ok : TabsOK P T) {kt : TypeId} {d : TypeDesc} {k : AV} (hu : T.und kt = some d) (hd : (∃ k0 k1 n, d = .int k0 ∧ k = .int k1 n) ∨ (∃ s, d = .string ∧ k = .str s)) {E : En} {k' : Value} (hk : VR E k k') (e : Bool) (w : World) :
    (Instr.checkKey e 10000 kt k').run P w = .ok () w := by
  unfold Instr.checkKey
  simp only [Sem.run_bind, run_und ok hu, Result.andThen_ok]
  rcases hd with ⟨k0, k1, n, rfl, rfl⟩ | ⟨s, rfl, rfl⟩ <;> cases hk <;> simp
theorem run_find' (ok : TabsOK P T) {kt : TypeId} {d : TypeDesc} (hu : T.und kt = some d) {k' : Value} {l : List MapEntry} {a : Option (Nat × Value)} (h : Instr.findNow d k' l 0 = some a) (w : World) : (Instr.findKey kt k' l).run P w = .ok a w := by
  simp [Instr.findKey, run_und ok hu, h]
theorem run_getMap {w : World} {r : Nat} {es : Array MapEntry} {c : Nat} (h : w.heap[r]? = some (.map es c)) : (getObj r).run P w = .ok (.map es c) w := by simp [getObj, Sem.run, h]
theorem run_setMap {w : World} {r : Nat} {es : Array MapEntry} {c : Nat} (h : w.heap[r]? = some (.map es c)) (o : Obj) : (setObj r o).run P w = .ok () (w.putObj r o) := by simp [setObj, Sem.run, h, World.putObj]

theorem HR.put {E : En} {h : Heap} {w : World} (H : HR base w0 E h w) {b : Nat} (hd : E.dom b) {a : AObj} (hg : h.get b = some a) (hown : a.own) (o : Obj) (a' : AObj) (hor : OR' base E b (w.putObj (E.blk b) o) a') :
    HR base w0 E (h.set b a') (w.putObj (E.blk b) o) ∧ Ste E h w E (h.set b a') (w.putObj (E.blk b) o) := by
  have hb := (H.obj b a hd hg).base hown
  exact put_obj H hd hg hown ⟨rfl, rfl, rfl, by simp, fun k hk => World.putObj_heap_other (by omega)⟩ (Nat.le_refl _) (by simp) (fun k hk => World.putObj_heap_other hk) hor
theorem HR.live {E : En} {h : Heap} {w : World} (H : HR base w0 E h w) {b : Nat} (hd : E.dom b) {a : AObj} (hg : h.get b = some a) (hown : a.own) : E.blk b < w.heap.size :=
  (H.obj b a hd hg).lt (fun e => by subst e; exact hown)

theorem lookup_sound (ok : TabsOK P T) {E : En} {h : Heap} {w : World} (H : HR base w0 E h w) {t : TypeId} {m k v : AV} {cok : Bool} (hl : lookupA T t h m k cok = some v) {m' k' : Value} (hm : VR E m m') (hk : VR E k k') :
    ∃ v', (Instr.lookup t m' k' cok).run P w = .ok v' w ∧ VR E v v' := by
  unfold lookupA at hl
  split at hl
  · rename_i kt et hu
    split at hl
    · simp at hl
    · rename_i hki
      obtain ⟨d, hud, hd⟩ := keyIs_some (by simpa using hki)
      have fin : ∀ (r : Option (Nat × AV)) (r' : Option (Nat × Value)) (es : List (AV × AV × Nat)) (es' : List MapEntry), FR E k es es' 0 r r' →
          (match r with
            | some (_, v) => some (if cok then AV.tuple [v, .bool true] else v)
            | none => match T.zero et with
              | some z => some (if cok then AV.tuple [z, .bool false] else z)
              | none => none) = some v →
          ∃ v', (do
            let (v, ok) ← match r' with
              | some (_, v) => pure (v, true)
              | none => pure (← zeroValue et, false)
            pure (if cok then Value.tuple #[v, .bool ok] else v) : Sem Value).run P w = .ok v' w ∧ VR E v v' := by
        intro r r' es es' hf he
        cases hf with
        | none =>
          simp only at he
          split at he <;> simp at he
          rename_i z hz
          obtain ⟨zv, rz, vz⟩ := run_zero ok hz
          refine ⟨_, by simp [rz]; rfl, ?_⟩
          subst he
          cases cok
          · exact vz E
          · exact .tuple _ _ (.cons _ _ _ _ (vz E) (.cons _ _ _ _ (.bool _) .nil))
        | some j x x' born kk h1 h2 h3 =>
          simp at he
          refine ⟨_, by simp; rfl, ?_⟩
          subst he
          cases cok
          · exact h3
          · exact .tuple _ _ (.cons _ _ _ _ h3 (.cons _ _ _ _ (.bool _) .nil))
      simp only at hl
      split at hl
      · cases hm
        obtain ⟨v', h1, h2⟩ := fin none none [] [] .none hl
        refine ⟨v', ?_, h2⟩
        unfold Instr.lookup
        simp [run_und ok hu, run_checkKey' ok hud hd hk, run_find' (P := P) ok hud (k' := k') (l := []) (a := none) rfl]
        simpa using h1
      · rename_i b
        cases hm with | map _ hdb =>
        split at hl
        · rename_i es clock hg
          split at hl
          · rename_i r hf
            obtain ⟨hb, es', he1, he2⟩ := H.obj b _ hdb hg
            obtain ⟨r', hr1, hr2⟩ := find_sound hd hk es es'.toList 0 r he2 hf
            obtain ⟨v', h1, h2⟩ := fin r r' _ _ hr2 hl
            refine ⟨v', ?_, h2⟩
            unfold Instr.lookup
            simp [run_und ok hu, run_getMap he1, run_checkKey' ok hud hd hk, run_find' (P := P) ok hud hr1]
            cases r' <;> simpa using h1
          · simp at hl
        · simp at hl
      · simp at hl
  · simp at hl

theorem ER.get {E : En} : ∀ {es : List (AV × AV × Nat)} {es' : List MapEntry}, ER E es es' → ∀ {j : Nat} {e : AV × AV × Nat}, es[j]? = some e → ∃ e', es'[j]? = some e' ∧ VR E e.1 e'.key ∧ VR E e.2.1 e'.val ∧ e.2.2 = e'.born
  | _, _, .nil, j, e, h => by simp at h
  | _, _, .cons k v k' v' n l l' hk hv hl, j, e, h => by
    cases j with
    | zero => simp at h; subst h; exact ⟨{ key := k', val := v', born := n }, by simp, hk, hv, rfl⟩
    | succ j => simp at h; obtain ⟨e', h1, h2⟩ := hl.get h; exact ⟨e', by simpa using h1, h2⟩
theorem ER.append {E : En} : ∀ {es : List (AV × AV × Nat)} {es' : List MapEntry} {fs : List (AV × AV × Nat)} {fs' : List MapEntry}, ER E es es' → ER E fs fs' → ER E (es ++ fs) (es' ++ fs')
  | _, _, _, _, .nil, h => h
  | _, _, _, _, .cons k v k' v' n l l' hk hv hl, h => .cons k v k' v' n _ _ hk hv (hl.append h)
theorem ER.setNth {E : En} {k v : AV} {k' v' : Value} {n : Nat} (hk : VR E k k') (hv : VR E v v') : ∀ {es : List (AV × AV × Nat)} {es' : List MapEntry}, ER E es es' → ∀ j, j < es.length → ER E (Ev.setNth es j (k, v, n)) (es'.set j { key := k', val := v', born := n })
  | _, _, .nil, j, h => by simp at h
  | _, _, .cons a b a' b' m l l' ha hb hl, j, h => by
    cases j with
    | zero => simp only [Ev.setNth, List.set_cons_zero]; exact .cons _ _ _ _ _ _ _ hk hv hl
    | succ j => simp only [Ev.setNth, List.set_cons_succ]; exact .cons _ _ _ _ _ _ _ ha hb (hl.setNth hk hv j (by simpa using h))
theorem ER.delNth {E : En} : ∀ {es : List (AV × AV × Nat)} {es' : List MapEntry}, ER E es es' → ∀ j, ER E (Ev.delNth es j) (es'.eraseIdx j)
  | _, _, .nil, j => by simp [Ev.delNth]; exact .nil
  | _, _, .cons a b a' b' m l l' ha hb hl, j => by
    cases j with
    | zero => simp only [Ev.delNth, List.eraseIdx_cons_zero]; exact hl
    | succ j => simp only [Ev.delNth, List.eraseIdx_cons_succ]; exact .cons _ _ _ _ _ _ _ ha hb (hl.delNth j)

theorem sameBits_of {k : AV} (hd : (∃ k1 n, k = .int k1 n) ∨ (∃ s, k = .str s)) {E : En} {a b : Value} (ha : VR E k a) (hb : VR E k b) : a = b ∧ Instr.sameBits 10000 a b = true := by
  rcases hd with ⟨k1, n, rfl⟩ | ⟨s, rfl⟩ <;> cases ha <;> cases hb
  · simp [Instr.sameBits]
  · simp [Instr.sameBits, str_beq]

theorem update_sound (ok : TabsOK P T) {E : En} {h h' : Heap} {w : World} (H : HR base w0 E h w) {t : TypeId} {m k v : AV} (hl : updateA T t h m k v = some h') {m' k' v' : Value} (hm : VR E m m') (hk : VR E k k') (hv : VR E v v') :
    ∃ w', (Instr.mapUpdate t m' k' v').run P w = .ok () w' ∧ HR base w0 E h' w' ∧ Ste E h w E h' w' := by
  unfold updateA at hl
  split at hl
  · rename_i kt et b hu
    cases hm with | map _ hdb =>
    split at hl
    · simp at hl
    · rename_i hki
      obtain ⟨d, hud, hd⟩ := keyIs_some (by simpa using hki)
      have hd2 : (∃ k1 n, k = .int k1 n) ∨ (∃ s, k = .str s) := by
        rcases hd with ⟨k0, k1, n, rfl, rfl⟩ | ⟨s, rfl, rfl⟩
        · exact .inl ⟨_, _, rfl⟩
        · exact .inr ⟨_, rfl⟩
      split at hl
      · rename_i es clock hg
        obtain ⟨hb, es', he1, he2⟩ := H.obj b _ hdb hg
        have hlt := H.live hdb hg trivial
        split at hl
        · rename_i i x hf
          obtain ⟨r', hr1, hr2⟩ := find_sound hd hk es es'.toList 0 _ he2 hf
          split at hl <;> simp at hl
          rename_i kk x0 born hn
          subst hl
          cases hr2 with | some j _ x' born' kk' h1 h2 h3 =>
          simp at hn
          rw [nth_eq, h1] at hn
          simp at hn
          obtain ⟨rfl, rfl, rfl⟩ := hn
          obtain ⟨e', g1, g2, g3, g4⟩ := he2.get h1
          rw [h2] at g1
          simp at g1; subst g1
          simp at g2
          obtain ⟨rfl, hsb⟩ := sameBits_of hd2 g2 hk
          have hlen : j < es.length := (List.getElem?_eq_some_iff.1 h1).1
          have hmod : es'.modify j (fun e => { e with key := kk', val := v' }) = (es'.toList.set j { key := kk', val := v', born := born' }).toArray := by
            apply Array.ext_getElem?
            intro q
            rw [Array.getElem?_modify]
            simp only [List.getElem?_toArray, List.getElem?_set]
            rw [← Array.getElem?_toList]
            by_cases hq : j = q
            · subst hq
              have hlt' : j < es'.toList.length := (List.getElem?_eq_some_iff.1 h2).1
              simp only [if_true, h2, Option.map_some]
              simp at hlt'
              simp [hlt']
            · simp [hq]
          have K := HR.put H hdb hg trivial (.map (es'.modify j fun e => { e with key := kk', val := v' }) clock) (.map (setNth es j (k, v, born')) clock) (by
            refine ⟨hb, _, World.putObj_heap_same hlt, ?_⟩
            rw [hmod]
            simpa using ER.setNth hk hv he2 j hlen)
          refine ⟨_, ?_, by simpa using K.1, by simpa using K.2⟩
          have h2' : es'[j]? = some { key := kk', val := x', born := born' } := by rw [← Array.getElem?_toList]; exact h2
          unfold Instr.mapUpdate
          simp at hr1
          simp [run_und ok hu, run_getMap he1, run_checkKey' ok hud hd hk, run_find' (P := P) ok hud hr1, Instr.keyThatStays, h2', hsb, run_setMap he1]
        · rename_i hf
          simp at hl; subst hl
          obtain ⟨r', hr1, hr2⟩ := find_sound hd hk es es'.toList 0 _ he2 hf
          cases hr2
          have K := HR.put H hdb hg trivial (.map (es'.push { key := k', val := v', born := clock }) (clock + 1)) (.map (es ++ [(k, v, clock)]) (clock + 1)) (by
            refine ⟨hb, _, World.putObj_heap_same hlt, ?_⟩
            simp only [Array.toList_push]
            exact he2.append (.cons _ _ _ _ _ _ _ hk hv .nil))
          refine ⟨_, ?_, K.1, K.2⟩
          unfold Instr.mapUpdate
          simp [run_und ok hu, run_getMap he1, run_checkKey' ok hud hd hk, run_find' (P := P) ok hud hr1, run_setMap he1]
        · simp at hl
      · simp at hl
  · simp at hl

theorem delete_sound (ok : TabsOK P T) {E : En} {h h' : Heap} {w : World} (H : HR base w0 E h w) {t : TypeId} {m k : AV} (hl : deleteA T t h m k = some h') {m' k' : Value} (hm : VR E m m') (hk : VR E k k') (rest : List TypeId) (ty : TypeId) :
    ∃ w', (Builtin.delete_ (t :: rest).toArray ty #[m', k']).run P w = .ok (.tuple #[]) w' ∧ HR base w0 E h' w' ∧ Ste E h w E h' w' := by
  unfold deleteA at hl
  split at hl
  · rename_i kt et hu
    cases hm
    split at hl <;> simp at hl
    rename_i hki
    subst hl
    obtain ⟨d, hud, hd⟩ := keyIs_some hki
    refine ⟨w, ?_, H, .refl E h w⟩
    unfold Builtin.delete_
    simp [run_und ok hu, run_checkKey' ok hud hd hk]
  · rename_i kt et b hu
    cases hm with | map _ hdb =>
    split at hl
    · simp at hl
    · rename_i hki
      obtain ⟨d, hud, hd⟩ := keyIs_some (by simpa using hki)
      split at hl
      · rename_i es clock hg
        obtain ⟨hb, es', he1, he2⟩ := H.obj b _ hdb hg
        have hlt := H.live hdb hg trivial
        split at hl
        · rename_i i x hf
          simp at hl; subst hl
          obtain ⟨r', hr1, hr2⟩ := find_sound hd hk es es'.toList 0 _ he2 hf
          cases hr2 with | some j _ x' born' kk' h1 h2 h3 =>
          have K := HR.put H hdb hg trivial (.map (es'.eraseIdxIfInBounds (0 + j)) clock) (.map (delNth es (0 + j)) clock) (by
            refine ⟨hb, _, World.putObj_heap_same hlt, ?_⟩
            have hj : 0 + j < es'.size := by simpa using (List.getElem?_eq_some_iff.1 h2).1
            simp only [Array.eraseIdxIfInBounds, hj, dif_pos, Array.toList_eraseIdx]
            exact he2.delNth _)
          refine ⟨_, ?_, K.1, K.2⟩
          unfold Builtin.delete_
          simp [run_und ok hu, run_getMap he1, run_checkKey' ok hud hd hk, run_find' (P := P) ok hud hr1, run_setMap he1]
        · rename_i hf
          simp at hl; subst hl
          obtain ⟨r', hr1, hr2⟩ := find_sound hd hk es es'.toList 0 _ he2 hf
          cases hr2
          have same : ∀ x, h.get x = (h.set b (.map es clock)).get x := by
            intro x
            rw [Heap.get_set]
            split
            · rename_i e; subst e; exact hg
            · rfl
          have K := HR.put H hdb hg trivial (.map es' clock) (.map es clock) ⟨hb, _, World.putObj_heap_same hlt, he2⟩
          refine ⟨_, ?_, K.1.ext rfl same, K.2.ext rfl same⟩
          unfold Builtin.delete_
          simp [run_und ok hu, run_getMap he1, run_checkKey' ok hud hd hk, run_find' (P := P) ok hud hr1, run_setMap he1]
        · simp at hl
      · simp at hl
  · simp at hl
end Ev
