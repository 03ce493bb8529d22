/- A part of the proof that what the evaluator (EvDefs) says of a call is what the machine does: EvOps3. Conditions: those that each theorem states. -/
import Derived.Test.YtnaihoegbmpjiaaGreatEvOps2
set_option linter.unusedVariables false
set_option linter.unusedSimpArgs false
namespace Ev
open Go Go.RowKit

variable {P : Program} {T : Tabs} {base : Nat} {w0 : World}

/-! ### building -/
theorem over_step {α : Type} (l : List α) (o : Nat) (x : α) (h : o < l.length) : over l o [x] = l.set o x := by
  apply List.ext_getElem?
  intro i
  rw [over_get _ _ _ (by simp; omega)]
  by_cases e : i = o
  · subst e; simp [h]
  · rw [if_neg (by simp; omega), List.getElem?_set_ne (by omega)]
theorem foldl_over : ∀ (l : List Value) (off k : Nat) (cells : Array Value), off + k + l.length ≤ cells.size →
    ((l.zipIdx k).foldl (fun (cs : Array Value) (p : Value × Nat) => cs.setIfInBounds (off + p.2) p.1) cells).toList = over cells.toList (off + k) l
  | [], off, k, cells, h => by simp [over_nil]
  | x :: l, off, k, cells, h => by
    simp only [List.length_cons] at h
    rw [List.zipIdx_cons, List.foldl_cons, foldl_over l off (k + 1) _ (by simp; omega)]
    simp only [Array.toList_setIfInBounds]
    rw [← over_step _ _ _ (by simp; omega), ← Nat.add_assoc, over_over _ _ _ _ (by simp; omega)]

theorem fill_sound {E : En} {place place' : Nat → Option (Nat × Nat)} (hp : ∀ i p, place i = some p → place' i = some p) :
    ∀ (parts : List (Nat × AV)) (parts' : List (Nat × Value)) (cells : List AV) (cells' : Array Value) (r : List AV), fillA place cells parts = some r →
      parts.map (·.1) = parts'.map (·.1) → VRs E (parts.map (·.2)) (parts'.map (·.2)) → VRs E cells cells'.toList →
      ∃ r', Instr.fill place' cells' parts' = some r' ∧ VRs E r r'.toList
  | [], [], cells, cells', r, h, _, _, hc => by
    simp [fillA] at h; subst h
    exact ⟨cells', rfl, hc⟩
  | [], _ :: _, _, _, _, _, h, _, _ => by simp at h
  | _ :: _, [], _, _, _, _, h, _, _ => by simp at h
  | (i, v) :: parts, (j, v') :: parts', cells, cells', r, h, hi, hv, hc => by
    simp at hi
    obtain ⟨rfl, hi⟩ := hi
    cases hv with | cons _ _ _ _ hv hvs =>
    unfold fillA at h
    split at h
    · simp at h
    · rename_i off size hpl
      split at h
      · simp at h
      · rename_i hn
        have hcl := hv.cells
        have hlen := hcl.length
        have hcl2 := hc.length
        have hsz : v'.cells.size = v.cells.length := by rw [hlen]; simp
        have hb : off + v'.cells.size ≤ cells'.size := by
          have : cells.length = cells'.size := by rw [hcl2]; simp
          omega
        have hs : v'.cells.size = size := by omega
        have hfold : (v'.cells.zipIdx.foldl (fun (cs : Array Value) (p : Value × Nat) => cs.setIfInBounds (off + p.2) p.1) cells').toList = over cells'.toList off v'.cells.toList := by
          rw [← Array.foldl_toList, Array.toList_zipIdx]
          simpa using foldl_over v'.cells.toList off 0 cells' (by simpa using hb)
        obtain ⟨r', h1, h2⟩ := fill_sound hp parts parts' _ (v'.cells.zipIdx.foldl (fun (cs : Array Value) (p : Value × Nat) => cs.setIfInBounds (off + p.2) p.1) cells') r h hi hvs (by
          rw [hfold]; exact hc.over off hcl)
        refine ⟨r', ?_, h2⟩
        unfold Instr.fill
        simp only [hp _ _ hpl]
        rw [if_neg]
        · exact h1
        · simp; omega

theorem places_sound (ok : TabsOK P T) : ∀ (fs : List Field) (l : List (Nat × Nat)), fieldPlaces T fs = some l → ∀ w,
    (fs.mapM (m := Sem) fun f => do pure (f.offset, ← Go.sizeOf f.type)).run P w = .ok l w
  | [], l, h, w => by simp [fieldPlaces] at h; subst h; simp
  | f :: fs, l, h, w => by
    unfold fieldPlaces at h
    split at h <;> simp at h
    rename_i n l' hn hl
    subst h
    have := places_sound ok fs l' hl w
    simp only [List.mapM_cons, Sem.run_bind, run_size ok hn, Result.andThen_ok, Sem.run_pure, this]

theorem pairs_list (l : List (Nat × Operand)) (f : Operand → Value) : (l.map fun (p : Nat × Operand) => (p.1, f p.2)).map (·.1) = l.map (·.1) ∧ (l.map fun (p : Nat × Operand) => (p.1, f p.2)).map (·.2) = l.map fun p => f p.2 := by
  constructor <;> simp [List.map_map, Function.comp_def]

theorem build_sound (ok : TabsOK P T) {t : TypeId} {ps : List (Nat × AV)} {v : AV} (h : buildA T t ps = some v) {E : En} {ps' : List (Nat × Value)} (h1 : ps.map (·.1) = ps'.map (·.1)) (h2 : VRs E (ps.map (·.2)) (ps'.map (·.2))) (w : World) :
    ∃ v', (Instr.build t ps'.toArray).run P w = .ok v' w ∧ VR E v v' := by
  unfold buildA at h
  split at h
  · rename_i z fields hz hu
    obtain ⟨zv, rz, vz⟩ := run_zero ok hz
    split at h
    · rename_i places hpl
      split at h <;> simp at h
      rename_i l hl
      subst h
      obtain ⟨r', e1, e2⟩ := fill_sound (place' := fun i => places.toArray[i]?) (fun i p hp => by rw [nth_eq] at hp; simpa using hp) ps ps' z.cells zv.cells l hl h1 h2 (vz E).cells
      refine ⟨.agg r', ?_, ?_⟩
      · have hm : (fields.mapM (m := Sem) fun f => do pure (f.offset, ← Go.sizeOf f.type)).run P w = .ok places.toArray w := by
          rw [Array.mapM_eq_mapM_toList]
          simp only [Sem.run_map, places_sound ok fields.toList places hpl w, Result.andThen_ok]
        simp only [Instr.build, Sem.run_bind, rz, Result.andThen_ok, run_und ok hu]
        simp only [hm, Result.andThen_ok, e1]
        rfl
      · have := VR.agg (E := E) l r'.toList e2
        simpa using this
    · simp at h
  · rename_i z len elem hz hu
    obtain ⟨zv, rz, vz⟩ := run_zero ok hz
    split at h
    · rename_i n hn
      split at h <;> simp at h
      rename_i l hl
      subst h
      obtain ⟨r', e1, e2⟩ := fill_sound (place' := fun i => some (i * n, n)) (fun i p hp => hp) ps ps' z.cells zv.cells l hl h1 h2 (vz E).cells
      refine ⟨.agg r', ?_, ?_⟩
      · simp only [Instr.build, Sem.run_bind, rz, Result.andThen_ok, run_und ok hu, run_size ok hn]
        simp only [e1]
        rfl
      · have := VR.agg (E := E) l r'.toList e2
        simpa using this
    · simp at h
  · simp at h

theorem times_length {α : Type} (l : List α) : ∀ n, (times l n).length = n * l.length
  | 0 => by simp [times]
  | n + 1 => by simp [times, times_length l n, Nat.succ_mul]; omega
theorem times_get {α : Type} (l : List α) : ∀ (n i : Nat), i < n * l.length → (times l n)[i]? = l[i % l.length]?
  | 0, i, h => by simp at h
  | n + 1, i, h => by
    have hpos : 0 < l.length := by
      rcases Nat.eq_zero_or_pos l.length with h0 | h0
      · rw [h0] at h; simp at h
      · exact h0
    simp only [times]
    by_cases hi : i < l.length
    · rw [List.getElem?_append_left hi, Nat.mod_eq_of_lt hi]
    · rw [List.getElem?_append_right (by omega), times_get l n (i - l.length) (by rw [Nat.succ_mul] at h; omega)]
      congr 1
      rw [← Nat.mod_eq_sub_mod (by omega)]

/-- the zero values of n elements, as the model lays them -/
theorem zeros_sound (ok : TabsOK P T) {elem : TypeId} {n : Nat} {l : List AV} (h : zerosA T elem n = some l) {sz : Nat} (hl : l.length = n * sz) {E : En} (w : World) :
    ∃ z : Array Value, ((if n * sz = 0 then pure #[] else do pure (← Go.zeroValue elem).cells : Sem (Array Value))).run P w = .ok z w ∧
      VRs E l ((Array.range (n * sz)).map fun i => z[i % z.size]!).toList := by
  unfold zerosA at h
  split at h
  · rename_i hn
    simp at h; subst h; subst hn
    exact ⟨#[], by simp, by simp; exact .nil⟩
  · rename_i hn
    split at h <;> simp at h
    rename_i z hz
    subst h
    obtain ⟨zv, rz, vz⟩ := run_zero ok hz
    rw [times_length] at hl
    have hc := (vz E).cells
    have hcl := hc.length
    have hzl : z.cells.length = sz := Nat.eq_of_mul_eq_mul_left (by omega) hl
    by_cases h0 : n * sz = 0
    · refine ⟨#[], by simp [h0], ?_⟩
      have : sz = 0 := by
        rcases Nat.mul_eq_zero.1 h0 with h1 | h1
        · exact absurd h1 hn
        · exact h1
      have hnil : times z.cells n = [] := by
        apply List.eq_nil_of_length_eq_zero
        rw [times_length, hzl, h0]
      rw [hnil, h0]; simp; exact .nil
    · refine ⟨zv.cells, by simp [h0, rz], ?_⟩
      have hsz : zv.cells.size = sz := by rw [← hzl, hcl]; simp
      apply VRs.of_get
      · rw [times_length, hzl]; simp
      · intro i x hx
        have hi : i < n * sz := by
          rcases Nat.lt_or_ge i (n * sz) with h1 | h1
          · exact h1
          · rw [List.getElem?_eq_none (by rw [times_length, hzl]; exact h1)] at hx; simp at hx
        rw [times_get _ _ _ (by rw [hzl]; exact hi), hzl] at hx
        obtain ⟨x', h1, h2⟩ := hc.get hx
        refine ⟨x', ?_, h2⟩
        have hm : i % sz < zv.cells.size := by
          rw [hsz]; apply Nat.mod_lt
          rcases Nat.eq_zero_or_pos sz with h3 | h3
          · rw [h3] at h0; simp at h0
          · exact h3
        simp only [Array.toList_map, List.getElem?_map, Array.getElem?_toList]
        rw [Array.getElem?_range, if_pos hi]
        simp only [Option.map_some, Option.some.injEq]
        rw [hsz, getElem!_pos zv.cells (i % sz) hm]
        have : zv.cells[i % sz]? = some x' := by simpa using h1
        rw [Array.getElem?_eq_getElem hm] at this
        simpa using this
end Ev
