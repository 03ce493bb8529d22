/- A part of the proof that what the evaluator (EvDefs) says of a call is what the machine does: EvRel. Conditions: those that each theorem states. -/
import Derived.Test.YtnaihoegbmpjiaaGreatEvDefs
import Derived.Below
set_option linter.unusedVariables false
set_option linter.unusedSimpArgs false
namespace Ev
open Go Go.RowKit

/-! ### tables by number -/
namespace Tr
variable {α : Type}
theorem get_nil (n : Nat) : (nil : Tr α).get n = none := by cases n <;> rfl
theorem get_node (v : Option α) (l r : Tr α) (n : Nat) : (node v l r).get n = match n with
    | 0 => v
    | k + 1 => match k % 2 with
      | 0 => l.get (k / 2)
      | _ + 1 => r.get (k / 2) := by cases n <;> rfl
theorem get_parts (t : Tr α) (n : Nat) : t.get n = match n with
    | 0 => t.val
    | k + 1 => match k % 2 with
      | 0 => t.lft.get (k / 2)
      | _ + 1 => t.rgt.get (k / 2) := by
  cases t with
  | nil => rw [get_nil]; cases n with
    | zero => rfl
    | succ k => simp only [lft, rgt, get_nil]; split <;> rfl
  | node v l r => rw [get_node]; rfl
theorem bl_eq (v : Option α) (l r : Tr α) : bl v l r = node v l r := by cases l <;> rfl
theorem br_eq (v : Option α) (l r : Tr α) : br v l r = node v l r := by cases r <;> rfl
theorem get_setAux : ∀ (f : Nat) (t : Tr α) (n : Nat) (x : α) (m : Nat), n < f → (setAux f t n x).get m = if m = n then some x else t.get m
  | 0, _, _, _, _, h => by omega
  | f + 1, t, n, x, m, h => by
    have key : ∀ (v : Option α) (l r : Tr α), (match n with
        | 0 => node (some x) l r
        | k + 1 => match k % 2 with
          | 0 => node v (setAux f l (k / 2) x) r
          | _ + 1 => node v l (setAux f r (k / 2) x)).get m = if m = n then some x else (node v l r).get m := by
      intro v l r
      cases n with
      | zero =>
        simp only []
        rw [get_node, get_node]
        cases m <;> simp
      | succ k =>
        have ih := fun t' m' => get_setAux f t' (k / 2) x m' (by omega)
        simp only []
        split
        · rename_i hk
          rw [get_node, get_node]
          cases m with
          | zero => simp
          | succ j =>
            simp only []
            rw [ih]
            by_cases hj : j % 2 = 0
            · simp only [hj]
              by_cases e : j / 2 = k / 2
              · have : j = k := by omega
                simp [this]
              · have : ¬ j = k := by omega
                simp [e, this]
            · obtain ⟨q, hq⟩ : ∃ q, j % 2 = q + 1 := ⟨j % 2 - 1, by omega⟩
              have : ¬ j = k := by omega
              simp [hq, this]
        · rename_i q hk
          rw [get_node, get_node]
          cases m with
          | zero => simp
          | succ j =>
            simp only []
            rw [ih]
            by_cases hj : j % 2 = 0
            · have : ¬ j = k := by omega
              simp [hj, this]
            · obtain ⟨q', hq⟩ : ∃ q, j % 2 = q + 1 := ⟨j % 2 - 1, by omega⟩
              simp only [hq]
              by_cases e : j / 2 = k / 2
              · have : j = k := by omega
                simp [this]
              · have : ¬ j = k := by omega
                simp [e, this]
    cases t with
    | nil =>
      have h0 : (node none nil nil : Tr α).get m = (nil : Tr α).get m := by
        rw [get_node, get_nil]
        cases m with
        | zero => rfl
        | succ j => simp only [get_nil]; split <;> rfl
      rw [← h0, ← key none nil nil]
      simp only [setAux, bl_eq, br_eq]
      cases n with
      | zero => rfl
      | succ k =>
        simp only []
        cases k % 2 <;> rfl
    | node v l r =>
      rw [← key v l r]
      simp only [setAux, bl_eq, br_eq]
      cases n with
      | zero => rfl
      | succ k =>
        simp only []
        cases k % 2 <;> rfl
theorem get_set (t : Tr α) (n : Nat) (x : α) (m : Nat) : (t.set n x).get m = if m = n then some x else t.get m :=
  get_setAux (n + 1) t n x m (by omega)
theorem get_unset : ∀ (t : Tr α) (n m : Nat), (t.unset n).get m = if m = n then none else t.get m
  | nil, n, m => by simp [unset, get_nil]
  | node v l r, n, m => by
    cases n with
    | zero =>
      simp only [unset]
      rw [get_node, get_node]
      cases m <;> simp
    | succ k =>
      simp only [unset]
      have ihl := fun m' => get_unset l (k / 2) m'
      have ihr := fun m' => get_unset r (k / 2) m'
      split
      · rename_i hk
        rw [get_node, get_node]
        cases m with
        | zero => simp
        | succ j =>
          simp only []
          rw [ihl]
          by_cases hj : j % 2 = 0
          · simp only [hj]
            by_cases e : j / 2 = k / 2
            · have : j = k := by omega
              simp [this]
            · have : ¬ j = k := by omega
              simp [e, this]
          · obtain ⟨q, hq⟩ : ∃ q, j % 2 = q + 1 := ⟨j % 2 - 1, by omega⟩
            have : ¬ j = k := by omega
            simp [hq, this]
      · rename_i q hk
        rw [get_node, get_node]
        cases m with
        | zero => simp
        | succ j =>
          simp only []
          rw [ihr]
          by_cases hj : j % 2 = 0
          · have : ¬ j = k := by omega
            simp [hj, this]
          · obtain ⟨q', hq⟩ : ∃ q, j % 2 = q + 1 := ⟨j % 2 - 1, by omega⟩
            simp only [hq]
            by_cases e : j / 2 = k / 2
            · have : j = k := by omega
              simp [this]
            · have : ¬ j = k := by omega
              simp [e, this]
end Tr

/-! ### lists -/
theorem nth_eq {α : Type} : ∀ (l : List α) (n : Nat), nth l n = l[n]?
  | [], n => by simp [nth]
  | x :: l, n => by cases n with
    | zero => simp [nth]
    | succ k => simp [nth, nth_eq l k]
theorem cutE_some {α : Type} {l r : List α} {off n : Nat} (h : cutE l off n = some r) : off + n ≤ l.length ∧ r = (l.drop off).take n := by
  unfold cutE at h
  split at h
  · exact ⟨by assumption, by simpa [cut] using h.symm⟩
  · simp at h
theorem over_get {α : Type} (l : List α) (off : Nat) (vs : List α) (h : off + vs.length ≤ l.length) (i : Nat) :
    (over l off vs)[i]? = if off ≤ i ∧ i < off + vs.length then vs[i - off]? else l[i]? := by
  unfold over
  have hl : (l.take off).length = off := by simp; omega
  by_cases h1 : i < off
  · rw [List.getElem?_append_left (by simp; omega), List.getElem?_append_left (by omega), if_neg (by omega), List.getElem?_take, if_pos h1]
  · by_cases h2 : i < off + vs.length
    · rw [List.getElem?_append_left (by simp; omega), List.getElem?_append_right (by omega), if_pos (by omega), hl]
    · rw [List.getElem?_append_right (by simp; omega), if_neg (by omega), List.getElem?_drop]
      congr 1; simp; omega
theorem over_length {α : Type} (l : List α) (off : Nat) (vs : List α) (h : off + vs.length ≤ l.length) : (over l off vs).length = l.length := by
  unfold over
  simp; omega

/-! ### what abstract values stand for -/
/-- where the blocks lie -/
structure En where
  blk : Nat → Nat
  off : Nat → Nat
  ext : Nat → Nat
  dom : Nat → Prop
def En.at (E : En) (b o : Nat) : Addr := ⟨E.blk b, E.off b + o, none⟩
structure En.Le (E E' : En) : Prop where
  dom : ∀ b, E.dom b → E'.dom b
  blk : ∀ b, E.dom b → E'.blk b = E.blk b
  off : ∀ b, E.dom b → E'.off b = E.off b
  ext : ∀ b, E.dom b → E'.ext b = E.ext b
theorem En.Le.refl (E : En) : E.Le E := ⟨fun _ h => h, fun _ _ => rfl, fun _ _ => rfl, fun _ _ => rfl⟩
theorem En.Le.trans {A B C : En} (h : A.Le B) (k : B.Le C) : A.Le C :=
  ⟨fun b d => k.dom b (h.dom b d), fun b d => (k.blk b (h.dom b d)).trans (h.blk b d), fun b d => (k.off b (h.dom b d)).trans (h.off b d), fun b d => (k.ext b (h.dom b d)).trans (h.ext b d)⟩
theorem En.Le.at_ {E E' : En} (h : E.Le E') {b : Nat} (d : E.dom b) (o : Nat) : E'.at b o = E.at b o := by
  simp [En.at, h.blk b d, h.off b d]

inductive FnR (E : En) : Fn → Fn → Prop
  | yield (l : Nat) (h : E.dom l) : FnR E (.yield l) (.yield (E.blk l))
  | same (f : Fn) (h : ∀ l, f ≠ .yield l) : FnR E f f
theorem FnR.mono {E E' : En} (le : E.Le E') {f g : Fn} (h : FnR E f g) : FnR E' f g := by
  cases h with
  | yield l d => rw [← le.blk l d]; exact .yield l (le.dom l d)
  | same _ hn => exact .same _ hn

mutual
inductive VR (E : En) : AV → Value → Prop
  | bool (b : Bool) : VR E (.bool b) (.bool b)
  | int (k : IntKind) (n : Int) : VR E (.int k n) (.int k n)
  | str (s : List UInt8) : VR E (.str s) (.string ⟨s.toArray⟩)
  | ptr (b o : Nat) (h : E.dom b) : VR E (.ptr b o) (.pointer (some (E.at b o)))
  | nilptr : VR E .nilptr (.pointer none)
  | slice (b o n c : Nat) (h : E.dom b) : VR E (.slice b o n c) (.slice (some (E.at b o)) n c)
  | oslice (b o n sz k : Nat) (h : E.dom b) (hk : o + k * sz = E.ext b) : VR E (.oslice b o n sz) (.slice (some (E.at b o)) n k)
  | eslice (a : Addr) (k : Nat) : VR E .eslice (.slice (some a) 0 k)
  | nilslice : VR E .nilslice (.slice none 0 0)
  | map (b : Nat) (h : E.dom b) : VR E (.map b) (.map (some (E.blk b)))
  | nilmap : VR E .nilmap (.map none)
  | func (f f' : Fn) (hf : FnR E f f') (l m : List AV) (l' m' : List Value) (hl : VRs E l l') (hm : VRs E m m') : VR E (.func f l m) (.func f' l'.toArray m'.toArray)
  | nilfunc : VR E .nilfunc .nilFunc
  | iface (t : TypeId) (v : AV) (v' : Value) (h : VR E v v') : VR E (.iface t v) (.iface t v')
  | niliface : VR E .niliface .nilIface
  | agg (l : List AV) (l' : List Value) (h : VRs E l l') : VR E (.agg l) (.agg l'.toArray)
  | tuple (l : List AV) (l' : List Value) (h : VRs E l l') : VR E (.tuple l) (.tuple l'.toArray)
  | raw (b o : Nat) : VR E (.raw b o) (.pointer (some ⟨b, o, none⟩))
  | own (b n : Nat) (h : E.dom b) (h0 : E.off b = 0) (hk : E.ext b = n) : VR E (.own b n) (.pointer (some (E.at b 0)))
inductive VRs (E : En) : List AV → List Value → Prop
  | nil : VRs E [] []
  | cons (v : AV) (v' : Value) (l : List AV) (l' : List Value) (h : VR E v v') (hl : VRs E l l') : VRs E (v :: l) (v' :: l')
end

mutual
theorem VR.mono {E E' : En} (le : E.Le E') : ∀ {a : AV} {v : Value}, VR E a v → VR E' a v
  | _, _, .bool b => .bool b
  | _, _, .int k n => .int k n
  | _, _, .str s => .str s
  | _, _, .ptr b o h => by rw [← le.at_ h]; exact .ptr b o (le.dom b h)
  | _, _, .nilptr => .nilptr
  | _, _, .slice b o n c h => by rw [← le.at_ h]; exact .slice b o n c (le.dom b h)
  | _, _, .oslice b o n sz k h hk => by rw [← le.at_ h]; exact .oslice b o n sz k (le.dom b h) (by rw [le.ext b h]; exact hk)
  | _, _, .eslice a k => .eslice a k
  | _, _, .nilslice => .nilslice
  | _, _, .map b h => by rw [← le.blk b h]; exact .map b (le.dom b h)
  | _, _, .nilmap => .nilmap
  | _, _, .func f f' hf l m l' m' hl hm => .func f f' (hf.mono le) l m l' m' (VRs.mono le hl) (VRs.mono le hm)
  | _, _, .nilfunc => .nilfunc
  | _, _, .iface t v v' h => .iface t v v' (VR.mono le h)
  | _, _, .niliface => .niliface
  | _, _, .agg l l' h => .agg l l' (VRs.mono le h)
  | _, _, .tuple l l' h => .tuple l l' (VRs.mono le h)
  | _, _, .raw b o => .raw b o
  | _, _, .own b n h h0 hk => by rw [← le.at_ h]; exact .own b n (le.dom b h) (by rw [le.off b h]; exact h0) (by rw [le.ext b h]; exact hk)
theorem VRs.mono {E E' : En} (le : E.Le E') : ∀ {a : List AV} {v : List Value}, VRs E a v → VRs E' a v
  | _, _, .nil => .nil
  | _, _, .cons v v' l l' h hl => .cons v v' l l' (VR.mono le h) (VRs.mono le hl)
end

theorem VRs.length {E : En} : ∀ {a : List AV} {v : List Value}, VRs E a v → a.length = v.length
  | _, _, .nil => rfl
  | _, _, .cons _ _ _ _ _ h => by simp [h.length]
theorem VRs.get {E : En} : ∀ {a : List AV} {v : List Value}, VRs E a v → ∀ {i : Nat} {x : AV}, a[i]? = some x → ∃ x', v[i]? = some x' ∧ VR E x x'
  | _, _, .nil, i, x, h => by simp at h
  | _, _, .cons v v' l l' hv hl, i, x, h => by
    cases i with
    | zero => simp at h; subst h; exact ⟨v', by simp, hv⟩
    | succ k => simp at h; obtain ⟨x', h1, h2⟩ := hl.get h; exact ⟨x', by simpa using h1, h2⟩
theorem VRs.append {E : En} : ∀ {a : List AV} {v : List Value} {b : List AV} {u : List Value}, VRs E a v → VRs E b u → VRs E (a ++ b) (v ++ u)
  | _, _, _, _, .nil, h => h
  | _, _, _, _, .cons x x' l l' hx hl, h => .cons x x' _ _ hx (hl.append h)
theorem VRs.take {E : En} : ∀ {a : List AV} {v : List Value} (n : Nat), VRs E a v → VRs E (a.take n) (v.take n)
  | _, _, 0, _ => by simp; exact .nil
  | _, _, n + 1, .nil => by simp; exact .nil
  | _, _, n + 1, .cons x x' l l' hx hl => by simp only [List.take_succ_cons]; exact .cons x x' _ _ hx (hl.take n)
theorem VRs.drop {E : En} : ∀ {a : List AV} {v : List Value} (n : Nat), VRs E a v → VRs E (a.drop n) (v.drop n)
  | _, _, 0, h => by simpa using h
  | _, _, n + 1, .nil => by simp; exact .nil
  | _, _, n + 1, .cons x x' l l' hx hl => by simp only [List.drop_succ_cons]; exact hl.drop n
theorem VRs.over {E : En} {a b : List AV} {v u : List Value} (off : Nat) (h : VRs E a v) (k : VRs E b u) : VRs E (over a off b) (over v off u) := by
  unfold Ev.over
  rw [k.length]
  exact ((h.take off).append k).append (h.drop _)
theorem VRs.of_get {E : En} : ∀ (a : List AV) (v : List Value), a.length = v.length → (∀ (i : Nat) (x : AV), a[i]? = some x → ∃ x', v[i]? = some x' ∧ VR E x x') → VRs E a v
  | [], [], _, _ => .nil
  | [], _ :: _, h, _ => by simp at h
  | _ :: _, [], h, _ => by simp at h
  | x :: a, y :: v, h, k => by
    obtain ⟨x', h1, h2⟩ := k 0 x (by simp)
    simp at h1; subst h1
    exact .cons x y a v h2 (VRs.of_get a v (by simpa using h) fun i z hz => by
      obtain ⟨z', h3, h4⟩ := k (i + 1) z (by simpa using hz)
      exact ⟨z', by simpa using h3, h4⟩)
theorem VR.cells {E : En} {a : AV} {v : Value} (h : VR E a v) : VRs E a.cells v.cells.toList := by
  cases h with
  | agg l l' hl => simpa [AV.cells, Value.cells] using hl
  | _ => all_goals (simp only [AV.cells, Value.cells]; exact .cons _ _ _ _ (by constructor <;> assumption) .nil)
theorem VR.one {E : En} {a : AV} {v : Value} (h : VR E a v) (ho : a.one = true) : v.oneCell' = true := by
  cases h <;> simp_all [AV.one, Value.oneCell']

theorem ofScalar_VR {E : En} {v : Value} {a : AV} (h : ofScalar v = some a) : VR E a v := by
  unfold ofScalar at h
  split at h <;> simp at h <;> subst h
  · exact .bool _
  · exact .int _ _
  · rename_i s
    have := VR.str (E := E) s.data.toList
    simpa using this
  · exact .nilptr
  · exact .nilslice
  · exact .nilmap
  · exact .nilfunc
  · exact .niliface

theorem ofScalars_VRs {E : En} : ∀ {l : List Value} {a : List AV}, ofScalars l = some a → VRs E a l
  | [], a, h => by simp [ofScalars] at h; subst h; exact .nil
  | v :: l, a, h => by
    unfold ofScalars at h
    split at h <;> simp at h
    subst h
    rename_i x y hx hy
    exact .cons _ _ _ _ (ofScalar_VR hx) (ofScalars_VRs hy)
theorem ofValue_VR {E : En} {v : Value} {a : AV} (h : ofValue v = some a) : VR E a v := by
  unfold ofValue at h
  split at h
  · rename_i cs
    split at h <;> simp at h
    subst h
    rename_i l hl
    have := VR.agg (E := E) l cs.toList (ofScalars_VRs hl)
    simpa using this
  · rename_i vs
    split at h <;> simp at h
    subst h
    rename_i hl
    have : vs = #[] := by simpa using hl
    subst this
    exact .tuple [] [] .nil
  · exact ofScalar_VR h

/-! ### the program's tables -/
/-- the machine stands in for a function as the kind says -/
def ExtOK (P : Program) (f : FuncId) (k : ExtK) : Prop := ∃ F, P.funcs[f]? = some F ∧ (F.name == "runtime.NumGoroutine") = false ∧ F.body.isNone = true ∧ Extern.findNext F = none ∧ (match k with
    | .valueOf => Extern.find F = some (fun args => Extern.ReflectliteValue.unpack (args.getD 0 (.tuple #[])))
    | .valueLen => Extern.find F = some (Extern.ReflectliteValue.method (Extern.ReflectliteValue.valueError "reflectlite.Value.Len" 0) Extern.ReflectliteValue.len)
    | .overlaps sz => ∃ t e, F.params[0]? = some t ∧ P.underlying t = some (.slice e) ∧ ((P.info? e).map (·.size)) = some sz ∧ Extern.find F = some (Extern.SlicesOverlaps.overlaps F.params F.resultTypes)
    | .same => Extern.find F = some Extern.AbiNoEscape.same
    | .mapsClone => Extern.find F = some Extern.MapsClone.clone)
structure TabsOK (P : Program) (T : Tabs) : Prop where
  ti : ∀ t i, T.ti t = some i → P.info? t = some i
  und : ∀ t d, T.und t = some d → P.underlying t = some d
  fn : ∀ f F, T.fn f = some F → P.funcs[f]? = some F ∧ (F.name == "runtime.NumGoroutine") = false
  eqg : ∀ t, T.eqg t = false → P.eqGuardType P.depth t = false
  stood : ∀ t, T.stood t = false → P.stoodInHeld t = false
  mix : P.follows .mixedOrders = true
  ext : ∀ f k, T.ext f = some k → ExtOK P f k
  rt : T.rt = P.globals.size
  kd : ∀ t, T.kd t = true → P.packed t = false ∧ ∃ e, P.underlying t = some (.slice e)

section
variable {P : Program} {T : Tabs} (ok : TabsOK P T)
include ok
theorem run_ti {t : TypeId} {i : TypeInfo} (h : T.ti t = some i) (w : World) : (typeInfo t).run P w = .ok i w := by
  simp [typeInfo, ok.ti t i h]
theorem run_und {t : TypeId} {d : TypeDesc} (h : T.und t = some d) (w : World) : (underlying t).run P w = .ok d w := by
  simp [underlying, ok.und t d h]
theorem run_size {t : TypeId} {n : Nat} (h : T.size t = some n) (w : World) : (Go.sizeOf t).run P w = .ok n w := by
  unfold Tabs.size at h
  split at h <;> simp at h
  rename_i i hi
  simp [Go.sizeOf, run_ti ok hi, h]
theorem run_zero {t : TypeId} {z : AV} (h : T.zero t = some z) : ∃ zv, (∀ w, (zeroValue t).run P w = .ok zv w) ∧ ∀ E, VR E z zv := by
  unfold Tabs.zero at h
  split at h
  · rename_i i hi
    split at h
    · rename_i zv hz
      refine ⟨zv, fun w => ?_, fun E => ofValue_VR h⟩
      simp [zeroValue, run_ti ok hi, hz]
    · simp at h
  · simp at h
theorem run_agg {t : TypeId} {b : Bool} (h : T.agg t = some b) (w : World) : (isAgg t).run P w = .ok b w := by
  unfold Tabs.agg at h
  split at h
  · rename_i hu; simp at h; subst h; simp [isAgg, run_und ok hu]
  · rename_i hu; simp at h; subst h; simp [isAgg, run_und ok hu]
  · rename_i d h1 h2 hu
    simp at h; subst h
    simp only [isAgg, Sem.run_bind, run_und ok hu, Result.andThen_ok]
    cases d <;> simp_all
  · simp at h
end

/-! ### memory -/
def TR (E : En) (tm : Tr AV) (tmps : Array Value) : Prop := ∀ t v, tm.get t = some v → ∃ v', tmps[t]? = some v' ∧ VR E v v'
theorem TR.mono {E E' : En} (le : E.Le E') {tm : Tr AV} {tmps : Array Value} (h : TR E tm tmps) : TR E' tm tmps := fun t v hv =>
  let ⟨v', a, b⟩ := h t v hv; ⟨v', a, b.mono le⟩

inductive DR (E : En) : ADef → Deferred → Prop
  | fn (f f' : Fn) (hf : FnR E f f') (l m : List AV) (l' m' : List Value) (hl : VRs E l l') (hm : VRs E m m') : DR E (.fn f l m) { target := .fn f' l'.toArray, args := m'.toArray }
  | collected (b : Nat) (h : E.dom b) : DR E (.collected b) { target := .collected (E.blk b), args := #[] }
inductive DRs (E : En) : List ADef → List Deferred → Prop
  | nil : DRs E [] []
  | cons (d : ADef) (d' : Deferred) (l : List ADef) (l' : List Deferred) (h : DR E d d') (hl : DRs E l l') : DRs E (d :: l) (d' :: l')
theorem DR.mono {E E' : En} (le : E.Le E') {d : ADef} {d' : Deferred} (h : DR E d d') : DR E' d d' := by
  cases h with
  | fn f f' hf l m l' m' hl hm => exact .fn f f' (hf.mono le) l m l' m' (hl.mono le) (hm.mono le)
  | collected b h => rw [← le.blk b h]; exact .collected b (le.dom b h)
theorem DRs.mono {E E' : En} (le : E.Le E') : ∀ {d : List ADef} {d' : List Deferred}, DRs E d d' → DRs E' d d'
  | _, _, .nil => .nil
  | _, _, .cons d d' l l' h hl => .cons d d' l l' (h.mono le) (hl.mono le)
theorem DRs.append {E : En} : ∀ {a : List ADef} {v : List Deferred} {b : List ADef} {u : List Deferred}, DRs E a v → DRs E b u → DRs E (a ++ b) (v ++ u)
  | _, _, _, _, .nil, h => h
  | _, _, _, _, .cons x x' l l' hx hl, h => .cons x x' _ _ hx (hl.append h)

inductive ER (E : En) : List (AV × AV × Nat) → List MapEntry → Prop
  | nil : ER E [] []
  | cons (k v : AV) (k' v' : Value) (n : Nat) (l : List (AV × AV × Nat)) (l' : List MapEntry) (hk : VR E k k') (hv : VR E v v') (hl : ER E l l') :
      ER E ((k, v, n) :: l) ({ key := k', val := v', born := n } :: l')
theorem ER.mono {E E' : En} (le : E.Le E') : ∀ {d : List (AV × AV × Nat)} {d' : List MapEntry}, ER E d d' → ER E' d d'
  | _, _, .nil => .nil
  | _, _, .cons k v k' v' n l l' hk hv hl => .cons k v k' v' n l l' (hk.mono le) (hv.mono le) (hl.mono le)
theorem ER.length {E : En} : ∀ {d : List (AV × AV × Nat)} {d' : List MapEntry}, ER E d d' → d.length = d'.length
  | _, _, .nil => rfl
  | _, _, .cons _ _ _ _ _ _ _ _ _ h => by simp [h.length]

def AObj.own : AObj → Prop
  | .cells _ _ rw => rw = true
  | .dead => False
  | _ => True

/-- what stands for an object, in the world -/
def OR' (base : Nat) (E : En) (b : Nat) (w : World) : AObj → Prop
  | .cells e cs rw => ∃ (c' : Array Value) (z : Nat × Nat), w.heap[E.blk b]? = some (.cells c' e z) ∧ c'.size = E.off b + E.ext b ∧ cs.length ≤ E.ext b ∧
      (∀ (i : Nat) (v : AV), cs[i]? = some v → ∃ v', c'[E.off b + i]? = some v' ∧ VR E v v') ∧
      (rw = true → base ≤ E.blk b ∧ (z.1 = z.2 ∨ c'.size ≤ z.1)) ∧ (rw = false → E.blk b < base)
  | .map es clock => base ≤ E.blk b ∧ ∃ es' : Array MapEntry, w.heap[E.blk b]? = some (.map es' clock) ∧ ER E es es'.toList
  | .loop st pend fn tm nt ps as bd d => base ≤ E.blk b ∧ E.dom d ∧ ∃ tmps : Array Value,
      w.heap[E.blk b]? = some (.loop { state := st, pending := pend, fn := fn, tmps := tmps, params := ps.toArray, assign := as, body := bd, defers := E.blk d }) ∧ tmps.size = nt ∧ TR E tm tmps
  | .dfr ds => base ≤ E.blk b ∧ ∃ ds', w.heap[E.blk b]? = some (.deferred ds') ∧ (match ds with
      | none => ds' = none
      | some l => ∃ l', ds' = some l' ∧ DRs E l l')
  | .iter m since seen last => base ≤ E.blk b ∧ E.off b = 0 ∧ (∀ x, m = some x → E.dom x) ∧ w.heap[E.blk b]? = some (.mapIter (m.map E.blk) since seen.toArray last)
  | .dead => True
theorem OR'.mono {base : Nat} {E E' : En} (le : E.Le E') {b : Nat} (d : E.dom b) {w : World} {o : AObj} (h : OR' base E b w o) : OR' base E' b w o := by
  cases o with
  | cells e cs rw =>
    obtain ⟨c', z, h1, h2, h3, h4, h5, h6⟩ := h
    refine ⟨c', z, ?_, ?_, ?_, ?_, ?_, ?_⟩
    · rw [le.blk b d]; exact h1
    · rw [le.off b d, le.ext b d]; exact h2
    · rw [le.ext b d]; exact h3
    · intro i v hv
      obtain ⟨v', a, k⟩ := h4 i v hv
      exact ⟨v', by rw [le.off b d]; exact a, k.mono le⟩
    · rw [le.blk b d]; exact h5
    · rw [le.blk b d]; exact h6
  | map es clock =>
    obtain ⟨h0, es', h1, h2⟩ := h
    exact ⟨by rw [le.blk b d]; exact h0, es', by rw [le.blk b d]; exact h1, h2.mono le⟩
  | loop st pend fn tm nt ps as bd dd =>
    obtain ⟨h0, hd, tmps, h1, h2, h3⟩ := h
    exact ⟨by rw [le.blk b d]; exact h0, le.dom dd hd, tmps, by rw [le.blk b d, le.blk dd hd]; exact h1, h2, h3.mono le⟩
  | dfr ds =>
    obtain ⟨h0, ds', h1, h2⟩ := h
    refine ⟨by rw [le.blk b d]; exact h0, ds', by rw [le.blk b d]; exact h1, ?_⟩
    cases ds with
    | none => exact h2
    | some l => obtain ⟨l', a, k⟩ := h2; exact ⟨l', a, k.mono le⟩
  | iter m since seen last =>
    obtain ⟨h0, ho, hd, h1⟩ := h
    refine ⟨by rw [le.blk b d]; exact h0, by rw [le.off b d]; exact ho, fun x hx => le.dom x (hd x hx), ?_⟩
    have : m.map E'.blk = m.map E.blk := by
      cases m with
      | none => rfl
      | some x => simp [le.blk x (hd x rfl)]
    rw [le.blk b d, this]; exact h1
  | dead => trivial
/-- the block alone counts -/
theorem OR'.same {base : Nat} {E : En} {b : Nat} {w w' : World} (e : w'.heap[E.blk b]? = w.heap[E.blk b]?) {o : AObj} (h : OR' base E b w o) : OR' base E b w' o := by
  cases o <;> simp only [OR'] at h ⊢ <;> first | (rw [e]; exact h) | trivial
theorem OR'.base {base : Nat} {E : En} {b : Nat} {w : World} {o : AObj} (h : OR' base E b w o) (ho : o.own) : base ≤ E.blk b := by
  cases o with
  | cells e cs rw => obtain ⟨_, _, _, _, _, _, h5, _⟩ := h; exact (h5 ho).1
  | map => exact h.1
  | loop => exact h.1
  | dfr => exact h.1
  | iter => exact h.1
  | dead => exact ho.elim
theorem OR'.lt {base : Nat} {E : En} {b : Nat} {w : World} {o : AObj} (h : OR' base E b w o) (ho : o ≠ .dead) : E.blk b < w.heap.size := by
  have : ∀ x : Obj, w.heap[E.blk b]? = some x → E.blk b < w.heap.size := fun x hx => (Array.getElem?_eq_some_iff.1 hx).1
  cases o with
  | cells e cs rw => obtain ⟨_, _, h1, _⟩ := h; exact this _ h1
  | map => obtain ⟨_, _, h1, _⟩ := h; exact this _ h1
  | loop => obtain ⟨_, _, _, h1, _⟩ := h; exact this _ h1
  | dfr => obtain ⟨_, _, h1, _⟩ := h; exact this _ h1
  | iter => obtain ⟨_, _, _, h1⟩ := h; exact this _ h1
  | dead => exact absurd rfl ho

structure HR (base : Nat) (w0 : World) (E : En) (h : Heap) (w : World) : Prop where
  dlt : ∀ b, E.dom b → b < h.next
  obj : ∀ b o, E.dom b → h.get b = some o → OR' base E b w o
  inj : ∀ b b' o o', E.dom b → E.dom b' → h.get b = some o → h.get b' = some o' → o.own → o'.own → E.blk b = E.blk b' → b = b'
  wd : Below base w0 w
  drawn : w0.drawn ≤ w.drawn
  bsz : base ≤ w.heap.size
  blt : ∀ b, E.dom b → E.blk b < w.heap.size

/-- a step from one memory to another -/
structure Ste (E : En) (h : Heap) (w : World) (E' : En) (h' : Heap) (w' : World) : Prop where
  le : E.Le E'
  newd : ∀ b, E'.dom b → E.dom b ∨ h.next ≤ b
  nx : h.next ≤ h'.next
  loc : ∀ b, b < h.next → ¬ E.dom b → h'.get b = h.get b
  sz : w.heap.size ≤ w'.heap.size
  fr : ∀ k, k < w.heap.size → (∀ b, E.dom b → E.blk b ≠ k) → w'.heap[k]? = w.heap[k]?
  img : ∀ b, E'.dom b → E.dom b ∨ w.heap.size ≤ E'.blk b ∨ ∃ b0, E.dom b0 ∧ E.blk b0 = E'.blk b
theorem Ste.refl (E : En) (h : Heap) (w : World) : Ste E h w E h w :=
  ⟨.refl E, fun _ h => .inl h, Nat.le_refl _, fun _ _ _ => rfl, Nat.le_refl _, fun _ _ _ => rfl, fun _ h => .inl h⟩
theorem Ste.trans {E E' E'' : En} {h h' h'' : Heap} {w w' w'' : World} (a : Ste E h w E' h' w') (b : Ste E' h' w' E'' h'' w'') : Ste E h w E'' h'' w'' where
  le := a.le.trans b.le
  newd x hx := by
    rcases b.newd x hx with h1 | h1
    · exact a.newd x h1
    · exact .inr (Nat.le_trans a.nx h1)
  nx := Nat.le_trans a.nx b.nx
  loc x hx hd := by
    rw [b.loc x (Nat.lt_of_lt_of_le hx a.nx) (fun hd' => (a.newd x hd').elim hd (fun h1 => by omega)), a.loc x hx hd]
  sz := Nat.le_trans a.sz b.sz
  fr k hk hn := by
    rw [b.fr k (Nat.lt_of_lt_of_le hk a.sz) (fun x hx e => by
      rcases a.img x hx with h1 | h1 | ⟨b0, h1, h2⟩
      · rw [a.le.blk x h1] at e; exact hn x h1 e
      · omega
      · exact hn b0 h1 (h2.trans e)), a.fr k hk hn]
  img x hx := by
    rcases b.img x hx with h1 | h1 | ⟨b0, h1, h2⟩
    · rcases a.img x h1 with h3 | h3 | ⟨b1, h3, h4⟩
      · exact .inl h3
      · exact .inr (.inl (by rw [b.le.blk x h1]; exact h3))
      · exact .inr (.inr ⟨b1, h3, by rw [b.le.blk x h1]; exact h4⟩)
    · exact .inr (.inl (Nat.le_trans a.sz h1))
    · rcases a.img b0 h1 with h3 | h3 | ⟨b1, h3, h4⟩
      · exact .inr (.inr ⟨b0, h3, by rw [← h2, a.le.blk b0 h3]⟩)
      · exact .inr (.inl (by rw [← h2]; exact h3))
      · exact .inr (.inr ⟨b1, h3, h4.trans h2⟩)
end Ev
