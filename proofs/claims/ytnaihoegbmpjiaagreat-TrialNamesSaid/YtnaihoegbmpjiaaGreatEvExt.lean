/- A part of the proof that what the evaluator (EvDefs) says of a call is what the machine does: EvExt. Conditions: those that each theorem states. -/
import Derived.Test.YtnaihoegbmpjiaaGreatEvIter
import Derived.Laws.Externs
import Derived.Lib.Overlaps
set_option linter.unusedVariables false
set_option linter.unusedSimpArgs false
namespace Ev
open Go Go.RowKit

variable {P : Program} {T : Tabs} {base : Nat} {w0 : World}

/-! ### functions without a body -/
theorem run_kind_slice {t e : TypeId} (h : P.underlying t = some (.slice e)) (w : World) : (Extern.Rtype.kind t).run P w = .ok 23 w := by
  unfold Program.underlying at h
  unfold Extern.Rtype.kind Extern.Rtype.under
  cases hi : P.info? t with
  | none => simp [hi] at h
  | some i =>
    have ht : (typeInfo t).run P w = .ok i w := by simp [typeInfo, hi]
    simp only [Sem.run_bind, ht, Result.andThen_ok]
    rw [hi] at h
    cases hd : i.desc with
    | named n u =>
      obtain ⟨⟩ := i
      simp only at hd
      subst hd
      simp only at h
      cases hu : P.info? u with
      | none => simp [hu] at h
      | some j =>
        have hu2 : (typeInfo u).run P w = .ok j w := by simp [typeInfo, hu]
        simp [hu] at h
        simp [hu2, h]
    | slice e2 => simp [hd]
    | _ =>
      exfalso
      obtain ⟨⟩ := i
      simp only at hd
      subst hd
      simp at h
theorem run_under_slice {t e : TypeId} (h : P.underlying t = some (.slice e)) (w : World) : ∃ u i, (Extern.Rtype.under t).run P w = .ok (u, i) w ∧ i.desc = .slice e := by
  unfold Program.underlying at h
  unfold Extern.Rtype.under
  cases hi : P.info? t with
  | none => simp [hi] at h
  | some i =>
    have ht : (typeInfo t).run P w = .ok i w := by simp [typeInfo, hi]
    simp only [Sem.run_bind, ht, Result.andThen_ok]
    rw [hi] at h
    cases hd : i.desc with
    | named n u =>
      obtain ⟨⟩ := i
      simp only at hd
      subst hd
      simp only at h
      cases hu : P.info? u with
      | none => simp [hu] at h
      | some j =>
        have hu2 : (typeInfo u).run P w = .ok j w := by simp [typeInfo, hu]
        simp [hu] at h
        exact ⟨u, j, by simp [hu2], h⟩
    | slice e2 =>
      obtain ⟨⟩ := i
      simp only at hd
      subst hd
      simp at h
      subst h
      exact ⟨t, _, rfl, rfl⟩
    | _ =>
      exfalso
      obtain ⟨⟩ := i
      simp only at hd
      subst hd
      simp at h
theorem run_noPack {t : TypeId} (h : P.packed t = false) (what : String) (w : World) : (Extern.Rtype.noPack what t).run P w = .ok () w := by
  simp [Extern.Rtype.noPack, h]
theorem run_ofHandle (t : TypeId) (w : World) : (Extern.Rtype.ofHandle (.pointer (some ⟨P.globals.size, t, none⟩))).run P w = .ok t w := by
  simp [Extern.Rtype.ofHandle, handleType]
theorem run_parts {t : TypeId} (h : P.packed t = false) (a : Addr) (w : World) :
    (Extern.ReflectliteValue.parts (.agg #[.pointer (some ⟨P.globals.size, t, none⟩), .pointer (some a), .int .u64 151])).run P w = .ok (some (t, a, 151)) w := by
  have e0 : Extern.ReflectliteValue.parts (.agg #[.pointer (some ⟨P.globals.size, t, none⟩), .pointer (some a), .int .u64 151]) =
    ((do pure (some (← Extern.Rtype.ofHandle (.pointer (some ⟨P.globals.size, t, none⟩)), a, (151 : Int).toNat)) : Sem (Option (TypeId × Addr × Nat))) >>= fun r => match r with
      | some (t, a, fl) => do Extern.Rtype.noPack "a Value asked or handed on" t; pure (some (t, a, fl))
      | none => pure none) := rfl
  rw [e0]
  simp only [Sem.run_bind, run_ofHandle, Result.andThen_ok, Sem.run_pure, run_noPack h]
  rfl
theorem run_valueLen {t e : TypeId} (hu : P.underlying t = some (.slice e)) (h : P.packed t = false) (a : Addr) (w : World) :
    (Extern.ReflectliteValue.method (Extern.ReflectliteValue.valueError "reflectlite.Value.Len" 0) Extern.ReflectliteValue.len #[.agg #[.pointer (some ⟨P.globals.size, t, none⟩), .pointer (some a), .int .u64 151]]).run P w =
    (do Builtin.len_ #[t] 0 #[← loadVar t a] : Sem Value).run P w := by
  have e0 : Extern.ReflectliteValue.method (Extern.ReflectliteValue.valueError "reflectlite.Value.Len" 0) Extern.ReflectliteValue.len #[.agg #[.pointer (some ⟨P.globals.size, t, none⟩), .pointer (some a), .int .u64 151]] =
    (Extern.ReflectliteValue.parts (.agg #[.pointer (some ⟨P.globals.size, t, none⟩), .pointer (some a), .int .u64 151]) >>= fun r => match r with
      | none => Extern.ReflectliteValue.valueError "reflectlite.Value.Len" 0
      | some (t, a, fl) => Extern.ReflectliteValue.len t a fl (fl % 32)) := rfl
  have e3 : (Extern.ReflectliteValue.len t a 151 (151 % 32)) = (Extern.Rtype.under t >>= fun q => match q.2.desc with
      | .array n _ => pure (goInt (Int.ofNat n))
      | _ => do Builtin.len_ #[t] 0 #[← loadVar t a]) := rfl
  rw [e0, Sem.run_bind, run_parts h, Result.andThen_ok]
  show Sem.run P (Extern.ReflectliteValue.len t a 151 (151 % 32)) w = _
  obtain ⟨u, i, hi, hid⟩ := run_under_slice hu w
  rw [e3, Sem.run_bind, hi, Result.andThen_ok]
  simp only [hid]
theorem ext_val {E : En} {h h' : Heap} {w : World} {v : AV} {f : FuncId} {F : Func} {e : Array Value → Sem Value} {args : List Value} (hf : P.funcs[f]? = some F) (hname : (F.name == "runtime.NumGoroutine") = false)
    (hb : F.body.isNone = true) (hn : Extern.findNext F = none) (he : Extern.find F = some e)
    (hs : ∃ E' w' v', (e args.toArray).run P w = .ok v' w' ∧ VR E' v v' ∧ HR base w0 E' h' w' ∧ Ste E h w E' h' w') : Out base w0 E h w (.val v h') ((callFunc f args.toArray).run P w) := by
  obtain ⟨E', w', v', r1, r2, r3, r4⟩ := hs
  refine ⟨E', w', v', ?_, r2, r3, r4⟩
  rw [run_callFunc_extern hf hname hb hn he, r1]
  rfl
theorem overlaps_out (w : World) (tS e : TypeId) (ps rs : Array TypeId) (hp : ps[0]? = some tS) (ht : P.underlying tS = some (.slice e)) (size : Nat) (hz : ∀ w, (Go.sizeOf e).run P w = .ok size w)
    (a b : Addr) (la ca lb cb : Nat) (h0 : la = 0 ∨ lb = 0 ∨ size = 0) :
    (Extern.SlicesOverlaps.overlaps ps rs #[.slice (some a) la ca, .slice (some b) lb cb]).run P w = .ok (.bool false) w := by
  have e1 : Extern.SlicesOverlaps.overlaps ps rs #[.slice (some a) la ca, .slice (some b) lb cb] = (do
    let some t := ps[0]? | stuck "slices.overlaps: no parameter types"
    let .slice elem ← underlying t | stuck "slices.overlaps: slice type expected"
    let size ← sizeOf elem
    match (some a : Option Addr), (some b : Option Addr) with
    | some a, some b =>
      if la = 0 ∨ lb = 0 ∨ size = 0 then pure (Value.bool false)
      else if a.block != b.block && (← frozen a) && (← frozen b) then unsupported .addressObserved
      else do
        if a.block != b.block then do
          noView a; noView b
          if ← mayBeOne a b then return Value.bool ((← choose (.extern "sameAddr.stringBytes" 2)) == 1)
        pure (Value.bool (a.block == b.block && a.off < b.off + lb * size && b.off < a.off + la * size))
    | _, _ => pure (Value.bool false)) := rfl
  rw [e1, hp]
  simp [run_underlying ht, hz, h0]
theorem overlaps_nil (w : World) (tS e : TypeId) (ps rs : Array TypeId) (hp : ps[0]? = some tS) (ht : P.underlying tS = some (.slice e)) (size : Nat) (hz : ∀ w, (Go.sizeOf e).run P w = .ok size w)
    (a b : Option Addr) (la ca lb cb : Nat) (h0 : a = none ∨ b = none) :
    (Extern.SlicesOverlaps.overlaps ps rs #[.slice a la ca, .slice b lb cb]).run P w = .ok (.bool false) w := by
  have e1 : Extern.SlicesOverlaps.overlaps ps rs #[.slice a la ca, .slice b lb cb] = (do
    let some t := ps[0]? | stuck "slices.overlaps: no parameter types"
    let .slice elem ← underlying t | stuck "slices.overlaps: slice type expected"
    let size ← sizeOf elem
    match a, b with
    | some a, some b =>
      if la = 0 ∨ lb = 0 ∨ size = 0 then pure (Value.bool false)
      else if a.block != b.block && (← frozen a) && (← frozen b) then unsupported .addressObserved
      else do
        if a.block != b.block then do
          noView a; noView b
          if ← mayBeOne a b then return Value.bool ((← choose (.extern "sameAddr.stringBytes" 2)) == 1)
        pure (Value.bool (a.block == b.block && a.off < b.off + lb * size && b.off < a.off + la * size))
    | _, _ => pure (Value.bool false)) := rfl
  rw [e1, hp]
  rcases h0 with rfl | rfl
  · simp [run_underlying ht, hz]
  · cases a <;> simp [run_underlying ht, hz]
theorem VR.sliceLen {E : En} {x : AV} {x' : Value} {n : Nat} (h : VR E x x') (hn : sliceLen x = some n) : ∃ A c, x' = .slice A n c := by
  cases h <;> simp [Ev.sliceLen] at hn
  · subst hn; exact ⟨_, _, rfl⟩
  · subst hn; exact ⟨_, _, rfl⟩
  · subst hn; exact ⟨_, _, rfl⟩
  · subst hn; exact ⟨_, _, rfl⟩
theorem run_clone (w : World) {r : Nat} {es : Array MapEntry} {clock : Nat} (t : TypeId) (hb : w.heap[r]? = some (.map es clock)) :
    (Extern.MapsClone.clone #[.iface t (.map (some r))]).run P w = .ok (.iface t (.map (some w.heap.size))) (w.alloc (.map es clock)) := by
  have e : Extern.MapsClone.clone #[.iface t (.map (some r))] = (getObj r >>= fun o => match o with
      | .map entries clock => (newObj (.map entries clock) >>= fun n => pure (.iface t (.map (some n))))
      | _ => stuck "maps.clone: a map expected") := rfl
  rw [e, Sem.run_bind, run_getMap hb]
  simp
theorem ext_sound (ok : TabsOK P T) {E : En} {h : Heap} {w : World} (H : HR base w0 E h w) (f : FuncId) {args : List AV} {args' : List Value} (ha : VRs E args args') :
    Out base w0 E h w (extA T f args h) ((callFunc f args'.toArray).run P w) := by
  unfold extA
  split
  · trivial
  · rename_i hk
    obtain ⟨F, f1, f2, f3, f4, f5⟩ := ok.ext f _ hk
    split
    · rename_i t v
      split
      · rename_i hkd
        cases ha with | cons _ v1 _ l1 hv hl =>
        cases hl
        cases hv with | iface _ _ v' hv =>
        obtain ⟨_, e, hu⟩ := ok.kd t hkd
        obtain ⟨E', q1, q2, q3, q4⟩ := fresh H t hv.cells
        refine ext_val f1 f2 f3 f4 f5 ⟨E', _, .agg #[.pointer (some ⟨P.globals.size, t, none⟩), .pointer (some ⟨w.heap.size, 0, none⟩), .int .u64 151], ?_, ?_, q1, q2⟩
        · have e1 : (Extern.ReflectliteValue.unpack ((#[Value.iface t v'] : Array Value).getD 0 (.tuple #[]))) = (do Extern.ReflectliteValue.mk t (← newVar t v') 0) := rfl
          have e2 : ∀ w, (Extern.Rtype.handle t).run P w = .ok (typeHandle P t) w := fun w => by simp [Extern.Rtype.handle]
          show Sem.run P (Extern.ReflectliteValue.unpack ((#[Value.iface t v'] : Array Value).getD 0 (.tuple #[]))) w = _
          rw [e1]
          simp [newVar, newRow, Extern.ReflectliteValue.mk, e2, run_kind_slice hu, Extern.ReflectliteValue.flagIndir]
          rfl
        · refine .agg _ [_, _, _] (.cons _ _ _ _ ?_ (.cons _ _ _ _ ?_ (.cons _ _ _ _ (.int _ _) .nil)))
          · rw [ok.rt]; exact .raw _ _
          · have := VR.ptr (E := E') h.next 0 q3
            rw [q4] at this
            exact this
      · trivial
    · trivial
  · rename_i hk
    obtain ⟨F, f1, f2, f3, f4, f5⟩ := ok.ext f _ hk
    split
    · rename_i g t b off k
      split
      · rename_i hc
        obtain ⟨hkd, rfl, rfl⟩ := hc
        obtain ⟨hpk, e, hu⟩ := ok.kd t hkd
        split
        · rename_i x hx
          cases hl : lenA T t h x with
          | none => trivial
          | some v =>
            cases ha with | cons _ v1 _ l1 hv hl1 =>
            cases hl1
            cases hv with | agg _ _ hag =>
            cases hag with | cons _ _ _ _ h1 hag =>
            cases hag with | cons _ _ _ _ h2 hag =>
            cases hag with | cons _ _ _ _ h3 hag =>
            cases hag
            cases h1
            cases h3
            cases h2 with | ptr _ _ hd =>
            obtain ⟨x', r1, r2⟩ := load_var (P := P) ok hd H hx
            obtain ⟨v', s1, s2⟩ := len_sound (P := P) ok H hl r2 [] [] 0
            refine ext_val f1 f2 f3 f4 f5 ⟨E, w, v', ?_, s2, H, .refl _ _ _⟩
            show Sem.run P (Extern.ReflectliteValue.method (Extern.ReflectliteValue.valueError "reflectlite.Value.Len" 0) Extern.ReflectliteValue.len #[.agg #[.pointer (some ⟨T.rt, t, none⟩), .pointer (some (E.at b off)), .int .u64 151]]) w = _
            rw [ok.rt, run_valueLen hu hpk, Sem.run_bind, r1]
            exact s1
        · trivial
      · trivial
    · trivial
  · rename_i sz hk
    obtain ⟨F, f1, f2, f3, f4, tS, e, f5, f6, f7, f8⟩ := ok.ext f _ hk
    have hz : ∀ w, (Go.sizeOf e).run P w = .ok sz w := fun w => by
      cases hi : P.info? e with
      | none => rw [hi] at f7; cases f7
      | some i =>
        rw [hi] at f7
        simp at f7
        simp [Go.sizeOf, typeInfo, hi, f7]
    split
    · rename_i x y
      cases ho : overlapsA sz x y with
      | none => trivial
      | some b =>
        cases ha with | cons _ x' _ _ hx ha =>
        cases ha with | cons _ y' _ _ hy ha =>
        cases ha
        unfold overlapsA at ho
        split at ho
        · rename_i n n' hn hn'
          split at ho
          · rename_i h0
            simp at ho
            subst ho
            obtain ⟨A, c, rfl⟩ := hx.sliceLen hn
            obtain ⟨B, c', rfl⟩ := hy.sliceLen hn'
            refine ext_val f1 f2 f3 f4 f8 ⟨E, w, .bool false, ?_, .bool _, H, .refl _ _ _⟩
            cases A with
            | none => exact overlaps_nil w tS e _ _ f5 f6 sz hz _ _ _ _ _ _ (.inl rfl)
            | some a =>
              cases B with
              | none => exact overlaps_nil w tS e _ _ f5 f6 sz hz _ _ _ _ _ _ (.inr rfl)
              | some b => exact overlaps_out w tS e _ _ f5 f6 sz hz _ _ _ _ _ _ h0
          · cases ho
        · cases ho
    · trivial
  · rename_i hk
    obtain ⟨F, f1, f2, f3, f4, f5⟩ := ok.ext f _ hk
    split
    · cases ha with | cons _ v1 _ l1 hv hl =>
      cases hl
      refine ext_val f1 f2 f3 f4 f5 ⟨E, w, v1, ?_, hv, H, .refl _ _ _⟩
      rfl
    · trivial
  · rename_i hk
    obtain ⟨F, f1, f2, f3, f4, f5⟩ := ok.ext f _ hk
    split
    · rename_i t b
      split
      · rename_i es clock hg
        cases ha with | cons _ x' _ _ hx ha =>
        cases ha
        cases hx with | iface _ _ v' hv =>
        cases hv with | map _ hd =>
        obtain ⟨hb, es', he1, he2⟩ := H.obj b _ hd hg
        have K := new_obj H (.map es clock) (.map es' clock) 0 (by
          have hnd : ¬ E.dom h.next := fun hd => by have := H.dlt _ hd; omega
          have le := E.push_le h.next w.heap.size 0 0 hnd
          refine ⟨by simpa [En.push] using H.bsz, es', ?_, he2.mono le⟩
          simp only [En.push, if_true]; exact heap_alloc_new)
        have hv := VR.iface (E := E.push h.next w.heap.size 0 0) t _ _ (VR.map (E := E.push h.next w.heap.size 0 0) h.next (.inl rfl))
        have hbk : (E.push h.next w.heap.size 0 0).blk h.next = w.heap.size := by simp [En.push]
        rw [hbk] at hv
        exact ext_val f1 f2 f3 f4 f5 ⟨_, _, _, run_clone w t he1, hv, K.1, K.2⟩
      · trivial
    · trivial
end Ev
