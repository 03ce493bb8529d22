/- A part of the proof that what the evaluator (EvDefs) says of a call is what the machine does: EvOps8. Conditions: those that each theorem states. -/
import Derived.Test.YtnaihoegbmpjiaaGreatEvOps7
import Derived.Lib.ConvBytes
import Derived.Laws.BytesString
set_option linter.unusedVariables false
set_option linter.unusedSimpArgs false
namespace Ev
open Go Go.RowKit

variable {P : Program} {T : Tabs} {base : Nat} {w0 : World}

/-- what copy does once it has read -/
def copyTail (basea : Option Addr) (c : Array Value) (n : Nat) : Sem Value := match basea with
  | some a => do
    storeCells a c.toList
    pure (goInt n)
  | none => pure (goInt n)

theorem copy_sound (ok : TabsOK P T) {E : En} {h : Heap} {w : World} (H : HR base w0 E h w) {args : List AV} {args' : List Value} (ha : VRs E args args') (argTypes : List TypeId) (ty : TypeId) :
    Out base w0 E h w (copyA T args argTypes h) ((do pure (Next.value (← Builtin.copy_ argTypes.toArray ty args'.toArray)) : Sem Next).run P w) := by
  unfold copyA
  split
  · rename_i d s dt rest
    cases ha with | cons _ d' _ _ hd ha =>
    cases ha with | cons _ s' _ _ hs ha =>
    cases ha
    split
    · rename_i elem hu
      split
      · rename_i sz dl sl hsz hdl hsl
        simp only
        have rl := lenS_sound (P := P) hsl hs w
        have pre : ∀ (basea : Option Addr) (cap : Nat) (new : List AV), firstA sz (Nat.min sl dl) h s = some new → d' = .slice basea dl cap → ∃ c : Array Value, VRs E new c.toList ∧
            (Builtin.copy_ (dt :: rest).toArray ty #[d', s']).run P w = (copyTail basea c (Nat.min sl dl)).run P w := by
          rintro basea cap new hf rfl
          obtain ⟨c, r1, v1⟩ := first_sound (P := P) H hf hs
          refine ⟨c, v1, ?_⟩
          unfold Builtin.copy_
          unfold copyTail
          simp [run_und ok hu, run_size ok hsz, rl, r1]
          cases basea <;> simp
        split
        · rename_i new b off n cap hf
          cases hd with | slice _ _ _ _ hdd =>
          simp [lenS] at hdl; subst hdl
          split
          · rename_i h' hw
            apply out_val
            obtain ⟨c, v1, r1⟩ := pre _ _ _ hf rfl
            obtain ⟨w', r2, r3, r4⟩ := write_cells (P := P) H hdd hw v1
            refine ⟨E, w', _, ?_, .int _ _, r3, r4⟩
            rw [show ([Value.slice (some (E.at b off)) n cap, s'].toArray) = #[Value.slice (some (E.at b off)) n cap, s'] from rfl, r1]
            simp [copyTail, r2, goInt]
          · trivial
        · rename_i new b off n sz' hf
          cases hd with | oslice _ _ _ _ k hdd hk =>
          simp [lenS] at hdl; subst hdl
          split
          · rename_i h' hw
            apply out_val
            obtain ⟨c, v1, r1⟩ := pre _ _ _ hf rfl
            obtain ⟨w', r2, r3, r4⟩ := write_cells (P := P) H hdd hw v1
            refine ⟨E, w', _, ?_, .int _ _, r3, r4⟩
            rw [show ([Value.slice (some (E.at b off)) n k, s'].toArray) = #[Value.slice (some (E.at b off)) n k, s'] from rfl, r1]
            simp [copyTail, r2, goInt]
          · trivial
        · rename_i new hf
          cases hd
          simp [lenS] at hdl; subst hdl
          apply out_val0 H
          obtain ⟨c, v1, r1⟩ := pre _ _ _ hf rfl
          refine ⟨_, ?_, .int _ _⟩
          rw [show ([Value.slice none 0 0, s'].toArray) = #[Value.slice none 0 0, s'] from rfl, r1]
          simp [copyTail, goInt]
        · rename_i hf
          cases hd with | eslice a k =>
          simp [lenS] at hdl; subst hdl
          apply out_val0 H
          obtain ⟨c, v1, r1⟩ := pre _ _ _ hf rfl
          have hnc : c.toList = [] := by cases hx : c.toList with
            | nil => rfl
            | cons a l => rw [hx] at v1; cases v1
          refine ⟨_, ?_, .int _ _⟩
          rw [show ([Value.slice (some a) 0 k, s'].toArray) = #[Value.slice (some a) 0 k, s'] from rfl, r1]
          simp [copyTail, goInt, hnc, storeCells]
        · trivial
      · trivial
    · trivial
  · trivial

theorem clear1_sound (ok : TabsOK P T) {E : En} {h : Heap} {w : World} (H : HR base w0 E h w) {t elem : TypeId} (hu : T.und t = some (.slice elem)) {b off n k : Nat} (hd : E.dom b) (ts : List TypeId) (l' : List Value) (ty : TypeId) :
    Out base w0 E h w (clear1 T elem h b off n) ((do pure (Next.value (← Builtin.clear_ (t :: ts).toArray ty (Value.slice (some (E.at b off)) n k :: l').toArray)) : Sem Next).run P w) := by
  unfold clear1
  split
  · apply out_val0 H
    refine ⟨_, ?_, .tuple [] [] .nil⟩
    simp [Builtin.clear_, run_und ok hu]
  · rename_i n
    split
    · rename_i sz l hsz hz
      split
      · rename_i hlen
        have hlen := Nat.eq_of_beq_eq_true hlen
        split
        · rename_i h' hw
          apply out_val
          obtain ⟨z, hz1⟩ : ∃ z, T.zero elem = some z := by
            unfold zerosA at hz
            rw [if_neg (by omega)] at hz
            split at hz
            · exact ⟨_, by assumption⟩
            · cases hz
          obtain ⟨zv, rz, vz⟩ := run_zero ok hz1
          obtain ⟨z2, r2, v2⟩ := zeros_sound ok hz hlen (E := E) w
          have hzs : zv.cells.size = sz := by
            have h1 := (vz E).cells.length
            unfold zerosA at hz
            rw [if_neg (by omega), hz1] at hz
            simp only [Option.some.injEq] at hz
            subst hz
            rw [times_length] at hlen
            have : z.cells.length = sz := Nat.eq_of_mul_eq_mul_left (by omega) hlen
            simp at h1
            omega
          have e : (Builtin.zeroCells zv.cells (n + 1)) = (Array.range ((n + 1) * sz)).map fun i => z2[i % z2.size]! := by
            unfold Builtin.zeroCells
            rw [hzs]
            by_cases h0 : (n + 1) * sz = 0
            · rw [h0]; simp
            · simp [h0, rz] at r2
              subst r2
              rw [hzs]
          rw [← e] at v2
          obtain ⟨w', r3, r4, r5⟩ := write_cells (P := P) H hd hw v2
          refine ⟨E, w', _, ?_, .tuple [] [] .nil, r4, r5⟩
          simp [Builtin.clear_, run_und ok hu, rz, r3]
        · trivial
      · trivial
    · trivial
theorem clear_sound (ok : TabsOK P T) {E : En} {h : Heap} {w : World} (H : HR base w0 E h w) {x : AV} {x' : Value} (hx : VR E x x') (t : TypeId) (ts : List TypeId) (l' : List Value) (ty : TypeId) :
    Out base w0 E h w (clearA T t h x) ((do pure (Next.value (← Builtin.clear_ (t :: ts).toArray ty (x' :: l').toArray)) : Sem Next).run P w) := by
  unfold clearA
  split
  · rename_i elem hu
    split
    · cases hx
      apply out_val0 H
      refine ⟨_, ?_, .tuple [] [] .nil⟩
      simp [Builtin.clear_, run_und ok hu]
    · cases hx
      apply out_val0 H
      refine ⟨_, ?_, .tuple [] [] .nil⟩
      simp [Builtin.clear_, run_und ok hu]
    · cases hx with | slice _ _ _ _ hd => exact clear1_sound ok H hu hd ts l' ty
    · cases hx with | oslice _ _ _ _ k hd hk => exact clear1_sound ok H hu hd ts l' ty
    · trivial
  · trivial
/-! ### conversions -/
theorem toBytes_sound {E : En} : ∀ (l : List AV) (s : List UInt8), toBytes l = some s → ∀ (l' : List Value), VRs E l l' →
    ∃ ns : List Int, l' = ns.map (Value.int .u8) ∧ s = ns.map fun n => UInt8.ofNat n.toNat
  | [], s, h, l', hl => by
    cases hl
    simp [toBytes] at h; subst h
    exact ⟨[], rfl, rfl⟩
  | x :: l, s, h, l', hl => by
    cases hl with | cons _ v _ l'' hv hl =>
    unfold toBytes at h
    split at h
    · rename_i heq; cases heq
    · rename_i n l2 heq
      cases heq
      split at h <;> simp at h
      rename_i r hr
      subst h
      obtain ⟨ns, rfl, rfl⟩ := toBytes_sound l r hr l'' hl
      cases hv
      exact ⟨n :: ns, rfl, rfl⟩
    · simp at h
theorem foldl_push : ∀ (ns : List Int) (s : ByteArray), ns.foldl (fun r n => r.push (UInt8.ofNat n.toNat)) s = ⟨s.data ++ (ns.map fun n => UInt8.ofNat n.toNat).toArray⟩
  | [], s => by simp
  | n :: ns, s => by
    rw [List.foldl_cons, foldl_push ns]
    simp [ByteArray.push]
theorem bytes_string {a : Addr} {n k : Nat} {ns : List Int} {w : World} (h : (loadCells a n).run P w = .ok (ns.map (Value.int .u8)).toArray w) :
    (Conv.bytesToString (.slice (some a) n k)).run P w = .ok (.string ⟨(ns.map fun n => UInt8.ofNat n.toNat).toArray⟩) w := by
  rw [run_bytesToString w a n k ns h, foldl_push]
  simp

theorem bytesWorld_eq (w : World) (e : TypeId) (s : ByteArray) : Lib.bytesWorld w e s = w.drew.alloc (.cells (Lib.bytesCells w e s) e ((Lib.bytesCells w e s).size, (Lib.bytesCells w e s).size + 1)) := by
  have hh : (Lib.bytesWorld w e s).heap = (w.drew.alloc (.cells (Lib.bytesCells w e s) e ((Lib.bytesCells w e s).size, (Lib.bytesCells w e s).size + 1))).heap := by
    apply Array.ext_getElem?
    intro i
    by_cases h1 : i < w.heap.size
    · rw [Lib.bytesWorld_at_old w e s i h1]
      exact (Below.heap_alloc w.drew _ i h1).symm
    · by_cases h2 : i = w.heap.size
      · subst h2
        rw [Lib.bytesWorld_at_new]
        exact (heap_alloc_new (w := w.drew)).symm
      · rw [Array.getElem?_eq_none (by rw [Lib.bytesWorld_size]; omega), Array.getElem?_eq_none (by simp; omega)]
  have h2 : Lib.bytesWorld w e s = { (w.drew.alloc (.cells (Lib.bytesCells w e s) e ((Lib.bytesCells w e s).size, (Lib.bytesCells w e s).size + 1))) with heap := (Lib.bytesWorld w e s).heap } := by
    unfold Lib.bytesWorld World.freeze
    rw [if_neg (by decide)]
    rfl
  rw [h2, hh]

set_option maxRecDepth 8000 in
set_option maxHeartbeats 1000000 in
theorem conv_sound (ok : TabsOK P T) {E : En} {h : Heap} {w : World} (H : HR base w0 E h w) (src dst : TypeId) {x : AV} {x' : Value} (hx : VR E x x') :
    Out base w0 E h w (convA T src dst h x) ((do pure (Next.value (← convert src dst x')) : Sem Next).run P w) := by
  unfold convA
  split
  · rename_i d k k2 n hs hd
    cases hx
    apply out_val0 H
    exact ⟨_, by simp [convert, run_und ok hs, run_und ok hd, Conv.intToInt], .int _ _⟩
  · rename_i d s hs hd
    cases hx
    apply out_val0 H
    exact ⟨_, by simp [convert, run_und ok hs, run_und ok hd], .str _⟩
  · rename_i d e s hs hd
    cases hx
    split
    · rename_i he
      split
      · trivial
      · apply out_val
        have r := Lib.run_convert_string_bytes (P := P) w src dst e ⟨s.toArray⟩ (ok.und _ _ hs) (ok.und _ _ hd) (ok.und _ _ he)
        rw [bytesWorld_eq] at r
        generalize hC : Lib.bytesCells w e ⟨s.toArray⟩ = C at r
        have hCs : C.size = grownCap w s.length 0 e := by
          rw [← hC]
          have : s.length ≤ grownCap w s.length 0 e := grownCap_ge w s.length 0 e
          simp [Lib.bytesCells]
          have : (⟨s.toArray⟩ : ByteArray).size = s.length := by simp [ByteArray.size]
          rw [this]; omega
        have hCv : ∀ (i : Nat) (v : AV), (u8s s)[i]? = some v → ∃ v', C[i]? = some v' ∧ VR E v v' := by
          intro i v hi
          obtain ⟨v', h1, h2⟩ := (u8s_sound E s).get hi
          refine ⟨v', ?_, h2⟩
          have hil : i < s.length := by simpa using (List.getElem?_eq_some_iff.1 h1).1
          rw [← hC]
          simp only [Lib.bytesCells]
          rw [Array.getElem?_append_left (by simpa using hil)]
          rw [← h1]
          simp
        have hnd : ¬ E.dom h.next := fun hd => by have := H.dlt _ hd; omega
        have le := E.push_le h.next w.heap.size 0 C.size hnd
        have K := new_obj (H.drew) (.cells e (u8s s) true) (.cells C e (C.size, C.size + 1)) C.size (by
          refine ⟨C, (C.size, C.size + 1), ?_, ?_, ?_, ?_, ?_, by simp⟩
          · simp only [En.push, if_true]; exact heap_alloc_new (w := w.drew)
          · simp [En.push]
          · simp [En.push, u8s]; rw [hCs]; exact grownCap_ge w s.length 0 e
          · intro i v hi
            obtain ⟨v', h1, h2⟩ := hCv i v hi
            exact ⟨v', by simpa [En.push] using h1, h2.mono le⟩
          · intro _
            exact ⟨by simpa [En.push] using H.bsz, .inr (Nat.le_refl _)⟩)
        refine ⟨_, _, _, r, ?_, K.1, (ste_drew E h w).trans K.2⟩
        have hsz : (⟨s.toArray⟩ : ByteArray).size = s.length := by simp [ByteArray.size]
        rw [hsz]
        have := VR.oslice (E := E.push h.next w.heap.size 0 C.size) h.next 0 s.length 1 (grownCap w s.length 0 e) (.inl rfl) (by simp [En.push, hCs])
        simpa [En.at, En.push] using this
    · trivial
  · rename_i e e2 x hs hd hno1
    split
    · trivial
    · rename_i hsd
      have hsd : src = dst := by simpa using hsd
      subst hsd
      rw [hs] at hd
      cases hd
      split
      · rename_i b off n c he
        cases hx with | slice _ _ _ _ hdd =>
        split
        · rename_i ee cs hg
          apply out_val
          obtain ⟨c', z, p1, p2, p3, p4, p5, p6⟩ := H.obj b _ hdd hg
          obtain ⟨q1, q2⟩ := p5 rfl
          have hsh : w.shape? (E.at b off).block = some (ee, c'.size) := by
            show w.shape? (E.blk b) = _
            unfold World.shape?; rw [p1]
          have r : (convert src src (.slice (some (E.at b off)) n c)).run P w = .ok (.slice (some (E.at b off)) n c) (w.freeze ⟨E.blk b, c'.size, none⟩ 1) := by
            simp [convert, run_und ok hs, run_und ok he, markStringish, hsh]
            rfl
          have hfh : (w.freeze ⟨E.blk b, c'.size, none⟩ 1).heap[E.blk b]? = some (.cells c' ee (if z.1 == z.2 then (c'.size, c'.size + 1) else (min z.1 c'.size, max z.2 (c'.size + 1)))) := by
            unfold World.freeze
            rw [if_neg (by decide)]
            simp only [Array.getElem?_modify, if_true, p1, Option.map_some]
          have hfo : ∀ k, k ≠ E.blk b → (w.freeze ⟨E.blk b, c'.size, none⟩ 1).heap[k]? = w.heap[k]? := by
            intro k hk
            unfold World.freeze
            rw [if_neg (by decide)]
            simp only [Array.getElem?_modify, if_neg (Ne.symm hk)]
          have hfs : (w.freeze ⟨E.blk b, c'.size, none⟩ 1).heap.size = w.heap.size := by
            unfold World.freeze
            rw [if_neg (by decide)]
            simp
          have hrest : (w.freeze ⟨E.blk b, c'.size, none⟩ 1).os = w.os ∧ (w.freeze ⟨E.blk b, c'.size, none⟩ 1).tape = w.tape ∧ (w.freeze ⟨E.blk b, c'.size, none⟩ 1).output = w.output ∧ (w.freeze ⟨E.blk b, c'.size, none⟩ 1).drawn = w.drawn := by
            unfold World.freeze
            rw [if_neg (by decide)]
            exact ⟨rfl, rfl, rfl, rfl⟩
          have K := put_obj H hdd hg rfl (w' := w.freeze ⟨E.blk b, c'.size, none⟩ 1) (a' := .cells ee cs true)
            ⟨hrest.1, hrest.2.1, hrest.2.2.1, by rw [hfs]; exact Nat.le_refl _, fun k hk => hfo k (by omega)⟩ (by rw [hrest.2.2.2]; exact Nat.le_refl _) hfs hfo
            ⟨c', _, hfh, p2, p3, p4, fun _ => ⟨q1, by
              split
              · exact .inr (Nat.le_refl _)
              · rename_i hz
                have hz : z.1 ≠ z.2 := by simpa using hz
                right
                show c'.size ≤ min z.1 c'.size
                omega⟩, by simp⟩
          have same : ∀ x, h.get x = (h.set b (.cells ee cs true)).get x := by
            intro x
            rw [Heap.get_set]
            split
            · rename_i e; subst e; exact hg
            · rfl
          exact ⟨E, _, _, r, .slice _ _ _ _ hdd, K.1.ext rfl same, K.2.ext rfl same⟩
        · trivial
      · trivial
  · rename_i e x hs hd hno
    split
    · rename_i n he hn
      split
      · rename_i cs hf
        split
        · rename_i s hb
          apply out_val0 H
          unfold firstA at hf
          cases hx with
          | str s => simp [lenS] at hn; exact absurd rfl (hno _)
          | nilslice =>
            simp at hf
            obtain ⟨_, rfl⟩ := hf
            simp [toBytes] at hb; subst hb
            exact ⟨_, by simp [convert, run_und ok hs, run_und ok hd, run_und ok he, Conv.bytesToString]; rfl, .str []⟩
          | eslice a k =>
            simp at hf
            obtain ⟨_, rfl⟩ := hf
            simp [toBytes] at hb; subst hb
            refine ⟨.string ⟨#[]⟩, ?_, .str []⟩
            have := bytes_string (P := P) (a := a) (n := 0) (k := k) (ns := []) (w := w) (by simp [loadCells, loadCellsFrom])
            simp [convert, run_und ok hs, run_und ok hd, run_und ok he]
            simpa using this
          | slice b off n2 c hdd =>
            simp [lenS] at hn; subst hn
            simp at hf
            obtain ⟨l', r1, v1⟩ := read_cells0 (P := P) hdd H hf
            obtain ⟨ns, rfl, rfl⟩ := toBytes_sound _ _ hb _ v1
            have := bytes_string (P := P) (k := c) r1
            refine ⟨_, ?_, .str _⟩
            simp [convert, run_und ok hs, run_und ok hd, run_und ok he]
            exact this
          | oslice b off n2 sz k hdd hk =>
            simp [lenS] at hn; subst hn
            simp at hf
            obtain ⟨l', r1, v1⟩ := read_cells0 (P := P) hdd H hf
            obtain ⟨ns, rfl, rfl⟩ := toBytes_sound _ _ hb _ v1
            have := bytes_string (P := P) (k := k) r1
            refine ⟨_, ?_, .str _⟩
            simp [convert, run_und ok hs, run_und ok hd, run_und ok he]
            exact this
          | _ => simp [lenS] at hn
        · trivial
      · trivial
    · trivial
  · trivial
end Ev
