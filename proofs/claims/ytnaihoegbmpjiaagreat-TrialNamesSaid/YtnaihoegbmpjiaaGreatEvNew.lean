/- A part of the proof that what the evaluator (EvDefs) says of a call is what the machine does: EvNew. Conditions: those that each theorem states. -/
import Derived.Test.YtnaihoegbmpjiaaGreatEvQuiet
set_option linter.unusedVariables false
set_option linter.unusedSimpArgs false
namespace Ev
open Go Go.RowKit

variable {P : Program} {T : Tabs} {base : Nat} {w0 : World}

/-- a new object under a number that nobody holds yet -/
def NewOK (base : Nat) (E : En) (w : World) (r : Nat) (v : AV) (a : AObj) (res : Result Next) : Prop :=
  a.own ∧ ∃ (ob : Obj) (ext : Nat) (d : Bool) (v' : Value), res = .ok (.value v') ((if d then w.drew else w).alloc ob) ∧
    ∀ E2 : En, E.Le E2 → E2.dom r → E2.blk r = w.heap.size → E2.off r = 0 → E2.ext r = ext →
      VR E2 v v' ∧ ∀ w2 : World, w2.heap[w.heap.size]? = some ob → base ≤ w.heap.size → OR' base E2 r w2 a

theorem row_OR {E E2 : En} {r : Nat} {e : TypeId} {cs : List AV} {c : Array Value} {z : Nat × Nat} {n : Nat} (hv : VRs E cs c.toList) (hz : z.1 = z.2 ∨ c.size ≤ z.1) (le : E.Le E2) (hb : E2.blk r = n) (ho : E2.off r = 0) (he : E2.ext r = c.size)
    {w2 : World} (hw : w2.heap[n]? = some (.cells c e z)) (hbase : base ≤ n) : OR' base E2 r w2 (.cells e cs true) := by
  have hl := hv.length
  simp at hl
  refine ⟨c, z, by rw [hb]; exact hw, by rw [ho, he]; omega, by rw [he]; omega, ?_, fun _ => ⟨by rw [hb]; exact hbase, hz⟩, by simp⟩
  intro i v hi
  obtain ⟨v', h1, h2⟩ := hv.get hi
  exact ⟨v', by rw [ho, Nat.zero_add, ← Array.getElem?_toList]; exact h1, h2.mono le⟩
theorem at0 {E2 : En} {r n : Nat} (hb : E2.blk r = n) (ho : E2.off r = 0) : E2.at r 0 = ⟨n, 0, none⟩ := by simp [En.at, hb, ho]

theorem newOf_sound (ok : TabsOK P T) {E : En} {h : Heap} {w : World} (H : HR base w0 E h w) {ρ : Operand → Option AV} {f : Operand → Value} (hρ : RhoR E ρ f) (o : Oper) {r : Nat} {v : AV} {a : AObj} (hn : newOf T ρ o r = some (v, a)) :
    NewOK base E w r v a ((execOp f o).run P w) := by
  unfold newOf at hn
  split at hn
  · -- alloc
    rename_i elem hop
    simp only [execOp, hop]
    split at hn <;> simp at hn
    rename_i z hz
    obtain ⟨rfl, rfl⟩ := hn
    obtain ⟨zv, rz, vz⟩ := run_zero ok hz
    refine ⟨rfl, .cells zv.cells elem, zv.cells.size, false, .pointer (some ⟨w.heap.size, 0, none⟩), by simp [Instr.alloc, rz, newVar, newRow], ?_⟩
    intro E2 le hd hb ho he
    refine ⟨?_, fun w2 hw hbase => row_OR (vz E).cells (.inl rfl) le hb ho he hw hbase⟩
    rw [← at0 hb ho]; exact .ptr _ _ hd
  · -- box
    rename_i elem x hop
    simp only [execOp, hop]
    split at hn <;> simp at hn
    rename_i v1 hx
    obtain ⟨rfl, rfl⟩ := hn
    refine ⟨rfl, .cells (f x).cells elem, (f x).cells.size, false, .pointer (some ⟨w.heap.size, 0, none⟩), by simp [Instr.box, newVar, newRow], ?_⟩
    intro E2 le hd hb ho he
    refine ⟨?_, fun w2 hw hbase => row_OR (hρ x v1 hx).cells (.inl rfl) le hb ho he hw hbase⟩
    rw [← at0 hb ho]; exact .ptr _ _ hd
  · -- buildSlice
    rename_i t len parts hop
    simp only [execOp, hop]
    split at hn
    · rename_i elem ps hu hps
      obtain ⟨p1, p2⟩ := pairMap_sound hρ _ _ hps
      obtain ⟨q1, q2⟩ := pairs_list parts.toList f
      split at hn
      · rename_i sz z hsz hz
        split at hn
        · simp at hn
        · rename_i hbig
          split at hn
          · simp at hn
          · rename_i hzl
            have hzl : z.length = len * sz := by simpa using hzl
            split at hn <;> simp at hn
            rename_i l hl
            obtain ⟨rfl, rfl⟩ := hn
            obtain ⟨zz, r1, v1⟩ := zeros_sound ok hz hzl (E := E) w
            obtain ⟨r', g1, g2⟩ := fill_sound (place' := fun i => some (i * sz, sz)) (fun i p hp => hp) ps (parts.toList.map fun p => (p.1, f p.2)) z _ l hl (p1.trans q1.symm) (by rw [q2]; exact p2) v1
            refine ⟨rfl, .cells r' elem, r'.size, false, .slice (some ⟨w.heap.size, 0, none⟩) len len, ?_, ?_⟩
            · have e : (parts.map fun (p : Nat × Operand) => (p.1, f p.2)).toList = (parts.toList.map fun p => (p.1, f p.2)) := by simp
              unfold Instr.buildSlice
              rw [show (parts.map fun x => match x with | (i, x) => (i, f x)) = (parts.map fun (p : Nat × Operand) => (p.1, f p.2)) from rfl, e]
              have hb : ¬ (16777216 < len * sz) := by omega
              simp only [Sem.run_bind, run_und ok hu, Result.andThen_ok, run_size ok hsz]
              simp [hb]
              by_cases h0 : len * sz = 0
              · rw [if_pos h0] at r1
                simp at r1
                subst r1
                simp [h0] at g1 ⊢
                simp [g1, newRow]
              · rw [if_neg h0] at r1
                simp at r1
                generalize hq : (zeroValue elem).run P w = q at r1
                cases q with
                | ok z2 ww =>
                  simp at r1
                  obtain ⟨rfl, rfl⟩ := r1
                  simp [hq, g1, newRow, h0]
                | halt _ _ => simp at r1
            · intro E2 le hd hb ho he
              refine ⟨?_, fun w2 hw hbase => row_OR g2 (.inl rfl) le hb ho he hw hbase⟩
              rw [← at0 hb ho]; exact .slice _ _ _ _ hd
      · simp at hn
    · simp at hn
  · -- makeMap
    rename_i t r' hop
    simp only [execOp, hop]
    have fin : ∀ r' : Option Value, (∀ v, r' = some v → ∃ k n, v = .int k n) → (∃ a b, T.und t = some (.map a b)) → NewOK base E w r (.map r) (.map [] 0) ((do pure (Next.value (← Instr.makeMap t r')) : Sem Next).run P w) := by
      rintro r' hr ⟨a, b, hu⟩
      refine ⟨trivial, .map #[] 0, 0, false, .map (some w.heap.size), ?_, ?_⟩
      · cases r' with
        | none => simp [Instr.makeMap]
        | some v =>
          obtain ⟨k, n, rfl⟩ := hr v rfl
          simp [Instr.makeMap, run_und ok hu, asInt, asIntOf]
      · intro E2 le hd hb ho he
        refine ⟨by rw [← hb]; exact .map _ hd, fun w2 hw hbase => ⟨by rw [hb]; exact hbase, #[], by rw [hb]; exact hw, .nil⟩⟩
    split at hn
    · rename_i a b hu hr
      simp at hn
      obtain ⟨rfl, rfl⟩ := hn
      unfold optOp at hr
      split at hr
      · exact fin _ (by simp) ⟨a, b, hu⟩
      · split at hr <;> simp at hr
    · rename_i a b k n hu hr
      simp at hn
      obtain ⟨rfl, rfl⟩ := hn
      have h1 := opt_sound hρ hr
      exact fin _ (fun v hv => by rw [hv] at h1; cases h1 with | some _ _ h2 => cases h2; exact ⟨_, _, rfl⟩) ⟨a, b, hu⟩
    · simp at hn
  · -- makeSlice
    rename_i t l c hop
    simp only [execOp, hop]
    split at hn
    · rename_i elem k l' k2 c' hu hl hc
      have h1 := hρ l _ hl
      have h2 := hρ c _ hc
      generalize f l = fl at h1
      generalize f c = fc at h2
      cases h1; cases h2
      split at hn
      · rename_i sz ei hsz hei
        split at hn
        · rename_i hb
          split at hn
          · rename_i cs hz
            split at hn <;> simp at hn
            rename_i hlen
            obtain ⟨rfl, rfl⟩ := hn
            obtain ⟨zz, r1, v1⟩ := zeros_sound ok hz hlen (E := E) w
            have m1 := makeSlice_run (P := P) ok hu hsz hei hb r1 (k := k) (k2 := k2)
            refine ⟨rfl, .cells ((Array.range (c'.toNat * sz)).map fun i => zz[i % zz.size]!) elem, ((Array.range (c'.toNat * sz)).map fun i => zz[i % zz.size]!).size, false, _, by simp only [Sem.run_bind, m1]; rfl, ?_⟩
            intro E2 le hd hb' ho he
            refine ⟨?_, fun w2 hw hbase => row_OR v1 (.inl rfl) le hb' ho he hw hbase⟩
            rw [← at0 hb' ho]; exact .slice _ _ _ _ hd
          · simp at hn
        · simp at hn
      · simp at hn
    · simp at hn
  · -- []byte(s)
    rename_i src dst x hop
    simp only [execOp, hop]
    split at hn
    · rename_i e s hs hd hx
      have h1 := hρ x _ hx
      generalize f x = fx at h1
      cases h1
      split at hn
      · rename_i he
        split at hn <;> simp at hn
        obtain ⟨rfl, rfl⟩ := hn
        have r1 := Lib.run_convert_string_bytes (P := P) w src dst e ⟨s.toArray⟩ (ok.und _ _ hs) (ok.und _ _ hd) (ok.und _ _ he)
        rw [bytesWorld_eq] at r1
        generalize hC : Lib.bytesCells w e ⟨s.toArray⟩ = C at r1
        have hsz : (⟨s.toArray⟩ : ByteArray).size = s.length := by simp [ByteArray.size]
        have hCs : C.size = grownCap w s.length 0 e := by
          rw [← hC]
          have : s.length ≤ grownCap w s.length 0 e := grownCap_ge w s.length 0 e
          simp [Lib.bytesCells]
          rw [hsz]; omega
        have hCv : ∀ (i : Nat) (v : AV), (u8s s)[i]? = some v → ∃ v', C[i]? = some v' ∧ VR E v v' := by
          intro i v hi
          obtain ⟨v', h1, h2⟩ := (u8s_sound E s).get hi
          refine ⟨v', ?_, h2⟩
          have hil : i < s.length := by simpa using (List.getElem?_eq_some_iff.1 h1).1
          rw [← hC]
          simp only [Lib.bytesCells]
          rw [Array.getElem?_append_left (by simpa using hil)]
          rw [← h1]
          simp
        rw [hsz] at r1
        refine ⟨rfl, .cells C e (C.size, C.size + 1), C.size, true, .slice (some ⟨w.heap.size, 0, none⟩) s.length (grownCap w s.length 0 e), by simp [r1], ?_⟩
        intro E2 le hdd hb ho he2
        refine ⟨?_, fun w2 hw hbase => ?_⟩
        · rw [← at0 hb ho]
          exact .oslice _ _ _ _ _ hdd (by rw [he2, hCs]; omega)
        · refine ⟨C, _, by rw [hb]; exact hw, by rw [ho, he2]; omega, ?_, ?_, fun _ => ⟨by rw [hb]; exact hbase, .inr (Nat.le_refl _)⟩, by simp⟩
          · rw [he2, hCs]; simp [u8s]; exact grownCap_ge w s.length 0 e
          · intro i v hi
            obtain ⟨v', h1, h2⟩ := hCv i v hi
            exact ⟨v', by rw [ho, Nat.zero_add]; exact h1, h2.mono le⟩
      · simp at hn
    · simp at hn
  · simp at hn
end Ev
