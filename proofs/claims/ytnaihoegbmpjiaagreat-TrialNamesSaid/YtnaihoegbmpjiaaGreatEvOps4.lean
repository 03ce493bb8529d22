/- A part of the proof that what the evaluator (EvDefs) says of a call is what the machine does: EvOps4. Conditions: those that each theorem states. -/
import Derived.Test.YtnaihoegbmpjiaaGreatEvOps3
set_option linter.unusedVariables false
set_option linter.unusedSimpArgs false
namespace Ev
open Go Go.RowKit

variable {P : Program} {T : Tabs} {base : Nat} {w0 : World}

/-! ### slice expressions -/
inductive OVR (E : En) : Option AV → Option Value → Prop
  | none : OVR E none none
  | some (a : AV) (v : Value) (h : VR E a v) : OVR E (some a) (some v)
theorem bound_sound {y y' : Nat} {a : AV} {n : Nat} (h : boundA y a = some n) (hy : y ≤ y') {E : En} {v : Value} (hv : VR E a v) (code : BoundsCode) (w : World) :
    (Instr.sliceBound v y' code).run P w = .ok n w ∧ n ≤ y := by
  unfold boundA at h
  split at h
  · cases hv
    split at h <;> simp at h
    rename_i k i hi
    subst h
    refine ⟨?_, by omega⟩
    have : 0 ≤ i ∧ i ≤ (y' : Int) := ⟨hi.1, by omega⟩
    simp [Instr.sliceBound, asIntOf, this]
  · simp at h
theorem boundsA_parts {len cap : Nat} {lo hi mx : Option AV} {l hh m : Nat} (h : boundsA len cap lo hi mx = some (l, hh, m)) : mxA cap mx = some m ∧ hiA len m hi mx = some hh ∧ loA hh lo = some l := by
  unfold boundsA at h
  split at h
  · simp at h
  · rename_i m0 h0
    split at h
    · simp at h
    · rename_i h1 e1
      split at h <;> simp at h
      rename_i l0 e2
      obtain ⟨rfl, rfl, rfl⟩ := h
      exact ⟨h0, e1, e2⟩
theorem bounds_sound {len cap cap' : Nat} {lo hi mx : Option AV} {l hh m : Nat} (h : boundsA len cap lo hi mx = some (l, hh, m)) (hc : cap ≤ cap') {E : En} {lo' hi' mx' : Option Value}
    (hlo : OVR E lo lo') (hhi : OVR E hi hi') (hmx : OVR E mx mx') (b : Bool) (w : World) :
    (Instr.sliceBounds b len cap' lo' hi' mx').run P w = .ok (l, hh, if mx.isSome then m else cap') w ∧ l ≤ hh ∧ m ≤ cap ∧ (mx = none → m = cap) ∧ (hi.isSome → hh ≤ m) ∧ (hi = none → hh = len) := by
  obtain ⟨e1, e2, e3⟩ := boundsA_parts h
  cases hmx with
  | none =>
    simp [mxA] at e1
    subst e1
    cases hhi with
    | none =>
      simp [hiA] at e2
      subst e2
      cases hlo with
      | none =>
        simp [loA] at e3; subst e3
        simp [Instr.sliceBounds]
      | some a2 v2 hv2 =>
        have k2 := bound_sound (P := P) e3 (Nat.le_refl _) hv2 .sliceB w
        simp [Instr.sliceBounds, k2.1, k2.2]
    | some a v hv =>
      have k := bound_sound (P := P) e2 hc hv (if b then .sliceAcap else .sliceAlen) w
      cases hlo with
      | none =>
        simp [loA] at e3; subst e3
        simp [Instr.sliceBounds, k.1, k.2]
      | some a2 v2 hv2 =>
        have k2 := bound_sound (P := P) e3 (Nat.le_refl _) hv2 .sliceB w
        simp [Instr.sliceBounds, k.1, k.2, k2.1, k2.2]
  | some am vm hvm =>
    have k0 := bound_sound (P := P) e1 hc hvm (if b then .slice3Acap else .slice3Alen) w
    cases hhi with
    | none => simp [hiA] at e2
    | some a v hv =>
      have k := bound_sound (P := P) e2 (Nat.le_refl _) hv .slice3B w
      cases hlo with
      | none =>
        simp [loA] at e3; subst e3
        simp [Instr.sliceBounds, k0.1, k0.2, k.1, k.2]
      | some a2 v2 hv2 =>
        have k2 := bound_sound (P := P) e3 (Nat.le_refl _) hv2 .slice3C w
        simp [Instr.sliceBounds, k0.1, k0.2, k.1, k.2, k2.1, k2.2]

theorem known_le {E : En} {h : Heap} {w : World} (H : HR base w0 E h w) {b o sz k : Nat} (hd : E.dom b) (hk : o + k * sz = E.ext b) {e : TypeId} {cs : List AV} {rw : Bool} (hg : h.get b = some (.cells e cs rw)) :
    (cs.length - o) / sz ≤ k := by
  obtain ⟨c', z, _, _, p3, _⟩ := H.obj b _ hd hg
  rcases Nat.eq_zero_or_pos sz with h0 | h0
  · subst h0; simp
  · apply Nat.le_of_lt_succ
    rw [Nat.div_lt_iff_lt_mul h0, Nat.succ_mul]
    omega

theorem sliceS_sound {E : En} {h : Heap} {w : World} (H : HR base w0 E h w) {sz : Nat} {x v : AV} {lo hi mx : Option AV} (hs : sliceS sz h x lo hi mx = some v)
    {x' : Value} (hx : VR E x x') {lo' hi' mx' : Option Value} (hlo : OVR E lo lo') (hhi : OVR E hi hi') (hmx : OVR E mx mx') :
    ∃ a len cap l hh m, x' = .slice a len cap ∧ (Instr.sliceBounds true len cap lo' hi' mx').run P w = .ok (l, hh, m) w ∧
      VR E v (.slice (if m = l then a else a.map (·.add (l * sz))) (hh - l) (m - l)) := by
  unfold sliceS at hs
  split at hs
  · cases hx
    split at hs <;> simp at hs
    rename_i l hh m hb
    subst hs
    obtain ⟨k1, k2, k3, k4, k5, k6⟩ := bounds_sound (P := P) hb (Nat.le_refl _) hlo hhi hmx true w
    refine ⟨_, _, _, _, _, _, rfl, k1, ?_⟩
    have hl : l = 0 := by
      cases hi with
      | none => have := k6 rfl; omega
      | some _ => have := k5 rfl; omega
    have hh0 : hh = 0 := by
      cases hi with
      | none => exact k6 rfl
      | some _ => have := k5 rfl; omega
    subst hl; subst hh0
    have hm : (if mx.isSome = true then m else 0) = 0 := by split <;> omega
    rw [hm]
    simp
    exact .nilslice
  · rename_i b off len cap
    cases hx with | slice _ _ _ _ hd =>
    split at hs <;> simp at hs
    rename_i l hh m hb
    subst hs
    obtain ⟨k1, k2, k3, k4, k5, k6⟩ := bounds_sound (P := P) hb (Nat.le_refl _) hlo hhi hmx true w
    refine ⟨_, _, _, _, _, _, rfl, k1, ?_⟩
    have hm : (if mx.isSome = true then m else cap) = m := by
      cases mx with
      | none => simp [k4 rfl]
      | some _ => simp
    rw [hm]
    by_cases e : m = l
    · rw [if_pos e, if_pos e]; exact .slice _ _ _ _ hd
    · rw [if_neg e, if_neg e]
      simp only [Option.map_some, En.at_add]
      exact .slice _ _ _ _ hd
  · rename_i b off len sz'
    cases hx with | oslice _ _ _ _ k hd hk =>
    split at hs
    · simp at hs
    · rename_i hsz
      have hsz : sz' = sz := by simpa using hsz
      subst hsz
      split at hs
      · rename_i e cs rw hg
        have hkn := known_le H hd hk hg
        simp only at hs
        split at hs
        · rename_i l hh m hb
          obtain ⟨k1, k2, k3, k4, k5, k6⟩ := bounds_sound (P := P) hb hkn hlo hhi hmx true w
          refine ⟨_, _, _, _, _, _, rfl, k1, ?_⟩
          cases mx with
          | some _ =>
            simp only [Option.isSome_some, if_true]
            simp only at hs
            split at hs <;> simp at hs
            rename_i hlm
            subst hs
            rw [if_neg (by omega)]
            simp only [Option.map_some, En.at_add]
            exact .slice _ _ _ _ hd
          | none =>
            simp only [Option.isSome_none, Bool.false_eq_true, if_false]
            simp only at hs
            split at hs
            · rename_i hl
              simp at hs; subst hs
              rw [if_neg (by omega)]
              simp only [Option.map_some, En.at_add]
              refine .oslice _ _ _ _ _ hd ?_
              rw [← hk, Nat.add_assoc, ← Nat.add_mul]
              congr 2; omega
            · split at hs
              · rename_i hl hl0
                simp at hs; subst hs; subst hl0
                have : (if k = 0 then some (E.at b off) else Option.map (fun x => x.add (0 * sz')) (some (E.at b off))) = some (E.at b off) := by
                  split
                  · rfl
                  · simp [En.at_add]
                rw [this]
                exact .oslice _ _ _ _ _ hd (by simpa using hk)
              · split at hs <;> simp at hs
                rename_i hl hl0 hhl
                subst hs; subst hhl
                rw [Nat.sub_self]
                split
                · exact .eslice _ _
                · exact .eslice _ _
        · simp at hs
      · simp at hs
  · cases hx with | eslice a k =>
    split at hs <;> simp at hs
    rename_i l hh m hb
    subst hs
    obtain ⟨k1, k2, k3, k4, k5, k6⟩ := bounds_sound (P := P) hb (Nat.zero_le k) hlo hhi hmx true w
    refine ⟨_, _, _, _, _, _, rfl, k1, ?_⟩
    have hh0 : hh - l = 0 := by
      cases hi with
      | none => have := k6 rfl; omega
      | some _ => have := k5 rfl; omega
    rw [hh0]
    by_cases e : (if mx.isSome = true then m else k) = l
    · rw [if_pos e]; exact .eslice _ _
    · rw [if_neg e]; exact .eslice _ _
  · simp at hs

theorem extract_str (s : List UInt8) (l h : Nat) : (⟨s.toArray⟩ : ByteArray).extract l h = ⟨((s.drop l).take (h - l)).toArray⟩ := by
  apply ByteArray.ext
  rw [ByteArray.data_extract]
  simp

theorem slice_sound (ok : TabsOK P T) {E : En} {h : Heap} {w : World} (H : HR base w0 E h w) {t : TypeId} {x v : AV} {lo hi mx : Option AV} (hs : sliceA T t h x lo hi mx = some v)
    {x' : Value} (hx : VR E x x') {lo' hi' mx' : Option Value} (hlo : OVR E lo lo') (hhi : OVR E hi hi') (hmx : OVR E mx mx') :
    ∃ v', (Instr.sliceAt t x' lo' hi' mx').run P w = .ok v' w ∧ VR E v v' := by
  unfold sliceA at hs
  split at hs
  · rename_i s hu
    cases hx
    split at hs
    · simp at hs
    · cases hmx
      split at hs <;> simp at hs
      rename_i l hh m hb
      subst hs
      obtain ⟨k1, k2, k3, k4, k5, k6⟩ := bounds_sound (P := P) hb (Nat.le_refl _) hlo hhi (.none : OVR E none none) false w
      refine ⟨_, ?_, .str _⟩
      have hsz : (⟨s.toArray⟩ : ByteArray).size = s.length := by simp [ByteArray.size]
      simp only [Instr.sliceAt, Instr.slice, Sem.run_bind, run_und ok hu, Result.andThen_ok, hsz]
      simp [k1, extract_str, cut]
  · rename_i elem hu
    split at hs
    · rename_i sz hsz
      obtain ⟨a, len, cap, l, hh, m, rfl, k1, k2⟩ := sliceS_sound (P := P) H hs hx hlo hhi hmx
      refine ⟨_, ?_, k2⟩
      simp [Instr.sliceAt, Instr.slice, run_und ok hu, k1, run_size ok hsz]
    · simp at hs
  · rename_i n elem b off hu
    cases hx with | ptr _ _ hd =>
    split at hs
    · rename_i sz l hh m hsz hb
      simp at hs; subst hs
      obtain ⟨k1, k2, k3, k4, k5, k6⟩ := bounds_sound (P := P) hb (Nat.le_refl _) hlo hhi hmx false w
      have hm : (if mx.isSome = true then m else n) = m := by
        cases mx with
        | none => simp [k4 rfl]
        | some _ => simp
      rw [hm] at k1
      refine ⟨_, ?_, .slice _ _ _ _ hd⟩
      simp only [Instr.sliceAt, Instr.sureAddr, Sem.run_bind, run_und ok hu, Result.andThen_ok, Sem.run_pure, k1, run_size ok hsz]
      by_cases e : m = l
      · rw [if_pos e, if_pos e]
      · rw [if_neg e, if_neg e, En.at_add]
    · simp at hs
  · simp at hs

/-! ### lengths and first cells -/
theorem lenS_sound {E : En} {x : AV} {n : Nat} (h : lenS x = some n) {x' : Value} (hx : VR E x x') (w : World) : (Builtin.lenOf x').run P w = .ok n w := by
  unfold lenS at h
  split at h <;> simp at h <;> subst h <;> cases hx <;> simp [Builtin.lenOf, ByteArray.size]
theorem u8s_sound (E : En) : ∀ (s : List UInt8), VRs E (u8s s) (s.map fun b => Value.int .u8 b.toNat)
  | [] => .nil
  | _ :: s => .cons _ _ _ _ (.int _ _) (u8s_sound E s)
theorem first_sound {E : En} {h : Heap} {w : World} (H : HR base w0 E h w) {sz n : Nat} {x : AV} {l : List AV} (hf : firstA sz n h x = some l) {x' : Value} (hx : VR E x x') :
    ∃ c : Array Value, (Builtin.firstCells sz n x').run P w = .ok c w ∧ VRs E l c.toList := by
  unfold firstA at hf
  split at hf
  · cases hx
    split at hf <;> simp at hf
    subst hf
    exact ⟨#[], by simp [Builtin.firstCells], .nil⟩
  · cases hx
    split at hf <;> simp at hf
    rename_i hn
    subst hf; subst hn
    exact ⟨#[], by simp [Builtin.firstCells, loadCells, loadCellsFrom], .nil⟩
  · cases hx with | slice _ _ _ _ hd =>
    obtain ⟨l', h1, h2⟩ := read_cells0 (P := P) hd H hf
    exact ⟨l'.toArray, by simpa [Builtin.firstCells] using h1, by simpa using h2⟩
  · cases hx with | oslice _ _ _ _ k hd hk =>
    obtain ⟨l', h1, h2⟩ := read_cells0 (P := P) hd H hf
    exact ⟨l'.toArray, by simpa [Builtin.firstCells] using h1, by simpa using h2⟩
  · cases hx
    rename_i s
    simp at hf; subst hf
    refine ⟨((s.take n).map fun b => Value.int .u8 b.toNat).toArray, ?_, by simpa using u8s_sound E (s.take n)⟩
    simp [Builtin.firstCells, extract_str]
  · simp at hf
end Ev
