/- A part of the rules by which proofs walk over what the evaluator (EvDefs) says, at values that are not known: EvBuild. Conditions: those that each theorem states. -/
import Derived.Test.YtnaihoegbmpjiaaGreatEvGlob
import Derived.Shelf.Strings.Builder1
set_option linter.unusedVariables false
set_option linter.unusedSimpArgs false
namespace Ev
open Go Go.RowKit Go.Shelf Go.Proofs

/-! ### strings.Builder: copyCheck and String, by the kit's laws -/
variable {P : Program} {ρ : Ren} {base : Nat} {w0 : World}
theorem own_args {E : En} {b n : Nat} {args' : List Value} (ha : VRs E [.own b n] args') : args' = [.pointer (some ⟨E.blk b, 0, none⟩)] ∧ E.dom b ∧ E.off b = 0 ∧ E.ext b = n := by
  cases ha with
  | cons _ _ _ _ p q =>
    cases q
    cases p with
    | own _ _ hd h0 hk => exact ⟨by simp [En.at, h0], hd, h0, hk⟩
theorem copyCheck_new {F : FuncId} {tb : TypeId} (hC : ∀ (b : Nat) (w : World), w.cell? ⟨b, 0, none⟩ = some (.pointer none) → w.shape? b = some (tb, 2) → w.frozen? ⟨b, 0, none⟩ = false → Calls P F #[.pointer (some ⟨b, 0, none⟩)] w fun e w' => e = .returned (.tuple #[]) ∧ w' = w.setCell ⟨b, 0, none⟩ (.pointer (some ⟨b, 0, none⟩)))
    {b : Nat} {buf : AV} {h : Heap} (hg : h.get b = some (.cells tb [.nilptr, buf] true)) :
    TaskOK P base w0 (.call F [.own b 2] h) (.ret (.tuple []) (h.set b (.cells tb [.own b 2, buf] true))) := by
  intro E args' w cs ha H
  obtain ⟨rfl, hd, h0, hk⟩ := own_args ha
  obtain ⟨c', z, q1, q2, q3, q4, q5, q6⟩ := H.obj b _ hd hg
  rw [h0, hk] at q2
  rw [h0] at q4
  obtain ⟨v0, k0, r0⟩ := q4 0 _ rfl
  obtain ⟨v1, k1, r1⟩ := q4 1 _ rfl
  cases r0
  have hz := q5 rfl
  have hc : w.cell? ⟨E.blk b, 0, none⟩ = some (.pointer none) := by
    unfold World.cell?
    simp only [q1]
    simpa using k0
  have hsh : w.shape? (E.blk b) = some (tb, 2) := by
    unfold World.shape?
    simp only [q1, q2]
  have hfz : w.frozen? ⟨E.blk b, 0, none⟩ = false := by
    unfold World.frozen?
    simp only [q1]
    simp
    omega
  obtain ⟨e', w', fr, ⟨rfl, rfl⟩, s1, s2, s3⟩ := hC (E.blk b) w hc hsh hfz cs
  have hoth : ∀ k, k ≠ E.blk b → (w.setCell ⟨E.blk b, 0, none⟩ (.pointer (some ⟨E.blk b, 0, none⟩))).heap[k]? = w.heap[k]? := fun k hk => by
    show (w.heap.modify (E.blk b) _)[k]? = _
    rw [Array.getElem?_modify, if_neg (fun h => hk h.symm)]
  have hsz : (w.setCell ⟨E.blk b, 0, none⟩ (.pointer (some ⟨E.blk b, 0, none⟩))).heap.size = w.heap.size := by
    show (w.heap.modify (E.blk b) _).size = _
    rw [Array.size_modify]
  have A := put_obj H hd hg rfl (a' := .cells (tb) [.own b 2, buf] true) (w' := w.setCell ⟨E.blk b, 0, none⟩ (.pointer (some ⟨E.blk b, 0, none⟩)))
    ⟨rfl, rfl, rfl, by rw [hsz]; exact Nat.le_refl _, fun k hk => hoth k (by omega)⟩ (Nat.le_refl _) hsz hoth (by
      refine ⟨c'.setIfInBounds 0 (.pointer (some ⟨E.blk b, 0, none⟩)), z, ?_, by rw [h0, hk]; simpa using q2, q3, fun i v hv => ?_, fun hr => ⟨hz.1, by simpa using hz.2⟩, fun hr => by cases hr⟩
      · show (w.heap.modify (E.blk b) _)[E.blk b]? = _
        rw [Array.getElem?_modify, if_pos rfl, q1]
        rfl
      · rw [h0]
        match i, hv with
        | 0, hv =>
          cases hv
          refine ⟨.pointer (some ⟨E.blk b, 0, none⟩), ?_, ?_⟩
          · rw [Array.getElem?_setIfInBounds, if_pos rfl, if_pos (by omega)]
          · have := VR.own (E := E) b 2 hd h0 hk
            simpa [En.at, h0] using this
        | 1, hv =>
          cases hv
          refine ⟨v1, ?_, r1⟩
          rw [Array.getElem?_setIfInBounds, if_neg (by omega)]
          exact k1)
  exact ⟨_, rfl, E, _, _, fr, A.1, A.2, .tuple [] [] .nil, s1, s2, s3⟩
theorem copyCheck_used {F : FuncId} (hC : ∀ (b : Nat) (w : World), w.cell? ⟨b, 0, none⟩ = some (.pointer (some ⟨b, 0, none⟩)) → Calls P F #[.pointer (some ⟨b, 0, none⟩)] w fun e w' => e = .returned (.tuple #[]) ∧ w' = w) {b : Nat} {e : TypeId} {buf : AV} {h : Heap} (hg : h.get b = some (.cells e [.own b 2, buf] true)) :
    TaskOK P base w0 (.call F [.own b 2] h) (.ret (.tuple []) h) := by
  intro E args' w cs ha H
  obtain ⟨rfl, hd, h0, hk⟩ := own_args ha
  obtain ⟨c', z, q1, q2, q3, q4, q5, q6⟩ := H.obj b _ hd hg
  rw [h0] at q4
  obtain ⟨v0, k0, r0⟩ := q4 0 _ rfl
  have e0 : v0 = .pointer (some ⟨E.blk b, 0, none⟩) := by
    cases r0
    simp [En.at, h0]
  subst e0
  have hc : w.cell? ⟨E.blk b, 0, none⟩ = some (.pointer (some ⟨E.blk b, 0, none⟩)) := by
    unfold World.cell?
    simp only [q1]
    simpa using k0
  obtain ⟨e', w', fr, ⟨rfl, rfl⟩, s1, s2, s3⟩ := hC (E.blk b) w hc cs
  exact ⟨_, rfl, E, _, _, fr, H, Ste.refl _ _ _, .tuple [] [] .nil, s1, s2, s3⟩
theorem liesAt_row {e : TypeId} (hc : P.cellsOf e = 1) (count off n : Nat) (hn : off + n ≤ count) : liesAt P P.depth e count off e n = true := by
  have hd : P.depth = (2 * (P.types.size + Made.depth) + 1) + 1 := rfl
  rw [hd]
  simp only [liesAt, Bool.or_eq_true]
  left
  rw [hd]
  simp [rowAt, hc, hn, sameLayout, Nat.mod_one]
theorem run_unsafeString_at (w : World) (pt it ty e : TypeId) (hp : P.underlying pt = some (.pointer e)) (hc : P.cellsOf e = 1) (g off cells : Nat) (hsh : w.shape? g = some (e, cells)) (l : List UInt8) (h0 : l ≠ []) (hn : off + l.length ≤ cells) (h63 : l.length ≤ 9223372036854775807)
    (hcell : ∀ j x, l[j]? = some x → w.cell? ((⟨g, off, none⟩ : Addr).add j) = some (.int .u8 x.toNat)) :
    (Builtin.unsafeString_ #[pt, it] ty #[.pointer (some ⟨g, off, none⟩), .int .i64 l.length]).run P w = .ok (.string ⟨l.toArray⟩) (w.freeze ⟨g, off, none⟩ l.length) := by
  have hl : l.length ≠ 0 := by simpa using h0
  have hlb := Go.Lib.run_loadBytes (P := P) w l ⟨g, off, none⟩ .empty hcell
  have hlies := liesAt_row (P := P) hc (cells / P.cellsOf e) off l.length (by rw [hc]; simpa using hn)
  have h63' : ¬ (9223372036854775807 : Int) < (l.length : Int) := by omega
  have hmax : IntKind.i64.max = 9223372036854775807 := rfl
  have hneg : ¬ (l.length : Int) < 0 := by omega
  change (bind (asInt (.int .i64 l.length)) _ : Sem Value).run P w = _
  simp [asInt, asIntOf, hmax, h63', hneg, hl, variablesAt, hsh, elemOf, run_underlying hp, hlies, hlb]
set_option maxHeartbeats 2000000 in
set_option maxRecDepth 100000 in
/-- String at a builder that holds bytes: the world, exactly -/
theorem builder_String_row (L : Lays.n169 P ρ) (X : Go.Proofs.Builder.Extra P ρ) (b g off cap cells : Nat) (l : List UInt8) (w : World) (c0 : w.cell? ⟨b, 1, none⟩ = some (.slice (some ⟨g, off, none⟩) l.length cap)) (hcap : cap ≠ 0)
    (hsh : w.shape? g = some (ρ.t 5, cells)) (h0 : l ≠ []) (hn : off + l.length ≤ cells) (h63 : l.length ≤ 9223372036854775807) (hcell : ∀ j x, l[j]? = some x → w.cell? ((⟨g, off, none⟩ : Addr).add j) = some (.int .u8 x.toNat)) :
    Calls P (ρ.f 169) #[.pointer (some ⟨b, 0, none⟩)] w fun e w' => e = .returned (.string ⟨l.toArray⟩) ∧ w' = w.drew.freeze ⟨g, off, none⟩ l.length := by
  have c1 : w.drew.cell? ⟨b, 1, none⟩ = some (.slice (some ⟨g, off, none⟩) l.length cap) := c0
  have hSD : (Builtin.unsafeSliceData_ #[(ρ.t 37)] (ρ.t 127) #[.slice (some ⟨g, off, none⟩) l.length cap]).run P w.drew = .ok (.pointer (some ⟨g, off, none⟩)) w.drew :=
    Go.Lib.run_unsafeSliceData_row _ _ _ _ _ _ hcap
  have hUS : (Builtin.unsafeString_ #[(ρ.t 127), (ρ.t 3)] (ρ.t 9) #[.pointer (some ⟨g, off, none⟩), .int .i64 l.length]).run P w.drew = .ok (.string ⟨l.toArray⟩) (w.drew.freeze ⟨g, off, none⟩ l.length) :=
    run_unsafeString_at w.drew (ρ.t 127) (ρ.t 3) (ρ.t 9) (ρ.t 5) L.t127 X.cellsByte g off cells hsh l h0 hn h63 hcell
  have mixed := L.mixed
  have t72 := L.t72; have a72 := L.a72; have z72 := L.z72; have v72 := L.v72; have u72 := run_underlying L.t72
  have t70 := L.t70; have a70 := L.a70; have z70 := L.z70; have v70 := L.v70; have u70 := run_underlying L.t70
  have t37 := L.t37; have a37 := L.a37; have z37 := L.z37; have v37 := L.v37; have u37 := run_underlying L.t37
  have t127 := L.t127; have a127 := L.a127; have z127 := L.z127; have v127 := L.v127; have u127 := run_underlying L.t127
  have t3 := L.t3; have a3 := L.a3; have z3 := L.z3; have v3 := L.v3; have u3 := run_underlying L.t3
  have t9 := L.t9; have a9 := L.a9; have z9 := L.z9; have v9 := L.v9; have u9 := run_underlying L.t9
  have t5 := X.t5; have a5 := X.a5; have z5 := X.z5; have v5 := X.v5; have u5 := run_underlying X.t5
  go_enter L.f169, Body.n169_ntmps ρ
  go_wp2
  go_region_o
  all_goals (go_wp2; go_ret; exact ⟨rfl, rfl⟩)
set_option maxHeartbeats 2000000 in
set_option maxRecDepth 100000 in
theorem builder_String_none (L : Lays.n169 P ρ) (X : Go.Proofs.Builder.Extra P ρ) (b : Nat) (w : World) (c0 : w.cell? ⟨b, 1, none⟩ = some (.slice none 0 0)) :
    Calls P (ρ.f 169) #[.pointer (some ⟨b, 0, none⟩)] w fun e w' => e = .returned (.string ⟨#[]⟩) ∧ w' = w.drew := by
  have hUS := Go.Proofs.Any.unsafeString_none L X
  have c1 : w.drew.cell? ⟨b, 1, none⟩ = some (.slice none 0 0) := c0
  have hSD : (Builtin.unsafeSliceData_ #[(ρ.t 37)] (ρ.t 127) #[.slice none 0 0]).run P w.drew = .ok (.pointer none) w.drew := rfl
  have mixed := L.mixed
  have t72 := L.t72; have a72 := L.a72; have z72 := L.z72; have v72 := L.v72; have u72 := run_underlying L.t72
  have t70 := L.t70; have a70 := L.a70; have z70 := L.z70; have v70 := L.v70; have u70 := run_underlying L.t70
  have t37 := L.t37; have a37 := L.a37; have z37 := L.z37; have v37 := L.v37; have u37 := run_underlying L.t37
  have t127 := L.t127; have a127 := L.a127; have z127 := L.z127; have v127 := L.v127; have u127 := run_underlying L.t127
  have t3 := L.t3; have a3 := L.a3; have z3 := L.z3; have v3 := L.v3; have u3 := run_underlying L.t3
  have t9 := L.t9; have a9 := L.a9; have z9 := L.z9; have v9 := L.v9; have u9 := run_underlying L.t9
  have t5 := X.t5; have a5 := X.a5; have z5 := X.z5; have v5 := X.v5; have u5 := run_underlying X.t5
  go_enter L.f169, Body.n169_ntmps ρ
  go_wp2
  go_region_o
  all_goals (go_wp2; go_ret; exact ⟨rfl, rfl⟩)
theorem string_none (L : Lays.n169 P ρ) (X : Go.Proofs.Builder.Extra P ρ) {b : Nat} {e : TypeId} {p : AV} {h : Heap} (hg : h.get b = some (.cells e [p, .nilslice] true)) :
    TaskOK P base w0 (.call (ρ.f 169) [.own b 2] h) (.ret (.str []) h) := by
  intro E args' w cs ha H
  obtain ⟨rfl, hd, h0, hk⟩ := own_args ha
  obtain ⟨c', z, q1, q2, q3, q4, q5, q6⟩ := H.obj b _ hd hg
  rw [h0] at q4
  obtain ⟨v1, k1, r1⟩ := q4 1 _ rfl
  cases r1
  have hc : w.cell? ⟨E.blk b, 1, none⟩ = some (.slice none 0 0) := by
    unfold World.cell?
    simp only [q1]
    simpa using k1
  obtain ⟨e', w', fr, ⟨rfl, rfl⟩, s1, s2, s3⟩ := builder_String_none L X (E.blk b) w hc cs
  have A := hr_drewN H 1
  exact ⟨_, rfl, E, w.drew, _, fr, A.1, A.2, .str [], s1, s2, s3⟩
/-- the first n cells' bytes -/
def bytesN : Nat → List AV → Option (List UInt8)
  | 0, _ => some []
  | n + 1, .int .u8 (.ofNat b) :: l => match Nat.blt b 256, bytesN n l with
    | true, some s => some (UInt8.ofNat b :: s)
    | _, _ => none
  | _, _ => none
theorem bytesN_ok : ∀ {n : Nat} {cs : List AV} {s : List UInt8}, bytesN n cs = some s → s.length = n ∧ ∀ (j : Nat) (x : UInt8), s[j]? = some x → cs[j]? = some (.int .u8 x.toNat)
  | 0, cs, s, h => by
    simp [bytesN] at h
    subst h
    exact ⟨rfl, fun j x hx => by simp at hx⟩
  | n + 1, [], s, h => by simp [bytesN] at h
  | n + 1, a :: l, s, h => by
    have ha : ∃ b, a = .int .u8 (.ofNat b) := by
      cases a with
      | int k m => cases k with
        | u8 => cases m with
          | ofNat b => exact ⟨b, rfl⟩
          | negSucc b => simp [bytesN] at h
        | _ => simp [bytesN] at h
      | _ => simp [bytesN] at h
    obtain ⟨b, rfl⟩ := ha
    simp only [bytesN] at h
    split at h
    · rename_i t hb ht
      cases h
      obtain ⟨h1, h2⟩ := bytesN_ok ht
      refine ⟨by simp [h1], fun j x hx => ?_⟩
      cases j with
      | zero =>
        simp at hx
        subst hx
        have hb := blt_lt hb
        have e : (UInt8.ofNat b).toNat = b := by simp; omega
        rw [e]
        rfl
      | succ j => exact h2 j x (by simpa using hx)
    · cases h
theorem string_row (L : Lays.n169 P ρ) (X : Go.Proofs.Builder.Extra P ρ) {b b1 n : Nat} {e : TypeId} {p : AV} {cs : List AV} {s : List UInt8} {h : Heap} (hg : h.get b = some (.cells e [p, .oslice b1 0 (n + 1) 1] true)) (hg1 : h.get b1 = some (.cells (ρ.t 5) cs true)) (hs : bytesN (n + 1) cs = some s) (hn : n < 1000000000) :
    TaskOK P base w0 (.call (ρ.f 169) [.own b 2] h) (.ret (.str s) (h.set b1 .dead)) := by
  intro E args' w cs' ha H
  obtain ⟨rfl, hd, h0, hk⟩ := own_args ha
  obtain ⟨c', z, q1, q2, q3, q4, q5, q6⟩ := H.obj b _ hd hg
  rw [h0] at q4
  obtain ⟨v1, k1, r1⟩ := q4 1 _ rfl
  cases r1 with
  | oslice _ _ _ _ cap hd1 hk1 =>
  obtain ⟨c1, z1, m1, m2, m3, m4, m5, m6⟩ := H.obj b1 _ hd1 hg1
  obtain ⟨hsl, hsb⟩ := bytesN_ok hs
  have hlen : n + 1 ≤ cs.length := by
    have hx : s[n]? = some s[n] := by simp [hsl]
    have := (List.getElem?_eq_some_iff.1 (hsb n _ hx)).1
    omega
  have hc : w.cell? ⟨E.blk b, 1, none⟩ = some (.slice (some ⟨E.blk b1, E.off b1, none⟩) s.length cap) := by
    unfold World.cell?
    simp only [q1, hsl]
    simpa [En.at] using k1
  have hsh : w.shape? (E.blk b1) = some (ρ.t 5, c1.size) := by
    unfold World.shape?
    simp only [m1]
  have hcell : ∀ j x, s[j]? = some x → w.cell? ((⟨E.blk b1, E.off b1, none⟩ : Addr).add j) = some (.int .u8 x.toNat) := by
    intro j x hx
    obtain ⟨v', j1, j2⟩ := m4 j _ (hsb j x hx)
    cases j2
    unfold World.cell? Addr.add
    by_cases hj : j = 0
    · subst hj
      simp only [if_true, m1]
      simpa using j1
    · simp only [if_neg hj, m1]
      simpa using j1
  obtain ⟨e', w', fr, ⟨rfl, rfl⟩, s1, s2, s3⟩ := builder_String_row L X (E.blk b) (E.blk b1) (E.off b1) cap c1.size s w hc (by omega) hsh (by intro e; rw [e] at hsl; simp at hsl) (by omega) (by omega) hcell cs'
  have A := (hr_drewN H 1)
  have hA : HR base w0 E h w.drew := A.1
  have hS : Ste E h w E h w.drew := A.2
  have hne : s.length ≠ 0 := by omega
  have hoth : ∀ k, k ≠ E.blk b1 → (w.drew.freeze ⟨E.blk b1, E.off b1, none⟩ s.length).heap[k]? = w.drew.heap[k]? := fun k hk => by
    unfold World.freeze
    rw [if_neg hne]
    show (w.drew.heap.modify (E.blk b1) _)[k]? = _
    rw [Array.getElem?_modify, if_neg (fun h => hk h.symm)]
  have hsz : (w.drew.freeze ⟨E.blk b1, E.off b1, none⟩ s.length).heap.size = w.drew.heap.size := by
    unfold World.freeze
    rw [if_neg hne]
    show (w.drew.heap.modify (E.blk b1) _).size = _
    rw [Array.size_modify]
  have hrest : (w.drew.freeze ⟨E.blk b1, E.off b1, none⟩ s.length).os = w.drew.os ∧ (w.drew.freeze ⟨E.blk b1, E.off b1, none⟩ s.length).tape = w.drew.tape ∧ (w.drew.freeze ⟨E.blk b1, E.off b1, none⟩ s.length).output = w.drew.output ∧ (w.drew.freeze ⟨E.blk b1, E.off b1, none⟩ s.length).drawn = w.drew.drawn := by
    unfold World.freeze
    rw [if_neg hne]
    exact ⟨rfl, rfl, rfl, rfl⟩
  have hb1 := (m5 rfl).1
  have B := put_obj hA hd1 hg1 rfl (a' := .dead) (w' := w.drew.freeze ⟨E.blk b1, E.off b1, none⟩ s.length)
    ⟨hrest.1, hrest.2.1, hrest.2.2.1, by rw [hsz]; exact Nat.le_refl _, fun k hk => hoth k (by omega)⟩ (by rw [hrest.2.2.2]; exact Nat.le_refl _) hsz hoth trivial
  exact ⟨_, rfl, E, _, _, fr, B.1, hS.trans B.2, .str s, s1, s2, s3⟩
end Ev
