/- A part of the proof that what the evaluator (EvDefs) says of a call is what the machine does: EvOps5. Conditions: those that each theorem states. -/
import Derived.Test.YtnaihoegbmpjiaaGreatEvOps4
set_option linter.unusedVariables false
set_option linter.unusedSimpArgs false
namespace Ev
open Go Go.RowKit

variable {P : Program} {T : Tabs} {base : Nat} {w0 : World}

/-! ### append -/
theorem roomA_le {need bytes : Nat} (h : roomA need bytes = true) : (4 * need + 1000) * (bytes + 1) ≤ 140737488355328 := by
  unfold roomA at h
  exact Nat.le_of_ble_eq_true h
theorem growBy_le (newLen : Nat) : ∀ (r c : Nat), c ≤ newLen + (newLen + 768) / 4 → Builtin.growBy newLen r c ≤ newLen + (newLen + 768) / 4
  | 0, c, h => h
  | r + 1, c, h => by
    unfold Builtin.growBy
    split
    · exact h
    · exact growBy_le newLen r _ (by omega)
theorem nextcap_le {need k : Nat} (h : k < need) : Builtin.nextslicecap need k ≤ 4 * need + 1000 := by
  unfold Builtin.nextslicecap
  split
  · omega
  · split
    · omega
    · have := growBy_le need 4 k (by omega); omega

theorem isMake_run (ok : TabsOK P T) {st : TypeId} {rest : List TypeId} {z : Bool} (h : isMake T rest = some z) (w : World) :
    ((match (st :: rest).toArray[1]? with
      | some xType => do pure ((← underlying xType) matches .int _)
      | none => pure false : Sem Bool)).run P w = .ok z w := by
  cases rest with
  | nil => simp [isMake] at h; subst h; simp
  | cons xt l =>
    simp only [isMake] at h
    split at h
    · rename_i hu; simp at h; subst h; simp [run_und ok hu]
    · rename_i d hd hu
      simp at h; subst h
      simp [run_und ok hu]
    · simp at h
theorem zeroOk_some {elem : TypeId} {sz : Nat} (h : zeroOk T elem sz = true) : ∃ z, T.zero elem = some z ∧ z.cells.length = sz := by
  unfold zeroOk at h
  split at h
  · rename_i z hz; exact ⟨z, hz, Nat.eq_of_beq_eq_true h⟩
  · simp at h

/-- what append does where there is room -/
def inPlace (basea : Option Addr) (sl n sCap sz : Nat) (nc : Array Value) : Sem Value := match basea with
  | some a => do
    storeCells (a.add (sl * sz)) nc.toList
    pure (Value.slice basea (sl + n) sCap)
  | _ => pure (Value.slice basea (sl + n) sCap)

/-- the second argument's number of elements, and their cells, as append reads them -/
structure Src (P : Program) (T : Tabs) (E : En) (elem : TypeId) (rest : List TypeId) (x' : Value) (sz n : Nat) (new : List AV) (w : World) : Prop where
  kind : (isMake T rest = some false ∧ (∀ w', (Builtin.lenOf x').run P w' = .ok n w') ∧ ∀ w', w'.heap = w.heap → ∃ nc : Array Value, (Builtin.firstCells sz n x').run P w' = .ok nc w' ∧ VRs E new nc.toList) ∨
    (isMake T rest = some true ∧ (∃ k, x' = .int k (n : Int)) ∧ n ≤ 1073741824 ∧ ∃ zv : Value, (∀ w', (zeroValue elem).run P w' = .ok zv w') ∧ zv.cells.size = sz ∧ VRs E new (Builtin.zeroCells zv.cells n).toList)

theorem HR.heap {E : En} {h : Heap} {w w' : World} (H : HR base w0 E h w) (hh : w'.heap = w.heap) (ho : w'.os = w.os) (ht : w'.tape = w.tape) (hu : w'.output = w.output) (hd : w.drawn ≤ w'.drawn) : HR base w0 E h w' where
  dlt := H.dlt
  obj b o hb hg := OR'.same (by rw [hh]) (H.obj b o hb hg)
  inj := H.inj
  wd := ⟨ho.trans H.wd.os, ht.trans H.wd.tape, hu.trans H.wd.output, by rw [hh]; exact H.wd.size, fun k hk => by rw [hh]; exact H.wd.block k hk⟩
  drawn := Nat.le_trans H.drawn hd
  bsz := by rw [hh]; exact H.bsz
  blt b hb := by rw [hh]; exact H.blt b hb

theorem zeroCells_size (z : Array Value) (n : Nat) : (Builtin.zeroCells z n).size = n * z.size := by simp [Builtin.zeroCells]
theorem src_of (ok : TabsOK P T) {E : En} {h : Heap} {w : World} (H : HR base w0 E h w) {elem : TypeId} {rest : List TypeId} {x : AV} {x' : Value} (hx : VR E x x') {sz n : Nat} {new : List AV}
    (hn : countA T rest x = some n) (hnew : newA T elem sz n h rest x = some new) (hzero : zeroOk T elem sz = true) : Src P T E elem rest x' sz n new w := by
  unfold countA at hn
  unfold newA at hnew
  split at hn
  · rename_i k i hm
    rw [hm] at hnew
    simp only at hnew
    split at hn <;> simp at hn
    rename_i hi
    cases hx
    obtain ⟨z, hz, hzl⟩ := zeroOk_some hzero
    obtain ⟨zv, rz, vz⟩ := run_zero ok hz
    have hzs : zv.cells.size = sz := by
      have := (vz E).cells.length
      rw [hzl] at this; simp at this; exact this.symm
    split at hnew
    · rename_i l hl
      split at hnew <;> simp at hnew
      rename_i hlen
      subst hnew
      refine ⟨.inr ⟨hm, ⟨k, ?_⟩, by omega, zv, rz, hzs, ?_⟩⟩
      · congr 1; omega
      · obtain ⟨z2, r2, v2⟩ := zeros_sound ok hl hlen (E := E) w
        have : (Builtin.zeroCells zv.cells n) = (Array.range (n * sz)).map fun i => z2[i % z2.size]! := by
          unfold Builtin.zeroCells
          rw [hzs]
          by_cases h0 : n * sz = 0
          · rw [h0]; simp
          · simp [h0, rz] at r2
            subst r2
            rw [hzs]
        rw [this]; exact v2
    · simp at hnew
  · rename_i hm
    rw [hm] at hnew
    simp only at hnew
    refine ⟨.inl ⟨hm, fun w' => lenS_sound hn hx w', fun w' hw => ?_⟩⟩
    -- the same heap: read in the world as it stands
    have H' : HR base { w0 with drawn := 0, os := w'.os, tape := w'.tape, output := w'.output } E h w' := ⟨H.dlt, fun b o hb hg => OR'.same (by rw [hw]) (H.obj b o hb hg), H.inj, ⟨rfl, rfl, rfl, by rw [hw]; exact H.wd.size, fun k hk => by rw [hw]; exact H.wd.block k hk⟩, Nat.zero_le _, by rw [hw]; exact H.bsz, fun b hb => by rw [hw]; exact H.blt b hb⟩
    exact first_sound (P := P) H' hnew hx
  · simp at hn

set_option maxHeartbeats 1000000 in
theorem append_in (ok : TabsOK P T) {ty st elem : TypeId} {rest : List TypeId} {x' : Value} (hu : T.und st = some (.slice elem)) {sz n sl sCap : Nat} {basea : Option Addr} (hsz : T.size elem = some sz)
    {ei : TypeInfo} (hei : T.ti elem = some ei) {E : En} {w : World} {new : List AV} (S : Src P T E elem rest x' sz n new w) (hroom : roomA (sl + n) ei.bytes = true) (hle : sl + n ≤ sCap) :
    ∃ nc : Array Value, VRs E new nc.toList ∧ (Builtin.append_ (st :: rest).toArray ty #[.slice basea sl sCap, x']).run P w = (inPlace basea sl n sCap sz nc).run P w := by
  rcases S.kind with ⟨hm, hlen, hnc⟩ | ⟨hm, ⟨k, rfl⟩, hn30, zv, rz, hzs, hv⟩
  · obtain ⟨nc, r1, v1⟩ := hnc w rfl
    refine ⟨nc, v1, ?_⟩
    have mk := isMake_run ok (st := st) hm w
    unfold Builtin.append_ inPlace
    cases rest with
    | nil =>
      simp [run_und ok hu, run_size ok hsz, hlen, hle, r1]
      cases basea <;> simp
    | cons xt l =>
      simp [isMake] at hm
      split at hm
      · simp at hm
      · rename_i d hd hu2
        simp [run_und ok hu, run_und ok hu2, run_size ok hsz, hlen, hle, r1]
        cases basea <;> simp
      · simp at hm
  · refine ⟨_, hv, ?_⟩
    have hr := roomA_le hroom
    unfold Builtin.append_ inPlace
    cases rest with
    | nil => simp [isMake] at hm
    | cons xt l =>
      simp [isMake] at hm
      split at hm
      · rename_i k2 hu2
        have hw : IntKind.i64.wrap (n : Int) = n := by simp [IntKind.wrap, IntKind.bits, IntKind.signed]; omega
        have hb : ¬ 281474976710656 < (n : Int) * (ei.bytes : Int) := by
          have : n * ei.bytes ≤ (4 * (sl + n) + 1000) * (ei.bytes + 1) := Nat.mul_le_mul (by omega) (by omega)
          have h2 : ((n * ei.bytes : Nat) : Int) ≤ 140737488355328 := by omega
          rw [Int.natCast_mul] at h2
          omega
        have h0 : ¬ (n : Int) < 0 := by omega
        simp [run_und ok hu, run_und ok hu2, run_size ok hsz, run_ti ok hei, hle, asInt, asIntOf, hw, rz, hb, h0]
        by_cases hz : n * sz = 0
        · have hnil : (Builtin.zeroCells zv.cells n).toList = [] := by
            apply List.eq_nil_of_length_eq_zero
            have := zeroCells_size zv.cells n
            rw [hzs, hz] at this
            simpa using this
          rw [if_pos hz, hnil]
          cases basea <;> simp
        · rw [if_neg hz]
          cases basea <;> simp
      · simp at hm
      · simp at hm
set_option maxHeartbeats 2000000 in
theorem append_new (ok : TabsOK P T) {ty st elem : TypeId} {rest : List TypeId} {x' : Value} (hu : T.und st = some (.slice elem)) {sz n sl sCap : Nat} {basea : Option Addr} (hsz : T.size elem = some sz)
    {ei : TypeInfo} (hei : T.ti elem = some ei) {E : En} {w : World} {new : List AV} (S : Src P T E elem rest x' sz n new w) (hroom : roomA (sl + n) ei.bytes = true) (hzero : zeroOk T elem sz = true) (hlt : sCap < sl + n)
    {oc : Array Value} (hoc : (Builtin.firstCells sz sl (.slice basea sl sCap)).run P w.drew = .ok oc w.drew) :
    ∃ (newCap : Nat) (nc zc : Array Value), sl + n ≤ newCap ∧ zc.size = (newCap - (sl + n)) * sz ∧ VRs E new nc.toList ∧
      (Builtin.append_ (st :: rest).toArray ty #[.slice basea sl sCap, x']).run P w = .ok (.slice (some ⟨w.heap.size, 0, none⟩) (sl + n) newCap) (w.drew.alloc (.cells (oc ++ nc ++ zc) elem)) := by
  have hr := roomA_le hroom
  obtain ⟨z, hz, hzl⟩ := zeroOk_some hzero
  obtain ⟨zv, rz, vz⟩ := run_zero ok hz
  have hzs : zv.cells.size = sz := by
    have := (vz E).cells.length
    rw [hzl] at this; simp at this; exact this.symm
  have hle : ¬ sl + n ≤ sCap := by omega
  have hcap := nextcap_le hlt
  have hbig : ¬ 281474976710656 < Builtin.nextslicecap (sl + n) sCap * ei.bytes := by
    have : Builtin.nextslicecap (sl + n) sCap * ei.bytes ≤ (4 * (sl + n) + 1000) * (ei.bytes + 1) := Nat.mul_le_mul hcap (by omega)
    omega
  have hi64 : ¬ (9223372036854775807 : Int) < (sl : Int) + (n : Int) := by
    have h1 : 1 * (4 * (sl + n) + 1000) ≤ (4 * (sl + n) + 1000) * (ei.bytes + 1) := by rw [Nat.mul_comm 1]; exact Nat.mul_le_mul (Nat.le_refl _) (by omega)
    omega
  have hforced : (Question.appendCap (sl + n) sCap elem).forced = false := rfl
  generalize hcut : (Question.appendCap (sl + n) sCap elem).cut (w.tape w.drawn (Question.appendCap (sl + n) sCap elem)) = newCap
  have hnc : sl + n ≤ newCap := by rw [← hcut]; simp [Question.cut]
  rcases S.kind with ⟨hm, hlen, hnc0⟩ | ⟨hm, ⟨k, rfl⟩, hn30, zv2, rz2, hzs2, hv⟩
  · obtain ⟨nc, r1, v1⟩ := hnc0 w.drew rfl
    refine ⟨newCap, nc, Builtin.zeroCells zv.cells (newCap - (sl + n)), hnc, by rw [zeroCells_size, hzs], v1, ?_⟩
    unfold Builtin.append_
    cases rest with
    | nil =>
      simp [run_und ok hu, run_size ok hsz, run_ti ok hei, hlen, hle, hi64, hbig, hforced, hcut, hoc, r1, rz, newRow]
    | cons xt l =>
      simp [isMake] at hm
      split at hm
      · simp at hm
      · rename_i d hd hu2
        simp [run_und ok hu, run_und ok hu2, run_size ok hsz, run_ti ok hei, hlen, hle, hi64, hbig, hforced, hcut, hoc, r1, rz, newRow]
      · simp at hm
  · refine ⟨newCap, _, Builtin.zeroCells zv.cells (newCap - (sl + n)), hnc, by rw [zeroCells_size, hzs], hv, ?_⟩
    unfold Builtin.append_
    cases rest with
    | nil => simp [isMake] at hm
    | cons xt l =>
      simp [isMake] at hm
      split at hm
      · rename_i k2 hu2
        have hw : IntKind.i64.wrap (n : Int) = n := by simp [IntKind.wrap, IntKind.bits, IntKind.signed]; omega
        have hb : ¬ 281474976710656 < (n : Int) * (ei.bytes : Int) := by
          have : n * ei.bytes ≤ (4 * (sl + n) + 1000) * (ei.bytes + 1) := Nat.mul_le_mul (by omega) (by omega)
          have h2 : ((n * ei.bytes : Nat) : Int) ≤ 140737488355328 := by omega
          rw [Int.natCast_mul] at h2
          omega
        have h0 : ¬ (n : Int) < 0 := by omega
        have hzv : zv2 = zv := by
          have e1 := rz w; have e2 := rz2 w
          rw [e1] at e2; simpa using e2.symm
        subst hzv
        simp [run_und ok hu, run_und ok hu2, run_size ok hsz, run_ti ok hei, asInt, asIntOf, hw, hb, h0, hle, hi64, hbig, hforced, hcut, hoc, rz, newRow]
        intro hz
        have hnil : (Builtin.zeroCells zv2.cells n) = #[] := by
          apply Array.eq_empty_of_size_eq_zero
          rw [zeroCells_size, hzs, hz]
        rw [hnil]
        simp
      · simp at hm
      · simp at hm
end Ev
