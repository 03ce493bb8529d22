/- A part of the proof that what the evaluator (EvDefs) says of a call is what the machine does: EvMem. Conditions: those that each theorem states. -/
import Derived.Test.YtnaihoegbmpjiaaGreatEvRel
set_option linter.unusedVariables false
set_option linter.unusedSimpArgs false
namespace Ev
open Go Go.RowKit

variable {P : Program} {T : Tabs} {base : Nat} {w0 : World}

theorem En.at_add (E : En) (b o n : Nat) : (E.at b o).add n = E.at b (o + n) := by
  unfold Addr.add En.at
  split
  · rename_i h; subst h; rfl
  · simp [Nat.add_assoc]

theorem cell_of {E : En} {b : Nat} {w : World} {e : TypeId} {cs : List AV} {rw : Bool} (h : OR' base E b w (.cells e cs rw)) {o : Nat} {v : AV} (hv : cs[o]? = some v) :
    ∃ v', w.cell? (E.at b o) = some v' ∧ VR E v v' := by
  obtain ⟨c', z, h1, _, _, h4, _, _⟩ := h
  obtain ⟨v', h5, h6⟩ := h4 o v hv
  refine ⟨v', ?_, h6⟩
  unfold World.cell? En.at
  simp only [h1]
  simpa using h5

theorem read_cells {E : En} {h : Heap} {w : World} {b : Nat} (hd : E.dom b) (H : HR base w0 E h w) (n : Nat) :
    ∀ (o i : Nat) (l : List AV) (acc : Array Value), readCells h b (o + i) n = some l →
      ∃ l', (loadCellsFrom (E.at b o) i n acc).run P w = .ok (acc ++ l'.toArray) w ∧ VRs E l l' := by
  induction n with
  | zero =>
    intro o i l acc hr
    refine ⟨[], by simp [loadCellsFrom], ?_⟩
    unfold readCells at hr
    split at hr
    · obtain ⟨_, rfl⟩ := cutE_some hr; simp; exact .nil
    · simp at hr
  | succ n ih =>
    intro o i l acc hr
    unfold readCells at hr
    split at hr
    · rename_i e cs rw hg
      obtain ⟨hlen, rfl⟩ := cutE_some hr
      have hi : o + i < cs.length := by omega
      obtain ⟨v', hc, hv⟩ := cell_of (H.obj b _ hd hg) (List.getElem?_eq_getElem hi)
      obtain ⟨l', h1, h2⟩ := ih o (i + 1) ((cs.drop (o + (i + 1))).take n) (acc.push v') (by
        unfold readCells cutE cut
        simp only [hg]
        rw [if_pos (by omega)])
      refine ⟨v' :: l', ?_, ?_⟩
      · simp only [loadCellsFrom, Sem.run_bind, run_load, En.at_add, hc, Result.andThen_ok, h1]
        simp
      · rw [List.drop_eq_getElem_cons hi, List.take_succ_cons]
        exact .cons _ _ _ _ hv (by simpa [Nat.add_assoc] using h2)
    · simp at hr

theorem read_cells0 {E : En} {h : Heap} {w : World} {b : Nat} (hd : E.dom b) (H : HR base w0 E h w) {n o : Nat} {l : List AV} (hr : readCells h b o n = some l) :
    ∃ l', (loadCells (E.at b o) n).run P w = .ok l'.toArray w ∧ VRs E l l' := by
  obtain ⟨l', h1, h2⟩ := read_cells (P := P) hd H n o 0 l #[] (by simpa using hr)
  exact ⟨l', by simpa [loadCells] using h1, h2⟩

theorem load_var (ok : TabsOK P T) {E : En} {h : Heap} {w : World} {b o : Nat} (hd : E.dom b) (H : HR base w0 E h w) {t : TypeId} {v : AV} (hv : loadVarA T t h b o = some v) :
    ∃ v', (loadVar t (E.at b o)).run P w = .ok v' w ∧ VR E v v' := by
  unfold loadVarA at hv
  split at hv
  · rename_i n ha hs
    split at hv <;> simp at hv
    rename_i l hr
    subst hv
    obtain ⟨l', h1, h2⟩ := read_cells0 (P := P) hd H hr
    refine ⟨.agg l'.toArray, ?_, .agg l l' h2⟩
    simp [loadVar, run_agg ok ha, run_size ok hs, h1]
  · rename_i n ha hs
    split at hv
    · rename_i l hr
      unfold readCells at hr
      split at hr
      · rename_i e cs rw hg
        obtain ⟨hlen, rfl⟩ := cutE_some hr
        have hi : o < cs.length := by omega
        rw [nth_eq] at hv
        have hv' : cs[o]? = some v := by
          simpa using hv
        obtain ⟨v', hc, hvr⟩ := cell_of (H.obj b _ hd hg) hv'
        exact ⟨v', by simp [loadVar, run_agg ok ha, hc], hvr⟩
      · simp at hr
    · simp at hv
  · simp at hv

/-! ### a new object -/
def En.push (E : En) (b k o n : Nat) : En where
  blk := fun x => if x = b then k else E.blk x
  off := fun x => if x = b then o else E.off x
  ext := fun x => if x = b then n else E.ext x
  dom := fun x => x = b ∨ E.dom x
theorem En.push_le (E : En) (b k o n : Nat) (h : ¬ E.dom b) : E.Le (E.push b k o n) where
  dom x hx := .inr hx
  blk x hx := by have : x ≠ b := fun e => h (e ▸ hx); simp [En.push, this]
  off x hx := by have : x ≠ b := fun e => h (e ▸ hx); simp [En.push, this]
  ext x hx := by have : x ≠ b := fun e => h (e ▸ hx); simp [En.push, this]

theorem Heap.get_alloc (h : Heap) (o : AObj) (b : Nat) : (h.alloc o).get b = if b = h.next then some o else h.get b := by
  simp [Heap.alloc, Heap.get, Tr.get_set]
theorem Heap.get_set (h : Heap) (x : Nat) (o : AObj) (b : Nat) : (h.set x o).get b = if b = x then some o else h.get b := by
  simp [Heap.set, Heap.get, Tr.get_set]
@[simp] theorem Heap.next_set (h : Heap) (x : Nat) (o : AObj) : (h.set x o).next = h.next := rfl
@[simp] theorem Heap.next_alloc (h : Heap) (o : AObj) : (h.alloc o).next = h.next + 1 := rfl

theorem heap_alloc_old {w : World} {o : Obj} {k : Nat} (h : k < w.heap.size) : (w.alloc o).heap[k]? = w.heap[k]? := Below.heap_alloc w o k h
theorem heap_alloc_new {w : World} {o : Obj} : (w.alloc o).heap[w.heap.size]? = some o := by
  show (w.heap.push o)[w.heap.size]? = _
  simp

/-- a new object: the world's new block stands for it -/
theorem new_obj {E : En} {h : Heap} {w : World} (H : HR base w0 E h w) (a : AObj) (o : Obj) (n : Nat)
    (hor : OR' base (E.push h.next w.heap.size 0 n) h.next (w.alloc o) a) :
    HR base w0 (E.push h.next w.heap.size 0 n) (h.alloc a) (w.alloc o) ∧ Ste E h w (E.push h.next w.heap.size 0 n) (h.alloc a) (w.alloc o) := by
  have hnd : ¬ E.dom h.next := fun hd => by have := H.dlt _ hd; omega
  have le := E.push_le h.next w.heap.size 0 n hnd
  have blk0 : (E.push h.next w.heap.size 0 n).blk h.next = w.heap.size := by simp [En.push]
  have ne : ∀ b, E.dom b → b ≠ h.next := fun b hb e => hnd (e ▸ hb)
  refine ⟨⟨?_, ?_, ?_, ?_, ?_, ?_, ?_⟩, ⟨le, ?_, by simp, ?_, by simp, ?_, ?_⟩⟩
  · intro b hb
    rcases hb with rfl | hb
    · simp
    · have := H.dlt b hb; simp; omega
  · intro b o' hb ho
    rw [Heap.get_alloc] at ho
    rcases hb with rfl | hb
    · simp at ho; subst ho; exact hor
    · rw [if_neg (ne b hb)] at ho
      by_cases hdead : o' = .dead
      · subst hdead; trivial
      · have h1 := H.obj b o' hb ho
        have h2 := OR'.mono le hb h1
        refine OR'.same ?_ h2
        have := h1.lt hdead
        rw [le.blk b hb, heap_alloc_old this]
  · intro b b' o1 o2 hb hb' ho1 ho2 w1 w2 e
    rw [Heap.get_alloc] at ho1 ho2
    have dead1 : ∀ o : AObj, o.own → o ≠ .dead := fun o ho e => by subst e; exact ho
    rcases hb with rfl | hb <;> rcases hb' with rfl | hb'
    · rfl
    · rw [if_neg (ne b' hb')] at ho2
      rw [blk0, le.blk b' hb'] at e
      have := (H.obj b' o2 hb' ho2).lt (dead1 _ w2)
      omega
    · rw [if_neg (ne b hb)] at ho1
      rw [blk0, le.blk b hb] at e
      have := (H.obj b o1 hb ho1).lt (dead1 _ w1)
      omega
    · rw [if_neg (ne b hb)] at ho1
      rw [if_neg (ne b' hb')] at ho2
      rw [le.blk b hb, le.blk b' hb'] at e
      exact H.inj b b' o1 o2 hb hb' ho1 ho2 w1 w2 e
  · exact H.wd.alloc H.bsz o
  · exact H.drawn
  · have := H.bsz; simp; omega
  · intro b hb
    rcases hb with rfl | hb
    · rw [blk0]; simp
    · rw [le.blk b hb]; have := H.blt b hb; simp; omega
  · intro b hb
    rcases hb with rfl | hb
    · exact .inr (Nat.le_refl _)
    · exact .inl hb
  · intro b hb _
    rw [Heap.get_alloc, if_neg (by omega)]
  · intro k hk _; exact heap_alloc_old hk
  · intro b hb
    rcases hb with rfl | hb
    · exact .inr (.inl (by rw [blk0]; exact Nat.le_refl _))
    · exact .inl hb

/-- a new row of cells -/
theorem new_cells {E : En} {h : Heap} {w : World} (H : HR base w0 E h w) (e : TypeId) (cs : List AV) (c' : Array Value) (hcs : cs.length ≤ c'.size)
    (hv : ∀ (i : Nat) (v : AV), cs[i]? = some v → ∃ v', c'[i]? = some v' ∧ VR E v v') :
    let E' := E.push h.next w.heap.size 0 c'.size
    HR base w0 E' (h.alloc (.cells e cs true)) (w.alloc (.cells c' e)) ∧ Ste E h w E' (h.alloc (.cells e cs true)) (w.alloc (.cells c' e)) ∧ E'.dom h.next ∧ E'.at h.next 0 = ⟨w.heap.size, 0, none⟩ ∧ E'.ext h.next = c'.size := by
  have hnd : ¬ E.dom h.next := fun hd => by have := H.dlt _ hd; omega
  have le := E.push_le h.next w.heap.size 0 c'.size hnd
  have := new_obj H (.cells e cs true) (.cells c' e) c'.size (by
    refine ⟨c', (0, 0), ?_, ?_, ?_, ?_, ?_, by simp⟩
    · simp only [En.push, if_true]; exact heap_alloc_new
    · simp [En.push]
    · simpa [En.push] using hcs
    · intro i v hi
      obtain ⟨v', h1, h2⟩ := hv i v hi
      exact ⟨v', by simpa [En.push] using h1, h2.mono le⟩
    · intro _
      exact ⟨by simpa [En.push] using H.bsz, .inl rfl⟩)
  exact ⟨this.1, this.2, .inl rfl, by simp [En.at, En.push], by simp [En.push]⟩

/-! ### an object that changes in place -/
theorem put_obj {E : En} {h : Heap} {w w' : World} (H : HR base w0 E h w) {b : Nat} (hd : E.dom b) {a a' : AObj} (hg : h.get b = some a) (hown : a.own)
    (hw : Below base w w') (hdr : w.drawn ≤ w'.drawn) (hsz : w'.heap.size = w.heap.size) (hoth : ∀ k, k ≠ E.blk b → w'.heap[k]? = w.heap[k]?) (hor : OR' base E b w' a') :
    HR base w0 E (h.set b a') w' ∧ Ste E h w E (h.set b a') w' := by
  have hdead : a ≠ .dead := fun e => by subst e; exact hown
  refine ⟨⟨?_, ?_, ?_, ?_, ?_, ?_, ?_⟩, ⟨.refl E, fun _ h => .inl h, Nat.le_refl _, ?_, by omega, ?_, fun _ h => .inl h⟩⟩
  · exact fun x hx => H.dlt x hx
  · intro x o hx ho
    rw [Heap.get_set] at ho
    by_cases e : x = b
    · subst e; simp at ho; subst ho; exact hor
    · rw [if_neg e] at ho
      have h1 := H.obj x o hx ho
      by_cases hb : E.blk x = E.blk b
      · -- the other object is a row that came in, or dead
        cases o with
        | cells e' cs rw =>
          cases rw with
          | true => exact absurd (H.inj x b _ _ hx hd ho hg rfl hown hb) e
          | false =>
            obtain ⟨c', z, p1, p2, p3, p4, p5, p6⟩ := h1
            have q1 := p6 rfl
            have q2 := (H.obj b a hd hg).base hown
            omega
        | dead => trivial
        | map => exact absurd (H.inj x b _ _ hx hd ho hg trivial hown hb) e
        | loop => exact absurd (H.inj x b _ _ hx hd ho hg trivial hown hb) e
        | dfr => exact absurd (H.inj x b _ _ hx hd ho hg trivial hown hb) e
        | iter => exact absurd (H.inj x b _ _ hx hd ho hg trivial hown hb) e
      · exact OR'.same (hoth _ hb) h1
  · intro x x' o1 o2 hx hx' ho1 ho2 w1 w2 e
    rw [Heap.get_set] at ho1 ho2
    have key : ∀ (y : Nat) (o : AObj), E.dom y → (if y = b then some a' else h.get y) = some o → o.own → ∃ o', h.get y = some o' ∧ o'.own := by
      intro y o hy hyo hyw
      by_cases e : y = b
      · subst e; exact ⟨a, hg, hown⟩
      · rw [if_neg e] at hyo; exact ⟨o, hyo, hyw⟩
    obtain ⟨p1, q1, r1⟩ := key x o1 hx ho1 w1
    obtain ⟨p2, q2, r2⟩ := key x' o2 hx' ho2 w2
    exact H.inj x x' p1 p2 hx hx' q1 q2 r1 r2 e
  · exact H.wd.trans hw
  · exact Nat.le_trans H.drawn hdr
  · rw [hsz]; exact H.bsz
  · intro x hx; rw [hsz]; exact H.blt x hx
  · intro x hx hn
    rw [Heap.get_set, if_neg (fun e : x = b => hn (e ▸ hd))]
  · intro k hk hn
    exact hoth k (fun e => hn b hd e.symm)

theorem HR.ext {E : En} {h h' : Heap} {w : World} (H : HR base w0 E h w) (hn : h'.next = h.next) (hg : ∀ b, h'.get b = h.get b) : HR base w0 E h' w where
  dlt b hb := by rw [hn]; exact H.dlt b hb
  obj b o hb ho := H.obj b o hb (by rw [← hg]; exact ho)
  inj b b' o o' d d' g g' := H.inj b b' o o' d d' (by rw [← hg]; exact g) (by rw [← hg]; exact g')
  wd := H.wd
  drawn := H.drawn
  bsz := H.bsz
  blt := H.blt
theorem Ste.ext {E E' : En} {h h' h'' : Heap} {w w' : World} (S : Ste E h w E' h' w') (hn : h''.next = h'.next) (hg : ∀ b, h''.get b = h'.get b) : Ste E h w E' h'' w' where
  le := S.le
  newd := S.newd
  nx := by rw [hn]; exact S.nx
  loc b hb hd := by rw [hg]; exact S.loc b hb hd
  sz := S.sz
  fr := S.fr
  img := S.img

theorem drawn_setCell (w : World) (a : Addr) (v : Value) : (w.setCell a v).drawn = w.drawn := rfl

theorem store_one {E : En} {h : Heap} {w : World} (H : HR base w0 E h w) {b : Nat} (hd : E.dom b) {e : TypeId} {cs : List AV} (hg : h.get b = some (.cells e cs true))
    {o : Nat} (ho : o < cs.length) {v : AV} {v' : Value} (hv : VR E v v') (h1 : v.one = true) :
    (store (E.at b o) v').run P w = .ok () (w.setCell (E.at b o) v') ∧ HR base w0 E (h.set b (.cells e (over cs o [v]) true)) (w.setCell (E.at b o) v') ∧
      Ste E h w E (h.set b (.cells e (over cs o [v]) true)) (w.setCell (E.at b o) v') := by
  have hor := H.obj b _ hd hg
  obtain ⟨v0, hc, _⟩ := cell_of hor (List.getElem?_eq_getElem ho)
  obtain ⟨c', z, p1, p2, p3, p4, p5, p6⟩ := hor
  obtain ⟨q1, q2⟩ := p5 rfl
  have hfz : w.frozen? (E.at b o) = false := by
    unfold World.frozen? En.at
    simp only [p1]
    simp only [Bool.and_eq_false_iff, decide_eq_false_iff_not]
    omega
  have hblk : (E.at b o).block = E.blk b := rfl
  have hheap : (w.setCell (E.at b o) v').heap[E.blk b]? = some (.cells (c'.setIfInBounds (E.off b + o) v') e z) := by
    simp only [World.setCell, hblk, Array.getElem?_modify, if_true, p1, Option.map_some]
    simp [En.at]
  refine ⟨?_, ?_⟩
  · rw [run_store P w _ v' _ (hv.one h1)]
    simp [hc, hfz]
  · refine put_obj H hd hg rfl ((Below.refl base w).setCell (by rw [hblk]; exact q1) v') (Nat.le_refl _) (by simp) (fun k hk => Below.heap_setCell w _ v' k (by rw [hblk]; exact hk)) ?_
    refine ⟨_, z, hheap, by simpa using p2, ?_, ?_, ?_, by simp⟩
    · rw [over_length _ _ _ (by simp; omega)]; exact p3
    · intro i x hx
      rw [over_get _ _ _ (by simp; omega)] at hx
      by_cases hi : i = o
      · subst hi
        simp at hx
        subst hx
        refine ⟨v', ?_, hv⟩
        rw [Array.getElem?_setIfInBounds_self_of_lt (by omega)]
      · rw [if_neg (by simp; omega)] at hx
        obtain ⟨x', r1, r2⟩ := p4 i x hx
        refine ⟨x', ?_, r2⟩
        rw [Array.getElem?_setIfInBounds_ne (by omega)]
        exact r1
    · intro _
      exact ⟨q1, by simpa using q2⟩

theorem over_nil {α : Type} (l : List α) (off : Nat) : over l off [] = l := by
  unfold over; simp
theorem over_over {α : Type} (l : List α) (off : Nat) (v : α) (vs : List α) (h : off + (v :: vs).length ≤ l.length) : over (over l off [v]) (off + 1) vs = over l off (v :: vs) := by
  have hl : (over l off [v]).length = l.length := over_length _ _ _ (by simp at h ⊢; omega)
  apply List.ext_getElem?
  intro i
  simp at h
  rw [over_get _ _ _ (by rw [hl]; omega), over_get _ _ _ (by simp; omega), over_get _ _ _ (by simp; omega)]
  by_cases h1 : i < off
  · rw [if_neg (by omega), if_neg (by omega), if_neg (by omega)]
  · by_cases h2 : i = off
    · subst h2
      rw [if_neg (by omega), if_pos (by simp), if_pos (by simp)]
      simp
    · by_cases h3 : i < off + 1 + vs.length
      · rw [if_pos (by omega), if_pos (by simp; omega)]
        obtain ⟨q, rfl⟩ : ∃ q, i = off + 1 + q := ⟨i - (off + 1), by omega⟩
        simp [show off + 1 + q - off = q + 1 by omega]
      · rw [if_neg (by omega), if_neg (by simp; omega), if_neg (by simp; omega)]

theorem store_cells {E : En} {b : Nat} (hd : E.dom b) {e : TypeId} : ∀ (vs : List AV) (vs' : List Value) (h : Heap) (w : World) (cs : List AV) (o i : Nat),
    HR base w0 E h w → h.get b = some (.cells e cs true) → VRs E vs vs' → vs.all AV.one = true → o + i + vs.length ≤ cs.length →
    ∃ w', (storeCells (E.at b o) vs' i).run P w = .ok () w' ∧ HR base w0 E (h.set b (.cells e (over cs (o + i) vs) true)) w' ∧ Ste E h w E (h.set b (.cells e (over cs (o + i) vs) true)) w'
  | [], _, h, w, cs, o, i, H, hg, .nil, _, hl => by
    have hs : ∀ x, (h.set b (.cells e (over cs (o + i) []) true)).get x = h.get x := by
      intro x
      rw [Heap.get_set, over_nil]
      split
      · rename_i e; subst e; exact hg.symm
      · rfl
    exact ⟨w, by simp [storeCells], H.ext rfl hs, (Ste.refl E h w).ext rfl hs⟩
  | v :: vs, _, h, w, cs, o, i, H, hg, .cons _ v' _ vs' hv hvs, hone, hl => by
    simp only [List.all_cons, Bool.and_eq_true] at hone
    simp only [List.length_cons] at hl
    obtain ⟨r1, r2, r3⟩ := store_one (P := P) H hd hg (o := o + i) (by omega) hv hone.1
    obtain ⟨w', s1, s2, s3⟩ := store_cells hd vs vs' _ _ (over cs (o + i) [v]) o (i + 1) r2 (by rw [Heap.get_set, if_pos rfl]) hvs hone.2 (by rw [over_length _ _ _ (by simp; omega)]; omega)
    have hs : ∀ x, (h.set b (.cells e (over cs (o + i) (v :: vs)) true)).get x = ((h.set b (.cells e (over cs (o + i) [v]) true)).set b (.cells e (over (over cs (o + i) [v]) (o + (i + 1)) vs) true)).get x := by
      intro x
      rw [Heap.get_set, Heap.get_set, Heap.get_set, ← Nat.add_assoc, over_over _ _ _ _ (by simp; omega)]
      split <;> rfl
    refine ⟨w', ?_, s2.ext rfl hs, (r3.trans s3).ext rfl hs⟩
    simp only [storeCells, Sem.run_bind, En.at_add, r1, Result.andThen_ok, s1]

theorem write_cells {E : En} {h h' : Heap} {w : World} (H : HR base w0 E h w) {b o : Nat} (hd : E.dom b) {vs : List AV} {vs' : List Value} (hw : writeCells h b o vs = some h') (hv : VRs E vs vs') :
    ∃ w', (storeCells (E.at b o) vs').run P w = .ok () w' ∧ HR base w0 E h' w' ∧ Ste E h w E h' w' := by
  unfold writeCells at hw
  split at hw
  · rename_i e cs hg
    split at hw <;> simp at hw
    rename_i hc
    subst hw
    have := store_cells (P := P) hd vs vs' h w cs o 0 H hg hv hc.2 (by omega)
    simpa using this
  · simp at hw

end Ev
