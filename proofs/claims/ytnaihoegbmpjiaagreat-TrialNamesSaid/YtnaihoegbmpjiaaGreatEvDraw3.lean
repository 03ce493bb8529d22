/- A part of the proof that what the evaluator (EvDefs) says of a call is what the machine does: EvDraw3. Conditions: those that each theorem states. -/
import Derived.Test.YtnaihoegbmpjiaaGreatEvDraw2
set_option linter.unusedVariables false
set_option linter.unusedSimpArgs false
namespace Ev
open Go Go.RowKit

variable {P : Program} {T : Tabs} {base : Nat} {w0 : World}

def En.sub (E : En) (D : Nat → Prop) : En := { E with dom := fun b => E.dom b ∧ D b }
def Dm (N n x : Nat) : Nat → Prop := fun b => b < N + x ∨ N + n ≤ b
theorem Dm_mono {N n x y : Nat} (h : x ≤ y) {b : Nat} (hb : Dm N n x b) : Dm N n y b := by
  rcases hb with hb | hb
  · exact .inl (by omega)
  · exact .inr hb
theorem sub_le_sub {E E' : En} (le : E.Le E') {D D' : Nat → Prop} (h : ∀ b, D b → D' b) : (E.sub D).Le (E'.sub D') :=
  ⟨fun b hb => ⟨le.dom b hb.1, h b hb.2⟩, fun b hb => le.blk b hb.1, fun b hb => le.off b hb.1, fun b hb => le.ext b hb.1⟩
theorem sub_mono {E : En} {N n x y : Nat} (h : x ≤ y) : (E.sub (Dm N n x)).Le (E.sub (Dm N n y)) := sub_le_sub (.refl E) fun _ => Dm_mono h

section
variable {rec : Task → Res} {nt : Nat} {ops : Array Oper} {n N : Nat} {e : Nat → Ent} {tmA : Nat → Tr AV} {hA : Nat → Heap}

def NewE (T : Tabs) (N : Nat) (e : Nat → Ent) (i : Nat) (a : AObj) : Prop := newOf T (env (e i).tm) (e i).o (N + i) = some ((e i).v, a)

structure InvS (ops : Array Oper) (n : Nat) (e : Nat → Ent) (S : Nat → Prop) (nx : Nat) : Prop where
  nxle : nx ≤ n
  nxS : ∀ i, i < nx → (e i).kd = .act → S i
  nxn : ∀ i, nx ≤ i → i < n → (e i).kd = .act → ¬ S i
  nxa : nx < n → (e nx).kd = .act
  clo : ∀ k, S k → k < n ∧ ∀ j, Nat.testBit (mkB ops k) j = true → S j
structure InvM (T : Tabs) (ops : Array Oper) (N : Nat) (e : Nat → Ent) (hA : Nat → Heap) (base : Nat) (w0 : World) (E0 : En) (h00 : Heap) (w00 : World) (S : Nat → Prop) (nx : Nat) (E : En) (w : World) : Prop where
  hr : HR base w0 (E.sub (Dm N ops.size nx)) (hA nx) w
  nxt : N + ops.size ≤ (hA nx).next
  ste : Ste E0 h00 w00 E (hA nx) w
  blt : ∀ b, E.dom b → E.blk b < w.heap.size
  fl : ∀ i, i < ops.size → nx ≤ i → S i → (e i).kd = .alloc → ∀ a, NewE T N e i a → OR' base (E.sub (Dm N ops.size (i + 1))) (N + i) w a ∧ a.own
  fi : ∀ i, i < ops.size → nx ≤ i → S i → (e i).kd = .alloc → ∀ b, E.dom b → b ≠ N + i → E.blk b ≠ E.blk (N + i)
  nd : ∀ i, i < ops.size → E.dom (N + i) → S i ∧ (e i).kd = .alloc
  fd : ∀ i, i < ops.size → S i → (e i).kd = .alloc → E.dom (N + i)
  bd : ∀ b, E.dom b → b < (hA nx).next
  un : ∀ i, i < nx → (e i).kd = .alloc → ¬ S i → ∀ a, NewE T N e i a → (hA nx).get (N + i) = some a
  nn : ∀ x, x ≤ nx → ∀ i, x ≤ i → i < ops.size → (hA x).get (N + i) = none
structure InvT (ops : Array Oper) (N nt : Nat) (e : Nat → Ent) (tm0 : Tr AV) (d0 : List Deferred) (S : Nat → Prop) (nx : Nat) (E : En) (a : Act) : Prop where
  tm0 : ∀ t v, (∀ j, S j → dstO ops j ≠ some t) → tm0.get t = some v → ∃ v', a.tmps[t]? = some v' ∧ VR (E.sub (Dm N ops.size nx)) v v'
  tmv : ∀ j t, S j → dstO ops j = some t → (∀ j', S j' → j < j' → dstO ops j' ≠ some t) → ∃ v', a.tmps[t]? = some v' ∧ VR (E.sub (Dm N ops.size (max (j + 1) nx))) (e j).v v'
  sz : a.tmps.size = nt
  df : a.defers = d0

def ext (S : Nat → Prop) (i : Nat) : Nat → Prop := fun j => S j ∨ j = i

theorem InvS.ready {S : Nat → Prop} {nx : Nat} (I : InvS ops n e S nx) (hE : edgesAll ops.toList 0 = true) {i : Nat} {o : Oper} (ho : ops[i]? = some o) (hr : ∀ ed ∈ o.after.toList, Region.binds .any ed = true → S ed.on) :
    ∀ j, Nat.testBit (mkB ops i) j = true → S j := by
  intro j hj
  obtain ⟨ed, h1, h2, h3⟩ := mkB_bit hE ho hj
  have hs := hr ed h1 h2
  rcases h3 with rfl | h3
  · exact hs
  · exact (I.clo _ hs).2 j h3

theorem InvT.tr (X : Txt T rec nt ops n N e tmA hA) {S : Nat → Prop} {nx : Nat} {E : En} {a : Act} {d0 : List Deferred} (IS : InvS ops n e S nx) (I : InvT ops N nt e (tmA 0) d0 S nx E a) {i : Nat} (hi : i < ops.size) (hin : i ≤ n) (hn : ¬ S i)
    (hr : ∀ j, Nat.testBit (mkB ops i) j = true → S j) : TR (E.sub (Dm N ops.size (max i nx))) (unsetAll (tmA i) (slotsOut (mkB ops i) i ops.toList (masks ops.toList) 0)) a.tmps := by
  intro t v hv
  obtain ⟨h1, h2⟩ := X.slots hi hv
  have noLater : ∀ j', S j' → i < j' → dstO ops j' ≠ some t := fun j' hs hlt hd => by
    have := (h2 j' (Nat.lt_of_lt_of_le (IS.clo j' hs).1 X.hn) hd).2 hlt
    exact hn ((IS.clo j' hs).2 i this)
  rcases X.tm_get i (by omega) t v h1 with ⟨j, g1, g2, rfl, g4⟩ | ⟨g1, g2⟩
  · have hs := hr j ((h2 j (by omega) g2).1 g1)
    obtain ⟨v', q1, q2⟩ := I.tmv j t hs g2 (fun j' hs' hlt hd => by
      by_cases e0 : j' < i
      · exact g4 j' hlt e0 hd
      · by_cases e1 : j' = i
        · subst e1; exact hn hs'
        · exact noLater j' hs' (by omega) hd)
    exact ⟨v', q1, q2.mono (sub_mono (by omega))⟩
  · obtain ⟨v', q1, q2⟩ := I.tm0 t v (fun j' hs' hd => by
      by_cases e0 : j' < i
      · exact g1 j' e0 hd
      · by_cases e1 : j' = i
        · subst e1; exact hn hs'
        · exact noLater j' hs' (by omega) hd) g2
    exact ⟨v', q1, q2.mono (sub_mono (by omega))⟩

theorem InvT.step (X : Txt T rec nt ops n N e tmA hA) {S : Nat → Prop} {nx nx' : Nat} {E E' : En} {a : Act} {d0 : List Deferred} (IS : InvS ops n e S nx) (I : InvT ops N nt e (tmA 0) d0 S nx E a) {i : Nat} {o : Oper} (ho : ops[i]? = some o) (hin : i < n) (hn : ¬ S i)
    (hnx : nx ≤ nx') (le : E.Le E') {v' : Value} (hv : VR (E'.sub (Dm N ops.size (max (i + 1) nx'))) (e i).v v') :
    InvT ops N nt e (tmA 0) d0 (ext S i) nx' E' (a.put o.dst v') := by
  have hi : i < ops.size := (Array.getElem?_eq_some_iff.1 ho).1
  have hdi : dstO ops i = o.dst := by unfold dstO; rw [ho]; rfl
  -- a slot that is not written
  have keep : ∀ t, dstO ops i ≠ some t → (a.put o.dst v').tmps[t]? = a.tmps[t]? := by
    intro t ht
    rw [hdi] at ht
    cases hd : o.dst with
    | none => rfl
    | some d =>
      rw [hd] at ht
      have hne : d ≠ t := fun e => ht (by rw [e])
      show (a.tmps.setIfInBounds d v')[t]? = _
      rw [Array.getElem?_setIfInBounds_ne hne]
  refine ⟨?_, ?_, ?_, ?_⟩
  · intro t v hw hg
    obtain ⟨v1, q1, q2⟩ := I.tm0 t v (fun j hs => hw j (.inl hs)) hg
    exact ⟨v1, by rw [keep t (hw i (.inr rfl))]; exact q1, q2.mono (sub_le_sub le fun _ => Dm_mono hnx)⟩
  · intro j t hs hd hl
    by_cases e0 : j = i
    · subst e0
      refine ⟨v', ?_, hv⟩
      rw [hdi] at hd
      rw [hd]
      show (a.tmps.setIfInBounds t v')[t]? = _
      have := X.dlt _ _ _ hin ho hd
      rw [← I.sz] at this
      simp [this]
    · have hs' : S j := hs.resolve_right e0
      have hne : dstO ops i ≠ some t := by
        intro hdt
        rcases Nat.lt_or_ge j i with h | h
        · exact hl i (.inr rfl) h hdt
        · have hij : i < j := by omega
          have hjn := (IS.clo j hs').1
          have hp := X.pair i j hij hjn
          have hjo : j < ops.size := Nat.lt_of_lt_of_le hjn X.hn
          have hoj : ops[j]? = some ops[j] := by simp [hjo]
          obtain ⟨e1, e2, _⟩ := X.ent i o hin ho
          obtain ⟨f1, f2, _⟩ := X.ent j _ hjn hoj
          unfold pairOk at hp
          rw [f2, Bool.or_eq_true] at hp
          rcases hp with hp | hp
          · exact hn ((IS.clo j hs').2 i hp)
          · have hsd : sameDst (e i).o (e j).o = true := by
              unfold sameDst
              rw [e1, f1]
              have hdj : (ops[j]).dst = some t := by unfold dstO at hd; rw [hoj] at hd; exact hd
              rw [hdi] at hdt
              rw [hdt, hdj]
              simp
            rw [hsd] at hp
            simp at hp
      obtain ⟨v1, q1, q2⟩ := I.tmv j t hs' hd (fun j' h1 h2 => hl j' (.inl h1) h2)
      exact ⟨v1, by rw [keep t hne]; exact q1, q2.mono (sub_le_sub le fun _ => Dm_mono (by omega))⟩
  · have := I.sz
    cases hd : o.dst with
    | none => exact this
    | some d => show (a.tmps.setIfInBounds d v').size = _; simpa using this
  · have := I.df
    cases hd : o.dst <;> exact this

theorem InvS.quiet {S : Nat → Prop} {nx : Nat} (I : InvS ops n e S nx) {i : Nat} (hi : i < n) (hk : (e i).kd ≠ .act) (hr : ∀ j, Nat.testBit (mkB ops i) j = true → S j) : InvS ops n e (ext S i) nx := by
  refine ⟨I.nxle, fun j h1 h2 => .inl (I.nxS j h1 h2), fun j h1 h2 h3 h4 => ?_, I.nxa, fun k hk => ?_⟩
  · rcases h4 with h4 | rfl
    · exact I.nxn j h1 h2 h3 h4
    · exact hk h3
  · rcases hk with hk | rfl
    · exact ⟨(I.clo k hk).1, fun j hj => .inl ((I.clo k hk).2 j hj)⟩
    · exact ⟨hi, fun j hj => .inl (hr j hj)⟩
theorem InvM.quiet {E0 : En} {h00 : Heap} {w00 : World} {S : Nat → Prop} {nx : Nat} {E : En} {w : World} (I : InvM T ops N e hA base w0 E0 h00 w00 S nx E w) {i : Nat} (hk : (e i).kd ≠ .alloc) :
    InvM T ops N e hA base w0 E0 h00 w00 (ext S i) nx E w := by
  refine ⟨I.hr, I.nxt, I.ste, I.blt, ?_, ?_, ?_, ?_, I.bd, ?_, I.nn⟩
  · intro j h1 h2 h3 h4
    rcases h3 with h3 | rfl
    · exact I.fl j h1 h2 h3 h4
    · exact absurd h4 hk
  · intro j h1 h2 h3 h4
    rcases h3 with h3 | rfl
    · exact I.fi j h1 h2 h3 h4
    · exact absurd h4 hk
  · intro j h1 h2
    obtain ⟨q1, q2⟩ := I.nd j h1 h2
    exact ⟨.inl q1, q2⟩
  · intro j h1 h2 h3
    rcases h2 with h2 | rfl
    · exact I.fd j h1 h2 h3
    · exact absurd h3 hk
  · intro j h1 h2 h3
    exact I.un j h1 h2 (fun h => h3 (.inl h))

theorem OR'.world {E : En} {b : Nat} {w w' : World} {o : AObj} (h : OR' base E b w o) (hs : ∀ k, k < w.heap.size → w'.heap[k]? = w.heap[k]?) : OR' base E b w' o := by
  by_cases hd : o = .dead
  · subst hd; trivial
  · exact OR'.same (hs _ (h.lt hd)) h

theorem InvM.alloc {E0 : En} {h00 : Heap} {w00 : World} (hN : N = h00.next) {S : Nat → Prop} {nx : Nat} {E : En} {w : World} (I : InvM T ops N e hA base w0 E0 h00 w00 S nx E w) {i : Nat} (hi : i < ops.size) (hn : ¬ S i) (hk : (e i).kd = .alloc)
    {a : AObj} (ha : NewE T N e i a) {ob : Obj} {x : Nat} {d : Bool} {v' : Value} (hown : a.own)
    (hok : ∀ E2 : En, (E.sub (Dm N ops.size (max i nx))).Le E2 → E2.dom (N + i) → E2.blk (N + i) = w.heap.size → E2.off (N + i) = 0 → E2.ext (N + i) = x →
      VR E2 (e i).v v' ∧ ∀ w2 : World, w2.heap[w.heap.size]? = some ob → base ≤ w.heap.size → OR' base E2 (N + i) w2 a) :
    let E' := E.push (N + i) w.heap.size 0 x
    InvM T ops N e hA base w0 E0 h00 w00 (ext S i) nx E' ((if d then w.drew else w).alloc ob) ∧ E.Le E' ∧ VR (E'.sub (Dm N ops.size (max (i + 1) nx))) (e i).v v' := by
  have hnd : ¬ E.dom (N + i) := fun h => hn (I.nd i hi h).1
  have le := E.push_le (N + i) w.heap.size 0 x hnd
  have blk0 : (E.push (N + i) w.heap.size 0 x).blk (N + i) = w.heap.size := by simp [En.push]
  have hold : ∀ k, k < w.heap.size → ((if d then w.drew else w).alloc ob).heap[k]? = w.heap[k]? := by
    intro k hk
    cases d
    · exact heap_alloc_old hk
    · exact heap_alloc_old (w := w.drew) hk
  have hnew : ((if d then w.drew else w).alloc ob).heap[w.heap.size]? = some ob := by
    cases d
    · exact heap_alloc_new
    · exact heap_alloc_new (w := w.drew)
  have hsz : ((if d then w.drew else w).alloc ob).heap.size = w.heap.size + 1 := by cases d <;> simp
  have hbel : Below base w0 ((if d then w.drew else w).alloc ob) := by
    cases d
    · exact I.hr.wd.alloc I.hr.bsz ob
    · have h1 := HR.drew I.hr
      exact h1.wd.alloc h1.bsz ob
  have hdr : w0.drawn ≤ ((if d then w.drew else w).alloc ob).drawn := by
    cases d
    · exact I.hr.drawn
    · exact Nat.le_trans I.hr.drawn (Nat.le_succ _)
  -- the new object, wherever its number may be known
  have hat : ∀ y, max (i + 1) nx ≤ y ∨ (i < nx ∧ nx ≤ y) → VR ((E.push (N + i) w.heap.size 0 x).sub (Dm N ops.size y)) (e i).v v' ∧ OR' base ((E.push (N + i) w.heap.size 0 x).sub (Dm N ops.size y)) (N + i) ((if d then w.drew else w).alloc ob) a := by
    intro y hy
    have := hok ((E.push (N + i) w.heap.size 0 x).sub (Dm N ops.size y)) (sub_le_sub le fun b => Dm_mono (by omega)) ⟨.inl rfl, .inl (by omega)⟩ blk0 (by simp [En.sub, En.push]) (by simp [En.sub, En.push])
    exact ⟨this.1, this.2 _ hnew I.hr.bsz⟩
  refine ⟨⟨⟨?_, ?_, ?_, hbel, hdr, ?_, ?_⟩, I.nxt, ⟨?_, ?_, ?_, ?_, ?_, ?_, ?_⟩, ?_, ?_, ?_, ?_, ?_, ?_, ?_, I.nn⟩, le, (hat _ (.inl (Nat.le_refl _))).1⟩
  · -- dlt
    intro b hb
    rcases hb.1 with rfl | h
    · have := I.nxt; omega
    · exact I.bd b h
  · -- obj
    intro b o hb ho
    rcases hb with ⟨rfl | h, hD⟩
    · have hinx : i < nx := by rcases hD with h | h <;> omega
      rw [I.un i hinx hk hn a ha] at ho
      cases ho
      exact (hat nx (.inr ⟨hinx, Nat.le_refl _⟩)).2
    · have h1 := I.hr.obj b o ⟨h, hD⟩ ho
      exact (OR'.mono (sub_le_sub le fun _ h => h) (b := b) (⟨h, hD⟩ : (E.sub (Dm N ops.size nx)).dom b) h1).world hold
  · -- inj
    intro b b' o1 o2 hb hb' ho1 ho2 w1 w2 heq
    have blkE : ∀ b, E.dom b → (E.push (N + i) w.heap.size 0 x).blk b = E.blk b := fun b h => le.blk b h
    have heq' : (E.push (N + i) w.heap.size 0 x).blk b = (E.push (N + i) w.heap.size 0 x).blk b' := heq
    rcases hb with ⟨rfl | h, hD⟩ <;> rcases hb' with ⟨rfl | h', hD'⟩
    · rfl
    · rw [blk0, blkE b' h'] at heq'
      have := I.blt b' h'; omega
    · rw [blk0, blkE b h] at heq'
      have := I.blt b h; omega
    · rw [blkE b h, blkE b' h'] at heq'
      exact I.hr.inj b b' o1 o2 ⟨h, hD⟩ ⟨h', hD'⟩ ho1 ho2 w1 w2 heq'
  · rw [hsz]; have := I.hr.bsz; omega
  · intro b hb
    rw [hsz]
    rcases hb.1 with rfl | h
    · show (E.push (N + i) w.heap.size 0 x).blk (N + i) < _
      rw [blk0]; omega
    · show (E.push (N + i) w.heap.size 0 x).blk b < _
      rw [le.blk b h]; have := I.blt b h; omega
  · exact I.ste.le.trans le
  · intro b hb
    rcases hb with rfl | h
    · exact .inr (by omega)
    · exact I.ste.newd b h
  · exact I.ste.nx
  · exact I.ste.loc
  · rw [hsz]; have := I.ste.sz; omega
  · intro k hk hk'
    rw [hold k (by have := I.ste.sz; omega)]
    exact I.ste.fr k hk hk'
  · intro b hb
    rcases hb with rfl | h
    · refine .inr (.inl ?_)
      rw [blk0]; exact I.ste.sz
    · rw [le.blk b h]; exact I.ste.img b h
  · -- blt
    intro b hb
    rw [hsz]
    rcases hb with rfl | h
    · rw [blk0]; omega
    · rw [le.blk b h]; have := I.blt b h; omega
  · -- fl
    intro j h1 h2 h3 h4 a' ha'
    by_cases e0 : j = i
    · subst e0
      unfold NewE at ha ha'
      rw [ha] at ha'
      cases ha'
      exact ⟨(hat (j + 1) (.inl (by omega))).2, hown⟩
    · have hs : S j := h3.resolve_right e0
      obtain ⟨q1, q2⟩ := I.fl j h1 h2 hs h4 a' ha'
      have hdj := I.fd j h1 hs h4
      · exact ⟨(OR'.mono (sub_le_sub le fun _ h => h) (b := N + j) (⟨hdj, .inl (by omega)⟩ : (E.sub (Dm N ops.size (j + 1))).dom (N + j)) q1).world hold, q2⟩
  · -- fi
    intro j h1 h2 h3 h4 b hb hne
    by_cases e0 : j = i
    · subst e0
      rcases hb with rfl | h
      · exact absurd rfl hne
      · rw [le.blk b h, blk0]; have := I.blt b h; omega
    · have hs : S j := h3.resolve_right e0
      have hdj : E.dom (N + j) := I.fd j h1 hs h4
      rw [le.blk _ hdj]
      rcases hb with rfl | h
      · rw [blk0]; have := I.blt _ hdj; omega
      · rw [le.blk b h]; exact I.fi j h1 h2 hs h4 b h hne
  · -- nd
    intro j h1 h2
    rcases h2 with h2 | h2
    · have : j = i := by omega
      subst this; exact ⟨.inr rfl, hk⟩
    · obtain ⟨q1, q2⟩ := I.nd j h1 h2
      exact ⟨.inl q1, q2⟩
  · intro j h1 h2 h3
    rcases h2 with h2 | rfl
    · exact .inr (I.fd j h1 h2 h3)
    · exact .inl rfl
  · intro b hb
    rcases hb with rfl | h
    · have := I.nxt; omega
    · exact I.bd b h
  · intro j h1 h2 h3
    exact I.un j h1 h2 (fun h => h3 (.inl h))

/-- an operation that acts: it is the next of them -/
theorem InvS.act (X : Txt T rec nt ops n N e tmA hA) {S : Nat → Prop} {nx : Nat} (I : InvS ops n e S nx) {i : Nat} (hi : i < n) (hn : ¬ S i) (hk : (e i).kd = .act) (hr : ∀ j, Nat.testBit (mkB ops i) j = true → S j) :
    nx = i ∧ ∀ nx', i + 1 ≤ nx' → nx' ≤ n → (∀ k, i + 1 ≤ k → k < nx' → (e k).kd ≠ .act) → (nx' < n → (e nx').kd = .act) → InvS ops n e (ext S i) nx' := by
  have h1 : nx ≤ i := by
    rcases Nat.lt_or_ge i nx with h | h
    · exact absurd (I.nxS i h hk) hn
    · exact h
  have h2 : nx = i := by
    rcases Nat.lt_or_ge nx i with h | h
    · have hk2 := I.nxa (by omega)
      have hp := X.pair nx i h hi
      have hio : i < ops.size := Nat.lt_of_lt_of_le hi X.hn
      have ho : ops[i]? = some ops[i] := by simp [hio]
      obtain ⟨_, e2, _⟩ := X.ent i _ hi ho
      unfold pairOk at hp
      rw [e2, Bool.or_eq_true] at hp
      rcases hp with hp | hp
      · exact absurd (hr nx hp) (I.nxn nx (Nat.le_refl _) (by omega) hk2)
      · rw [hk, hk2] at hp
        simp [isAct] at hp
    · omega
  subst h2
  refine ⟨rfl, fun nx' g1 g2 g3 g4 => ⟨g2, ?_, ?_, g4, ?_⟩⟩
  · intro j q1 q2
    rcases Nat.lt_trichotomy j nx with h | h | h
    · exact .inl (I.nxS j h q2)
    · exact .inr h
    · exact absurd q2 (g3 j h q1)
  · intro j q1 q2 q3 q4
    rcases q4 with q4 | rfl
    · exact I.nxn j (by omega) q2 q3 q4
    · omega
  · intro k hk
    rcases hk with hk | rfl
    · exact ⟨(I.clo k hk).1, fun j hj => .inl ((I.clo k hk).2 j hj)⟩
    · exact ⟨hi, fun j hj => .inl (hr j hj)⟩

def glue (E E1 : En) (p : (b : Nat) → Decidable (E.dom b)) : En where
  blk := fun b => if E.dom b then E.blk b else E1.blk b
  off := fun b => if E.dom b then E.off b else E1.off b
  ext := fun b => if E.dom b then E.ext b else E1.ext b
  dom := fun b => E1.dom b ∨ E.dom b

theorem InvM.act (X : Txt T rec nt ops n N e tmA hA) {E0 : En} {h00 : Heap} {w00 : World} (hN : N = h00.next) {S : Nat → Prop} {i : Nat} {E : En} {w : World} (I : InvM T ops N e hA base w0 E0 h00 w00 S i E w) (hi : i < n) (hn : ¬ S i) (hk : (e i).kd = .act)
    {nx' : Nat} (g1 : i + 1 ≤ nx') (g2 : nx' ≤ n) (g3 : ∀ k, i + 1 ≤ k → k < nx' → (e k).kd ≠ .act)
    {E1 : En} {w1 : World} (H1 : HR base w0 E1 (hA (i + 1)) w1) (st : Ste (E.sub (Dm N ops.size i)) (hA i) w E1 (hA (i + 1)) w1) :
    ∃ E' : En, InvM T ops N e hA base w0 E0 h00 w00 (ext S i) nx' E' w1 ∧ E.Le E' ∧ E1.Le (E'.sub (Dm N ops.size nx')) := by
  have hno := X.hn
  have cl : (b : Nat) → Decidable (E.dom b) := fun b => Classical.propDecidable _
  obtain ⟨gap1, gap2, gap3⟩ := X.gap nx' g1 g2 g3
  -- what lies on both sides
  have low : ∀ b, E1.dom b → b < (hA i).next → E.dom b ∧ Dm N ops.size i b := by
    intro b hb hlt
    rcases st.newd b hb with h | h
    · exact h
    · omega
  have both : ∀ b, E1.dom b → E.dom b → Dm N ops.size i b := fun b hb hb' => (low b hb (I.bd b hb')).2
  have only : ∀ b, E.dom b → ¬ E1.dom b → ∃ j, b = N + j ∧ i < j ∧ j < ops.size ∧ S j ∧ (e j).kd = .alloc := by
    intro b hb hb'
    have : ¬ Dm N ops.size i b := fun h => hb' (st.le.dom b ⟨hb, h⟩)
    have h1 : ¬ b < N + i := fun h => this (.inl h)
    have h2 : ¬ N + ops.size ≤ b := fun h => this (.inr h)
    obtain ⟨j, rfl⟩ : ∃ j, b = N + j := ⟨b - N, by omega⟩
    obtain ⟨q1, q2⟩ := I.nd j (by omega) hb
    have hne : j ≠ i := fun e0 => by subst e0; exact hn q1
    exact ⟨j, rfl, by omega, by omega, q1, q2⟩
  let E' := glue E E1 cl
  have leE : E.Le E' := by
    refine ⟨fun b h => .inr h, fun b h => ?_, fun b h => ?_, fun b h => ?_⟩
    · show (if E.dom b then E.blk b else E1.blk b) = _; rw [if_pos h]
    · show (if E.dom b then E.off b else E1.off b) = _; rw [if_pos h]
    · show (if E.dom b then E.ext b else E1.ext b) = _; rw [if_pos h]
  have leE1 : E1.Le E' := by
    refine ⟨fun b h => .inl h, fun b h => ?_, fun b h => ?_, fun b h => ?_⟩
    · show (if E.dom b then E.blk b else E1.blk b) = _
      split
      · rename_i hb; exact (st.le.blk b ⟨hb, both b h hb⟩).symm
      · rfl
    · show (if E.dom b then E.off b else E1.off b) = _
      split
      · rename_i hb; exact (st.le.off b ⟨hb, both b h hb⟩).symm
      · rfl
    · show (if E.dom b then E.ext b else E1.ext b) = _
      split
      · rename_i hb; exact (st.le.ext b ⟨hb, both b h hb⟩).symm
      · rfl
  have dmE1 : ∀ b, E1.dom b → ∀ y, i ≤ y → Dm N ops.size y b := by
    intro b hb y hy
    rcases st.newd b hb with h | h
    · exact Dm_mono hy h.2
    · have := I.nxt; exact .inr (by omega)
  have leS : E1.Le (E'.sub (Dm N ops.size nx')) :=
    ⟨fun b h => ⟨leE1.dom b h, dmE1 b h nx' (by omega)⟩, fun b h => leE1.blk b h, fun b h => leE1.off b h, fun b h => leE1.ext b h⟩
  -- the objects that stand beside
  have apart : ∀ j, i < j → j < ops.size → S j → (e j).kd = .alloc → ∀ b, E1.dom b → E1.blk b ≠ E.blk (N + j) := by
    intro j h1 h2 h3 h4 b hb heq
    have hdj := I.fd j h2 h3 h4
    rcases st.img b hb with h | h | ⟨b0, h, h'⟩
    · rw [st.le.blk b h] at heq
      have hne : b ≠ N + j := by
        intro e0; subst e0
        rcases h.2 with h | h <;> omega
      exact I.fi j h2 (by omega) h3 h4 b h.1 hne heq
    · have := I.blt _ hdj
      omega
    · have hne : b0 ≠ N + j := by
        intro e0; subst e0
        rcases h.2 with h | h <;> omega
      exact I.fi j h2 (by omega) h3 h4 b0 h.1 hne (h'.trans heq)
  have frame : ∀ j, i < j → j < ops.size → S j → (e j).kd = .alloc → w1.heap[E.blk (N + j)]? = w.heap[E.blk (N + j)]? := by
    intro j h1 h2 h3 h4
    refine st.fr _ (I.blt _ (I.fd j h2 h3 h4)) ?_
    intro b hb
    have hne : b ≠ N + j := by
      intro e0; subst e0
      rcases hb.2 with h | h <;> omega
    exact I.fi j h2 (by omega) h3 h4 b hb.1 hne
  have side : ∀ j, i < j → j < ops.size → S j → (e j).kd = .alloc → ∀ a, NewE T N e j a → ∀ y, j + 1 ≤ y → OR' base (E'.sub (Dm N ops.size y)) (N + j) w1 a ∧ a.own := by
    intro j h1 h2 h3 h4 a ha y hy
    obtain ⟨q1, q2⟩ := I.fl j h2 (by omega) h3 h4 a ha
    have hdj := I.fd j h2 h3 h4
    have q3 : OR' base (E'.sub (Dm N ops.size y)) (N + j) w a := OR'.mono (sub_le_sub leE (D := Dm N ops.size (j + 1)) (D' := Dm N ops.size y) (fun _ h => Dm_mono hy h)) (b := N + j) (⟨hdj, .inl (by omega)⟩ : (E.sub (Dm N ops.size (j + 1))).dom (N + j)) q1
    refine ⟨OR'.same ?_ q3, q2⟩
    have hb : (E'.sub (Dm N ops.size y)).blk (N + j) = E.blk (N + j) := leE.blk _ hdj
    rw [hb]; exact frame j h1 h2 h3 h4
  have getE1 : ∀ b, E1.dom b → (hA nx').get b = (hA (i + 1)).get b := by
    intro b hb
    apply gap1
    intro k h1 h2 h3 e0
    subst e0
    obtain ⟨_, hD⟩ := low (N + k) hb (by have := I.nxt; omega)
    rcases hD with h | h <;> omega
  have hnxt : N + ops.size ≤ (hA nx').next := by rw [gap3]; exact Nat.le_trans I.nxt st.nx
  refine ⟨E', ⟨⟨?_, ?_, ?_, H1.wd, H1.drawn, H1.bsz, ?_⟩, hnxt, ⟨I.ste.le.trans leE, ?_, ?_, ?_, ?_, ?_, ?_⟩, ?_, ?_, ?_, ?_, ?_, ?_, ?_, ?_⟩, leE, leS⟩
  · -- dlt
    rintro b ⟨h | h, _⟩
    · rw [gap3]; exact H1.dlt b h
    · have := I.bd b h; rw [gap3]; exact Nat.lt_of_lt_of_le this st.nx
  · -- obj
    rintro b o ⟨hb, hD⟩ ho
    by_cases h1 : E1.dom b
    · rw [getE1 b h1] at ho
      exact OR'.mono leS h1 (H1.obj b o h1 ho)
    · have hb : E.dom b := hb.resolve_left h1
      obtain ⟨j, rfl, q1, q2, q3, q4⟩ := only b hb h1
      have hjn : j < nx' := by rcases hD with h | h <;> omega
      obtain ⟨o', a, r1, r2, r3⟩ := gap2 j q1 hjn q4
      have hoj : (e j).o = o' := (X.ent j o' (by omega) r1).1
      rw [ho] at r3
      cases r3
      exact (side j q1 q2 q3 q4 o (by unfold NewE; rw [hoj]; exact r2) nx' (by omega)).1
  · -- inj
    rintro b b' o1 o2 ⟨hb, hD⟩ ⟨hb', hD'⟩ ho1 ho2 o1w o2w heq
    have heq : E'.blk b = E'.blk b' := heq
    by_cases h1 : E1.dom b <;> by_cases h2 : E1.dom b'
    · rw [leE1.blk b h1, leE1.blk b' h2] at heq
      rw [getE1 b h1] at ho1
      rw [getE1 b' h2] at ho2
      exact H1.inj b b' o1 o2 h1 h2 ho1 ho2 o1w o2w heq
    · have hb' : E.dom b' := hb'.resolve_left h2
      obtain ⟨j, rfl, q1, q2, q3, q4⟩ := only b' hb' h2
      rw [leE1.blk b h1, leE.blk _ hb'] at heq
      exact absurd heq (apart j q1 q2 q3 q4 b h1)
    · have hb : E.dom b := hb.resolve_left h1
      obtain ⟨j, rfl, q1, q2, q3, q4⟩ := only b hb h1
      rw [leE1.blk b' h2, leE.blk _ hb] at heq
      exact absurd heq.symm (apart j q1 q2 q3 q4 b' h2)
    · have hb : E.dom b := hb.resolve_left h1
      have hb' : E.dom b' := hb'.resolve_left h2
      obtain ⟨j, rfl, q1, q2, q3, q4⟩ := only b hb h1
      rw [leE.blk _ hb, leE.blk _ hb'] at heq
      by_cases hne : b' = N + j
      · exact hne.symm
      · exact absurd heq.symm (I.fi j q2 (by omega) q3 q4 b' hb' hne)
  · -- blt of the part
    rintro b ⟨hb, _⟩
    show E'.blk b < _
    by_cases h1 : E1.dom b
    · rw [leE1.blk b h1]; exact H1.blt b h1
    · have hb : E.dom b := hb.resolve_left h1
      rw [leE.blk b hb]
      exact Nat.lt_of_lt_of_le (I.blt b hb) st.sz
  · -- newd
    rintro b (h | h)
    · rcases st.newd b h with h | h
      · exact I.ste.newd b h.1
      · have := I.nxt; exact .inr (by omega)
    · exact I.ste.newd b h
  · rw [gap3]; exact Nat.le_trans I.ste.nx st.nx
  · -- loc
    intro b hb hd
    have h1 : (hA nx').get b = (hA (i + 1)).get b := gap1 b (fun k _ _ _ => by omega)
    rw [h1, st.loc b (Nat.lt_of_lt_of_le hb I.ste.nx) ?_, I.ste.loc b hb hd]
    rintro ⟨h, _⟩
    rcases I.ste.newd b h with h | h
    · exact hd h
    · omega
  · exact Nat.le_trans I.ste.sz st.sz
  · -- fr
    intro k hk' hk''
    rw [st.fr k (Nat.lt_of_lt_of_le hk' I.ste.sz) ?_, I.ste.fr k hk' hk'']
    rintro b ⟨hb, _⟩ heq
    have heq : E.blk b = k := heq
    rcases I.ste.img b hb with h | h | ⟨b0, h, h'⟩
    · rw [I.ste.le.blk b h] at heq; exact hk'' b h heq
    · omega
    · exact hk'' b0 h (h'.trans heq)
  · -- img
    rintro b (h | h)
    · rcases st.img b h with g | g | ⟨b0, g, g'⟩
      · rw [leE.blk b g.1]; exact I.ste.img b g.1
      · rw [leE1.blk b h]; exact .inr (.inl (Nat.le_trans I.ste.sz g))
      · rw [leE1.blk b h, ← g']
        rcases I.ste.img b0 g.1 with q | q | ⟨b1, q, q'⟩
        · refine .inr (.inr ⟨b0, q, ?_⟩)
          exact (I.ste.le.blk b0 q).symm
        · exact .inr (.inl q)
        · exact .inr (.inr ⟨b1, q, q'⟩)
    · rw [leE.blk b h]; exact I.ste.img b h
  · -- blt
    rintro b (h | h)
    · rw [leE1.blk b h]; exact H1.blt b h
    · rw [leE.blk b h]; exact Nat.lt_of_lt_of_le (I.blt b h) st.sz
  · -- fl
    intro j h1 h2 h3 h4 a ha
    have hs : S j := h3.resolve_right (by omega)
    exact side j (by omega) h1 hs h4 a ha (j + 1) (Nat.le_refl _)
  · -- fi
    intro j h1 h2 h3 h4 b hb hne
    have hs : S j := h3.resolve_right (by omega)
    have hdj := I.fd j h1 hs h4
    rw [leE.blk _ hdj]
    by_cases h5 : E1.dom b
    · rw [leE1.blk b h5]; exact apart j (by omega) h1 hs h4 b h5
    · have hb : E.dom b := hb.resolve_left h5
      rw [leE.blk b hb]; exact I.fi j h1 (by omega) hs h4 b hb hne
  · -- nd
    intro j h1 h2
    have : E.dom (N + j) := h2.elim (fun h => (low _ h (by have := I.nxt; omega)).1) id
    obtain ⟨q1, q2⟩ := I.nd j h1 this
    exact ⟨.inl q1, q2⟩
  · -- fd
    intro j h1 h2 h3
    rcases h2 with h2 | rfl
    · exact .inr (I.fd j h1 h2 h3)
    · rw [hk] at h3; cases h3
  · -- bd
    rintro b (h | h)
    · rw [gap3]; exact H1.dlt b h
    · rw [gap3]; exact Nat.lt_of_lt_of_le (I.bd b h) st.nx
  · -- un
    intro j h1 h2 h3 a ha
    have hns : ¬ S j := fun h => h3 (.inl h)
    have hne : j ≠ i := fun h => h3 (.inr h)
    rcases Nat.lt_or_ge j i with h | h
    · have q1 : (hA nx').get (N + j) = (hA (i + 1)).get (N + j) := gap1 _ (fun k _ _ _ => by omega)
      rw [q1, st.loc (N + j) (by have := I.nxt; omega) (fun hd => hns (I.nd j (by omega) hd.1).1)]
      exact I.un j h h2 hns a ha
    · obtain ⟨o', a', r1, r2, r3⟩ := gap2 j (by omega) h1 h2
      have hoj : (e j).o = o' := (X.ent j o' (by omega) r1).1
      unfold NewE at ha
      rw [hoj, r2] at ha
      cases ha
      exact r3
  · -- nn
    intro x hx j h1 h2
    rcases Nat.lt_or_ge i x with h | h
    · obtain ⟨q0, _, _⟩ := X.gap x (x := i + 1) h (by omega) (fun k k1 k2 => g3 k k1 (by omega))
      have q1 : (hA x).get (N + j) = (hA (i + 1)).get (N + j) := q0 _ (fun k _ _ _ => by omega)
      rw [q1, st.loc (N + j) (by have := I.nxt; omega) (fun hd => by rcases hd.2 with h | h <;> omega)]
      exact I.nn i (Nat.le_refl _) j (by omega) h2
    · exact I.nn x h j h1 h2
end
end Ev
