/- A part of the rules by which proofs walk over what the evaluator (EvDefs) says, at values that are not known. Conditions: those that each theorem states. -/
import Derived.Test.YtcngecdjmmjlhaaGreatEvMemo
import Derived.Sort.Grow
import Derived.Deep.Draws
import Derived.Shelf.Strings.Builder1
section
set_option linter.unusedVariables false
set_option linter.unusedSimpArgs false
namespace Ev
open Go Go.RowKit

variable {P : Program} {T : Tabs} {base : Nat} {w0 : World}

/-! ### a call whose results are all the same row, whatever was drawn: told in a memory of the two blocks that it reads -/
inductive NF where
  | nil
  | row (len sz : Nat) (e : TypeId) (cs : List AV)
def plainEs : List (AV × AV × Nat) → Bool
  | [] => true
  | (k, v, _) :: l => AV.plain k && (AV.plain v && plainEs l)
def eqEs : List (AV × AV × Nat) → List (AV × AV × Nat) → Bool
  | [], [] => true
  | (k, v, n) :: l, (k', v', n') :: l' => aveq k k' && (aveq v v' && (Nat.beq n n' && eqEs l l'))
  | _, _ => false
theorem eqEs_eq : ∀ {a b : List (AV × AV × Nat)}, eqEs a b = true → a = b
  | [], [], _ => rfl
  | [], _ :: _, h => by simp [eqEs] at h
  | _ :: _, [], h => by simp [eqEs] at h
  | (k, v, n) :: l, (k', v', n') :: l', h => by
    simp only [eqEs, Bool.and_eq_true] at h
    obtain ⟨h1, h2, h3, h4⟩ := h
    rw [aveq_eq _ _ h1, aveq_eq _ _ h2, Nat.eq_of_beq_eq_true h3, eqEs_eq h4]
theorem ER.plain {E E' : En} : ∀ {d : List (AV × AV × Nat)} {e : List MapEntry}, ER E d e → plainEs d = true → ER E' d e
  | _, _, .nil, _ => .nil
  | _, _, .cons k v k' v' n l l' hk hv hl, h => by
    simp only [plainEs, Bool.and_eq_true] at h
    exact .cons _ _ _ _ _ _ _ (hk.plain h.1) (hv.plain h.2.1) (ER.plain hl h.2.2)
/-- the two blocks are as they were -/
def kept2 (b m : Nat) (e : TypeId) (es : List (AV × AV × Nat)) (clock : Nat) (h : Heap) : Bool := match h.get b, h.get m with
  | some (.cells e' [.map m'] true), some (.map es' clock') => Nat.beq e' e && (Nat.beq m' m && (eqEs es' es && Nat.beq clock' clock))
  | _, _ => false
theorem kept2_ok {b m : Nat} {e : TypeId} {es : List (AV × AV × Nat)} {clock : Nat} {h : Heap} (k : kept2 b m e es clock h = true) : h.get b = some (.cells e [.map m] true) ∧ h.get m = some (.map es clock) := by
  unfold kept2 at k
  split at k
  · rename_i e' m' es' clock' h1 h2
    simp only [Bool.and_eq_true] at k
    obtain ⟨k1, k2, k3, k4⟩ := k
    rw [h1, h2, Nat.eq_of_beq_eq_true k1, Nat.eq_of_beq_eq_true k2, eqEs_eq k3, Nat.eq_of_beq_eq_true k4]
    exact ⟨rfl, rfl⟩
  · cases k
def nf1 (nx b m : Nat) (e : TypeId) (es : List (AV × AV × Nat)) (clock : Nat) (v : AV) (h : Heap) : Option NF := match kept2 b m e es clock h with
  | true => match v with
    | .nilslice => some .nil
    | .oslice b1 0 len sz => match h.get b1 with
      | some (.cells e1 cs true) => match Nat.ble nx b1 && AV.plains cs with
        | true => some (.row len sz e1 cs)
        | false => none
      | _ => none
    | _ => none
  | false => none
def nfEq : NF → NF → Bool
  | .nil, .nil => true
  | .row a b c d, .row a' b' c' d' => Nat.beq a a' && (Nat.beq b b' && (Nat.beq c c' && aveqs d d'))
  | _, _ => false
theorem nfEq_eq : ∀ {a b : NF}, nfEq a b = true → a = b
  | .nil, .nil, _ => rfl
  | .nil, .row .., h => by simp [nfEq] at h
  | .row .., .nil, h => by simp [nfEq] at h
  | .row a b c d, .row a' b' c' d', h => by
    simp only [nfEq, Bool.and_eq_true] at h
    obtain ⟨h1, h2, h3, h4⟩ := h
    rw [Nat.eq_of_beq_eq_true h1, Nat.eq_of_beq_eq_true h2, Nat.eq_of_beq_eq_true h3, aveqs_eq _ _ h4]
def nfOf (nx b m : Nat) (e : TypeId) (es : List (AV × AV × Nat)) (clock : Nat) : Res → Option NF
  | .alt x y => match nfOf nx b m e es clock x, nfOf nx b m e es clock y with
    | some p, some q => match nfEq p q with
      | true => some p
      | false => none
    | _, _ => none
  | .ret v h => nf1 nx b m e es clock v h
  | _ => none
theorem nfOf_leaf {nx b m : Nat} {e : TypeId} {es : List (AV × AV × Nat)} {clock : Nat} : ∀ {r q : Res} {f : NF}, nfOf nx b m e es clock r = some f → Lf r q → ∃ v h, q = .ret v h ∧ nf1 nx b m e es clock v h = some f
  | .alt x y, q, f, g, h => by
    unfold nfOf at g
    split at g
    · rename_i p p' hp hp'
      split at g
      · rename_i he
        cases g
        have := nfEq_eq he
        subst this
        exact h.elim (nfOf_leaf hp) (nfOf_leaf hp')
      · cases g
    · cases g
  | .ret v h', q, f, g, h => by cases h; exact ⟨_, _, rfl, g⟩
  | .fin .., _, _, g, _ => by simp [nfOf] at g
  | .pan .., _, _, g, _ => by simp [nfOf] at g
  | .thrown .., _, _, g, _ => by simp [nfOf] at g
  | .dret .., _, _, g, _ => by simp [nfOf] at g
  | .no .., _, _, g, _ => by simp [nfOf] at g
def twoH (nx b m : Nat) (o1 o2 : AObj) : Heap := ⟨Tr.set (Tr.set .nil b o1) m o2, nx⟩
theorem twoH_get {nx b m : Nat} {o1 o2 : AObj} (hbm : b ≠ m) {x : Nat} {o : AObj} (h : (twoH nx b m o1 o2).get x = some o) : (x = b ∧ o = o1) ∨ (x = m ∧ o = o2) := by
  have h : (Tr.set (Tr.set .nil b o1) m o2).get x = some o := h
  rw [Tr.get_set, Tr.get_set] at h
  by_cases h1 : x = m
  · rw [if_pos h1] at h; cases h; exact .inr ⟨h1, rfl⟩
  · rw [if_neg h1] at h
    by_cases h2 : x = b
    · rw [if_pos h2] at h; cases h; exact .inl ⟨h2, rfl⟩
    · rw [if_neg h2, Tr.get_nil] at h; cases h
noncomputable def normWord (T : Tabs) (n : Nat) (f : FuncId) (args : List AV) (h : Heap) : Option (AV × Heap) := match args with
  | [.func (.func g) [] [.ptr b 0]] => match h.get b with
    | some (.cells e [.map m] true) => match h.get m with
      | some (.map es clock) => match plainEs es, Nat.beq b m with
        | true, false => match nfOf h.next b m e es clock (evR T n (.call f [.func (.func g) [] [.ptr b 0]] (twoH h.next b m (.cells e [.map m] true) (.map es clock)))) with
          | some .nil => some (.nilslice, h)
          | some (.row len sz e1 cs) => some (.oslice h.next 0 len sz, h.alloc (.cells e1 cs true))
          | none => none
        | _, _ => none
      | _ => none
    | _ => none
  | _ => none
theorem normWord_ok (ok : TabsOK P T) (hsm : ∀ f a h, T.sm f a h = none) {n : Nat} {f : FuncId} {args : List AV} {h h' : Heap} {v : AV} (hw : normWord T n f args h = some (v, h')) : TaskOK P base w0 (.call f args h) (.ret v h') := by
  unfold normWord at hw
  split at hw
  case h_2 => cases hw
  rename_i g b
  split at hw
  case h_2 => cases hw
  rename_i e m hb
  split at hw
  case h_2 => cases hw
  rename_i es clock hm
  split at hw
  case h_2 => cases hw
  rename_i hpl hbm
  have hbm : b ≠ m := fun e => by subst e; simp at hbm
  rw [evR_eq] at hw
  intro E args' w cs ha H
  have hdb : E.dom b ∧ ∃ m', args' = [.func (.func g) #[] m'] ∧ m' = #[.pointer (some (E.at b 0))] := by
    cases ha with
    | cons _ _ _ _ p q =>
      cases q
      cases p with
      | func _ _ hf _ _ _ _ hl hm =>
        cases hl
        cases hf
        cases hm with
        | cons _ _ _ _ p2 q2 =>
          cases q2
          cases p2 with
          | ptr _ _ hd => exact ⟨hd, _, rfl, rfl⟩
  obtain ⟨hdb, _, rfl, rfl⟩ := hdb
  have ob := H.obj b _ hdb hb
  have hdm : E.dom m := by
    obtain ⟨c', z, q1, q2, q3, q4, q5, q6⟩ := ob
    obtain ⟨v', _, hv⟩ := q4 0 _ rfl
    cases hv with
    | map _ hd => exact hd
  have om := H.obj m _ hdm hm
  have bb : base ≤ E.blk b := ob.base rfl
  have bm : base ≤ E.blk m := om.1
  -- the part of it
  let E0 : En := ⟨E.blk, E.off, E.ext, fun x => E.dom x ∧ (x = b ∨ x = m)⟩
  have H0 : HR base w0 E0 (twoH h.next b m (.cells e [.map m] true) (.map es clock)) w := by
    refine ⟨fun x hx => H.dlt x hx.1, fun x o hx ho => ?_, fun x x' o o' hx hx' ho ho' w1 w2 he => ?_, H.wd, H.drawn, H.bsz, fun x hx => H.blt x hx.1⟩
    · rcases twoH_get hbm ho with ⟨rfl, rfl⟩ | ⟨rfl, rfl⟩
      · obtain ⟨c', z, q1, q2, q3, q4, q5, q6⟩ := ob
        refine ⟨c', z, q1, q2, q3, fun i v hv => ?_, q5, q6⟩
        obtain ⟨v', k1, k2⟩ := q4 i v hv
        refine ⟨v', k1, ?_⟩
        match i, hv with
        | 0, hv =>
          cases hv
          cases k2
          exact .map (E := E0) m ⟨hdm, .inr rfl⟩
      · obtain ⟨p0, es', p1, p2⟩ := om
        exact ⟨p0, es', p1, p2.plain hpl⟩
    · have key : ∀ {y o}, (twoH h.next b m (.cells e [.map m] true) (.map es clock)).get y = some o → h.get y = some o := by
        intro y o hy
        rcases twoH_get hbm hy with ⟨rfl, rfl⟩ | ⟨rfl, rfl⟩
        · exact hb
        · exact hm
      exact H.inj x x' o o' hx.1 hx'.1 (key ho) (key ho') w1 w2 he
  have ha0 : VRs E0 [.func (.func g) [] [.ptr b 0]] [.func (.func g) #[] #[.pointer (some (E.at b 0))]] :=
    .cons _ _ _ _ (.func (.func g) (.func g) (.same _ (by simp)) [] [.ptr b 0] [] [_] .nil (.cons _ _ _ _ (.ptr (E := E0) b 0 ⟨hdb, .inl rfl⟩) .nil)) .nil
  obtain ⟨q, hq, K⟩ := ev_sound (base := base) (w0 := w0) ok (fun f a h v h' hh => by rw [hsm] at hh; cases hh) n (.call f [.func (.func g) [] [.ptr b 0]] (twoH h.next b m (.cells e [.map m] true) (.map es clock))) E0 _ w cs ha0 H0
  -- what lies where it lay
  have main : ∀ {nf : NF}, nfOf h.next b m e es clock (ev T n (.call f [.func (.func g) [] [.ptr b 0]] (twoH h.next b m (.cells e [.map m] true) (.map es clock)))) = some nf → ∃ v1 h1 E' w' v' fr, nf1 h.next b m e es clock v1 h1 = some nf ∧ HR base w0 E' h1 w' ∧ Ste E0 (twoH h.next b m (.cells e [.map m] true) (.map es clock)) w E' h1 w' ∧ VR E' v1 v' ∧ Steps P (lone (Frame.enter P f [.func (.func g) #[] #[.pointer (some (E.at b 0))]].toArray .normal) cs w) (lone fr cs w') ∧ fr.fn = f ∧ fr.leaving P w' (.returned v') ∧
      (∀ x o, E.dom x → h.get x = some o → OR' base E x w' o) ∧ h1.get b = some (.cells e [.map m] true) ∧ h1.get m = some (.map es clock) := by
    intro nf hnf
    obtain ⟨v1, h1, rfl, hn1⟩ := nfOf_leaf hnf hq
    obtain ⟨E', w', v', fr, p1, p2, p3, p4, p5, p6⟩ := K
    have hk : kept2 b m e es clock h1 = true := by
      unfold nf1 at hn1
      split at hn1
      · assumption
      · cases hn1
    obtain ⟨k1, k2⟩ := kept2_ok hk
    refine ⟨v1, h1, E', w', v', fr, hn1, p1, p2, p3, p4, p5, p6, fun x o hx ho => ?_, k1, k2⟩
    by_cases xb : x = b
    · subst xb
      rw [hb] at ho
      cases ho
      have d0 : E0.dom x := ⟨hdb, .inl rfl⟩
      obtain ⟨c', z, q1, q2, q3, q4, q5, q6⟩ := p1.obj x _ (p2.le.dom x d0) k1
      rw [p2.le.blk x d0] at q1 q5 q6
      rw [p2.le.off x d0] at q2 q4
      rw [p2.le.ext x d0] at q2 q3
      refine ⟨c', z, q1, q2, q3, fun i v hv => ?_, q5, q6⟩
      obtain ⟨v', j1, j2⟩ := q4 i v hv
      refine ⟨v', j1, ?_⟩
      match i, hv with
      | 0, hv =>
        cases hv
        cases j2
        rw [p2.le.blk m ⟨hdm, .inr rfl⟩]
        exact .map m hdm
    · by_cases xm : x = m
      · subst xm
        rw [hm] at ho
        cases ho
        have d0 : E0.dom x := ⟨hdm, .inr rfl⟩
        obtain ⟨q0, es', q1, q2⟩ := p1.obj x _ (p2.le.dom x d0) k2
        rw [p2.le.blk x d0] at q0 q1
        exact ⟨q0, es', q1, q2.plain hpl⟩
      · have ox := H.obj x o hx ho
        by_cases hdead : o = .dead
        · subst hdead; trivial
        · refine OR'.same (p2.fr _ (ox.lt hdead) (fun y hy he => ?_)) ox
          have he : E.blk y = E.blk x := he
          have own_y : ∃ oy, h.get y = some oy ∧ oy.own ∧ y ≠ x := by
            rcases hy.2 with rfl | rfl
            · exact ⟨_, hb, rfl, fun k => xb k.symm⟩
            · exact ⟨_, hm, trivial, fun k => xm k.symm⟩
          obtain ⟨oy, g1, g2, g3⟩ := own_y
          by_cases hown : o.own
          · exact g3 (H.inj y x oy o hy.1 hx g1 ho g2 hown he)
          · cases o with
            | cells e' cs' rw' =>
              cases rw' with
              | true => exact hown rfl
              | false =>
                obtain ⟨_, _, _, _, _, _, _, r6⟩ := ox
                have := r6 rfl
                have hby := (H.obj y oy hy.1 g1).base g2
                omega
            | dead => exact hdead rfl
            | map => exact hown trivial
            | loop => exact hown trivial
            | dfr => exact hown trivial
            | iter => exact hown trivial
  split at hw
  · rename_i hnf
    cases hw
    obtain ⟨v1, h1, E', w', v', fr, hn1, p1, p2, p3, p4, p5, p6, keep, k1, k2⟩ := main hnf
    have hv1 : v1 = .nilslice := by
      unfold nf1 at hn1
      split at hn1
      · split at hn1
        · rfl
        · split at hn1
          · split at hn1 <;> cases hn1
          · cases hn1
        · cases hn1
      · cases hn1
    subst hv1
    cases p3
    exact ⟨_, rfl, E, w', _, fr, ⟨H.dlt, keep, H.inj, p1.wd, p1.drawn, p1.bsz, fun x hx => Nat.lt_of_lt_of_le (H.blt x hx) p2.sz⟩,
      ⟨.refl E, fun _ h => .inl h, Nat.le_refl _, fun _ _ _ => rfl, p2.sz, fun k hk hn => p2.fr k hk (fun y hy => hn y hy.1), fun _ h => .inl h⟩, .nilslice, p4, p5, p6⟩
  · rename_i len sz e1 cs1 hnf
    cases hw
    obtain ⟨v1, h1, E', w', v', fr, hn1, p1, p2, p3, p4, p5, p6, keep, k1, k2⟩ := main hnf
    obtain ⟨b1, rfl, hg1, hb1, hpc⟩ : ∃ b1, v1 = .oslice b1 0 len sz ∧ h1.get b1 = some (.cells e1 cs1 true) ∧ h.next ≤ b1 ∧ AV.plains cs1 = true := by
      unfold nf1 at hn1
      split at hn1
      · split at hn1
        · cases hn1
        · split at hn1
          · rename_i hg
            split at hn1
            · rename_i hc
              cases hn1
              rw [Bool.and_eq_true, Nat.ble_eq] at hc
              exact ⟨_, rfl, hg, hc.1, hc.2⟩
            · cases hn1
          · cases hn1
        · cases hn1
      · cases hn1
    cases p3 with
    | oslice _ _ _ _ k hd hk =>
    have lt : ∀ x, E.dom x → x < h.next := H.dlt
    let E2 : En := ⟨fun x => if x = h.next then E'.blk b1 else E.blk x, fun x => if x = h.next then E'.off b1 else E.off x, fun x => if x = h.next then E'.ext b1 else E.ext x, fun x => x = h.next ∨ E.dom x⟩
    have n2 : ∀ x, E.dom x → x ≠ h.next := fun x hx => by have := lt x hx; omega
    have le2 : E.Le E2 := ⟨fun x hx => .inr hx, fun x hx => if_neg (n2 x hx), fun x hx => if_neg (n2 x hx), fun x hx => if_neg (n2 x hx)⟩
    have eb : E2.blk h.next = E'.blk b1 := if_pos rfl
    have eo : E2.off h.next = E'.off b1 := if_pos rfl
    have ee : E2.ext h.next = E'.ext b1 := if_pos rfl
    have o1 := p1.obj b1 _ hd hg1
    have hfresh : w.heap.size ≤ E'.blk b1 := by
      rcases p2.img b1 hd with h1' | h1' | ⟨b0, d0, e0⟩
      · have := lt b1 h1'.1; omega
      · exact h1'
      · exfalso
        have d1 := p2.le.dom b0 d0
        have e1' : E'.blk b0 = E'.blk b1 := (p2.le.blk b0 d0).trans e0
        have hb0 := lt b0 d0.1
        rcases d0.2 with rfl | rfl
        · have := p1.inj b0 b1 _ _ d1 hd k1 hg1 rfl rfl e1'; omega
        · have := p1.inj b0 b1 _ _ d1 hd k2 hg1 trivial rfl e1'; omega
    refine ⟨_, rfl, E2, w', _, fr, ⟨?_, ?_, ?_, p1.wd, p1.drawn, p1.bsz, ?_⟩, ⟨le2, ?_, ?_, ?_, p2.sz, ?_, ?_⟩, ?_, p4, p5, p6⟩
    · rintro x (rfl | hx)
      · show h.next < h.next + 1; omega
      · have := lt x hx; show x < h.next + 1; omega
    · intro x o hx ho
      rw [Heap.get_alloc] at ho
      by_cases hn : x = h.next
      · subst hn
        rw [if_pos rfl] at ho
        cases ho
        obtain ⟨c', z, q1, q2, q3, q4, q5, q6⟩ := o1
        refine ⟨c', z, by rw [eb]; exact q1, by rw [eo, ee]; exact q2, by rw [ee]; exact q3, fun i v hv => ?_, fun hr => by rw [eb]; exact q5 hr, fun hr => by cases hr⟩
        obtain ⟨v', j1, j2⟩ := q4 i v hv
        have pv : v.plain = true := by
          have hall : ∀ {l : List AV} {i : Nat} {v : AV}, AV.plains l = true → l[i]? = some v → v.plain = true := by
            intro l
            induction l with
            | nil => intro i v _ h; simp at h
            | cons a l ih =>
              intro i v hp h
              simp only [AV.plains, Bool.and_eq_true] at hp
              cases i with
              | zero => simp at h; subst h; exact hp.1
              | succ i => exact ih hp.2 (by simpa using h)
          exact hall hpc hv
        exact ⟨v', by rw [eo]; exact j1, j2.plain pv⟩
      · rw [if_neg hn] at ho
        rcases hx with hx | hx
        · exact absurd hx hn
        · exact (keep x o hx ho).mono le2 hx
    · intro x x' o o' hx hx' ho ho' w1 w2 he
      rw [Heap.get_alloc] at ho ho'
      by_cases hn : x = h.next <;> by_cases hn' : x' = h.next
      · rw [hn, hn']
      · exfalso
        have hx' : E.dom x' := hx'.resolve_left hn'
        subst hn
        rw [eb, le2.blk x' hx'] at he
        have := H.blt x' hx'
        omega
      · exfalso
        have hx : E.dom x := hx.resolve_left hn
        subst hn'
        rw [eb, le2.blk x hx] at he
        have := H.blt x hx
        omega
      · rw [if_neg hn] at ho
        rw [if_neg hn'] at ho'
        have hx := hx.resolve_left hn
        have hx' := hx'.resolve_left hn'
        rw [le2.blk x hx, le2.blk x' hx'] at he
        exact H.inj x x' o o' hx hx' ho ho' w1 w2 he
    · rintro x (rfl | hx)
      · rw [eb]; exact p1.blt b1 hd
      · rw [le2.blk x hx]; exact Nat.lt_of_lt_of_le (H.blt x hx) p2.sz
    · rintro x (rfl | hx)
      · exact .inr (Nat.le_refl _)
      · exact .inl hx
    · show h.next ≤ h.next + 1; omega
    · intro x hx hn
      rw [Heap.get_alloc, if_neg (by omega)]
    · exact fun k hk hn => p2.fr k hk (fun y hy => hn y hy.1)
    · rintro x (rfl | hx)
      · exact .inr (.inl (by rw [eb]; exact hfresh))
      · exact .inl hx
    · have := VR.oslice (E := E2) h.next 0 len sz k (.inl rfl) (by rw [ee]; exact hk)
      have ea : E2.at h.next 0 = E'.at b1 0 := by simp only [En.at, eb, eo]
      rw [ea] at this
      exact this
  · cases hw
end Ev
end
section
set_option linter.unusedVariables false
set_option linter.unusedSimpArgs false
namespace Ev
open Go Go.RowKit

variable {P : Program} {T : Tabs}

/-! ### words that ask something of the world in which the run began -/
section
variable {G : Nat → World → Prop}
def SmOKG (G : Nat → World → Prop) (P : Program) (sm : FuncId → List AV → Heap → Option (AV × Heap)) : Prop := ∀ (base : Nat) (w0 : World) f args h v h', G base w0 → sm f args h = some (v, h') → TaskOK P base w0 (.call f args h) (.ret v h')
def MemoOKG (G : Nat → World → Prop) (P : Program) (M : Memo) : Prop := ∀ f es, M.get f = some es → ∀ a v, (a, v) ∈ es → ∀ base w0 h, G base w0 → TaskOK P base w0 (.call f a h) (.ret v h)
theorem MemoOKG.nil : MemoOKG G P (.nil : Memo) := fun f es h => by rw [Tr.get_nil] at h; cases h
theorem sm_closedG (ok : TabsOK P T) (hsm : SmOKG G P T.sm) {f : FuncId} {args : List AV} {v : AV} {n : Nat}
    (hp : AV.plains args = true) (hv : v.plain = true) (he : allRet v (ev T n (.call f args ⟨.nil, 0⟩)) = true) (base : Nat) (w0 : World) (hG : G base w0) (h : Heap) : TaskOK P base w0 (.call f args h) (.ret v h) := by
  intro E args' w cs ha H
  have H0 : HR base w0 En.none ⟨.nil, 0⟩ w := ⟨fun _ h => h.elim, fun _ _ h => h.elim, fun _ _ _ _ h => h.elim, H.wd, H.drawn, H.bsz, fun _ h => h.elim⟩
  obtain ⟨q, hq, K⟩ := ev_sound (base := base) (w0 := w0) ok (fun f args h v h' => hsm base w0 f args h v h' hG) n (.call f args ⟨.nil, 0⟩) En.none args' w cs (ha.plain hp) H0
  obtain ⟨h2, rfl⟩ := allRet_leaf he hq
  obtain ⟨E', w', v', fr, p1, p2, p3, p4, p5⟩ := K
  have old : ∀ k, k < w.heap.size → w'.heap[k]? = w.heap[k]? := fun k hk => p2.fr k hk (fun _ hd => hd.elim)
  exact ⟨_, rfl, E, w', v', fr, ⟨H.dlt, fun b o hd hg => OR'.same (old _ (H.blt b hd)) (H.obj b o hd hg), H.inj, p1.wd, p1.drawn, p1.bsz, fun b hd => Nat.lt_of_lt_of_le (H.blt b hd) p2.sz⟩,
    ⟨.refl E, fun _ h => .inl h, Nat.le_refl _, fun _ _ _ => rfl, p2.sz, fun k hk _ => old k hk, fun _ h => .inl h⟩, p3.plain hv, p4, p5⟩

theorem memoSm_okG {M : Memo} (hM : MemoOKG G P M) {sm : FuncId → List AV → Heap → Option (AV × Heap)} (hsm : SmOKG G P sm) : SmOKG G P (memoSm M sm) := by
  intro base w0 f args h v h' hG e
  unfold memoSm at e
  rw [getP_eq] at e
  split at e
  · exact hsm base w0 f args h v h' hG e
  · rename_i es hes
    split at e
    · rename_i u hu
      simp only [Option.some.injEq, Prod.mk.injEq] at e
      obtain ⟨rfl, rfl⟩ := e
      exact hM f es hes args _ (findM_mem _ _ _ hu) base w0 _ hG
    · exact hsm base w0 f args h v h' hG e
theorem MemoOKG.add (ok : TabsOK P T) (hT : SmOKG G P T.sm)
    {M : Memo} (hM : MemoOKG G P M) {f : FuncId} {args : List AV} {v : AV} (hc : memoChk T f args v = true) : MemoOKG G P (M.add f args v) := by
  have key : ∀ base w0 h, G base w0 → TaskOK P base w0 (.call f args h) (.ret v h) := by
    unfold memoChk at hc
    split at hc
    · rename_i hp hv
      rw [evR_eq] at hc
      exact fun base w0 h hG => sm_closedG ok hT hp hv hc base w0 hG h
    · cases hc
  intro g es hg a u hm
  unfold Memo.add at hg
  rw [Tr.get_set] at hg
  by_cases e : g = f
  · rw [if_pos e] at hg
    simp only [Option.some.injEq] at hg
    subst hg
    rcases List.mem_cons.1 hm with h1 | h1
    · simp only [Prod.mk.injEq] at h1
      obtain ⟨rfl, rfl⟩ := h1
      subst e
      exact key
    · cases hq : M.get f with
      | none => rw [hq] at h1; simp at h1
      | some es0 =>
        rw [hq] at h1
        subst e
        exact hM g es0 hq a u (by simpa using h1)
  · rw [if_neg e] at hg
    exact hM g es hg a u hm

theorem ev_calls_chkG (ok : TabsOK P T) (hsm : SmOKG G P T.sm) {f : FuncId} (hc : memoChk T f [] (.bool true) = true) (w : World) (hG : G w.heap.size w) :
    Calls P f #[] w fun e w' => e = .returned (.bool true) ∧ Below w.heap.size w w' := by
  unfold memoChk at hc
  split at hc
  · intro cs
    rw [evR_eq] at hc
    obtain ⟨q, hq, K⟩ := ev_sound (base := w.heap.size) (w0 := w) ok (fun f args h v h' => hsm _ _ f args h v h' hG) 1000000 (.call f [] ⟨.nil, 0⟩) En.none [] w cs .nil (HR.start w)
    obtain ⟨h2, rfl⟩ := allRet_leaf hc hq
    obtain ⟨E', w', v', fr, p1, p2, p3, p4, p5, p6⟩ := K
    cases p3
    exact ⟨_, w', fr, ⟨rfl, p1.wd⟩, p4, p5, p6⟩
  · cases hc
end
/-! ### new blocks behind, draws -/
theorem hr_grow {base : Nat} {w0 : World} {E : En} {h : Heap} {w : World} (H : HR base w0 E h w) (os : Array Obj) : HR base w0 E h (Go.Sort.grow w os) ∧ Ste E h w E h (Go.Sort.grow w os) := by
  have hs : (Go.Sort.grow w os).heap.size = w.heap.size + os.size := by simp [Go.Sort.grow]
  have hk : ∀ k, k < w.heap.size → (Go.Sort.grow w os).heap[k]? = w.heap[k]? := fun k hk => by
    show (w.heap ++ os)[k]? = _
    rw [Array.getElem?_append, if_pos hk]
  refine ⟨⟨H.dlt, fun b o hd hg => OR'.same (hk _ (H.blt b hd)) (H.obj b o hd hg), H.inj, H.wd.trans ⟨rfl, rfl, rfl, by omega, fun k h => hk k (Nat.lt_of_lt_of_le h H.bsz)⟩, H.drawn, by have := H.bsz; omega, fun b hd => by have := H.blt b hd; omega⟩,
    ⟨.refl E, fun _ h => .inl h, Nat.le_refl _, fun _ _ _ => rfl, by omega, fun k h _ => hk k h, fun _ h => .inl h⟩⟩
theorem hr_drewN {base : Nat} {w0 : World} {E : En} {h : Heap} {w : World} (H : HR base w0 E h w) (m : Nat) : HR base w0 E h (w.drewN m) ∧ Ste E h w E h (w.drewN m) :=
  ⟨⟨H.dlt, fun b o hd hg => OR'.same rfl (H.obj b o hd hg), H.inj, H.wd.trans ⟨rfl, rfl, rfl, Nat.le_refl _, fun _ _ => rfl⟩, Nat.le_trans H.drawn (Nat.le_add_right _ _), H.bsz, H.blt⟩,
    ⟨.refl E, fun _ h => .inl h, Nat.le_refl _, fun _ _ _ => rfl, Nat.le_refl _, fun _ _ _ => rfl, fun _ h => .inl h⟩⟩
end Ev
end
section
set_option linter.unusedVariables false
set_option linter.unusedSimpArgs false
namespace Ev
open Go Go.RowKit Go.Shelf Go.Proofs

/-! ### strings.Builder: copyCheck and String, by the kit's laws -/
variable {P : Program} {ρ : Ren} {base : Nat} {w0 : World}
theorem own_args {E : En} {b n : Nat} {args' : List Value} (ha : VRs E [.own b n] args') : args' = [.pointer (some ⟨E.blk b, 0, none⟩)] ∧ E.dom b ∧ E.off b = 0 ∧ E.ext b = n := by
  cases ha with
  | cons _ _ _ _ p q =>
    cases q
    cases p with
    | own _ _ hd h0 hk => exact ⟨by simp [En.at, h0], hd, h0, hk⟩
theorem copyCheck_new {F : FuncId} {tb : TypeId} (hC : ∀ (b : Nat) (w : World), w.cell? ⟨b, 0, none⟩ = some (.pointer none) → w.shape? b = some (tb, 2) → w.frozen? ⟨b, 0, none⟩ = false → Calls P F #[.pointer (some ⟨b, 0, none⟩)] w fun e w' => e = .returned (.tuple #[]) ∧ w' = w.setCell ⟨b, 0, none⟩ (.pointer (some ⟨b, 0, none⟩)))
    {b : Nat} {buf : AV} {h : Heap} (hg : h.get b = some (.cells tb [.nilptr, buf] true)) :
    TaskOK P base w0 (.call F [.own b 2] h) (.ret (.tuple []) (h.set b (.cells tb [.own b 2, buf] true))) := by
  intro E args' w cs ha H
  obtain ⟨rfl, hd, h0, hk⟩ := own_args ha
  obtain ⟨c', z, q1, q2, q3, q4, q5, q6⟩ := H.obj b _ hd hg
  rw [h0, hk] at q2
  rw [h0] at q4
  obtain ⟨v0, k0, r0⟩ := q4 0 _ rfl
  obtain ⟨v1, k1, r1⟩ := q4 1 _ rfl
  cases r0
  have hz := q5 rfl
  have hc : w.cell? ⟨E.blk b, 0, none⟩ = some (.pointer none) := by
    unfold World.cell?
    simp only [q1]
    simpa using k0
  have hsh : w.shape? (E.blk b) = some (tb, 2) := by
    unfold World.shape?
    simp only [q1, q2]
  have hfz : w.frozen? ⟨E.blk b, 0, none⟩ = false := by
    unfold World.frozen?
    simp only [q1]
    simp
    omega
  obtain ⟨e', w', fr, ⟨rfl, rfl⟩, s1, s2, s3⟩ := hC (E.blk b) w hc hsh hfz cs
  have hoth : ∀ k, k ≠ E.blk b → (w.setCell ⟨E.blk b, 0, none⟩ (.pointer (some ⟨E.blk b, 0, none⟩))).heap[k]? = w.heap[k]? := fun k hk => by
    show (w.heap.modify (E.blk b) _)[k]? = _
    rw [Array.getElem?_modify, if_neg (fun h => hk h.symm)]
  have hsz : (w.setCell ⟨E.blk b, 0, none⟩ (.pointer (some ⟨E.blk b, 0, none⟩))).heap.size = w.heap.size := by
    show (w.heap.modify (E.blk b) _).size = _
    rw [Array.size_modify]
  have A := put_obj H hd hg rfl (a' := .cells (tb) [.own b 2, buf] true) (w' := w.setCell ⟨E.blk b, 0, none⟩ (.pointer (some ⟨E.blk b, 0, none⟩)))
    ⟨rfl, rfl, rfl, by rw [hsz]; exact Nat.le_refl _, fun k hk => hoth k (by omega)⟩ (Nat.le_refl _) hsz hoth (by
      refine ⟨c'.setIfInBounds 0 (.pointer (some ⟨E.blk b, 0, none⟩)), z, ?_, by rw [h0, hk]; simpa using q2, q3, fun i v hv => ?_, fun hr => ⟨hz.1, by simpa using hz.2⟩, fun hr => by cases hr⟩
      · show (w.heap.modify (E.blk b) _)[E.blk b]? = _
        rw [Array.getElem?_modify, if_pos rfl, q1]
        rfl
      · rw [h0]
        match i, hv with
        | 0, hv =>
          cases hv
          refine ⟨.pointer (some ⟨E.blk b, 0, none⟩), ?_, ?_⟩
          · rw [Array.getElem?_setIfInBounds, if_pos rfl, if_pos (by omega)]
          · have := VR.own (E := E) b 2 hd h0 hk
            simpa [En.at, h0] using this
        | 1, hv =>
          cases hv
          refine ⟨v1, ?_, r1⟩
          rw [Array.getElem?_setIfInBounds, if_neg (by omega)]
          exact k1)
  exact ⟨_, rfl, E, _, _, fr, A.1, A.2, .tuple [] [] .nil, s1, s2, s3⟩
theorem copyCheck_used {F : FuncId} (hC : ∀ (b : Nat) (w : World), w.cell? ⟨b, 0, none⟩ = some (.pointer (some ⟨b, 0, none⟩)) → Calls P F #[.pointer (some ⟨b, 0, none⟩)] w fun e w' => e = .returned (.tuple #[]) ∧ w' = w) {b : Nat} {e : TypeId} {buf : AV} {h : Heap} (hg : h.get b = some (.cells e [.own b 2, buf] true)) :
    TaskOK P base w0 (.call F [.own b 2] h) (.ret (.tuple []) h) := by
  intro E args' w cs ha H
  obtain ⟨rfl, hd, h0, hk⟩ := own_args ha
  obtain ⟨c', z, q1, q2, q3, q4, q5, q6⟩ := H.obj b _ hd hg
  rw [h0] at q4
  obtain ⟨v0, k0, r0⟩ := q4 0 _ rfl
  have e0 : v0 = .pointer (some ⟨E.blk b, 0, none⟩) := by
    cases r0
    simp [En.at, h0]
  subst e0
  have hc : w.cell? ⟨E.blk b, 0, none⟩ = some (.pointer (some ⟨E.blk b, 0, none⟩)) := by
    unfold World.cell?
    simp only [q1]
    simpa using k0
  obtain ⟨e', w', fr, ⟨rfl, rfl⟩, s1, s2, s3⟩ := hC (E.blk b) w hc cs
  exact ⟨_, rfl, E, _, _, fr, H, Ste.refl _ _ _, .tuple [] [] .nil, s1, s2, s3⟩
theorem liesAt_row {e : TypeId} (hc : P.cellsOf e = 1) (count off n : Nat) (hn : off + n ≤ count) : liesAt P P.depth e count off e n = true := by
  have hd : P.depth = (2 * (P.types.size + Made.depth) + 1) + 1 := rfl
  rw [hd]
  simp only [liesAt, Bool.or_eq_true]
  left
  rw [hd]
  simp [rowAt, hc, hn, sameLayout, Nat.mod_one]
theorem run_unsafeString_at (w : World) (pt it ty e : TypeId) (hp : P.underlying pt = some (.pointer e)) (hc : P.cellsOf e = 1) (g off cells : Nat) (hsh : w.shape? g = some (e, cells)) (l : List UInt8) (h0 : l ≠ []) (hn : off + l.length ≤ cells) (h63 : l.length ≤ 9223372036854775807)
    (hcell : ∀ j x, l[j]? = some x → w.cell? ((⟨g, off, none⟩ : Addr).add j) = some (.int .u8 x.toNat)) :
    (Builtin.unsafeString_ #[pt, it] ty #[.pointer (some ⟨g, off, none⟩), .int .i64 l.length]).run P w = .ok (.string ⟨l.toArray⟩) (w.freeze ⟨g, off, none⟩ l.length) := by
  have hl : l.length ≠ 0 := by simpa using h0
  have hlb := Go.Lib.run_loadBytes (P := P) w l ⟨g, off, none⟩ .empty hcell
  have hlies := liesAt_row (P := P) hc (cells / P.cellsOf e) off l.length (by rw [hc]; simpa using hn)
  have h63' : ¬ (9223372036854775807 : Int) < (l.length : Int) := by omega
  have hmax : IntKind.i64.max = 9223372036854775807 := rfl
  have hneg : ¬ (l.length : Int) < 0 := by omega
  change (bind (asInt (.int .i64 l.length)) _ : Sem Value).run P w = _
  simp [asInt, asIntOf, hmax, h63', hneg, hl, variablesAt, hsh, elemOf, run_underlying hp, hlies, hlb]
set_option maxHeartbeats 2000000 in
set_option maxRecDepth 100000 in
/-- String at a builder that holds bytes: the world, exactly -/
theorem builder_String_row (L : Lays.n169 P ρ) (X : Go.Proofs.Builder.Extra P ρ) (b g off cap cells : Nat) (l : List UInt8) (w : World) (c0 : w.cell? ⟨b, 1, none⟩ = some (.slice (some ⟨g, off, none⟩) l.length cap)) (hcap : cap ≠ 0)
    (hsh : w.shape? g = some (ρ.t 5, cells)) (h0 : l ≠ []) (hn : off + l.length ≤ cells) (h63 : l.length ≤ 9223372036854775807) (hcell : ∀ j x, l[j]? = some x → w.cell? ((⟨g, off, none⟩ : Addr).add j) = some (.int .u8 x.toNat)) :
    Calls P (ρ.f 169) #[.pointer (some ⟨b, 0, none⟩)] w fun e w' => e = .returned (.string ⟨l.toArray⟩) ∧ w' = w.drew.freeze ⟨g, off, none⟩ l.length := by
  have c1 : w.drew.cell? ⟨b, 1, none⟩ = some (.slice (some ⟨g, off, none⟩) l.length cap) := c0
  have hSD : (Builtin.unsafeSliceData_ #[(ρ.t 37)] (ρ.t 127) #[.slice (some ⟨g, off, none⟩) l.length cap]).run P w.drew = .ok (.pointer (some ⟨g, off, none⟩)) w.drew :=
    Go.Lib.run_unsafeSliceData_row _ _ _ _ _ _ hcap
  have hUS : (Builtin.unsafeString_ #[(ρ.t 127), (ρ.t 3)] (ρ.t 9) #[.pointer (some ⟨g, off, none⟩), .int .i64 l.length]).run P w.drew = .ok (.string ⟨l.toArray⟩) (w.drew.freeze ⟨g, off, none⟩ l.length) :=
    run_unsafeString_at w.drew (ρ.t 127) (ρ.t 3) (ρ.t 9) (ρ.t 5) L.t127 X.cellsByte g off cells hsh l h0 hn h63 hcell
  have mixed := L.mixed
  have t72 := L.t72; have a72 := L.a72; have z72 := L.z72; have v72 := L.v72; have u72 := run_underlying L.t72
  have t70 := L.t70; have a70 := L.a70; have z70 := L.z70; have v70 := L.v70; have u70 := run_underlying L.t70
  have t37 := L.t37; have a37 := L.a37; have z37 := L.z37; have v37 := L.v37; have u37 := run_underlying L.t37
  have t127 := L.t127; have a127 := L.a127; have z127 := L.z127; have v127 := L.v127; have u127 := run_underlying L.t127
  have t3 := L.t3; have a3 := L.a3; have z3 := L.z3; have v3 := L.v3; have u3 := run_underlying L.t3
  have t9 := L.t9; have a9 := L.a9; have z9 := L.z9; have v9 := L.v9; have u9 := run_underlying L.t9
  have t5 := X.t5; have a5 := X.a5; have z5 := X.z5; have v5 := X.v5; have u5 := run_underlying X.t5
  go_enter L.f169, Body.n169_ntmps ρ
  go_wp2
  go_region_o
  all_goals (go_wp2; go_ret; exact ⟨rfl, rfl⟩)
set_option maxHeartbeats 2000000 in
set_option maxRecDepth 100000 in
theorem builder_String_none (L : Lays.n169 P ρ) (X : Go.Proofs.Builder.Extra P ρ) (b : Nat) (w : World) (c0 : w.cell? ⟨b, 1, none⟩ = some (.slice none 0 0)) :
    Calls P (ρ.f 169) #[.pointer (some ⟨b, 0, none⟩)] w fun e w' => e = .returned (.string ⟨#[]⟩) ∧ w' = w.drew := by
  have hUS := Go.Proofs.Any.unsafeString_none L X
  have c1 : w.drew.cell? ⟨b, 1, none⟩ = some (.slice none 0 0) := c0
  have hSD : (Builtin.unsafeSliceData_ #[(ρ.t 37)] (ρ.t 127) #[.slice none 0 0]).run P w.drew = .ok (.pointer none) w.drew := rfl
  have mixed := L.mixed
  have t72 := L.t72; have a72 := L.a72; have z72 := L.z72; have v72 := L.v72; have u72 := run_underlying L.t72
  have t70 := L.t70; have a70 := L.a70; have z70 := L.z70; have v70 := L.v70; have u70 := run_underlying L.t70
  have t37 := L.t37; have a37 := L.a37; have z37 := L.z37; have v37 := L.v37; have u37 := run_underlying L.t37
  have t127 := L.t127; have a127 := L.a127; have z127 := L.z127; have v127 := L.v127; have u127 := run_underlying L.t127
  have t3 := L.t3; have a3 := L.a3; have z3 := L.z3; have v3 := L.v3; have u3 := run_underlying L.t3
  have t9 := L.t9; have a9 := L.a9; have z9 := L.z9; have v9 := L.v9; have u9 := run_underlying L.t9
  have t5 := X.t5; have a5 := X.a5; have z5 := X.z5; have v5 := X.v5; have u5 := run_underlying X.t5
  go_enter L.f169, Body.n169_ntmps ρ
  go_wp2
  go_region_o
  all_goals (go_wp2; go_ret; exact ⟨rfl, rfl⟩)
theorem string_none (L : Lays.n169 P ρ) (X : Go.Proofs.Builder.Extra P ρ) {b : Nat} {e : TypeId} {p : AV} {h : Heap} (hg : h.get b = some (.cells e [p, .nilslice] true)) :
    TaskOK P base w0 (.call (ρ.f 169) [.own b 2] h) (.ret (.str []) h) := by
  intro E args' w cs ha H
  obtain ⟨rfl, hd, h0, hk⟩ := own_args ha
  obtain ⟨c', z, q1, q2, q3, q4, q5, q6⟩ := H.obj b _ hd hg
  rw [h0] at q4
  obtain ⟨v1, k1, r1⟩ := q4 1 _ rfl
  cases r1
  have hc : w.cell? ⟨E.blk b, 1, none⟩ = some (.slice none 0 0) := by
    unfold World.cell?
    simp only [q1]
    simpa using k1
  obtain ⟨e', w', fr, ⟨rfl, rfl⟩, s1, s2, s3⟩ := builder_String_none L X (E.blk b) w hc cs
  have A := hr_drewN H 1
  exact ⟨_, rfl, E, w.drew, _, fr, A.1, A.2, .str [], s1, s2, s3⟩
/-- the first n cells' bytes -/
def bytesN : Nat → List AV → Option (List UInt8)
  | 0, _ => some []
  | n + 1, .int .u8 (.ofNat b) :: l => match Nat.blt b 256, bytesN n l with
    | true, some s => some (UInt8.ofNat b :: s)
    | _, _ => none
  | _, _ => none
theorem bytesN_ok : ∀ {n : Nat} {cs : List AV} {s : List UInt8}, bytesN n cs = some s → s.length = n ∧ ∀ (j : Nat) (x : UInt8), s[j]? = some x → cs[j]? = some (.int .u8 x.toNat)
  | 0, cs, s, h => by
    simp [bytesN] at h
    subst h
    exact ⟨rfl, fun j x hx => by simp at hx⟩
  | n + 1, [], s, h => by simp [bytesN] at h
  | n + 1, a :: l, s, h => by
    have ha : ∃ b, a = .int .u8 (.ofNat b) := by
      cases a with
      | int k m => cases k with
        | u8 => cases m with
          | ofNat b => exact ⟨b, rfl⟩
          | negSucc b => simp [bytesN] at h
        | _ => simp [bytesN] at h
      | _ => simp [bytesN] at h
    obtain ⟨b, rfl⟩ := ha
    simp only [bytesN] at h
    split at h
    · rename_i t hb ht
      cases h
      obtain ⟨h1, h2⟩ := bytesN_ok ht
      refine ⟨by simp [h1], fun j x hx => ?_⟩
      cases j with
      | zero =>
        simp at hx
        subst hx
        have hb := blt_lt hb
        have e : (UInt8.ofNat b).toNat = b := by simp; omega
        rw [e]
        rfl
      | succ j => exact h2 j x (by simpa using hx)
    · cases h
theorem string_row (L : Lays.n169 P ρ) (X : Go.Proofs.Builder.Extra P ρ) {b b1 n : Nat} {e : TypeId} {p : AV} {cs : List AV} {s : List UInt8} {h : Heap} (hg : h.get b = some (.cells e [p, .oslice b1 0 (n + 1) 1] true)) (hg1 : h.get b1 = some (.cells (ρ.t 5) cs true)) (hs : bytesN (n + 1) cs = some s) (hn : n < 1000000000) :
    TaskOK P base w0 (.call (ρ.f 169) [.own b 2] h) (.ret (.str s) (h.set b1 .dead)) := by
  intro E args' w cs' ha H
  obtain ⟨rfl, hd, h0, hk⟩ := own_args ha
  obtain ⟨c', z, q1, q2, q3, q4, q5, q6⟩ := H.obj b _ hd hg
  rw [h0] at q4
  obtain ⟨v1, k1, r1⟩ := q4 1 _ rfl
  cases r1 with
  | oslice _ _ _ _ cap hd1 hk1 =>
  obtain ⟨c1, z1, m1, m2, m3, m4, m5, m6⟩ := H.obj b1 _ hd1 hg1
  obtain ⟨hsl, hsb⟩ := bytesN_ok hs
  have hlen : n + 1 ≤ cs.length := by
    have hx : s[n]? = some s[n] := by simp [hsl]
    have := (List.getElem?_eq_some_iff.1 (hsb n _ hx)).1
    omega
  have hc : w.cell? ⟨E.blk b, 1, none⟩ = some (.slice (some ⟨E.blk b1, E.off b1, none⟩) s.length cap) := by
    unfold World.cell?
    simp only [q1, hsl]
    simpa [En.at] using k1
  have hsh : w.shape? (E.blk b1) = some (ρ.t 5, c1.size) := by
    unfold World.shape?
    simp only [m1]
  have hcell : ∀ j x, s[j]? = some x → w.cell? ((⟨E.blk b1, E.off b1, none⟩ : Addr).add j) = some (.int .u8 x.toNat) := by
    intro j x hx
    obtain ⟨v', j1, j2⟩ := m4 j _ (hsb j x hx)
    cases j2
    unfold World.cell? Addr.add
    by_cases hj : j = 0
    · subst hj
      simp only [if_true, m1]
      simpa using j1
    · simp only [if_neg hj, m1]
      simpa using j1
  obtain ⟨e', w', fr, ⟨rfl, rfl⟩, s1, s2, s3⟩ := builder_String_row L X (E.blk b) (E.blk b1) (E.off b1) cap c1.size s w hc (by omega) hsh (by intro e; rw [e] at hsl; simp at hsl) (by omega) (by omega) hcell cs'
  have A := (hr_drewN H 1)
  have hA : HR base w0 E h w.drew := A.1
  have hS : Ste E h w E h w.drew := A.2
  have hne : s.length ≠ 0 := by omega
  have hoth : ∀ k, k ≠ E.blk b1 → (w.drew.freeze ⟨E.blk b1, E.off b1, none⟩ s.length).heap[k]? = w.drew.heap[k]? := fun k hk => by
    unfold World.freeze
    rw [if_neg hne]
    show (w.drew.heap.modify (E.blk b1) _)[k]? = _
    rw [Array.getElem?_modify, if_neg (fun h => hk h.symm)]
  have hsz : (w.drew.freeze ⟨E.blk b1, E.off b1, none⟩ s.length).heap.size = w.drew.heap.size := by
    unfold World.freeze
    rw [if_neg hne]
    show (w.drew.heap.modify (E.blk b1) _).size = _
    rw [Array.size_modify]
  have hrest : (w.drew.freeze ⟨E.blk b1, E.off b1, none⟩ s.length).os = w.drew.os ∧ (w.drew.freeze ⟨E.blk b1, E.off b1, none⟩ s.length).tape = w.drew.tape ∧ (w.drew.freeze ⟨E.blk b1, E.off b1, none⟩ s.length).output = w.drew.output ∧ (w.drew.freeze ⟨E.blk b1, E.off b1, none⟩ s.length).drawn = w.drew.drawn := by
    unfold World.freeze
    rw [if_neg hne]
    exact ⟨rfl, rfl, rfl, rfl⟩
  have hb1 := (m5 rfl).1
  have B := put_obj hA hd1 hg1 rfl (a' := .dead) (w' := w.drew.freeze ⟨E.blk b1, E.off b1, none⟩ s.length)
    ⟨hrest.1, hrest.2.1, hrest.2.2.1, by rw [hsz]; exact Nat.le_refl _, fun k hk => hoth k (by omega)⟩ (by rw [hrest.2.2.2]; exact Nat.le_refl _) hsz hoth trivial
  exact ⟨_, rfl, E, _, _, fr, B.1, hS.trans B.2, .str s, s1, s2, s3⟩
end Ev
end
