/- A part of an evaluator of the program's form in Lean, of the proof that what it says of a call is what the machine does, and of the rules by which proofs walk over it. Conditions: those that each theorem states. -/
import Derived.Test.YtbmdcfehionkpaaGreatGao
section
set_option linter.unusedVariables false
set_option linter.unusedSimpArgs false
namespace Ev
open Go
variable {T : Tabs} {cx : Cx} {k : List K} {Q : Res → Prop} {all rest : List Oper} {df : List ADef} {pan : Option (AV × Bool)} {h : Heap} {L : List (Nat × AV)}
/-! ### a sequence, taken apart before it is come to -/
theorem after_seq {a b : Code} : ∀ (r : Res), after T cx (.code a :: .code b :: k) Q r → after T cx (.code (.seq a b) :: k) Q r
  | .fin .normal s, g => go_seq (s := s) g
  | .fin .ret _, g => g
  | .fin (.exit _) _, g => g
  | .fin (.goto _) _, g => g
  | .pan _ _, g => g
  | .ret _ _, g => g
  | .thrown _ _, g => g
  | .dret _ _, g => g
  | .no _ _, g => g
  | .alt _ _, g => g
theorem oj_seq {a b : Code} (c : OJ T cx all rest (.code a :: .code b :: k) L df pan h Q) : OJ T cx all rest (.code (.seq a b) :: k) L df pan h Q := ⟨fun tm hs => ⟨Wp.mono (c.out tm hs).out after_seq⟩⟩
theorem after_cong {k1 k2 : List K} (g : ∀ r, after T cx k1 Q r → after T cx k2 Q r) : ∀ (x : K) (r : Res), after T cx (x :: k1) Q r → after T cx (x :: k2) Q r
  | .code c, r, q => by
    cases r with
    | fin e s => cases e with
      | normal => exact Wp.mono q g
      | ret => exact g _ q
      | exit _ => exact g _ q
      | goto _ => exact g _ q
    | _ => exact g _ q
  | .blk id, r, q => by
    cases r with
    | fin e s => cases e with
      | exit id' =>
        simp only [after] at q ⊢
        split <;> rename_i hh
        · rw [if_pos hh] at q; exact g _ q
        · rw [if_neg hh] at q; exact g _ q
      | normal => exact g _ q
      | ret => exact g _ q
      | goto _ => exact g _ q
    | _ => exact g _ q
  | .scope, r, q => g r q
theorem gj_seq2 {x : K} {a b : Code} (c : GJ T cx (x :: .code a :: .code b :: k) L df pan h Q) : GJ T cx (x :: .code (.seq a b) :: k) L df pan h Q := ⟨fun tm hs => ⟨after_cong after_seq x _ (c.out tm hs).out⟩⟩
theorem oj_seq2 {x : K} {a b : Code} (c : OJ T cx all rest (x :: .code a :: .code b :: k) L df pan h Q) : OJ T cx all rest (x :: .code (.seq a b) :: k) L df pan h Q := ⟨fun tm hs => ⟨Wp.mono (c.out tm hs).out (after_cong after_seq x)⟩⟩
/-- a state within a region, told anew -/
theorem OJ.gen (Lf : List (Nat × AV)) (C : Heap → Prop) (hs : Sub Lf L) (hc : C h) (g : ∀ h, C h → OJ T cx all rest k Lf df pan h Q) : OJ T cx all rest k L df pan h Q := (g h hc).sub hs
/-- a slice of bytes, turned to its own type -/
theorem k_convS {ρ : Operand → Option AV} {o : Oper} {src t el ty : TypeId} {x : Operand} {b off n c : Nat} {cs : List AV} (ho : o.op = .convert src t x) (e : Nat.beq src t = true) (ht : T.und t = some (.slice el)) (hu : T.und el = some (.int .u8)) (hx : ρ x = some (.slice b off n c)) (hg : h.get b = some (.cells ty cs true)) : opA T ρ o h = .val (.slice b off n c) h := by
  have : src = t := Nat.eq_of_beq_eq_true e
  subst this
  cases o; cases ho
  simp only [opA, hx, convA, ht, hu, hg]
  simp
end Ev
end
section
set_option linter.unusedVariables false
set_option linter.unusedSimpArgs false
namespace Ev
open Go
variable {α : Type}
/-- what a loop over a function keeps from round to round, when it writes into one box alone -/
structure BoxI (φ : List α → List AV) (e : TypeId) (box l d : Nat) (O : AObj) (S : Nat → Prop) (acc : List α) (h : Heap) : Prop where
  low : ∀ c, S c → c < h.next
  sb : S box
  sl : S l
  sd : S d
  n1 : box ≠ l
  n2 : l ≠ d
  n3 : box ≠ d
  gl : h.get l = some O
  gd : h.get d = some (.dfr (some []))
  gb : h.get box = some (.cells e (φ acc) true)
theorem BoxI.stable {φ : List α → List AV} {e : TypeId} {box l d : Nat} {O : AObj} {S : Nat → Prop} {acc : List α} {h h' : Heap} (i : BoxI φ e box l d O S acc h) (hn : h.next ≤ h'.next) (k : ∀ c, S c → c < h.next → h'.get c = h.get c) : BoxI φ e box l d O S acc h' :=
  ⟨fun c q => Nat.lt_of_lt_of_le (i.low c q) hn, i.sb, i.sl, i.sd, i.n1, i.n2, i.n3, (k _ i.sl (i.low _ i.sl)).trans i.gl, (k _ i.sd (i.low _ i.sd)).trans i.gd, (k _ i.sb (i.low _ i.sb)).trans i.gb⟩
theorem box_yld {T : Tabs} {enc : α → List AV} {φ : List α → List AV} {e : TypeId} {box l d : Nat} {fn : FuncId} {tm : Tr AV} {nt p dd : Nat} {as bd : Code} (hp : Nat.blt p nt = true)
    (rnd : ∀ (S : Nat → Prop) (acc : List α) (s : α) (h : Heap), acc.length ≤ 500000 → BoxI φ e box l d (.loop .ready none fn tm nt [p] as bd dd) S acc h → RGives T l fn (tm.set p (.agg (enc s))) nt as bd h (fun v h' => v = .bool true ∧ Touch S h h' ∧ ∃ S' : Nat → Prop, (∀ c, S' c → S c ∨ h.next ≤ c) ∧ BoxI φ e box l d (.loop .ready none fn tm nt [p] as bd dd) S' (acc ++ [s]) h')) :
    Yld T l enc (BoxI φ e box l d (.loop .ready none fn tm nt [p] as bd dd)) where
  call := fun S acc s h hl i => ⟨fn, _, nt, as, bd, by simp only [invokeA, i.gl]; simp [hp, setParams], rnd S acc s h hl i⟩
  low := fun S acc h i => i.low
  stable := fun S acc h h' i hn k _ => i.stable hn k
end Ev
end
