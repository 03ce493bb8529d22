/- What the functions of this part answer at any input, told by the rules over the evaluator. Conditions: those that each theorem states. -/
import Derived.Test.YtbmdcfehionkpaaGreatRf1
import Derived.Test.YtbmdcfehionkpaaGreatCat
open Go Ev
namespace Go.Proofs.YtbmdcfehionkpaaGreat
set_option maxRecDepth 10000
set_option linter.unusedVariables false
set_option linter.unusedSimpArgs false
set_option maxHeartbeats 4000000
set_option linter.unusedVariables false
/-! ### the document's answers: bytes, bodies -/
theorem rbyt {q b n : Nat} {e : TypeId} {s : List UInt8} {h : Heap} (r : h.get b = some (.cells e [.str s] true)) (hb : b < h.next) (hl : s.length < 1000000000) (hn : n < 1000000000) : Gives (TV q) 78 [.ptr b 0, .int .i64 n] h (fun v h' => v = .tuple [.str (bytV n s), .int .i64 (errV n s)] ∧ Upd b (.cells e [.str (restV n s)] true) h h') := by
  refine call_j (no_w rfl rfl) rfl rfl ?_
  unfold bytV errV restV
  by_cases hn : n ≤ s.length
  · rw [if_pos hn, if_pos hn, if_pos hn]
    refine walk ?_
    exact jg_ret2 hres ⟨rfl, .set _ b _ hb⟩
  · rw [if_neg hn, if_neg hn, if_neg hn]
    refine walk ?_
    exact jg_ret2 hres ⟨rfl, .same r⟩
theorem rnumber_w {n : Nat} (hn : 0 < n) (p : Nat) (h : Heap) : (TV n).sm 111 [.int .u32 p] h = some (.bool (decide (num p)), h) := by
  refine w_of hn rfl rfl rfl fun n hn => body_j rfl rfl ?_
  unfold num
  exact auto
/-- a slice that is made where the place is drawn -/
theorem n_make {T : Ev.Tabs} {ρ : Operand → Option AV} {o : Oper} {r : Nat} {t : TypeId} {elem : TypeId} {z : AV} {l c : Operand} {n m : Nat} {ei : TypeInfo} {k k' : IntKind} (ho : o.op = .makeSlice t l c) (ht : T.und t = some (.slice elem)) (hl : ρ l = some (.int k (n : Int))) (hc : ρ c = some (.int k' (m : Int))) (hsz : T.size elem = some 1) (hti : T.ti elem = some ei) (hb : ei.bytes ≤ 16) (hz : T.zero elem = some z) (hz1 : z.cells.length = 1) (hn : n ≤ m) (hm : m ≤ 100000000) :
    newOf T ρ o r = some (.slice r 0 n m, .cells elem (times z.cells m) true) := by
  have hr : roomA m ei.bytes = true := by
    unfold roomA
    exact Nat.ble_eq.mpr (Nat.le_trans (Nat.mul_le_mul (show 4 * m + 1000 ≤ 400001000 by omega) (show ei.bytes + 1 ≤ 17 by omega)) (by decide))
  have hlen : (times z.cells m).length = m := by
    have : ∀ k, (times z.cells k).length = k := fun k => by
      induction k with
      | zero => rfl
      | succ k ih => simp [times, hz1, ih]; omega
    exact this m
  have hcond : (0 : Int) ≤ n ∧ (n : Int) ≤ m ∧ (m : Int) ≤ 1073741824 ∧ roomA (m : Int).toNat ei.bytes = true := ⟨by omega, by omega, by omega, by simpa using hr⟩
  unfold newOf
  rw [ho]
  simp only [ht, hl, hc, hsz, hti]
  rw [if_pos hcond]
  by_cases h0 : m = 0
  · subst h0
    have : n = 0 := by omega
    subst this
    simp [zerosA, times]
  · simp [zerosA, h0, hz, hlen]
theorem rbody_w {n : Nat} (hn : 3 < n) {z : Int} {v : AV} {s : List UInt8} {h : Heap} (bw : By h v s) (hk : h.ok) (hv : v.isStr = false) : (TV n).sm 102 [.int .i64 z, v] h = some (bodyR z s, h) := by
  refine w_in hn (fun h => h.ok ∧ By h v s) rfl (by unfold bodyR; split <;> (try split) <;> rfl) ⟨hk, bw⟩ (fun hp => ⟨ok_nil, bw.any (by simpa [AV.plains, AV.plain] using hp)⟩) ?_
  clear hk bw h
  rintro n hn h ⟨hk, bw⟩
  refine body_j rfl rfl ?_
  have w1 := rgood_w (n := n) (by omega) z
  have w2 := rroom_w (n := n) (by omega) z
  have hlen := bw.len
  unfold bodyR
  by_cases g : Good z
  case neg => rw [if_neg g]; exact auto
  rw [if_pos g]
  have e : room z = z - 24 := by unfold room; rw [if_pos g]
  rw [e] at w2
  have g1 := g.1
  have g2 := g.2.1
  by_cases c : (s.length : Int) ≤ z - 24
  case neg => rw [if_neg c]; exact auto
  rw [if_pos c]
  obtain ⟨m, rfl⟩ : ∃ m : Nat, z = m + 24 := ⟨(z - 24).toNat, by omega⟩
  have em : (m : Int) + 24 - 24 = m := by omega
  rw [em] at w2 c
  refine walk ?_
  refine jg_drawn (q := 12) (ms := [0, 1, 0, 4, 0, 16, 60, 124, 252, 511, 1023, 2047]) (hl := [[16, 17, 18, 19, 20, 21, 22], [16, 17, 18, 19, 20, 21, 22], [14, 15, 18, 19], [14, 15, 18, 19], [14, 15, 16, 17], [14, 15, 16, 17], [14, 15], [14, 15], [14, 15], [], [], []]) hok rfl (by kernel_rfl) (by kernel_rfl) rfl ?_
  refine walk ?_
  refine jd_val rfl rfl rfl rfl (k_text (bw.ext (by exact hext)) hv rfl rfl rfl rfl rfl) ?_
  refine walk ?_
  have em2 : (m : Int) - s.length = ((m - s.length : Nat) : Int) := by omega
  have em3 : ((m : Int) + 24).toNat - 24 - s.length = m - s.length := by omega
  have em4 : s.length + (m - s.length) ≤ 5000 := by omega
  rw [em2, em3]
  generalize m - s.length = d at em4
  refine jd_alloc rfl rfl rfl rfl (n_make (n := d) (m := d) rfl rfl rfl rfl rfl rfl (by exact Nat.le_of_ble_eq_true rfl) rfl rfl (Nat.le_refl _) (by omega)) ?_
  have zl : times (AV.int .u8 0).cells d = u8s (List.replicate d 0) := times_u8 0 _
  rw [zl]
  refine walk ?_
  refine jd_val rfl rfl rfl rfl (k_text (v := .slice (h.next + (0 + 1 + 1 + 1 + 1 + 1 + 1 + 1)) 0 d d) (s := List.replicate d 0) ⟨by simp, by show h.next + 7 < h.next + 12; omega, _, _, _, Heap.gs _ _ _, by simp [u8s], by rw [List.drop_zero, List.take_of_length_le (by simp [u8s])]⟩ rfl rfl rfl rfl rfl rfl) ?_
  refine walk ?_
  refine jd_val rfl rfl rfl rfl (k_bin rfl rfl rfl (b_cat (by simp; omega)) rfl) ?_
  refine jd_val rfl rfl rfl rfl opa ?_
  refine jd_val rfl rfl rfl rfl opa ?_
  refine jd_nil hms rfl (by repeat (first | exact trivial | refine And.intro ⟨_, opa⟩ ?_ | refine And.intro ⟨_, k_text (bw.ext (by exact hext)) hv rfl rfl rfl rfl rfl⟩ ?_)) ?_
  refine walk ?_
  exact jg_ret2 hres ⟨rfl, by exact hext⟩
end Go.Proofs.YtbmdcfehionkpaaGreat
