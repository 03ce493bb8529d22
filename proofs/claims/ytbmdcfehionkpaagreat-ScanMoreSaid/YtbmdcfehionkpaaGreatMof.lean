/- What the functions of this part answer at any input, told by the rules over the evaluator. Conditions: those that each theorem states. -/
import Derived.Test.YtbmdcfehionkpaaGreatMet
open Go Ev
namespace Go.Proofs.YtbmdcfehionkpaaGreat
set_option maxRecDepth 10000
set_option linter.unusedVariables false
set_option linter.unusedSimpArgs false
set_option maxHeartbeats 4000000
set_option linter.unusedVariables false
/-! ### a page's meta -/
def pfx (a s : List UInt8) : Prop := a.length ≤ s.length ∧ s.take a.length = a
instance (a s : List UInt8) : Decidable (pfx a s) := inferInstanceAs (Decidable (_ ∧ _))
theorem has_g {q : Nat} {s a : List UInt8} {h : Heap} (hl : s.length < 1000000000) (ha : a.length < 1000000000) : Gives (TV q) 160 [.str s, .str a] h (fun v h' => v = .bool (decide (pfx a s)) ∧ h' = h) := by
  refine call_j (no_w rfl rfl) rfl rfl ?_
  unfold pfx
  by_cases c1 : a.length ≤ s.length
  · by_cases c2 : s.take a.length = a
    · refine walk ?_
      exact jg_ret1 (by exact hres) ⟨av_t ⟨c1, c2⟩, rfl⟩
    · refine walk ?_
      exact jg_ret1 (by exact hres) ⟨av_f fun c => c2 c.2, rfl⟩
  · refine walk ?_
    exact jg_ret1 (by exact hres) ⟨av_f fun c => c1 c.1, rfl⟩
def cutV (a s : List UInt8) : List UInt8 := if pfx a s then s.drop a.length else s
theorem cut1_g {q : Nat} {s a : List UInt8} {h : Heap} (hl : s.length < 1000000000) (ha : a.length < 1000000000) : Gives (TV q) 132 [.str s, .str a] h (fun v h' => v = .tuple [.str (cutV a s), .bool (decide (pfx a s))] ∧ h' = h) := by
  refine call_j (no_w rfl rfl) rfl rfl ?_
  unfold cutV
  refine walk ?_
  refine jo_call (has_g hl ha) rfl rfl rfl rfl ?_
  rintro _ _ ⟨rfl, rfl⟩
  by_cases c : pfx a s
  · rw [if_pos c, decide_eq_true c]
    have := c.1
    refine walk ?_
    exact jg_ret2 (by exact hres) ⟨rfl, rfl⟩
  · rw [if_neg c, decide_eq_false c]
    refine walk ?_
    exact jg_ret2 (by exact hres) ⟨rfl, rfl⟩
theorem cut_g {q : Nat} {s a : List UInt8} {h : Heap} (hl : s.length < 1000000000) (ha : a.length < 1000000000) : Gives (TV q) 106 [.str s, .str a] h (fun v h' => v = .tuple [.str (cutV a s), .bool (decide (pfx a s))] ∧ h' = h) := by
  refine call_j (no_w rfl rfl) rfl rfl ?_
  refine walk ?_
  refine jo_call (cut1_g hl ha) rfl rfl rfl rfl ?_
  rintro _ _ ⟨rfl, rfl⟩
  refine walk ?_
  exact jg_ret2 (by exact hres) ⟨rfl, rfl⟩
def readM (x : Nat) (s : List UInt8) : Mt := ⟨x, numV 2 s, numV 4 (restV 2 s), numV 4 (restV 4 (restV 2 s)), numV 4 (restV 4 (restV 4 (restV 2 s)))⟩
def metaOf (p : Pg) : Mt := readM p.tx (p.body.drop 8)
def okM (z : Int) (p : Pg) : Prop := 22 ≤ p.body.length ∧ pageM (metaOf p) = (p, 0) ∧ (metaOf p).size = z
instance (z : Int) (p : Pg) : Decidable (okM z p) := inferInstanceAs (Decidable (_ ∧ _))
def ofM (z : Int) (p : Pg) : Mt × Int := if okM z p then (metaOf p, 0) else (Mt.zero, 4)
theorem pageM_body {m : Mt} {p : Pg} (e : pageM m = (p, 0)) : p.body = encM m ++ List.replicate (m.size.toNat - 24 - 22) 0 := by
  unfold pageM at e
  split at e
  · rename_i c
    have e1 := congrArg (fun r => r.1.body) e
    have g := c.2.1
    have g1 := g.1
    simp only at e1
    rw [← e1]
    unfold bodyS
    rw [if_pos ⟨g, by rw [encM_len]; omega⟩, encM_len]
  · cases congrArg Prod.snd e
theorem okM_pfx {z : Int} {p : Pg} (c : okM z p) : pfx magicM p.body := by
  have e := pageM_body c.2.1
  rw [e]
  refine ⟨by simp [encM, magicM], ?_⟩
  unfold encM
  simp only [List.append_assoc]
  exact List.take_left
theorem metOf_w {n : Nat} (hn : 5 < n) (z : Int) (p : Pg) (hl : p.body.length ≤ 1000000) (h : Heap) : (TV n).sm 77 [.int .i64 z, p.av] h = some (.tuple [(ofM z p).1.av, .int .i64 (ofM z p).2], h) := by
  refine w_of hn rfl rfl rfl fun n hn => body_j rfl rfl ?_
  have ok0 : Heap.ok ⟨.nil, 0⟩ := ok_nil
  generalize (⟨.nil, 0⟩ : Heap) = h at ok0 ⊢
  refine walk ?_
  refine jo_call (cut_g (s := p.body) (a := magicM) (by omega) (by decide)) rfl rfl rfl rfl ?_
  rintro _ _ ⟨rfl, rfl⟩
  obtain ⟨s, hs⟩ : ∃ s, s = cutV magicM p.body := ⟨_, rfl⟩
  have sl : s.length ≤ 1000000 := by
    rw [hs]; unfold cutV
    split
    · rw [List.length_drop]; omega
    · exact hl
  rw [← hs]
  refine walk ?_
  refine jo_call (octet_new s _) rfl rfl rfl rfl ?_
  rintro _ _ ⟨rfl, rfl⟩
  have l1 := restV_len 2 s
  have l2 := restV_len 4 (restV 2 s)
  have l3 := restV_len 4 (restV 4 (restV 2 s))
  have b1 := numV_lt 2 s
  have b2 := numV_lt 4 (restV 2 s)
  have b3 := numV_lt 4 (restV 4 (restV 2 s))
  have b4 := numV_lt 4 (restV 4 (restV 4 (restV 2 s)))
  refine walk ?_
  refine jo_call (num_g (n := 2) (s := s) (b := h.next + 2) (e := 209) (by exact hget) (by show h.next + 2 < h.next + 3; omega) (by omega) (by decide) (by decide)) rfl rfl rfl rfl ?_
  rintro _ h3 ⟨rfl, u3⟩
  have n3 : h3.next = h.next + 3 := u3.nx
  have ga3 : h3.get h.next = some (.cells 30 p.cs true) := by exact hget
  have gb3 : h3.get (h.next + 1) = some (.cells 43 Mt.zero.cs true) := by exact hget
  have ok3 : h3.ok := by exact hok
  have gr3 := u3.got
  clear u3
  refine walk ?_
  refine jo_call (num_g (n := 4) gr3 (by omega) (by omega) (by decide) (by decide)) rfl rfl rfl rfl ?_
  rintro _ h4 ⟨rfl, u4⟩
  have n4 := u4.nx
  refine walk ?_
  refine jo_call (num_g (n := 4) u4.got (by omega) (by omega) (by decide) (by decide)) rfl rfl rfl rfl ?_
  rintro _ h5 ⟨rfl, u5⟩
  have n5 := u5.nx
  refine walk ?_
  refine jo_call (num_g (n := 4) u5.got (by omega) (by omega) (by decide) (by decide)) rfl rfl rfl rfl ?_
  rintro _ h6 ⟨rfl, u6⟩
  have n6 := u6.nx
  have ga : h6.get h.next = some (.cells 30 p.cs true) := by rw [u6.old _ (by omega), u5.old _ (by omega), u4.old _ (by omega)]; exact ga3
  have gb : h6.get (h.next + 1) = some (.cells 43 Mt.zero.cs true) := by rw [u6.old _ (by omega), u5.old _ (by omega), u4.old _ (by omega)]; exact gb3
  have ok6 : h6.ok := u6.ok (u5.ok (u4.ok ok3))
  clear u4 u5 u6 gr3 ga3 gb3 ok3
  refine walk ?_
  refine jo_w (metPage_w (n := n) (by omega) (readM p.tx s) _) rfl rfl rfl rfl ?_
  by_cases c : pfx magicM p.body
  case neg =>
    have bad : ofM z p = (Mt.zero, 4) := by unfold ofM; rw [if_neg fun d => c (okM_pfx d)]
    rw [bad, decide_eq_false c]
    refine walk ?_
    exact jg_ret2 (by exact hres) rfl
  rw [decide_eq_true c]
  have es : s = p.body.drop 8 := by rw [hs]; unfold cutV; rw [if_pos c]; rfl
  have c8 : 8 ≤ p.body.length := c.1
  have el : s.length = p.body.length - 8 := by rw [es, List.length_drop]
  have em : readM p.tx s = metaOf p := by unfold metaOf; rw [es]
  by_cases d : 22 ≤ p.body.length
  case neg =>
    have bad : ofM z p = (Mt.zero, 4) := by unfold ofM; rw [if_neg fun q => d q.1]
    have e7 : errV 4 (restV 4 (restV 4 (restV 2 s))) = 7 := err_7 fun q => by
      by_cases q1 : 2 ≤ s.length
      · have := restV_lt q1
        by_cases q2 : 4 ≤ (restV 2 s).length
        · have := restV_lt q2
          by_cases q3 : 4 ≤ (restV 4 (restV 2 s)).length
          · have := restV_lt q3; omega
          · omega
        · omega
      · omega
    rw [bad, e7]
    refine walk ?_
    exact jg_ret2 (by exact hres) rfl
  have e0 : errV 4 (restV 4 (restV 4 (restV 2 s))) = 0 := err_0 (by
    have q1 : 2 ≤ s.length := by omega
    have := restV_lt q1
    have q2 : 4 ≤ (restV 2 s).length := by omega
    have := restV_lt q2
    have q3 : 4 ≤ (restV 4 (restV 2 s)).length := by omega
    have := restV_lt q3
    omega)
  rw [e0]
  have key : okM z p ↔ pageM (readM p.tx s) = (p, 0) ∧ (readM p.tx s).size = z := by rw [em]; exact ⟨fun q => q.2, fun q => ⟨d, q⟩⟩
  unfold ofM
  rw [← em]
  generalize pageM (readM p.tx s) = r at key ⊢
  obtain ⟨r1, r2⟩ := r
  by_cases d2 : r2 = 0
  case neg =>
    rw [if_neg fun q => d2 (congrArg Prod.snd (key.1 q).1)]
    refine walk ?_
    exact jg_ret2 (by exact hres) rfl
  subst d2
  refine walk ?_
  refine jo_val rfl rfl rfl (k_bin rfl rfl rfl (bin_ne (page_eqv r1 p) rfl) rfl) ?_
  by_cases d3 : r1 = p
  case neg =>
    rw [if_neg fun q => d3 (congrArg Prod.fst (key.1 q).1)]
    refine walk ?_
    exact jg_ret2 (by exact hres) rfl
  by_cases d4 : (numV 2 s : Int) = z
  · rw [if_pos (key.2 ⟨by rw [d3], d4⟩)]
    refine walk ?_
    exact jg_ret2 (by exact hres) rfl
  · rw [if_neg fun q => d4 (key.1 q).2]
    refine walk ?_
    exact jg_ret2 (by exact hres) rfl
/-! ### both metas -/
def metaR (z : Int) (img : List UInt8) (i : Nat) : Mt × Bool := if (readR z img i).2 = 0 ∧ (ofM z (readR z img i).1).2 = 0 then ((ofM z (readR z img i).1).1, true) else (Mt.zero, false)
def bothA (z : Int) (img : List UInt8) : AV := .tuple [.agg ((metaR z img 0).1.cs ++ (metaR z img 1).1.cs), .agg [.bool (metaR z img 0).2, .bool (metaR z img 1).2]]
theorem metBoth_w {n : Nat} (hn : 6 < n) (z : Int) (img : List UInt8) (hi : img.length < 1000000) (h : Heap) : (TV n).sm 46 [.int .i64 z, .str img] h = some (bothA z img, h) := by
  refine w_of hn rfl rfl rfl fun n hn => body_j rfl rfl ?_
  have ok0 : Heap.ok ⟨.nil, 0⟩ := ok_nil
  generalize (⟨.nil, 0⟩ : Heap) = h at ok0 ⊢
  unfold bothA
  refine walk ?_
  refine jg_loop (ι := Nat × (Mt × Bool) × (Mt × Bool)) (fun a => 2 - a.1) (fun a => [(0, .int .i64 z), (1, .str img), (4, .ptr h.next 0), (5, .ptr (h.next + 1) 0), (11, .int .i64 (a.1 : Nat))]) (fun a h2 => a.1 ≤ 2 ∧ Ext h h2 ∧ h.next + 2 ≤ h2.next ∧ h2.get h.next = some (.cells 44 (a.2.1.1.cs ++ a.2.2.1.cs) true) ∧ h2.get (h.next + 1) = some (.cells 45 [.bool a.2.1.2, .bool a.2.2.2] true) ∧ (0 < a.1 → a.2.1 = metaR z img 0) ∧ (1 < a.1 → a.2.2 = metaR z img 1) ∧ (a.1 < 2 → a.2.2 = (Mt.zero, false)) ∧ (a.1 = 0 → a.2.1 = (Mt.zero, false))) (0, (Mt.zero, false), (Mt.zero, false)) (by exact hsub) ⟨by decide, by exact hext, by show h.next + 2 ≤ h.next + 1 + 1; omega, by exact hget, by exact hget, by simp, by simp, by simp, by simp⟩ ?_
  rintro ⟨i, m0, m1⟩ h2 ⟨hi2, x2, n2, g0, g1, p0, p1, q1, q0⟩ next
  dsimp only at hi2 x2 n2 g0 g1 p0 p1 q1 q0 next ⊢
  have ok2 := x2.ok ok0
  by_cases c : i < 2
  case neg =>
    obtain rfl := p0 (by omega)
    obtain rfl := p1 (by omega)
    refine walk ?_
    exact jg_ret2 (by exact hres) rfl
  have w1 := read_w (n := n) (by omega) z img i hi (by omega)
  have hm := pages_len z img i
  have ei : ((i : Nat) : Int) = (i : Int) := rfl
  rcases (by omega : i = 0 ∨ i = 1) with rfl | rfl
  · obtain rfl := q0 rfl
    obtain rfl := q1 (by decide)
    by_cases c1 : (readR z img 0).2 = 0
    case neg =>
      have e : metaR z img 0 = (Mt.zero, false) := by unfold metaR; rw [if_neg fun d => c1 d.1]
      have c1' : ((readR z img 0).2 : Int) ≠ 0 := c1
      refine walk ?_
      refine next (1, (Mt.zero, false), (Mt.zero, false)) (by simp only; omega) (by exact hsub) ⟨by simp only; omega, by exact hext, by simp only [Heap.na, Heap.ns]; omega, by exact hget, by exact hget, fun _ => e.symm, by simp, by simp, by simp⟩
    have bl : (readR z img 0).1.body.length ≤ 1000000 := by
      have m := hm c1
      have := room_le z
      unfold mayF at m; omega
    have w2 := metOf_w (n := n) (by omega) z (readR z img 0).1 bl
    by_cases c2 : (ofM z (readR z img 0).1).2 = 0
    case neg =>
      have e : metaR z img 0 = (Mt.zero, false) := by unfold metaR; rw [if_neg fun d => c2 d.2]
      refine walk ?_
      refine next (1, (Mt.zero, false), (Mt.zero, false)) (by simp only; omega) (by exact hsub) ⟨by simp only; omega, by exact hext, by simp only [Heap.na, Heap.ns]; omega, by exact hget, by exact hget, fun _ => e.symm, by simp, by simp, by simp⟩
    have e : metaR z img 0 = ((ofM z (readR z img 0).1).1, true) := by unfold metaR; rw [if_pos ⟨c1, c2⟩]
    refine walk ?_
    refine next (1, ((ofM z (readR z img 0).1).1, true), (Mt.zero, false)) (by simp only; omega) (by exact hsub) ⟨by simp only; omega, by exact hext, by simp only [Heap.na, Heap.ns]; omega, by exact hget, by exact hget, fun _ => e.symm, by simp, by simp, by simp⟩
  · obtain rfl := p0 (by decide)
    obtain rfl := q1 (by decide)
    by_cases c1 : (readR z img 1).2 = 0
    case neg =>
      have e : metaR z img 1 = (Mt.zero, false) := by unfold metaR; rw [if_neg fun d => c1 d.1]
      have c1' : ((readR z img 1).2 : Int) ≠ 0 := c1
      refine walk ?_
      refine next (2, metaR z img 0, (Mt.zero, false)) (by simp only; omega) (by exact hsub) ⟨by simp only; omega, by exact hext, by simp only [Heap.na, Heap.ns]; omega, by exact hget, by exact hget, fun _ => rfl, fun _ => e.symm, by simp, by simp⟩
    have bl : (readR z img 1).1.body.length ≤ 1000000 := by
      have m := hm c1
      have := room_le z
      unfold mayF at m; omega
    have w2 := metOf_w (n := n) (by omega) z (readR z img 1).1 bl
    by_cases c2 : (ofM z (readR z img 1).1).2 = 0
    case neg =>
      have e : metaR z img 1 = (Mt.zero, false) := by unfold metaR; rw [if_neg fun d => c2 d.2]
      refine walk ?_
      refine next (2, metaR z img 0, (Mt.zero, false)) (by simp only; omega) (by exact hsub) ⟨by simp only; omega, by exact hext, by simp only [Heap.na, Heap.ns]; omega, by exact hget, by exact hget, fun _ => rfl, fun _ => e.symm, by simp, by simp⟩
    have e : metaR z img 1 = ((ofM z (readR z img 1).1).1, true) := by unfold metaR; rw [if_pos ⟨c1, c2⟩]
    refine walk ?_
    refine next (2, metaR z img 0, ((ofM z (readR z img 1).1).1, true)) (by simp only; omega) (by exact hsub) ⟨by simp only; omega, by exact hext, by simp only [Heap.na, Heap.ns]; omega, by exact hget, by exact hget, fun _ => rfl, fun _ => e.symm, by simp, by simp⟩
end Go.Proofs.YtbmdcfehionkpaaGreat
