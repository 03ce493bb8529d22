/- What the functions of this part answer at any input, told by the rules over the evaluator. Conditions: those that each theorem states. -/
import Derived.Test.YtbmdcfehionkpaaGreatOct
open Go Ev
namespace Go.Proofs.YtbmdcfehionkpaaGreat
set_option maxRecDepth 10000
set_option linter.unusedVariables false
set_option linter.unusedSimpArgs false
set_option maxHeartbeats 4000000
set_option linter.unusedVariables false
/-! ### the head of a page -/
def widths : List AV := [.int .i64 4, .int .i64 1, .int .i64 1, .int .i64 2, .int .i64 4, .int .i64 4, .int .i64 8]
theorem widths_w {n : Nat} (hn : 0 < n) (h : Heap) : (TV n).sm 157 [] h = some (.agg widths, h) := by
  refine w_of hn rfl rfl rfl fun n hn => body_j rfl rfl ?_
  refine walk ?_
  refine jg_ret1 ?_ rfl
  rfl
def offs : Nat → Nat
  | 0 => 0 | 1 => 4 | 2 => 5 | 3 => 6 | 4 => 8 | 5 => 12 | 6 => 16 | _ => 24
def wid : Nat → Nat
  | 0 => 4 | 1 => 1 | 2 => 1 | 3 => 2 | 4 => 4 | 5 => 4 | _ => 8
def fld (b : List UInt8) (i : Nat) : Nat := le ((b.drop (offs i)).take (wid i))
theorem fld_lt (s : List UInt8) (i : Nat) : fld s i < 256 ^ wid i := by
  refine Nat.lt_of_lt_of_le (le_lt _) (Nat.pow_le_pow_right (by omega) ?_)
  rw [List.length_take]
  omega
def pre7 (b : List UInt8) (i : Nat) : List AV := [.int .u64 (if 0 < i then fld b 0 else 0 : Nat), .int .u64 (if 1 < i then fld b 1 else 0 : Nat), .int .u64 (if 2 < i then fld b 2 else 0 : Nat), .int .u64 (if 3 < i then fld b 3 else 0 : Nat), .int .u64 (if 4 < i then fld b 4 else 0 : Nat), .int .u64 (if 5 < i then fld b 5 else 0 : Nat), .int .u64 (if 6 < i then fld b 6 else 0 : Nat)]
theorem head_gives {n b : Nat} {e : TypeId} {s : List UInt8} {h : Heap} (hn : 0 < n) (r : h.get b = some (.cells e [.str s] true)) (hb : b < h.next) (hl : s.length < 1000000000) (h24 : 24 ≤ s.length) : Gives (TV n) 128 [.ptr b 0] h (fun v h' => v = .agg (pre7 s 7) ∧ h'.get b = some (.cells e [.str (s.drop 24)] true) ∧ h'.next = h.next + 1 ∧ (∀ c, c < h.next → c ≠ b → h'.get c = h.get c) ∧ (h.ok → h'.ok)) := by
  refine call_j (no_w rfl rfl) rfl rfl ?_
  have w1 := widths_w hn
  refine walk ?_
  refine jg_loop (fun i => 7 - i) (fun i => [(0, .ptr b 0), (2, .ptr h.next 0), (7, .agg widths), (8, .int .i64 (i : Nat))]) (fun i h2 => i ≤ 7 ∧ h2.get b = some (.cells e [.str (s.drop (offs i))] true) ∧ h2.get h.next = some (.cells 205 (pre7 s i) true) ∧ h2.next = h.next + 1 ∧ (∀ c, c < h.next → c ≠ b → h2.get c = h.get c) ∧ (h.ok → h2.ok)) 0 hsub ⟨by omega, (Heap.ga _ _ _ (by omega)).trans r, get_new _ _, rfl, fun c hc _ => Heap.ga _ _ _ (by omega), fun k => ok_al k _⟩ ?_
  rintro i h2 ⟨hi7, rd, g2, n2, f2, ok2⟩ next
  by_cases hi : i = 7
  · subst hi
    refine walk ?_
    refine jg_ret1 (results_cell rfl (cell_agg rfl rfl (Heap.gs _ _ _) rfl) rfl) ⟨rfl, (Heap.gn _ _ _ _ (by omega)).trans rd, n2, fun c hc hcb => ?_, fun k => ok_st (ok2 k) _ _ (by omega)⟩
    rw [Heap.gn _ _ _ _ (by omega), f2 c hc hcb]
  · have go := fun L' h4 a1 a2 a3 a4 a5 a6 => next (i + 1) (L' := L') (h' := h4) (by omega) a1 ⟨by omega, a2, a3, a4, a5, a6⟩
    have hc : i = 0 ∨ i = 1 ∨ i = 2 ∨ i = 3 ∨ i = 4 ∨ i = 5 ∨ i = 6 := by omega
    rcases hc with rfl | rfl | rfl | rfl | rfl | rfl | rfl
    all_goals
      refine walk ?_
      refine jo_call (octet_number rd (by simp; omega) (by decide) (by decide)) rfl rfl rfl rfl ?_
      rintro _ _ ⟨rfl, rfl⟩
      unfold nuR rdH
      rw [if_pos (by simp [offs]; omega), if_pos (by simp [offs]; omega)]
      refine walk ?_
      refine go _ _ hsub ?_ ?_ n2 (fun c hc hcb => ?_) (fun k => ok_st (ok_st (ok2 k) _ _ (by omega)) _ _ (by show h.next < h2.next; omega))
      · rw [Heap.gn _ _ _ _ (by omega), Heap.gs, List.drop_drop]; rfl
      · rw [Heap.gs]; rfl
      · rw [Heap.gn _ _ _ _ (by omega), Heap.gn _ _ _ _ hcb, f2 c hc hcb]
/-! ### frame.Get: a fault that is caught -/
def crcOf (s : List UInt8) : Nat := Nat.xor 4294967295 (crcWF 4294967295 s)
def pgOf (s : List UInt8) : Pg := ⟨fld s 1, fld s 3, fld s 4, fld s 5, fld s 6, s.drop 24⟩
def getP (n : Int) (m : Nat) (s : List UInt8) : Prop := mayF n (pgOf s) ∧ fld s 2 = 1 ∧ fld s 4 = m ∧ fld s 0 = crcOf (s.drop 4)
instance (n : Int) (m : Nat) (s : List UInt8) : Decidable (getP n m s) := inferInstanceAs (Decidable (_ ∧ _))
def getR (n : Int) (m : Nat) (s : List UInt8) : Pg × Int := if Good n then if (s.length : Int) = n ∧ getP n m s then (pgOf s, 0) else (Pg.zero, 4) else (Pg.zero, 2)
theorem crc_w {q : Nat} (s : List UInt8) (hl : s.length ≤ 1000000) (h : Heap) : (TV q).sm 131 [.str s] h = some (.int .u32 (crcOf s), h) := by
  refine b_w rfl ?_
  have e : Nat.ble s.length 1000000 = true := Nat.ble_eq.mpr hl
  show crcSm 131 [.str s] h = _
  unfold crcSm
  simp only [e]
  rfl
theorem crcOf_lt (s : List UInt8) : crcOf s < 4294967296 := by
  unfold crcOf
  rw [crcWF_eq]
  exact Nat.xor_lt_two_pow (n := 32) (by omega) (crcW_lt _ crcT_lt _ (by omega) _)
/-- how Get ends -/
theorem get_end {q : Nat} {tm : Tr AV} {L : List (Nat × AV)} {h : Heap} {p : Pg} {x : AV} (hs : Sees tm L) (h6 : Ev.look L 6 = some (.ptr 0 0)) (h7 : Ev.look L 7 = some (.ptr 1 0)) (g6 : h.get 0 = some (.cells 30 p.cs true)) (g7 : h.get 1 = some (.cells 31 [x] true)) {Q : Res → Prop} (c : Q (.ret (.tuple [p.av, x]) h)) :
    Wp (TV q) (.leave 105 tm [.fn (.func 127) [.ptr 0 0, .ptr 1 0] []] none h) Q := by
  refine dcall_j rfl rfl rfl rfl ?_
  refine walk ?_
  refine jo_recover0 rfl rfl rfl rfl rfl ?_
  refine walk ?_
  refine jg_dend ?_
  exact leave_ret (vs := [p.av, x]) hs rfl (results_cell h6 (cell_agg rfl rfl g6 rfl) (results_cell h7 (cell_one rfl rfl g7) rfl)) c
theorem get_fault {q : Nat} {tm : Tr AV} {L : List (Nat × AV)} {h : Heap} {c6 : List AV} {x : AV} (hs : Sees tm L) (h6 : Ev.look L 6 = some (.ptr 0 0)) (h7 : Ev.look L 7 = some (.ptr 1 0)) (g6 : h.get 0 = some (.cells 30 c6 true)) (l6 : c6.length = 6) (g7 : h.get 1 = some (.cells 31 [x] true)) (hn : 2 ≤ h.next) {Q : Res → Prop}
    (c : ∀ h', Q (.ret (.tuple [Pg.zero.av, .int .i64 4]) h')) :
    Wp (TV q) (.leave 105 tm [.fn (.func 127) [.ptr 0 0, .ptr 1 0] []] (some (.iface 203 (.agg []), false)) h) Q := by
  refine dcall_j rfl rfl rfl rfl ?_
  refine walk ?_
  refine jo_recover rfl rfl rfl rfl rfl ?_
  refine walk ?_
  refine jo_skip rfl rfl (k_storeN (n := 6) (cs := c6) (vs := Pg.zero.cs) rfl rfl rfl rfl rfl rfl hget (by omega)) ?_
  rw [over_all c6 _ (by rw [l6]; rfl)]
  refine walk ?_
  refine jg_dend ?_
  exact leave_ret (vs := [Pg.zero.av, .int .i64 4]) hs rfl (results_cell h6 (cell_agg rfl rfl hget rfl) (results_cell h7 (cell_one rfl rfl (Heap.gs _ _ _)) rfl)) (c _)
theorem get_w {n : Nat} (hn : 3 < n) (z : Int) (m : Nat) (s : List UInt8) (hl : s.length < 1000000) (h : Heap) : (TV n).sm 105 [.int .i64 z, .int .u32 m, .str s] h = some (.tuple [(getR z m s).1.av, .int .i64 (getR z m s).2], h) := by
  refine w_of hn rfl rfl rfl fun n hn => body_jl rfl rfl ?_
  have w1 := good_w (n := n) (by omega) z
  refine walk ?_
  refine jo_defer rfl rfl rfl rfl ?_
  refine walk ?_
  by_cases g : Good z
  case neg =>
    have e : getR z m s = (Pg.zero, 2) := by unfold getR; rw [if_neg g]
    rw [e]
    refine walk ?_
    refine jg_fin fun tm hs => ?_
    exact get_end (p := Pg.zero) hs rfl rfl (by exact hget) (by exact hget) ⟨_, _, rfl, rfl⟩
  have g1 := g.1
  have g2 := g.2.1
  by_cases hln : (s.length : Int) = z
  case neg =>
    have e : getR z m s = (Pg.zero, 4) := by unfold getR; rw [if_pos g, if_neg fun c => hln c.1]
    rw [e]
    refine walk ?_
    refine jo_panic rfl rfl fun tm hs => ?_
    exact get_fault hs rfl rfl (by exact hget) rfl (by exact hget) (Nat.le_of_ble_eq_true rfl) fun h' => ⟨_, _, rfl, rfl⟩
  refine walk ?_
  refine jo_call (octet_new s _) rfl rfl rfl rfl ?_
  rintro _ _ ⟨rfl, rfl⟩
  refine walk ?_
  refine jo_call (head_gives (by omega) (by exact hget) (Nat.le_of_ble_eq_true rfl) (by omega) (by omega)) rfl rfl rfl rfl ?_
  rintro _ h3 ⟨rfl, rd, n3, f3, ok3⟩
  have rd : h3.get 2 = some (.cells 209 [.str (s.drop 24)] true) := rd
  have n3 : h3.next = 4 := n3
  have k0 : h3.get 0 = some (.cells 30 Pg.zero.cs true) := (f3 0 (Nat.le_of_ble_eq_true rfl) (by intro e; cases e)).trans rfl
  have k1 : h3.get 1 = some (.cells 31 [.int .i64 0] true) := (f3 1 (Nat.le_of_ble_eq_true rfl) (by intro e; cases e)).trans rfl
  have ok3 : h3.ok := ok3 hok
  clear f3
  have p7 : pre7 s 7 = [.int .u64 (fld s 0), .int .u64 (fld s 1), .int .u64 (fld s 2), .int .u64 (fld s 3), .int .u64 (fld s 4), .int .u64 (fld s 5), .int .u64 (fld s 6)] := rfl
  rw [p7]
  have b0 : fld s 0 < 4294967296 := fld_lt s 0
  have b1 : fld s 1 < 256 := fld_lt s 1
  have b2 : fld s 2 < 256 := fld_lt s 2
  have b3 : fld s 3 < 65536 := fld_lt s 3
  have b4 : fld s 4 < 4294967296 := fld_lt s 4
  have b5 : fld s 5 < 4294967296 := fld_lt s 5
  have b6 : fld s 6 < 18446744073709551616 := fld_lt s 6
  refine walk ?_
  refine jg_drawn (q := 18) (ms := [0, 1, 3, 0, 8, 24, 0, 64, 192, 0, 512, 1536, 0, 4096, 0, 16384, 65535, 131071]) (hl := [[30, 31, 32, 33, 34, 35, 36, 37, 38, 39, 40, 41, 42], [30, 31, 32, 33, 34, 35, 36, 37, 38, 39, 40, 41, 42], [30, 31, 32, 33, 34, 35, 36, 37, 38, 39, 40, 41, 42], [27, 28, 29, 33, 34, 35, 36, 37, 38, 39, 40, 41, 42], [27, 28, 29, 33, 34, 35, 36, 37, 38, 39, 40, 41, 42], [27, 28, 29, 33, 34, 35, 36, 37, 38, 39, 40, 41, 42], [27, 28, 29, 30, 31, 32, 36, 37, 38, 39, 40, 41, 42], [27, 28, 29, 30, 31, 32, 36, 37, 38, 39, 40, 41, 42], [27, 28, 29, 30, 31, 32, 36, 37, 38, 39, 40, 41, 42], [27, 28, 29, 30, 31, 32, 33, 34, 35, 39, 40, 41, 42], [27, 28, 29, 30, 31, 32, 33, 34, 35, 39, 40, 41, 42], [27, 28, 29, 30, 31, 32, 33, 34, 35, 39, 40, 41, 42], [27, 28, 29, 30, 31, 32, 33, 34, 35, 36, 37, 38, 41, 42], [27, 28, 29, 30, 31, 32, 33, 34, 35, 36, 37, 38, 41, 42], [27, 28, 29, 30, 31, 32, 33, 34, 35, 36, 37, 38, 39, 40], [27, 28, 29, 30, 31, 32, 33, 34, 35, 36, 37, 38, 39, 40], [], []]) hok rfl (by kernel_rfl) (by kernel_rfl) rfl ?_
  refine walk ?_
  refine jd_call (octet_rest (by exact hget)) rfl rfl rfl rfl rfl rfl ?_
  rintro _ _ ⟨rfl, rfl⟩
  refine walk ?_
  refine GJ.gen [(6, .ptr 0 0), (7, .ptr 1 0), (9, .ptr h3.next 0), (0, .int .i64 z), (1, .int .u32 m), (2, .str s)] (fun h => h.get 0 = some (.cells 30 (pgOf s).cs true) ∧ h.get 1 = some (.cells 31 [.int .i64 0] true) ∧ h.get h3.next = some (.cells 205 [.int .u64 (fld s 0), .int .u64 (fld s 1), .int .u64 (fld s 2), .int .u64 (fld s 3), .int .u64 (fld s 4), .int .u64 (fld s 5), .int .u64 (fld s 6)] true) ∧ 5 ≤ h.next ∧ h3.next < h.next ∧ h.ok) hsub ⟨by exact hget, by exact hget, by exact hget, by show 5 ≤ h3.next + 1 + 18; omega, by show h3.next < h3.next + 1 + 18; omega, by exact hok⟩ ?_
  rintro h6 ⟨q0, q1, q9, n6, n63, ok6⟩
  clear k0 k1 rd ok3 p7
  have w2 := may_w (n := n) (by omega) z (pgOf s) (by show (s.drop 24).length < _; simp; omega)
  have w3 := crc_w (q := n) (s.drop 4) (by simp; omega)
  have c5 := crcOf_lt (s.drop 4)
  refine jg_drawn (q := 24) (ms := [0, 0, 3, 7, 15, 31, 63, 127, 255, 511, 1023, 2047, 1023, 8191, 16383, 32767, 65535, 131071, 65535, 327679, 851967, 1900543, 4194303, 8388607]) (hl := [[45], [44], [], [], [], [], [], [], [], [], [56], [56], [54, 55], [], [], [], [62, 63, 64, 65], [62, 63, 64, 65], [60, 61], [60, 61], [60, 61], [60, 61], [], []]) hok rfl (by kernel_rfl) (by kernel_rfl) rfl ?_
  by_cases c : getP z m s
  case pos =>
    have e : getR z m s = (pgOf s, 0) := by unfold getR; rw [if_pos g, if_pos ⟨hln, c⟩]
    rw [e]
    obtain ⟨c1, c2, c3, c4⟩ := c
    have c3 : (pgOf s).page = m := c3
    refine walk ?_
    refine jg_fin fun tm hs => ?_
    exact get_end (p := pgOf s) hs rfl rfl (by exact hget) (by exact hget) ⟨_, _, rfl, rfl⟩
  have e : getR z m s = (Pg.zero, 4) := by unfold getR; rw [if_pos g, if_neg fun q => c q.2]
  rw [e]
  by_cases c1 : mayF z (pgOf s)
  · by_cases c2 : fld s 2 = 1
    · by_cases c3 : (pgOf s).page = m
      · have c4 : ¬ fld s 0 = crcOf (s.drop 4) := fun c4 => c ⟨c1, c2, c3, c4⟩
        refine walk ?_
        refine jo_panic rfl rfl fun tm hs => ?_
        exact get_fault hs rfl rfl (by exact hget) rfl (by exact hget) (by show 2 ≤ h6.next + 24; omega) fun h' => ⟨_, _, rfl, rfl⟩
      · refine walk ?_
        refine jo_panic rfl rfl fun tm hs => ?_
        exact get_fault hs rfl rfl (by exact hget) rfl (by exact hget) (by show 2 ≤ h6.next + 24; omega) fun h' => ⟨_, _, rfl, rfl⟩
    · refine walk ?_
      refine jo_panic rfl rfl fun tm hs => ?_
      exact get_fault hs rfl rfl (by exact hget) rfl (by exact hget) (by show 2 ≤ h6.next + 24; omega) fun h' => ⟨_, _, rfl, rfl⟩
  · refine walk ?_
    refine jo_panic rfl rfl fun tm hs => ?_
    exact get_fault hs rfl rfl (by exact hget) rfl (by exact hget) (by show 2 ≤ h6.next + 24; omega) fun h' => ⟨_, _, rfl, rfl⟩
def readR (z : Int) (img : List UInt8) (p : Nat) : Pg × Int := if Good z then if p < pages z img then getR z p (atL z img p) else (Pg.zero, 5) else (Pg.zero, 2)
theorem read_w {n : Nat} (hn : 4 < n) (z : Int) (img : List UInt8) (p : Nat) (hi : img.length < 1000000) (hp : p < 4294967296) (h : Heap) : (TV n).sm 76 [.int .i64 z, .str img, .int .u32 p] h = some (.tuple [(readR z img p).1.av, .int .i64 (readR z img p).2], h) := by
  refine w_of hn rfl rfl rfl fun n hn => body_j rfl rfl ?_
  have w1 := good_w (n := n) (by omega) z
  have w2 := at_w (n := n) (by omega) z img p (by omega) hp
  have w3 := get_w (n := n) (by omega) z p (atL z img p) (by unfold atL; simp; omega)
  unfold readR
  by_cases g : Good z
  case neg => rw [if_neg g]; exact auto
  rw [if_pos g]
  by_cases c : p < pages z img
  · rw [if_pos c] at w2 ⊢
    exact auto
  · rw [if_neg c] at w2 ⊢
    exact auto
end Go.Proofs.YtbmdcfehionkpaaGreat
