/- What the functions of this part answer at any input, told by the rules over the evaluator. Conditions: those that each theorem states. -/
import Derived.Test.YtbmdcfehionkpaaGreatRpt
import Derived.Test.YtbmdcfehionkpaaGreatGrt
import Derived.Test.YtbmdcfehionkpaaGreatSca
open Go Ev
namespace Go.Proofs.YtbmdcfehionkpaaGreat
set_option maxRecDepth 10000
set_option linter.unusedVariables false
set_option linter.unusedSimpArgs false
set_option maxHeartbeats 4000000
set_option linter.unusedVariables false
/-! ### ScanMore, the plain side -/
theorem more_facts {z : Int} {img blk : List UInt8} (g : Good z) (hb : (blk.length : Int) = z) :
    pages z (img.take (pages z img * z.toNat) ++ blk) = pages z img + 1 ∧ (∀ q, q < pages z img → atL z (img.take (pages z img * z.toNat) ++ blk) q = atL z img q) ∧ atL z (img.take (pages z img * z.toNat) ++ blk) (pages z img) = blk := by
  have g1 := g.1
  obtain ⟨m, rfl⟩ := Int.eq_ofNat_of_zero_le (show 0 ≤ z by omega)
  have e : pages m img = img.length / m := by unfold pages; rw [if_pos g, Int.toNat_natCast]
  have hm : 0 < m := by omega
  have bl : blk.length = m := by omega
  obtain ⟨N, hN⟩ : ∃ N, N = pages m img := ⟨_, rfl⟩
  have le : N * m ≤ img.length := by rw [hN, e]; exact Nat.div_mul_le_self _ _
  have tl : (img.take (N * m)).length = N * m := by rw [List.length_take]; omega
  rw [← hN, Int.toNat_natCast]
  refine ⟨?_, ?_, ?_⟩
  · have : pages m (img.take (N * m) ++ blk) = (img.take (N * m) ++ blk).length / m := by unfold pages; rw [if_pos g, Int.toNat_natCast]
    rw [this, List.length_append, tl, bl, show N * m + m = (N + 1) * m by rw [Nat.succ_mul], Nat.mul_div_cancel _ hm]
  · intro q hq
    have := Nat.mul_le_mul_right m (show q + 1 ≤ N from hq)
    rw [Nat.succ_mul] at this
    unfold atL
    rw [Int.toNat_natCast]
    refine List.ext_getElem? fun j => ?_
    rw [List.getElem?_take, List.getElem?_take]
    split
    · rw [List.getElem?_drop, List.getElem?_drop, List.getElem?_append_left (by omega), List.getElem?_take_of_lt (by omega)]
    · rfl
  · unfold atL
    rw [Int.toNat_natCast, List.drop_left' tl, List.take_of_length_le (by omega)]
theorem rightP_kind {p : Pg} (r : rightP p) : p.kind = 2 ∨ p.kind = 3 ∨ p.kind = 4 ∨ p.kind = 5 ∨ p.kind = 6 := by
  unfold rightP at r
  omega
theorem max_up (a t : Nat) (m0 m1 : Mt × Bool) : upM (upM (max a t) m0) m1 = max (upM (upM a m0) m1) t := by unfold upM; split <;> split <;> omega
structure MoreS (z : Int) (img img2 : List UInt8) (p : Pg) : Prop where
  pg : pages z img2 = pages z img + 1
  right : rightR z img2 (pages z img) p.kind = if rightP p then (p, true) else (Pg.zero, false)
  scan : scanR z img2 = scanR z img ++ (if rightP p then [⟨pages z img, p.kind, p.tx⟩] else [])
  great : rightP p → greatR z img2 = max (greatR z img) p.tx
theorem more_scan {z : Int} {img : List UInt8} {p : Pg} (m : mayF z p) (hp : p.page = pages z img) (h2 : 2 ≤ pages z img) : MoreS z img (img.take (pages z img * z.toNat) ++ (leb (crcOf (restL p)) 4 ++ restL p)) p := by
  have g := m.1
  have rl := restL_len p
  have er : room z = z - 24 := by unfold room; rw [if_pos g]
  have bl : ((leb (crcOf (restL p)) 4 ++ restL p).length : Int) = z := by
    have := m.2.2.2.2.2.2.2.2
    rw [List.length_append, leb_len]; omega
  have gp := get_put m
  obtain ⟨f1, f2, f3⟩ := more_facts (img := img) g bl
  generalize img.take (pages z img * z.toNat) ++ (leb (crcOf (restL p)) 4 ++ restL p) = img2 at f1 f2 f3 ⊢
  have r1 : ∀ q, q < pages z img → readR z img2 q = readR z img q := fun q hq => by unfold readR; rw [f2 q hq, if_pos g, if_pos g, if_pos (by omega), if_pos hq]
  have r2 : readR z img2 (pages z img) = (p, 0) := by unfold readR; rw [f3, if_pos g, if_pos (by omega), ← hp]; exact gp
  have rr : ∀ k, rightR z img2 (pages z img) k = if p.kind = k ∧ rightP p then (p, true) else (Pg.zero, false) := fun k => by
    unfold rightR
    rw [r2]
    by_cases c : p.kind = k ∧ rightP p
    · rw [if_pos ⟨rfl, c⟩, if_pos c]
    · rw [if_neg fun d => c d.2, if_neg c]
  have s1 : ∀ i, i ≤ pages z img - 2 → scanTo z img2 i = scanTo z img i := fun i => by
    induction i with
    | zero => intro _; rfl
    | succ i ih =>
      intro hi
      rw [scanTo_succ, scanTo_succ, ih (by omega)]
      congr 1
      unfold scanN rtOf rightR
      rw [r1 _ (by omega)]
  have s2 : scanN z img2 (pages z img) 5 = if rightP p then [⟨pages z img, p.kind, p.tx⟩] else [] := by
    have ro : ∀ k, rtOf z img2 (pages z img) k = if p.kind = k ∧ rightP p then [⟨p.page, p.kind, p.tx⟩] else [] := fun k => by
      unfold rtOf
      rw [rr]
      by_cases c : p.kind = k ∧ rightP p
      · rw [if_pos c, if_pos c]; rfl
      · rw [if_neg c, if_neg c]; rfl
    unfold scanN
    have e5 : List.range 5 = [0, 1, 2, 3, 4] := rfl
    rw [e5]
    simp only [ro, List.flatMap_cons, List.flatMap_nil, List.append_nil]
    by_cases c : rightP p
    · rw [if_pos c]
      rcases rightP_kind c with k | k | k | k | k <;> simp [k, c, hp]
    · rw [if_neg c]
      simp [c]
  have sc : scanR z img2 = scanR z img ++ (if rightP p then [⟨pages z img, p.kind, p.tx⟩] else []) := by
    show scanTo z img2 (pages z img2 - 2) = scanTo z img (pages z img - 2) ++ _
    rw [f1, show pages z img + 1 - 2 = (pages z img - 2) + 1 by omega, scanTo_succ, s1 _ (Nat.le_refl _), show 2 + (pages z img - 2) = pages z img by omega, s2]
  refine ⟨f1, ?_, sc, fun c => ?_⟩
  · rw [rr]
    by_cases c : rightP p
    · rw [if_pos ⟨rfl, c⟩, if_pos c]
    · rw [if_neg fun d => c d.2, if_neg c]
  · have m0 : ∀ i, i < 2 → metaR z img2 i = metaR z img i := fun i hi => by unfold metaR; rw [r1 i (by omega)]
    unfold greatR
    rw [sc, if_pos c, gmax_add, m0 0 (by omega), m0 1 (by omega), max_up]
/-! ### ScanMore -/
theorem more_law {n : Nat} (hn : 10 < n) {z : Int} {img : List UInt8} {p : Pg} {h : Heap} (hk : h.ok) (hz : -9223372036854775808 ≤ z ∧ z < 9223372036854775808) (hi : img.length < 9223372036854775808) (hb : p.body.length < 9223372036854775808) : Gives (TV n) 5 [.int .i64 z, .str img, p.av] h (fun v h' => v = .bool true ∧ Ext h h') := by
  refine call_j (no_w rfl rfl) rfl rfl ?_
  have w1 := lives23 (n := n)
  have w2 := light_w (n := n) (by omega) img hi
  have w3 := rpages_w (n := n) (by omega) z img hi
  by_cases c1 : img.length ≤ 5000
  case neg =>
    rw [decide_eq_false c1] at w2
    exact auto
  rw [decide_eq_true c1] at w2
  have pl := pages_le z img
  by_cases c3 : ((pages z img : Nat) : Int) < 2
  case pos => exact auto
  by_cases c4 : (p.body.length : Int) > 5000
  case pos => exact auto
  obtain ⟨p', hp'⟩ : ∃ p' : Pg, p' = ⟨p.kind, p.count, pages z img, p.link, p.tx, p.body⟩ := ⟨_, rfl⟩
  have w4 := rputP_w (n := n) (by omega) z p' (by rw [hp']; show p.body.length < _; omega)
  have e4 : p'.av = .agg [.int .i64 p.kind, .int .i64 p.count, .int .u32 (pages z img), .int .u32 p.link, .int .u64 p.tx, .str p.body] := by rw [hp']; rfl
  rw [e4] at w4
  by_cases c5 : mayF z p'
  case neg =>
    have e : putP z p' = ([], 2) := by unfold putP; rw [if_neg c5]
    rw [e] at w4
    exact auto
  have e : putP z p' = (leb (crcOf (restL p')) 4 ++ restL p', 0) := by unfold putP; rw [if_pos c5]
  rw [e] at w4
  have ms := more_scan (img := img) c5 (by rw [hp']) (by omega)
  have g := c5.1
  have g1 := g.1
  have g2 := g.2.1
  have bl : ((leb (crcOf (restL p')) 4 ++ restL p').length : Int) = z := by
    have q := c5.2.2.2.2.2.2.2.2
    have er : room z = z - 24 := by unfold room; rw [if_pos g]
    rw [List.length_append, leb_len, restL_len]; omega
  generalize leb (crcOf (restL p')) 4 ++ restL p' = blk at w4 ms bl
  obtain ⟨m, rfl⟩ := Int.eq_ofNat_of_zero_le (show 0 ≤ z by omega)
  rw [Int.toNat_natCast] at ms
  have pk : p'.kind = p.kind := by rw [hp']
  have pt : p'.tx = p.tx := by rw [hp']
  have hnm : pages m img * m ≤ img.length := by
    have e : pages m img = img.length / m := by unfold pages; rw [if_pos g, Int.toNat_natCast]
    rw [e]; exact Nat.div_mul_le_self _ _
  have il : (img.take (pages m img * m) ++ blk).length ≤ 10000 := by rw [List.length_append, List.length_take]; omega
  have bc : (img.take (pages m img * m)).length + blk.length ≤ 10000 := by rw [List.length_append] at il; exact il
  have emul : ((pages m img : Nat) : Int) * (m : Int) = ((pages m img * m : Nat) : Int) := by push_cast; rfl
  have eb1 : (0 : Int) ≤ ((pages m img : Nat) : Int) * (m : Int) := by rw [emul]; omega
  have eb2 : ((pages m img : Nat) : Int) * (m : Int) ≤ (img.length : Int) := by rw [emul]; omega
  have et : (((pages m img : Nat) : Int) * (m : Int)).toNat = pages m img * m := by rw [emul, Int.toNat_natCast]
  refine walk ?_
  refine jo_call (scan_g (n := n) (by omega) (z := m) (img := img) (by exact hok) (by omega)) rfl rfl rfl rfl ?_
  rintro w h1 ⟨x1, o1⟩
  have nx1 : h.next + 1 ≤ h1.next := x1.nx
  have k1 : h1.ok := x1.ok (by exact hok)
  have x01 : Ext h h1 := Ext.trans (by exact hext) x1
  have g5 : h1.get h.next = some (.cells 30 [.int .i64 p.kind, .int .i64 p.count, .int .u32 (pages m img), .int .u32 p.link, .int .u64 p.tx, .str p.body] true) := (x1.old _ (by show h.next < h.next + 1; omega)).trans (by exact hget)
  have sll := scanTo_len m img (pages m img - 2)
  have es : scanR m img = scanTo m img (pages m img - 2) := rfl
  rw [← es] at sll
  clear x1
  refine walk ?_
  refine jo_val rfl rfl rfl (k_bin rfl rfl rfl (b_cat (by show (img.take (pages m img * m)).length + blk.length ≤ _; omega)) rfl) ?_
  generalize himg2 : img.take (pages m img * m) ++ blk = img2 at ms il
  refine walk ?_
  refine jo_call (scan_g (n := n) (by omega) (z := m) (img := img2) k1 (by omega)) rfl rfl rfl rfl ?_
  rintro w' h2 ⟨x2, o2⟩
  have nx2 := x2.nx
  have k2 := x2.ok k1
  have g52 := (x2.old _ (by omega)).trans g5
  have x02 := x01.trans x2
  rw [ms.scan, pk, pt] at o2
  have w5 := rRight_w (n := n) (by omega) m img2 (pages m img) p'.kind (by omega) (by omega)
  rw [ms.right, pk] at w5
  refine walk ?_
  refine jg_drawn (q := 19) (ms := [0, 0, 0, 0, 12, 30, 0, 126, 0, 256, 0, 1024, 4095, 8191, 16383, 16383, 0, 98303, 262143]) (hl := [[57, 58, 59, 60, 61, 62, 63, 64, 65, 66, 67, 12], [56, 58, 59, 60, 62, 64, 65, 66, 67, 12], [56, 57, 59, 62, 64, 65, 66, 67, 12], [56, 57, 58, 62, 64, 65, 66, 67, 12], [56, 57, 62, 64, 65, 66, 67, 12], [56, 62, 64, 65, 66, 67, 12], [56, 57, 58, 59, 60, 61, 64, 65, 66, 67, 12], [56, 64, 65, 66, 67, 12], [56, 57, 58, 59, 60, 61, 62, 63, 66, 67, 12], [56, 57, 58, 59, 60, 61, 62, 63, 66, 67, 12], [56, 57, 58, 59, 60, 61, 62, 63, 64, 65, 12], [56, 57, 58, 59, 60, 61, 62, 63, 64, 65, 12], [12], [12], [70, 12], [69, 12], [56, 57, 58, 59, 60, 61, 62, 63, 64, 65, 66, 67, 68, 55, 69, 70], [70], []]) hok rfl (by kernel_rfl) (by kernel_rfl) rfl ?_
  refine walk ?_
  refine jd_val rfl rfl rfl rfl (k_bin rfl rfl rfl (b_cat (by show (img.take (pages m img * m)).length + blk.length ≤ _; omega)) rfl) ?_
  rw [himg2]
  have o1' : OwnLS Rt.cs 37 3 (fun c => h.next + 1 ≤ c ∧ c < h1.next) h1 w (scanR m img) := o1.mono fun c q r => ⟨q, r⟩
  have e5 : (12 : Nat) = 12 := rfl
  clear w1 w2 w3 w4 e4 e
  by_cases c6 : rightP p'
  case neg =>
    rw [if_neg c6, List.append_nil] at o2
    rw [if_neg c6] at w5
    refine walk ?_
    refine GJ.gen [(0, .int .i64 m), (1, .str img), (5, .ptr h.next 0), (7, .int .i64 (pages m img)), (8, .str blk), (10, w), (11, w'), (13, .bool false)] (fun g => Ext h2 g ∧ g.ok) (by exact hsub) ⟨by exact hext, by exact hok⟩ ?_
    rintro g6 ⟨xg, kg⟩
    refine jg_drawn (q := 26) (ms := [0, 0, 3, 7, 15, 31, 63, 127, 127, 127, 127, 1663, 3967, 127, 16255, 32767, 127, 127, 262143, 127, 524415, 2097151, 4194303, 8388607, 16777215, 33554431]) (hl := [[83], [82], [], [], [], [], [], [90, 91, 92, 93, 94, 95, 96, 98, 99, 101, 102], [89, 91, 92, 93, 95, 98, 99, 101, 102], [89, 90, 92, 95, 98, 99, 101, 102], [89, 90, 91, 95, 98, 99, 101, 102], [89, 90, 95, 98, 99, 101, 102], [89, 95, 98, 99, 101, 102], [89, 90, 91, 92, 93, 94, 98, 99, 101, 102], [89, 98, 99, 101, 102], [98, 99, 101, 102], [89, 90, 91, 92, 93, 94, 95, 96, 97, 99, 101, 102], [89, 90, 91, 92, 93, 94, 95, 96, 97, 98, 101, 102], [101, 102], [89, 90, 91, 92, 93, 94, 95, 96, 97, 98, 99, 100], [89, 90, 91, 92, 93, 94, 95, 96, 97, 98, 99, 100], [], [], [], [], []]) hok rfl (by kernel_rfl) (by kernel_rfl) rfl ?_
    refine walk ?_
    refine jd_call (same_g (n := n) (by exact hok) ((o2.ls.ext xg).ext (by exact hext)) (((o1.ls.ext x2).ext xg).ext (by exact hext)) (by omega)) rfl rfl rfl rfl rfl rfl ?_
    rintro _ h4 ⟨rfl, x4⟩
    refine walk ?_
    exact jg_ret1 (by exact hres) ⟨rfl, by exact hext⟩
  rw [if_pos c6] at o2 w5
  have gr := ms.great c6
  rw [pt] at gr
  refine walk ?_
  refine OJ.gen [(0, .int .i64 m), (1, .str img), (5, .ptr h.next 0), (7, .int .i64 (pages m img)), (8, .str blk), (11, w'), (13, .bool true), (72, w), (80, .slice (h2.next + 19) 0 1 1)] (fun g => Ext h2 g ∧ g.ok ∧ h2.next + 19 < g.next ∧ g.get (h2.next + 19) = some (.cells 37 [.int .u32 (pages m img), .int .i64 p.kind, .int .u64 p.tx] true)) (by exact hsub) ⟨by exact hext, by exact hok, by exact hlt, by exact hget⟩ ?_
  rintro g6 ⟨xg, kg, ng, gr6⟩
  have nxg := xg.nx
  obtain ⟨v7, h7, e7, o7, t7⟩ := app_row_s (T := TV n) (st := 34) (rest := [34]) (h := g6) (x := (⟨pages m img, p.kind, p.tx⟩ : Rt)) (o1'.keep (h' := g6) (fun c q hl => (xg.old c (by omega)).trans (x2.old c hl)) (by omega)) gr6 ng (by omega) rfl rfl rfl rfl rfl (by exact Nat.le_of_ble_eq_true rfl) rfl (by decide) rfl
  have n7 := t7.nx
  have k7 := t7.ok kg
  have o2' : OwnLS Rt.cs 37 3 (fun c => h1.next ≤ c ∧ c < h2.next) h7 w' (scanR m img ++ [⟨pages m img, p.kind, p.tx⟩]) := (o2.mono (S' := fun c => h1.next ≤ c ∧ c < h2.next) fun c q r => ⟨q, r⟩).keep (h' := h7) (fun c q hl => (t7.old c (by omega) (by omega)).trans (xg.old c hl)) (by omega)
  have g57 : h7.get h.next = some (.cells 30 [.int .i64 p.kind, .int .i64 p.count, .int .u32 (pages m img), .int .u32 p.link, .int .u64 p.tx, .str p.body] true) := (t7.old _ (by omega) (by omega)).trans ((xg.old _ (by omega)).trans g52)
  have x07 : Ext h h7 := ⟨by have := x02.nx; omega, fun c hc => (t7.old c (by omega) (by omega)).trans ((xg.old c (by omega)).trans (x02.old c hc)), fun _ => k7⟩
  clear x02 x01 xg x2 t7 g52 g5 o1 o2 o1'
  refine walk ?_
  refine GJ.gen [(0, .int .i64 m), (1, .str img), (5, .ptr h.next 0), (7, .int .i64 (pages m img)), (8, .str blk), (10, v7), (11, w'), (13, .bool true)] (fun g => g = h7) (by exact hsub) rfl ?_
  rintro g7 rfl
  refine jg_drawn (q := 26) (ms := [0, 0, 3, 7, 15, 31, 63, 127, 127, 127, 127, 1663, 3967, 127, 16255, 32767, 127, 127, 262143, 127, 524415, 2097151, 4194303, 8388607, 16777215, 33554431]) (hl := [[83], [82], [], [], [], [], [], [90, 91, 92, 93, 94, 95, 96, 98, 99, 101, 102], [89, 91, 92, 93, 95, 98, 99, 101, 102], [89, 90, 92, 95, 98, 99, 101, 102], [89, 90, 91, 95, 98, 99, 101, 102], [89, 90, 95, 98, 99, 101, 102], [89, 95, 98, 99, 101, 102], [89, 90, 91, 92, 93, 94, 98, 99, 101, 102], [89, 98, 99, 101, 102], [98, 99, 101, 102], [89, 90, 91, 92, 93, 94, 95, 96, 97, 99, 101, 102], [89, 90, 91, 92, 93, 94, 95, 96, 97, 98, 101, 102], [101, 102], [89, 90, 91, 92, 93, 94, 95, 96, 97, 98, 99, 100], [89, 90, 91, 92, 93, 94, 95, 96, 97, 98, 99, 100], [], [], [], [], []]) hok rfl (by kernel_rfl) (by kernel_rfl) rfl ?_
  refine walk ?_
  refine jd_call (same_g (n := n) (by exact hok) (o2'.ls.ext (by exact hext)) (o7.ls.ext (by exact hext)) (by rw [List.length_append]; simp; omega)) rfl rfl rfl rfl rfl rfl ?_
  rintro _ h8 ⟨rfl, x8⟩
  have n8 : g7.next + 26 ≤ h8.next := x8.nx
  refine walk ?_
  rw [himg2]
  refine jd_call (great_g (n := n) (by omega) (z := m) (img := img2) (by exact x8.ok (by exact hok)) (by omega)) rfl rfl rfl rfl rfl rfl ?_
  rintro _ h9 ⟨rfl, x9⟩
  have n9 := x9.nx
  refine walk ?_
  refine jd_call (great_g (n := n) (by omega) (z := m) (img := img) (by exact (x8.trans x9).ok (by exact hok)) (by omega)) rfl rfl rfl rfl rfl rfl ?_
  rintro _ h10 ⟨rfl, x10⟩
  have n10 := x10.nx
  have g59 : h10.get h.next = some (.cells 30 [.int .i64 p.kind, .int .i64 p.count, .int .u32 (pages m img), .int .u32 p.link, .int .u64 p.tx, .str p.body] true) := (x10.old _ (by omega)).trans ((x9.old _ (by omega)).trans ((x8.old _ (by show h.next < g7.next + 26; omega)).trans g57))
  refine walk ?_
  refine jg_ret1 (by exact hres) ⟨congrArg AV.bool (decide_eq_true ?_), ((x07.trans (Ext.more (Ext.refl _) k7 26)).trans x8).trans (x9.trans x10)⟩
  show ((greatR m img2 : Nat) : Int) = if (p.tx : Int) > ((greatR m img : Nat) : Int) then (p.tx : Int) else ((greatR m img : Nat) : Int)
  rw [ifmax, gr]
end Go.Proofs.YtbmdcfehionkpaaGreat
