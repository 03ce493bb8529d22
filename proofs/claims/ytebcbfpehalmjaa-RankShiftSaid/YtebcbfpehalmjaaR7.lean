/- RankShift's own walk: it answers true at any candidates. Conditions: those that each theorem states. -/
import Derived.Test.YtebcbfpehalmjaaR1
open Go Ev
namespace Go.Proofs.Ytebcbfpehalmjaa
set_option maxRecDepth 10000
set_option linter.unusedVariables false
set_option linter.unusedSimpArgs false
set_option maxHeartbeats 4000000
/-! ### RankShift: the plain law -/
def sh (n : Int) (c : Cnd) : Cnd := ⟨c.page, c.tx + n, c.mt⟩
def al (c : Cnd) : Cnd := ⟨c.page, c.tx, true⟩
theorem compareN_sh (n : Int) (a b : Cnd) : compareN (sh n a) (sh n b) = compareN a b := by
  have e : cmp3 (a.tx + n) (b.tx + n) = cmp3 a.tx b.tx := by
    unfold cmp3
    repeat' split
    all_goals omega
  show or3 (cmp3 (a.tx + n) (b.tx + n)) _ _ = or3 (cmp3 a.tx b.tx) _ _
  rw [e]
  rfl
theorem sortC_sh (n : Int) (l : List Cnd) : sortC (l.map (sh n)) = (sortC l).map (sh n) := by
  unfold sortC
  rw [List.map_mergeSort]
  intro a _ b _
  rw [compareN_sh]
theorem al_next {l : List Cnd} {k : Nat} {x y : Cnd} (hx : (sortC (l.map al))[k]? = some x) (hy : (sortC (l.map al))[k + 1]? = some y) : y.tx ≤ x.tx ∧ (x.tx = y.tx → y.page ≤ x.page) := by
  have h := sortC_next hx hy
  have mem : ∀ {z : Cnd} {i : Nat}, (sortC (l.map al))[i]? = some z → toldN z = 1 := by
    intro z i hz
    have := (sortC_perm _).subset (List.mem_of_getElem? hz)
    rw [List.mem_map] at this
    obtain ⟨c, _, rfl⟩ := this
    rfl
  have mx := mem hx
  have my := mem hy
  have hn := compareN_neg x y
  have := compareN_le (a := y) (b := x)
  have h2 := this.mp (by omega)
  omega
/-! ### helpers -/
theorem row_one {T : Tabs} {h : Heap} {b o m j : Nat} {cs : List AV} {v : AV} (r : Row h b o m cs) (hj : cs[j]? = some v) {ρ : Operand → Option AV} {dst : Option Tmp} {ty : TypeId} {pos : String} {aft : Array Edge} {gd : Option (Nat × Bool)} {t : TypeId} {n : Nat} {a : Operand} (ha : T.agg t = some false) (hsz : T.size t = some n) (hx : ρ a = some (.ptr b (o + j))) :
    opA T ρ ⟨dst, .load t a, ty, pos, aft, gd⟩ h = .val v h := by
  obtain ⟨_, e, all, rw, hg, hl, hc⟩ := r
  refine o_load hx ha hsz hg ?_
  rw [← hc, List.getElem?_take] at hj
  split at hj
  · rw [List.getElem?_drop] at hj; exact hj
  · cases hj
theorem row_keep {h h' : Heap} {b o m : Nat} {cs : List AV} (r : Row h b o m cs) (hn : h.next ≤ h'.next) (hg : h'.get b = h.get b) : Row h' b o m cs := ⟨Nat.lt_of_lt_of_le r.1 hn, by rw [hg]; exact r.2⟩
theorem b_add_u64 {T : Tabs} {t : TypeId} {x y z : Int} (hz : x + y = z) (h1 : 0 ≤ z) (h2 : z < 18446744073709551616) : binA T .add t (.int .u64 x) (.int .u64 y) = some (.int .u64 z) := by
  subst hz
  obtain ⟨n, hn⟩ := Int.eq_ofNat_of_zero_le h1
  have : IntKind.u64.wrap (x + y) = x + y := by
    rw [hn]
    exact wrap_u rfl n (by show n < 18446744073709551616; omega)
  simp only [binA, if_true, intOp, this]
/-- a slice that has grown by append -/
def Gw (h : Heap) (v : AV) (l : List Cnd) (b : Nat) : Prop := (l = [] ∧ v = .nilslice) ∨ (l ≠ [] ∧ v = .oslice b 0 l.length 3 ∧ b < h.next ∧ h.get b = some (.cells 27 (cndCells l) true))
theorem Gw.sl {h : Heap} {v : AV} {l : List Cnd} {b : Nat} (g : Gw h v l b) : Sl h 3 v l.length (cndCells l) := by
  rcases g with ⟨rfl, rfl⟩ | ⟨_, rfl, hb, hg⟩
  · exact ⟨rfl, rfl⟩
  · exact ⟨rfl, rfl, hb, 27, cndCells l, true, hg, by rw [cndCells_len]; omega, by rw [List.drop_zero]; exact List.take_of_length_le (by rw [cndCells_len]; omega)⟩
theorem Gw.keep {h h' : Heap} {v : AV} {l : List Cnd} {b : Nat} (g : Gw h v l b) (hn : h.next ≤ h'.next) (hg : b < h.next → h'.get b = h.get b) : Gw h' v l b := by
  rcases g with ⟨rfl, rfl⟩ | ⟨hne, rfl, hb, hgt⟩
  · exact .inl ⟨rfl, rfl⟩
  · exact .inr ⟨hne, rfl, Nat.lt_of_lt_of_le hb hn, by rw [hg hb]; exact hgt⟩
theorem Gw.ne {h : Heap} {v : AV} {l : List Cnd} {b y : Nat} (g : Gw h v l b) (hy : h.next ≤ y) : y ≠ b ∨ l = [] := by
  rcases g with ⟨rfl, rfl⟩ | ⟨hne, rfl, hb, hgt⟩
  · exact .inr rfl
  · exact .inl (by omega)
theorem gw_append {h : Heap} {v x : AV} {l : List Cnd} {b : Nat} {c : Cnd} (g : Gw h v l b) (hx : Sl h 3 x 1 (cells c)) (hl : l.length ≤ 1000) :
    ∃ h', appendA TD [v, x] [22, 22] h = .val (.oslice h.next 0 (l.length + 1) 3) h' ∧ h'.next = h.next + 1 ∧ Gw h' (.oslice h.next 0 (l.length + 1) 3) (l ++ [c]) h.next ∧ (∀ y, y < h.next → (y ≠ b ∨ l = []) → h'.get y = h.get y) ∧ (h.ok → h'.ok) := by
  have room : roomA (l.length + 1) Try.t27.bytes = true := by
    unfold roomA
    rw [Nat.ble_eq]
    show (4 * (l.length + 1) + 1000) * (24 + 1) ≤ _
    omega
  have cc : cndCells (l ++ [c]) = cndCells l ++ cells c := by
    rw [cndCells_append]
    show _ ++ (cells c ++ []) = _
    rw [List.append_nil]
  rcases g with ⟨rfl, rfl⟩ | ⟨hne, rfl, hb, hg⟩
  · have hcnt : countA TD [22] x = some 1 := by
      have hm : isMake TD [22] = some false := rfl
      unfold countA
      rw [hm]
      cases x <;> first | exact hx.len | (simp only [Sl] at hx)
    have hn : newA TD 27 3 1 h [22] x = some (cells c) := by
      have hm : isMake TD [22] = some false := rfl
      unfold newA
      rw [hm]
      exact hx.first
    have hu : TD.und 22 = some (.slice 27) := rfl
    have hsz : TD.size 27 = some 3 := rfl
    have hti : TD.ti 27 = some Try.t27 := rfl
    have hz : zeroOk TD 27 3 = true := rfl
    have room1 : roomA 1 Try.t27.bytes = true := room
    refine ⟨h.alloc (.cells 27 (cells c) true), ?_, rfl, .inr ⟨by simp, rfl, by show h.next < h.next + 1; omega, by rw [cc]; exact get_new _ _⟩, fun y hy _ => ?_, fun ho => Heap.ok_alloc ho _⟩
    · unfold appendA
      simp only [hu, hsz, lenS, hcnt, hti, hn, firstA]
      simp [room1, hz, cells]
    · rw [Heap.get_alloc, if_neg (by omega)]
  · have hdl : (cndCells l).length = l.length * 3 := cndCells_len l
    have a := append_more (T := TD) (st := 22) (elem := 27) (rest := [22]) (ei := Try.t27) rfl rfl rfl rfl rfl hg hdl (by decide) hx room rfl (by decide)
    refine ⟨_, a, rfl, .inr ⟨by simp, by simp, by show h.next < h.next + 1; omega, by rw [cc]; exact get_new _ _⟩, fun y hy hyb => ?_, fun ho => ?_⟩
    · have hyb : y ≠ b := by
        rcases hyb with k | k
        · exact k
        · exact absurd k hne
      rw [Heap.get_alloc, if_neg (by show ¬ y = h.next; omega), Heap.get_set, if_neg hyb]
    · intro y hy
      have hy : h.next + 1 ≤ y := hy
      rw [Heap.get_alloc, if_neg (by show ¬ y = h.next; omega), Heap.get_set, if_neg (by omega)]
      exact ho y (by omega)
theorem take_map (l : List Cnd) (f : Cnd → Cnd) {i : Nat} {c : Cnd} (h : l[i]? = some c) : (l.take (i + 1)).map f = (l.take i).map f ++ [f c] := by
  rw [List.take_add_one, h]
  simp
/-! ### the walk -/
theorem F4_gives (l : List Cnd) (v : AV) (more : Int) (h : Heap) (hok : h.ok) (hmo : 0 ≤ more) (hx : Sl h 3 v l.length (cndCells l)) (htx : ∀ c ∈ l, 0 ≤ c.tx) (hbig : l.length < 9223372036854775808) : Gives TD 4 [v, .int .u64 more] h (fun v' h' => v' = .bool true ∧ Ext h h') := by
  have ol : ∀ {u : AV} {n : Nat} {cs : List AV} {hu : Heap}, Sl hu 3 u n cs → ∀ {L : List (Nat × AV)} {dst ty pos aft gd x} {hh : Heap}, envL L x = some u → opA TD (envL L) ⟨dst, .call { callee := .builtin .len, args := #[x], argTypes := #[22] }, ty, pos, aft, gd⟩ hh = .val (.int .i64 (n : Int)) hh := by
    intro u n cs hu s L dst ty pos aft gd x hh hx1
    simp only [opA, argMap, hx1, lenA_cnd s, rv]
  have oi : ∀ {L : List (Nat × AV)} {dst ty pos aft gd x y u} {hh : Heap} {n : Int}, envL L x = some (.int .i64 n) → envL L y = some (.int .i64 n) → opA TD (envL L) ⟨dst, .binOp .neq 3 x y u, ty, pos, aft, gd⟩ hh = .val (.bool false) hh := fun hx1 hy1 => o_bin hx1 hy1 (by simp [binA, intOp]) rfl
  refine call_of rfl rfl rfl fun tm hs => ?_
  refine go_seq (go_region ?_)
  refine ops_val hs rfl rfl rfl rfl fun tm hs => ?_
  refine ops_nil (go_seq (go_seq (go_region ?_)))
  refine ops_call hs rfl rfl rfl rfl (F5_gives h hok) ?_
  rintro _ h1 ⟨rfl, e1⟩ tm hs
  refine ops_val hs rfl rfl rfl rfl fun tm hs => ?_
  refine ops_nil (go_if hs rfl (fun hc => ?_) (fun _ => ?_))
  · cases hc
  refine go_skip (go_seq (go_seq (go_region ?_)))
  refine ops_val hs rfl rfl rfl rfl fun tm hs => ?_
  refine ops_val hs rfl rfl (ol hx rfl) rfl fun tm hs => ?_
  by_cases hl60 : l.length ≤ 60
  case neg =>
    refine ops_val hs rfl rfl (o_bin (v := .bool true) rfl rfl (by simp [binA, intOp]; omega) rfl) rfl fun tm hs => ?_
    refine ops_val hs rfl rfl rfl rfl fun tm hs => ?_
    refine ops_no hs rfl rfl rfl fun tm hs => ?_
    refine ops_no hs rfl rfl rfl fun tm hs => ?_
    refine ops_val hs rfl rfl rfl rfl fun tm hs => ?_
    refine ops_nil (go_if hs rfl (fun _ => ?_) (fun hc => by cases hc))
    refine go_seq (go_region ?_)
    refine ops_val hs rfl rfl rfl rfl fun tm hs => ?_
    exact ops_nil (go_ret (ends_ret hs rfl ⟨rfl, e1⟩))
  refine ops_val hs rfl rfl (o_bin (v := .bool false) rfl rfl (by simp [binA, intOp]; omega) rfl) rfl fun tm hs => ?_
  refine ops_val hs rfl rfl rfl rfl fun tm hs => ?_
  refine ops_val hs rfl rfl rfl rfl fun tm hs => ?_
  refine ops_val hs rfl rfl rfl rfl fun tm hs => ?_
  refine ops_val hs rfl rfl rfl rfl fun tm hs => ?_
  refine ops_nil (go_if hs rfl (fun hc => ?_) (fun hm => ?_))
  · refine go_seq (go_region ?_)
    refine ops_val hs rfl rfl rfl rfl fun tm hs => ?_
    exact ops_nil (go_ret (ends_ret hs rfl ⟨rfl, e1⟩))
  have hm : more ≤ 2305843009213693952 := by simpa using hm
  refine go_skip (go_seq (go_region ?_))
  refine ops_val hs rfl rfl rfl rfl fun tm hs => ?_
  refine ops_val hs rfl rfl rfl rfl fun tm hs => ?_
  refine ops_nil (go_seq (go_seq (go_region ?_)))
  refine ops_val hs rfl rfl rfl rfl fun tm hs => ?_
  refine ops_nil (go_block ?_)
  have hn1 := e1.nx
  refine go_loop (fun m st => ∃ (i : Nat) (tm : Tr AV) (h1 : Heap) (v5 v6 : AV) (b5 b6 : Nat), i + m = l.length ∧ st = ⟨tm, [], none, h1⟩ ∧ Ext h h1 ∧ h.next ≤ b5 ∧ h.next ≤ b6 ∧ b5 ≠ b6 ∧ Gw h1 v5 ((l.take i).map (sh more)) b5 ∧ Gw h1 v6 ((l.take i).map al) b6 ∧ (∀ c ∈ l.take i, c.tx ≤ 2305843009213693952) ∧
    Sees tm [(0, v), (1, .int .u64 more), (5, v5), (6, v6), (7, .int .i64 (i : Int))]) (m := l.length)
    ⟨0, _, _, _, _, h1.next, h1.next + 1, by omega, rfl, e1, hn1, by omega, by omega, .inl ⟨rfl, rfl⟩, .inl ⟨rfl, rfl⟩, by simp, hs.cons rfl (hs.cons rfl (hs.cons rfl (hs.cons rfl (hs.cons rfl (Sees.nil _)))))⟩ ?_
  clear hs
  rintro m _ ⟨i, tm, h1, v5, v6, b5, b6, him, rfl, he, hb5, hb6, hb56, g5, g6, htk, hs⟩ next
  refine go_seq (go_seq (go_region ?_))
  refine ops_val hs rfl rfl rfl rfl fun tm hs => ?_
  refine ops_val hs rfl rfl rfl rfl fun tm hs => ?_
  refine ops_val hs rfl rfl (ol hx rfl) rfl fun tm hs => ?_
  refine ops_val hs rfl rfl rfl rfl fun tm hs => ?_
  refine ops_nil (go_if hs rfl (fun hlt => ?_) (fun hge => ?_))
  · have hlt : i < l.length := by simp at hlt; omega
    obtain ⟨c, hci⟩ : ∃ c, l[i]? = some c := ⟨l[i], by simp [hlt]⟩
    have hcl := List.mem_of_getElem? hci
    have hc0 := htx c hcl
    obtain ⟨bi, oi1, ri, ati⟩ := (hx.ext he).at i hlt
    rw [cndCells_at l i c hci] at ri
    refine go_skip (go_seq (go_block (go_seq (go_seq (go_region ?_)))))
    refine ops_val hs rfl rfl rfl rfl fun tm hs => ?_
    refine ops_val hs rfl rfl rfl rfl fun tm hs => ?_
    refine ops_val hs rfl rfl (ati rfl rfl rfl rfl rfl) rfl fun tm hs => ?_
    refine ops_val hs rfl rfl rfl rfl fun tm hs => ?_
    refine ops_val hs rfl rfl (row_one ri (j := 1) rfl rfl rfl rfl) rfl fun tm hs => ?_
    refine ops_val hs rfl rfl rfl rfl fun tm hs => ?_
    refine ops_nil (go_if hs rfl (fun hc => ?_) (fun hc => ?_))
    · refine go_seq (go_region ?_)
      refine ops_val hs rfl rfl rfl rfl fun tm hs => ?_
      exact ops_nil (go_ret (ends_ret hs rfl ⟨rfl, he⟩))
    have hc : c.tx ≤ 2305843009213693952 := by simpa using hc
    refine go_skip (go_seq ?_)
    have hok1 := he.ok hok
    refine go_drawn rfl hok1 ?_
    have eY : Ext h1 { h1 with next := h1.next + 12 } := ⟨Nat.le_add_right _ _, fun _ _ => rfl, fun _ x hb => hok1 x (by have : h1.next + 12 ≤ x := hb; omega)⟩
    have nY : (Heap.mk h1.t (h1.next + 12)).next = h1.next + 12 := rfl
    have kY : ∀ y, (Heap.mk h1.t (h1.next + 12)).get y = h1.get y := fun _ => rfl
    show DG TD _ _ _ h1.next _ _ 0 tm (Heap.mk h1.t (h1.next + 12)) [] _
    generalize (Heap.mk h1.t (h1.next + 12)) = hY at eY nY kY ⊢
    have r2 := row_keep ri (h' := hY) (by omega) (kY _)
    refine dg_val hs rfl rfl rfl rfl rfl fun tmr tm hr0 hs => ?_
    refine dg_val hs rfl rfl rfl rfl rfl fun tmr tm hr1 hs => ?_
    refine dg_val hs rfl rfl rfl rfl (ati rfl rfl rfl rfl rfl) fun tmr tm hr2 hs => ?_
    refine dg_val hs rfl rfl rfl rfl (r2.load rfl rfl rfl) fun tmr tm hr3 hs => ?_
    refine dg_val hs rfl rfl rfl rfl rfl fun tmr tm hr4 hs => ?_
    refine dg_val hs rfl rfl rfl rfl rfl fun tmr tm hr5 hs => ?_
    refine dg_val hs rfl rfl rfl rfl (ati rfl rfl rfl rfl rfl) fun tmr tm hr6 hs => ?_
    refine dg_val hs rfl rfl rfl rfl (r2.load rfl rfl rfl) fun tmr tm hr7 hs => ?_
    refine dg_alloc (a := .cells 27 (cells ⟨0, 0, false⟩) true) hs rfl rfl rfl rfl rfl fun tmr tm hr8 hs => ?_
    refine dg_alloc (a := .cells 27 (cells ⟨0, 0, false⟩) true) hs rfl rfl rfl rfl rfl fun tmr tm hr9 hs => ?_
    refine dg_skip hs rfl rfl rfl (o_storeN (n := 3) (cs := cells ⟨0, 0, false⟩) (e := 27) rfl rfl rfl rfl rfl (by rw [Heap.get_set, if_neg (by omega), Heap.get_set, if_pos rfl]) (Nat.le_refl 3)) fun tmr hr10 => ?_
    refine dg_skip hs rfl rfl rfl (o_storeN (n := 3) (cs := cells ⟨0, 0, false⟩) (e := 27) rfl rfl rfl rfl rfl (by rw [Heap.get_set, if_neg (by omega), Heap.get_set, if_pos rfl]) (Nat.le_refl 3)) fun tmr hr11 => ?_
    refine dg_nil (by repeat' (first | exact trivial | refine And.intro rfl ?_)) rfl ?_ ?_
    · repeat' (first | exact trivial | refine And.intro ?_ ?_)
      all_goals first
        | exact again_of hr0 rfl
        | exact again_of hr1 rfl
        | exact again_of hr4 rfl
        | exact again_of hr5 rfl
        | exact again_of hr2 (ati rfl rfl rfl rfl rfl)
        | exact again_of hr6 (ati rfl rfl rfl rfl rfl)
        | exact again_of hr3 (r2.load rfl rfl rfl)
        | exact again_of hr7 (r2.load rfl rfl rfl)
        | exact again_of hr3 ((row_keep ri (by show _ ≤ hY.next; omega) (by (repeat rw [Heap.get_set, if_neg (by have := ri.1; omega)]); exact kY _)).load rfl rfl rfl)
        | exact again_of hr7 ((row_keep ri (by show _ ≤ hY.next; omega) (by (repeat rw [Heap.get_set, if_neg (by have := ri.1; omega)]); exact kY _)).load rfl rfl rfl)
    have g8 : ((((hY.set (h1.next + 8) (.cells 27 (cells ⟨0, 0, false⟩) true)).set (h1.next + 9) (.cells 27 (cells ⟨0, 0, false⟩) true)).set (h1.next + 8) (.cells 27 (over (cells ⟨0, 0, false⟩) 0 (cells c)) true)).set (h1.next + 9) (.cells 27 (over (cells ⟨0, 0, false⟩) 0 (cells c)) true)).get (h1.next + 8) = some (.cells 27 (cells c) true) := by rw [Heap.get_set, if_neg (by omega), Heap.get_set, if_pos rfl]; rfl
    have g9 : ((((hY.set (h1.next + 8) (.cells 27 (cells ⟨0, 0, false⟩) true)).set (h1.next + 9) (.cells 27 (cells ⟨0, 0, false⟩) true)).set (h1.next + 8) (.cells 27 (over (cells ⟨0, 0, false⟩) 0 (cells c)) true)).set (h1.next + 9) (.cells 27 (over (cells ⟨0, 0, false⟩) 0 (cells c)) true)).get (h1.next + 9) = some (.cells 27 (cells c) true) := by rw [Heap.get_set, if_pos rfl]; rfl
    have hn1 := he.nx
    have e8 : Ext h ((((hY.set (h1.next + 8) (.cells 27 (cells ⟨0, 0, false⟩) true)).set (h1.next + 9) (.cells 27 (cells ⟨0, 0, false⟩) true)).set (h1.next + 8) (.cells 27 (over (cells ⟨0, 0, false⟩) 0 (cells c)) true)).set (h1.next + 9) (.cells 27 (over (cells ⟨0, 0, false⟩) 0 (cells c)) true)) := ((((he.trans eY).setL (by omega) (by omega) _).setL (by omega) (by show _ < hY.next; omega) _).setL (by omega) (by show _ < hY.next; omega) _).setL (by omega) (by show _ < hY.next; omega) _
    have n8 : ((((hY.set (h1.next + 8) (.cells 27 (cells ⟨0, 0, false⟩) true)).set (h1.next + 9) (.cells 27 (cells ⟨0, 0, false⟩) true)).set (h1.next + 8) (.cells 27 (over (cells ⟨0, 0, false⟩) 0 (cells c)) true)).set (h1.next + 9) (.cells 27 (over (cells ⟨0, 0, false⟩) 0 (cells c)) true)).next = h1.next + 12 := nY
    have k8 : ∀ y, y ≠ h1.next + 8 → y ≠ h1.next + 9 → ((((hY.set (h1.next + 8) (.cells 27 (cells ⟨0, 0, false⟩) true)).set (h1.next + 9) (.cells 27 (cells ⟨0, 0, false⟩) true)).set (h1.next + 8) (.cells 27 (over (cells ⟨0, 0, false⟩) 0 (cells c)) true)).set (h1.next + 9) (.cells 27 (over (cells ⟨0, 0, false⟩) 0 (cells c)) true)).get y = h1.get y := fun y p q => by rw [Heap.get_set, if_neg q, Heap.get_set, if_neg p, Heap.get_set, if_neg q, Heap.get_set, if_neg p]; exact kY y
    show Goes TD _ _ ⟨tm, [], none, ((((hY.set (h1.next + 8) (.cells 27 (cells ⟨0, 0, false⟩) true)).set (h1.next + 9) (.cells 27 (cells ⟨0, 0, false⟩) true)).set (h1.next + 8) (.cells 27 (over (cells ⟨0, 0, false⟩) 0 (cells c)) true)).set (h1.next + 9) (.cells 27 (over (cells ⟨0, 0, false⟩) 0 (cells c)) true))⟩ _
    generalize ((((hY.set (h1.next + 8) (.cells 27 (cells ⟨0, 0, false⟩) true)).set (h1.next + 9) (.cells 27 (cells ⟨0, 0, false⟩) true)).set (h1.next + 8) (.cells 27 (over (cells ⟨0, 0, false⟩) 0 (cells c)) true)).set (h1.next + 9) (.cells 27 (over (cells ⟨0, 0, false⟩) 0 (cells c)) true)) = h8 at g8 g9 e8 n8 k8 ⊢
    refine go_seq (go_region ?_)
    refine ops_val hs rfl rfl rfl rfl fun tm hs => ?_
    refine ops_val hs rfl rfl (o_load (v := .int .u64 c.tx) rfl rfl rfl g8 rfl) rfl fun tm hs => ?_
    refine ops_val hs rfl rfl rfl rfl fun tm hs => ?_
    refine ops_val hs rfl rfl (o_bin rfl rfl (b_add_u64 (z := c.tx + more) rfl (by omega) (by omega)) rfl) rfl fun tm hs => ?_
    refine ops_val hs rfl rfl rfl rfl fun tm hs => ?_
    refine ops_skip hs rfl rfl (o_store1 rfl rfl rfl rfl rfl g8 (by show 1 < 3; decide)) ?_
    refine ops_val hs rfl rfl rfl rfl fun tm hs => ?_
    refine ops_skip hs rfl rfl (o_store1 (cs := cells c) (e := 27) rfl rfl rfl rfl rfl (by rw [Heap.get_set, if_neg (by omega)]; exact g9) (by show 2 < 3; decide)) ?_
    have g8' : ((h8.set (h1.next + 8) (.cells 27 ((cells c).set 1 (.int .u64 (c.tx + more))) true)).set (h1.next + 9) (.cells 27 ((cells c).set 2 (.bool true)) true)).get (h1.next + 8) = some (.cells 27 (cells (sh more c)) true) := by rw [Heap.get_set, if_neg (by omega), Heap.get_set, if_pos rfl]; rfl
    have g9' : ((h8.set (h1.next + 8) (.cells 27 ((cells c).set 1 (.int .u64 (c.tx + more))) true)).set (h1.next + 9) (.cells 27 ((cells c).set 2 (.bool true)) true)).get (h1.next + 9) = some (.cells 27 (cells (al c)) true) := by rw [Heap.get_set, if_pos rfl]; rfl
    have e10 : Ext h ((h8.set (h1.next + 8) (.cells 27 ((cells c).set 1 (.int .u64 (c.tx + more))) true)).set (h1.next + 9) (.cells 27 ((cells c).set 2 (.bool true)) true)) := (e8.setL (by omega) (by omega) _).setL (by omega) (by show _ < h8.next; omega) _
    have n10 : ((h8.set (h1.next + 8) (.cells 27 ((cells c).set 1 (.int .u64 (c.tx + more))) true)).set (h1.next + 9) (.cells 27 ((cells c).set 2 (.bool true)) true)).next = h1.next + 12 := n8
    have k10 : ∀ y, y ≠ h1.next + 8 → y ≠ h1.next + 9 → ((h8.set (h1.next + 8) (.cells 27 ((cells c).set 1 (.int .u64 (c.tx + more))) true)).set (h1.next + 9) (.cells 27 ((cells c).set 2 (.bool true)) true)).get y = h1.get y := fun y p q => by rw [Heap.get_set, if_neg q, Heap.get_set, if_neg p]; exact k8 y p q
    refine ops_nil ?_
    show Goes TD _ _ ⟨tm, [], none, ((h8.set (h1.next + 8) (.cells 27 ((cells c).set 1 (.int .u64 (c.tx + more))) true)).set (h1.next + 9) (.cells 27 ((cells c).set 2 (.bool true)) true))⟩ _
    generalize ((h8.set (h1.next + 8) (.cells 27 ((cells c).set 1 (.int .u64 (c.tx + more))) true)).set (h1.next + 9) (.cells 27 ((cells c).set 2 (.bool true)) true)) = hA at g8' g9' e10 n10 k10 ⊢
    have hokA := e10.ok hok
    refine go_drawn rfl hokA ?_
    have eR : Ext hA { hA with next := hA.next + 10 } := ⟨Nat.le_add_right _ _, fun _ _ => rfl, fun _ x hb => hokA x (by have : hA.next + 10 ≤ x := hb; omega)⟩
    have nR : (Heap.mk hA.t (hA.next + 10)).next = hA.next + 10 := rfl
    have kR : ∀ y, (Heap.mk hA.t (hA.next + 10)).get y = hA.get y := fun _ => rfl
    show DG TD _ _ _ hA.next _ _ 0 tm (Heap.mk hA.t (hA.next + 10)) [] _
    generalize (Heap.mk hA.t (hA.next + 10)) = hR at eR nR kR ⊢
    have g8R := (kR (h1.next + 8)).trans g8'
    have g9R := (kR (h1.next + 9)).trans g9'
    refine dg_val hs rfl rfl rfl rfl rfl fun tmr tm hr0 hs => ?_
    refine dg_val hs rfl rfl rfl rfl (o_loadN (n := 3) rfl rfl rfl g8R (Nat.le_refl 3)) fun tmr tm hr1 hs => ?_
    refine dg_alloc (v := .slice (hA.next + 2) 0 1 1) (a := .cells 27 (cells (sh more c)) true) hs rfl rfl rfl rfl rfl fun tmr tm hr2 hs => ?_
    have nB : (hR.set (hA.next + 2) (.cells 27 (cells (sh more c)) true)).next = hA.next + 10 := nR
    have kB : ∀ y, y ≠ hA.next + 2 → (hR.set (hA.next + 2) (.cells 27 (cells (sh more c)) true)).get y = hA.get y := fun y p => by rw [Heap.get_set, if_neg p]; exact kR y
    have gB : (hR.set (hA.next + 2) (.cells 27 (cells (sh more c)) true)).get (hA.next + 2) = some (.cells 27 (cells (sh more c)) true) := by rw [Heap.get_set, if_pos rfl]
    have eB : Ext h (hR.set (hA.next + 2) (.cells 27 (cells (sh more c)) true)) := (e10.trans eR).setL (by omega) (by omega) _
    generalize (hR.set (hA.next + 2) (.cells 27 (cells (sh more c)) true)) = hB at nB kB gB eB ⊢
    have g8B := (kB (h1.next + 8) (by omega)).trans g8'
    have g9B := (kB (h1.next + 9) (by omega)).trans g9'
    have xB : Sl hB 3 (.slice (hA.next + 2) 0 1 1) 1 (cells (sh more c)) := ⟨rfl, by omega, 27, _, true, gB, Nat.le_refl 3, rfl⟩
    have g5B : Gw hB v5 ((l.take i).map (sh more)) b5 := g5.keep (by omega) (fun hb => (kB b5 (by omega)).trans (k10 b5 (by omega) (by omega)))
    obtain ⟨hC, aC, nC, gC, kC, okC⟩ := gw_append g5B xB (by simp; omega)
    refine dg_act hs rfl rfl rfl rfl ((o_append rfl rfl).trans aC) fun tmr tm hr3 hs => ?_
    refine dg_val hs rfl rfl rfl rfl rfl fun tmr tm hr4 hs => ?_
    have g8C := (kC (h1.next + 8) (by omega) (g5.ne (by omega))).trans g8B
    have g9C := (kC (h1.next + 9) (by omega) (g5.ne (by omega))).trans g9B
    have eC : Ext h hC := ⟨by have := eB.nx; omega, fun x hx => (kC x (by have := eB.nx; omega) (.inl (by omega))).trans (eB.old x hx), fun ho => okC (eB.ok ho)⟩
    refine dg_val hs rfl rfl rfl rfl (o_loadN (n := 3) rfl rfl rfl g9C (Nat.le_refl 3)) fun tmr tm hr5 hs => ?_
    refine dg_alloc (v := .slice (hA.next + 6) 0 1 1) (a := .cells 27 (cells (al c)) true) hs rfl rfl rfl rfl rfl fun tmr tm hr6 hs => ?_
    have nD : (hC.set (hA.next + 6) (.cells 27 (cells (al c)) true)).next = hB.next + 1 := nC
    have kD : ∀ y, y ≠ hA.next + 6 → (hC.set (hA.next + 6) (.cells 27 (cells (al c)) true)).get y = hC.get y := fun y p => by rw [Heap.get_set, if_neg p]
    have gD : (hC.set (hA.next + 6) (.cells 27 (cells (al c)) true)).get (hA.next + 6) = some (.cells 27 (cells (al c)) true) := by rw [Heap.get_set, if_pos rfl]
    have eD : Ext h (hC.set (hA.next + 6) (.cells 27 (cells (al c)) true)) := eC.setL (by omega) (by omega) _
    generalize (hC.set (hA.next + 6) (.cells 27 (cells (al c)) true)) = hD at nD kD gD eD ⊢
    have g8D := (kD (h1.next + 8) (by omega)).trans g8C
    have g9D := (kD (h1.next + 9) (by omega)).trans g9C
    have xD : Sl hD 3 (.slice (hA.next + 6) 0 1 1) 1 (cells (al c)) := ⟨rfl, by omega, 27, _, true, gD, Nat.le_refl 3, rfl⟩
    have g6D : Gw hD v6 ((l.take i).map al) b6 := g6.keep (by omega) (fun hb => (kD b6 (by omega)).trans ((kC b6 (by omega) (.inl (Ne.symm hb56))).trans ((kB b6 (by omega)).trans (k10 b6 (by omega) (by omega)))))
    obtain ⟨hE, aE, nE, gE, kE, okE⟩ := gw_append g6D xD (by simp; omega)
    refine dg_act hs rfl rfl rfl rfl ((o_append rfl rfl).trans aE) fun tmr tm hr7 hs => ?_
    have g8E := (kE (h1.next + 8) (by omega) (g6.ne (by omega))).trans g8D
    have g9E := (kE (h1.next + 9) (by omega) (g6.ne (by omega))).trans g9D
    have eE : Ext h hE := ⟨by have := eD.nx; omega, fun x hx => (kE x (by have := eD.nx; omega) (.inl (by omega))).trans (eD.old x hx), fun ho => okE (eD.ok ho)⟩
    refine dg_val hs rfl rfl rfl rfl rfl fun tmr tm hr8 hs => ?_
    refine dg_val hs rfl rfl rfl rfl rfl fun tmr tm hr9 hs => ?_
    refine dg_nil (by repeat' (first | exact trivial | refine And.intro rfl ?_)) rfl ?_ ?_
    · repeat' (first | exact trivial | refine And.intro ?_ ?_)
      all_goals first
        | exact again_of hr0 rfl
        | exact again_of hr4 rfl
        | exact again_of hr8 rfl
        | exact again_of hr9 rfl
        | exact again_of hr1 (o_loadN (n := 3) rfl rfl rfl (by assumption) (Nat.le_refl 3))
        | exact again_of hr5 (o_loadN (n := 3) rfl rfl rfl (by assumption) (Nat.le_refl 3))
    have g5E : Gw hE (.oslice hB.next 0 (((l.take i).map (sh more)).length + 1) 3) ((l.take (i + 1)).map (sh more)) hB.next := by
      rw [take_map l (sh more) hci]
      exact gC.keep (by omega) (fun hb => (kE hB.next (by omega) (g6.ne (by omega))).trans (kD hB.next (by omega)))
    have g6E : Gw hE (.oslice hD.next 0 (((l.take i).map al).length + 1) 3) ((l.take (i + 1)).map al) hD.next := by
      rw [take_map l al hci]
      exact gE
    have htk' : ∀ x ∈ l.take (i + 1), x.tx ≤ 2305843009213693952 := by
      intro x hx
      rw [List.take_add_one, hci] at hx
      rcases List.mem_append.mp hx with k | k
      · exact htk x k
      · have : x = c := by simpa using k
        subst this
        exact hc
    refine go_blk (go_region ?_)
    refine ops_val hs rfl rfl rfl rfl fun tm hs => ?_
    refine ops_val hs rfl rfl (o_bin rfl rfl (b_add_i64 (z := ((i + 1 : Nat) : Int)) (by simp) (by omega) (by omega)) rfl) rfl fun tm hs => ?_
    refine ops_val hs rfl rfl rfl rfl fun tm hs => ?_
    exact ops_nil (next (m - 1) _ (by omega) ⟨i + 1, tm, hE, _, _, hB.next, hD.next, by omega, rfl, eE, by omega, by omega, by omega, g5E, g6E, htk', hs.cons rfl (hs.cons rfl (hs.cons rfl (hs.cons rfl (hs.cons rfl (Sees.nil _)))))⟩)
  · have hge : i = l.length := by simp at hge; omega
    subst hge
    rw [List.take_length] at g5 g6 htk
    refine go_exit rfl (go_seq (go_region ?_))
    refine ops_val hs rfl rfl rfl rfl fun tm hs => ?_
    refine ops_call hs rfl rfl rfl rfl (F7_gives _ l.length (cndCells l) h1 (hx.ext he) (by omega)) ?_
    rintro va0 h2 ⟨xa0, e2⟩ tm hs
    refine ops_call hs rfl rfl rfl rfl (F9_all l va0 h2 xa0 (by omega)) ?_
    rintro va h3 ⟨xa, e3⟩ tm hs
    refine ops_val hs rfl rfl rfl rfl fun tm hs => ?_
    refine ops_call hs rfl rfl rfl rfl (F9_all (l.map (sh more)) v5 h3 ((g5.sl.ext e2).ext e3) (by simp; omega)) ?_
    rintro vb h4 ⟨xb, e4⟩ tm hs
    refine ops_val hs rfl rfl rfl rfl fun tm hs => ?_
    refine ops_call hs rfl rfl rfl rfl (F9_all (l.map al) v6 h4 (((g6.sl.ext e2).ext e3).ext e4) (by simp; omega)) ?_
    rintro vc h5 ⟨xc, e5⟩ tm hs
    refine ops_val hs rfl rfl rfl rfl fun tm hs => ?_
    refine ops_val hs rfl rfl rfl rfl fun tm hs => ?_
    refine ops_val hs rfl rfl rfl rfl fun tm hs => ?_
    have xa5 := (xa.ext e4).ext e5
    have xb5 := xb.ext e5
    have he5 := (((he.trans e2).trans e3).trans e4).trans e5
    rw [List.length_map] at xb5 xc
    rw [sortC_sh] at xb5
    refine ops_nil (go_seq (go_seq (go_region ?_)))
    refine ops_val hs rfl rfl rfl rfl fun tm hs => ?_
    refine ops_val hs rfl rfl (ol xa5 rfl) rfl fun tm hs => ?_
    refine ops_val hs rfl rfl rfl rfl fun tm hs => ?_
    refine ops_val hs rfl rfl (ol hx rfl) rfl fun tm hs => ?_
    refine ops_val hs rfl rfl (oi rfl rfl) rfl fun tm hs => ?_
    refine ops_val hs rfl rfl rfl rfl fun tm hs => ?_
    refine ops_val hs rfl rfl rfl rfl fun tm hs => ?_
    refine ops_val hs rfl rfl (ol xb5 rfl) rfl fun tm hs => ?_
    refine ops_val hs rfl rfl rfl rfl fun tm hs => ?_
    refine ops_val hs rfl rfl (ol hx rfl) rfl fun tm hs => ?_
    refine ops_val hs rfl rfl (oi rfl rfl) rfl fun tm hs => ?_
    refine ops_val hs rfl rfl rfl rfl fun tm hs => ?_
    refine ops_val hs rfl rfl rfl rfl fun tm hs => ?_
    refine ops_val hs rfl rfl rfl rfl fun tm hs => ?_
    refine ops_val hs rfl rfl (ol xc rfl) rfl fun tm hs => ?_
    refine ops_val hs rfl rfl rfl rfl fun tm hs => ?_
    refine ops_val hs rfl rfl (ol hx rfl) rfl fun tm hs => ?_
    refine ops_val hs rfl rfl (oi rfl rfl) rfl fun tm hs => ?_
    refine ops_val hs rfl rfl rfl rfl fun tm hs => ?_
    refine ops_nil (go_if hs rfl (fun hc => by cases hc) (fun _ => ?_))
    refine go_skip (go_seq (go_seq (go_region ?_)))
    refine ops_val hs rfl rfl rfl rfl fun tm hs => ?_
    refine ops_nil (go_block ?_)
    refine go_loop (fun m st => ∃ (i : Nat) (tm : Tr AV) (h1 : Heap), i + m = l.length ∧ st = ⟨tm, [], none, h1⟩ ∧ Ext h h1 ∧ Sl h1 3 va l.length (cndCells (sortC l)) ∧ Sl h1 3 vb l.length (cndCells ((sortC l).map (sh more))) ∧ Sl h1 3 vc l.length (cndCells (sortC (l.map al))) ∧
      Sees tm [(0, v), (1, .int .u64 more), (10, va), (11, vb), (12, vc), (13, .int .i64 (i : Int))]) (m := l.length)
      ⟨0, _, _, by omega, rfl, he5, xa5, xb5, xc, hs.cons rfl (hs.cons rfl (hs.cons rfl (hs.cons rfl (hs.cons rfl (hs.cons rfl (Sees.nil _))))))⟩ ?_
    clear hs
    rintro m _ ⟨i, tm, h1, him, rfl, he, hva, hvb, hvc, hs⟩ next
    refine go_seq (go_seq (go_region ?_))
    refine ops_val hs rfl rfl rfl rfl fun tm hs => ?_
    refine ops_val hs rfl rfl rfl rfl fun tm hs => ?_
    refine ops_val hs rfl rfl (ol hx rfl) rfl fun tm hs => ?_
    refine ops_val hs rfl rfl rfl rfl fun tm hs => ?_
    refine ops_nil (go_if hs rfl (fun hlt => ?_) (fun hge => ?_))
    · have hlt : i < l.length := by simp at hlt; omega
      obtain ⟨x, hxi⟩ : ∃ x, (sortC l)[i]? = some x := ⟨(sortC l)[i]'(by rw [sortC_len]; exact hlt), by simp [sortC_len, hlt]⟩
      have hxl : x ∈ l := (sortC_perm l).subset (List.mem_of_getElem? hxi)
      have hx1 := htx x hxl
      have hx2 := htk x hxl
      obtain ⟨bi, oi1, ri, ati⟩ := hva.at i hlt
      rw [cndCells_at (sortC l) i x hxi] at ri
      refine go_skip (go_seq (go_block (go_seq (go_region ?_))))
      refine ops_val hs rfl rfl rfl rfl fun tm hs => ?_
      refine ops_val hs rfl rfl rfl rfl fun tm hs => ?_
      refine ops_val hs rfl rfl (ati rfl rfl rfl rfl rfl) rfl fun tm hs => ?_
      refine ops_val hs rfl rfl (ri.load rfl rfl rfl) rfl fun tm hs => ?_
      refine ops_val (h' := h1.alloc (.cells 27 (cells ⟨0, 0, false⟩) true)) hs rfl rfl rfl rfl fun tm hs => ?_
      refine ops_skip hs rfl rfl (o_storeN (n := 3) rfl rfl rfl rfl rfl (get_new _ _) (Nat.le_refl 3)) ?_
      have g2 : ((h1.alloc (.cells 27 (cells ⟨0, 0, false⟩) true)).set h1.next (.cells 27 (over (cells ⟨0, 0, false⟩) 0 (cells x)) true)).get h1.next = some (.cells 27 (cells x) true) := by rw [Heap.get_set, if_pos rfl]; rfl
      have e2 : Ext h1 ((h1.alloc (.cells 27 (cells ⟨0, 0, false⟩) true)).set h1.next (.cells 27 (over (cells ⟨0, 0, false⟩) 0 (cells x)) true)) := (Ext.alloc _ _).setL (Nat.le_refl _) (by show h1.next < h1.next + 1; omega) _
      have n2 : ((h1.alloc (.cells 27 (cells ⟨0, 0, false⟩) true)).set h1.next (.cells 27 (over (cells ⟨0, 0, false⟩) 0 (cells x)) true)).next = h1.next + 1 := rfl
      refine ops_nil ?_
      show Goes TD _ _ ⟨tm, [], none, ((h1.alloc (.cells 27 (cells ⟨0, 0, false⟩) true)).set h1.next (.cells 27 (over (cells ⟨0, 0, false⟩) 0 (cells x)) true))⟩ _
      generalize ((h1.alloc (.cells 27 (cells ⟨0, 0, false⟩) true)).set h1.next (.cells 27 (over (cells ⟨0, 0, false⟩) 0 (cells x)) true)) = h2 at g2 e2 n2 ⊢
      refine go_seq (go_region ?_)
      refine ops_val hs rfl rfl rfl rfl fun tm hs => ?_
      refine ops_val hs rfl rfl (o_load (v := .int .u64 x.tx) rfl rfl rfl g2 rfl) rfl fun tm hs => ?_
      refine ops_val hs rfl rfl rfl rfl fun tm hs => ?_
      refine ops_val hs rfl rfl (o_bin rfl rfl (b_add_u64 (z := x.tx + more) rfl (by omega) (by omega)) rfl) rfl fun tm hs => ?_
      refine ops_val hs rfl rfl rfl rfl fun tm hs => ?_
      refine ops_skip hs rfl rfl (o_store1 rfl rfl rfl rfl rfl g2 (by show 1 < 3; decide)) ?_
      have g3 : (h2.set h1.next (.cells 27 ((cells x).set 1 (.int .u64 (x.tx + more))) true)).get h1.next = some (.cells 27 (cells (sh more x)) true) := by rw [Heap.get_set, if_pos rfl]; rfl
      have e3 : Ext h1 (h2.set h1.next (.cells 27 ((cells x).set 1 (.int .u64 (x.tx + more))) true)) := e2.setL (Nat.le_refl _) (by omega) _
      refine ops_nil ?_
      show Goes TD _ _ ⟨tm, [], none, (h2.set h1.next (.cells 27 ((cells x).set 1 (.int .u64 (x.tx + more))) true))⟩ _
      generalize (h2.set h1.next (.cells 27 ((cells x).set 1 (.int .u64 (x.tx + more))) true)) = h3 at g3 e3 ⊢
      refine go_seq ?_
      refine go_join (fun st => ∃ (tm : Tr AV) (h3 : Heap), st = ⟨tm, [], none, h3⟩ ∧ Ext h h3 ∧ Sl h3 3 va l.length (cndCells (sortC l)) ∧ Sl h3 3 vb l.length (cndCells ((sortC l).map (sh more))) ∧ Sl h3 3 vc l.length (cndCells (sortC (l.map al))) ∧
        Sees tm [(0, v), (1, .int .u64 more), (10, va), (11, vb), (12, vc), (13, .int .i64 (i : Int)), (150, .bool false)]) ?_ fun rest => ?_
      · rintro _ ⟨tm, h4, rfl, he4, hva4, hvb4, hvc4, hs⟩
        refine go_if hs rfl (fun hc => by cases hc) (fun _ => ?_)
        refine go_skip (go_blk (go_region ?_))
        refine ops_val hs rfl rfl rfl rfl fun tm hs => ?_
        refine ops_val hs rfl rfl (o_bin rfl rfl (b_add_i64 (z := ((i + 1 : Nat) : Int)) (by simp) (by omega) (by omega)) rfl) rfl fun tm hs => ?_
        refine ops_val hs rfl rfl rfl rfl fun tm hs => ?_
        exact ops_nil (next (m - 1) _ (by omega) ⟨i + 1, tm, h4, by omega, rfl, he4, hva4, hvb4, hvc4, hs.cons rfl (hs.cons rfl (hs.cons rfl (hs.cons rfl (hs.cons rfl (hs.cons rfl (Sees.nil _))))))⟩)
      have he3 := he.trans e3
      have hok3 := he3.ok hok
      refine go_drawn rfl hok3 ?_
      have eX : Ext h3 { h3 with next := h3.next + 52 } := ⟨Nat.le_add_right _ _, fun _ _ => rfl, fun _ x hb => hok3 x (by have : h3.next + 52 ≤ x := hb; omega)⟩
      have gx : Heap.get { h3 with next := h3.next + 52 } h1.next = some (.cells 27 (cells (sh more x)) true) := g3
      show DG TD _ _ _ h3.next _ _ 0 tm (Heap.mk h3.t (h3.next + 52)) [] _
      generalize (Heap.mk h3.t (h3.next + 52)) = hX at eX gx ⊢
      have hXe := he3.trans eX
      have hvaX := (hva.ext e3).ext eX
      have hvbX := (hvb.ext e3).ext eX
      have hvcX := (hvc.ext e3).ext eX
      obtain ⟨bb, ob, rb, atb⟩ := hvbX.at i hlt
      rw [cndCells_at _ i (sh more x) (by rw [List.getElem?_map, hxi]; rfl)] at rb
      cases i with
      | zero =>
        refine dg_val hs rfl rfl rfl rfl (o_loadN (n := 3) rfl rfl rfl gx (Nat.le_refl 3)) fun tmr tm hr0 hs => ?_
        refine dg_val hs rfl rfl rfl rfl rfl fun tmr tm hr1 hs => ?_
        refine dg_val hs rfl rfl rfl rfl rfl fun tmr tm hr2 hs => ?_
        refine dg_val hs rfl rfl rfl rfl (atb rfl rfl rfl rfl rfl) fun tmr tm hr3 hs => ?_
        refine dg_val hs rfl rfl rfl rfl (rb.load rfl rfl rfl) fun tmr tm hr4 hs => ?_
        refine dg_val hs rfl rfl rfl rfl (o_bin rfl rfl (neq_cnd _) rfl) fun tmr tm hr5 hs => ?_
        refine dg_val hs rfl rfl rfl rfl rfl fun tmr tm hr6 hs => ?_
        refine dg_val hs rfl rfl rfl rfl rfl fun tmr tm hr7 hs => ?_
        refine dg_val hs rfl rfl rfl rfl rfl fun tmr tm hr8 hs => ?_
        refine dg_val hs rfl rfl rfl rfl rfl fun tmr tm hr9 hs => ?_
        refine dg_no hs rfl rfl rfl fun tmr tm _ hs => ?_
        refine dg_no hs rfl rfl rfl fun tmr tm _ hs => ?_
        refine dg_no hs rfl rfl rfl fun tmr tm _ hs => ?_
        refine dg_no hs rfl rfl rfl fun tmr tm _ hs => ?_
        refine dg_no hs rfl rfl rfl fun tmr tm _ hs => ?_
        refine dg_no hs rfl rfl rfl fun tmr tm _ hs => ?_
        refine dg_no hs rfl rfl rfl fun tmr tm _ hs => ?_
        refine dg_no hs rfl rfl rfl fun tmr tm _ hs => ?_
        refine dg_no hs rfl rfl rfl fun tmr tm _ hs => ?_
        refine dg_no hs rfl rfl rfl fun tmr tm _ hs => ?_
        refine dg_no hs rfl rfl rfl fun tmr tm _ hs => ?_
        refine dg_no hs rfl rfl rfl fun tmr tm _ hs => ?_
        refine dg_no hs rfl rfl rfl fun tmr tm _ hs => ?_
        refine dg_no hs rfl rfl rfl fun tmr tm _ hs => ?_
        refine dg_no hs rfl rfl rfl fun tmr tm _ hs => ?_
        refine dg_no hs rfl rfl rfl fun tmr tm _ hs => ?_
        refine dg_no hs rfl rfl rfl fun tmr tm _ hs => ?_
        refine dg_no hs rfl rfl rfl fun tmr tm _ hs => ?_
        refine dg_no hs rfl rfl rfl fun tmr tm _ hs => ?_
        refine dg_no hs rfl rfl rfl fun tmr tm _ hs => ?_
        refine dg_no hs rfl rfl rfl fun tmr tm _ hs => ?_
        refine dg_no hs rfl rfl rfl fun tmr tm _ hs => ?_
        refine dg_no hs rfl rfl rfl fun tmr tm _ hs => ?_
        refine dg_no hs rfl rfl rfl fun tmr tm _ hs => ?_
        refine dg_no hs rfl rfl rfl fun tmr tm _ hs => ?_
        refine dg_no hs rfl rfl rfl fun tmr tm _ hs => ?_
        refine dg_no hs rfl rfl rfl fun tmr tm _ hs => ?_
        refine dg_no hs rfl rfl rfl fun tmr tm _ hs => ?_
        refine dg_no hs rfl rfl rfl fun tmr tm _ hs => ?_
        refine dg_no hs rfl rfl rfl fun tmr tm _ hs => ?_
        refine dg_no hs rfl rfl rfl fun tmr tm _ hs => ?_
        refine dg_no hs rfl rfl rfl fun tmr tm _ hs => ?_
        refine dg_no hs rfl rfl rfl fun tmr tm _ hs => ?_
        refine dg_no hs rfl rfl rfl fun tmr tm _ hs => ?_
        refine dg_no hs rfl rfl rfl fun tmr tm _ hs => ?_
        refine dg_no hs rfl rfl rfl fun tmr tm _ hs => ?_
        refine dg_no hs rfl rfl rfl fun tmr tm _ hs => ?_
        refine dg_no hs rfl rfl rfl fun tmr tm _ hs => ?_
        refine dg_no hs rfl rfl rfl fun tmr tm _ hs => ?_
        refine dg_no hs rfl rfl rfl fun tmr tm _ hs => ?_
        refine dg_val hs rfl rfl rfl rfl rfl fun tmr tm hr50 hs => ?_
        refine dg_val hs rfl rfl rfl rfl rfl fun tmr tm hr51 hs => ?_
        refine dg_nil (by repeat' (first | exact trivial | refine And.intro rfl ?_)) rfl ?_ ?_
        · repeat' (first | exact trivial | refine And.intro ?_ ?_)
          all_goals first
            | exact again_of hr0 (o_loadN (n := 3) rfl rfl rfl gx (Nat.le_refl 3))
            | exact again_of hr1 rfl
            | exact again_of hr2 rfl
            | exact again_of hr3 (atb rfl rfl rfl rfl rfl)
            | exact again_of hr4 (rb.load rfl rfl rfl)
            | exact again_of hr5 (o_bin rfl rfl (neq_cnd _) rfl)
            | exact again_of hr6 rfl
            | exact again_of hr7 rfl
            | exact again_of hr8 rfl
            | exact again_of hr9 rfl
            | exact again_of hr50 rfl
            | exact again_of hr51 rfl
        exact rest _ ⟨tm, hX, rfl, hXe, hvaX, hvbX, hvcX, hs.cons rfl (hs.cons rfl (hs.cons rfl (hs.cons rfl (hs.cons rfl (hs.cons rfl (hs.cons rfl (Sees.nil _)))))))⟩
      | succ k =>
        have hlc : (sortC (l.map al)).length = l.length := by rw [sortC_len, List.length_map]
        obtain ⟨xk, exk⟩ : ∃ x, (sortC (l.map al))[k]? = some x := ⟨(sortC (l.map al))[k]'(by omega), by simp [hlc, Nat.lt_of_succ_lt hlt]⟩
        obtain ⟨yk, eyk⟩ : ∃ x, (sortC (l.map al))[k + 1]? = some x := ⟨(sortC (l.map al))[k + 1]'(by omega), by simp [hlc, hlt]⟩
        obtain ⟨bk, ok, rk, atk⟩ := hvcX.at k (by omega)
        obtain ⟨bk1, ok1, rk1, atk1⟩ := hvcX.at (k + 1) hlt
        rw [cndCells_at _ _ _ exk] at rk
        rw [cndCells_at _ _ _ eyk] at rk1
        obtain ⟨hn1, hn2⟩ := al_next exk eyk
        by_cases heq : xk.tx = yk.tx
        · have hn3 := hn2 heq
          refine dg_val hs rfl rfl rfl rfl (o_loadN (n := 3) rfl rfl rfl gx (Nat.le_refl 3)) fun tmr tm hr0 hs => ?_
          refine dg_val hs rfl rfl rfl rfl rfl fun tmr tm hr1 hs => ?_
          refine dg_val hs rfl rfl rfl rfl rfl fun tmr tm hr2 hs => ?_
          refine dg_val hs rfl rfl rfl rfl (atb rfl rfl rfl rfl rfl) fun tmr tm hr3 hs => ?_
          refine dg_val hs rfl rfl rfl rfl (rb.load rfl rfl rfl) fun tmr tm hr4 hs => ?_
          refine dg_val hs rfl rfl rfl rfl (o_bin rfl rfl (neq_cnd _) rfl) fun tmr tm hr5 hs => ?_
          refine dg_val hs rfl rfl rfl rfl rfl fun tmr tm hr6 hs => ?_
          refine dg_val hs rfl rfl rfl rfl rfl fun tmr tm hr7 hs => ?_
          refine dg_val hs rfl rfl rfl rfl (o_bin (v := .bool true) rfl rfl (by simp [binA, intOp]) rfl) fun tmr tm hr8 hs => ?_
          refine dg_val hs rfl rfl rfl rfl rfl fun tmr tm hr9 hs => ?_
          refine dg_val hs rfl rfl rfl rfl rfl fun tmr tm hr10 hs => ?_
          refine dg_val hs rfl rfl rfl rfl rfl fun tmr tm hr11 hs => ?_
          refine dg_val hs rfl rfl rfl rfl (o_bin rfl rfl (b_sub_i64 (z := ((k : Nat) : Int)) (by omega) (by omega) (by omega)) rfl) fun tmr tm hr12 hs => ?_
          refine dg_val hs rfl rfl rfl rfl (atk rfl rfl rfl rfl rfl) fun tmr tm hr13 hs => ?_
          refine dg_val hs rfl rfl rfl rfl rfl fun tmr tm hr14 hs => ?_
          refine dg_val hs rfl rfl rfl rfl (row_one rk (j := 1) rfl rfl rfl rfl) fun tmr tm hr15 hs => ?_
          refine dg_val hs rfl rfl rfl rfl rfl fun tmr tm hr16 hs => ?_
          refine dg_val hs rfl rfl rfl rfl rfl fun tmr tm hr17 hs => ?_
          refine dg_val hs rfl rfl rfl rfl (atk1 rfl rfl rfl rfl rfl) fun tmr tm hr18 hs => ?_
          refine dg_val hs rfl rfl rfl rfl rfl fun tmr tm hr19 hs => ?_
          refine dg_val hs rfl rfl rfl rfl (row_one rk1 (j := 1) rfl rfl rfl rfl) fun tmr tm hr20 hs => ?_
          refine dg_val hs rfl rfl rfl rfl (o_bin (v := .bool false) rfl rfl (by simp [binA, intOp]; omega) rfl) fun tmr tm hr21 hs => ?_
          refine dg_val hs rfl rfl rfl rfl rfl fun tmr tm hr22 hs => ?_
          refine dg_val hs rfl rfl rfl rfl rfl fun tmr tm hr23 hs => ?_
          refine dg_val hs rfl rfl rfl rfl rfl fun tmr tm hr24 hs => ?_
          refine dg_val hs rfl rfl rfl rfl (o_bin rfl rfl (b_sub_i64 (z := ((k : Nat) : Int)) (by omega) (by omega) (by omega)) rfl) fun tmr tm hr25 hs => ?_
          refine dg_val hs rfl rfl rfl rfl (atk rfl rfl rfl rfl rfl) fun tmr tm hr26 hs => ?_
          refine dg_val hs rfl rfl rfl rfl rfl fun tmr tm hr27 hs => ?_
          refine dg_val hs rfl rfl rfl rfl (row_one rk (j := 1) rfl rfl rfl rfl) fun tmr tm hr28 hs => ?_
          refine dg_val hs rfl rfl rfl rfl rfl fun tmr tm hr29 hs => ?_
          refine dg_val hs rfl rfl rfl rfl rfl fun tmr tm hr30 hs => ?_
          refine dg_val hs rfl rfl rfl rfl (atk1 rfl rfl rfl rfl rfl) fun tmr tm hr31 hs => ?_
          refine dg_val hs rfl rfl rfl rfl rfl fun tmr tm hr32 hs => ?_
          refine dg_val hs rfl rfl rfl rfl (row_one rk1 (j := 1) rfl rfl rfl rfl) fun tmr tm hr33 hs => ?_
          refine dg_val hs rfl rfl rfl rfl (o_bin (v := .bool true) rfl rfl (by simp [binA, intOp]; omega) rfl) fun tmr tm hr34 hs => ?_
          refine dg_val hs rfl rfl rfl rfl rfl fun tmr tm hr35 hs => ?_
          refine dg_val hs rfl rfl rfl rfl rfl fun tmr tm hr36 hs => ?_
          refine dg_val hs rfl rfl rfl rfl rfl fun tmr tm hr37 hs => ?_
          refine dg_val hs rfl rfl rfl rfl (o_bin rfl rfl (b_sub_i64 (z := ((k : Nat) : Int)) (by omega) (by omega) (by omega)) rfl) fun tmr tm hr38 hs => ?_
          refine dg_val hs rfl rfl rfl rfl (atk rfl rfl rfl rfl rfl) fun tmr tm hr39 hs => ?_
          refine dg_val hs rfl rfl rfl rfl rfl fun tmr tm hr40 hs => ?_
          refine dg_val hs rfl rfl rfl rfl (row_one rk (j := 0) rfl rfl rfl rfl) fun tmr tm hr41 hs => ?_
          refine dg_val hs rfl rfl rfl rfl rfl fun tmr tm hr42 hs => ?_
          refine dg_val hs rfl rfl rfl rfl rfl fun tmr tm hr43 hs => ?_
          refine dg_val hs rfl rfl rfl rfl (atk1 rfl rfl rfl rfl rfl) fun tmr tm hr44 hs => ?_
          refine dg_val hs rfl rfl rfl rfl rfl fun tmr tm hr45 hs => ?_
          refine dg_val hs rfl rfl rfl rfl (row_one rk1 (j := 0) rfl rfl rfl rfl) fun tmr tm hr46 hs => ?_
          refine dg_val hs rfl rfl rfl rfl (o_bin (v := .bool false) rfl rfl (by simp [binA, intOp]; omega) rfl) fun tmr tm hr47 hs => ?_
          refine dg_val hs rfl rfl rfl rfl rfl fun tmr tm hr48 hs => ?_
          refine dg_val hs rfl rfl rfl rfl rfl fun tmr tm hr49 hs => ?_
          refine dg_val hs rfl rfl rfl rfl rfl fun tmr tm hr50 hs => ?_
          refine dg_val hs rfl rfl rfl rfl rfl fun tmr tm hr51 hs => ?_
          refine dg_nil (by repeat' (first | exact trivial | refine And.intro rfl ?_)) rfl ?_ ?_
          · repeat' (first | exact trivial | refine And.intro ?_ ?_)
            all_goals first
              | exact again_of hr0 (o_loadN (n := 3) rfl rfl rfl gx (Nat.le_refl 3))
              | exact again_of hr1 rfl
              | exact again_of hr2 rfl
              | exact again_of hr3 (atb rfl rfl rfl rfl rfl)
              | exact again_of hr4 (rb.load rfl rfl rfl)
              | exact again_of hr5 (o_bin rfl rfl (neq_cnd _) rfl)
              | exact again_of hr6 rfl
              | exact again_of hr7 rfl
              | exact again_of hr8 (o_bin (v := .bool true) rfl rfl (by simp [binA, intOp]) rfl)
              | exact again_of hr9 rfl
              | exact again_of hr10 rfl
              | exact again_of hr11 rfl
              | exact again_of hr12 (o_bin rfl rfl (b_sub_i64 (z := ((k : Nat) : Int)) (by omega) (by omega) (by omega)) rfl)
              | exact again_of hr13 (atk rfl rfl rfl rfl rfl)
              | exact again_of hr14 rfl
              | exact again_of hr15 (row_one rk (j := 1) rfl rfl rfl rfl)
              | exact again_of hr16 rfl
              | exact again_of hr17 rfl
              | exact again_of hr18 (atk1 rfl rfl rfl rfl rfl)
              | exact again_of hr19 rfl
              | exact again_of hr20 (row_one rk1 (j := 1) rfl rfl rfl rfl)
              | exact again_of hr21 (o_bin (v := .bool false) rfl rfl (by simp [binA, intOp]; omega) rfl)
              | exact again_of hr22 rfl
              | exact again_of hr23 rfl
              | exact again_of hr24 rfl
              | exact again_of hr25 (o_bin rfl rfl (b_sub_i64 (z := ((k : Nat) : Int)) (by omega) (by omega) (by omega)) rfl)
              | exact again_of hr26 (atk rfl rfl rfl rfl rfl)
              | exact again_of hr27 rfl
              | exact again_of hr28 (row_one rk (j := 1) rfl rfl rfl rfl)
              | exact again_of hr29 rfl
              | exact again_of hr30 rfl
              | exact again_of hr31 (atk1 rfl rfl rfl rfl rfl)
              | exact again_of hr32 rfl
              | exact again_of hr33 (row_one rk1 (j := 1) rfl rfl rfl rfl)
              | exact again_of hr34 (o_bin (v := .bool true) rfl rfl (by simp [binA, intOp]; omega) rfl)
              | exact again_of hr35 rfl
              | exact again_of hr36 rfl
              | exact again_of hr37 rfl
              | exact again_of hr38 (o_bin rfl rfl (b_sub_i64 (z := ((k : Nat) : Int)) (by omega) (by omega) (by omega)) rfl)
              | exact again_of hr39 (atk rfl rfl rfl rfl rfl)
              | exact again_of hr40 rfl
              | exact again_of hr41 (row_one rk (j := 0) rfl rfl rfl rfl)
              | exact again_of hr42 rfl
              | exact again_of hr43 rfl
              | exact again_of hr44 (atk1 rfl rfl rfl rfl rfl)
              | exact again_of hr45 rfl
              | exact again_of hr46 (row_one rk1 (j := 0) rfl rfl rfl rfl)
              | exact again_of hr47 (o_bin (v := .bool false) rfl rfl (by simp [binA, intOp]; omega) rfl)
              | exact again_of hr48 rfl
              | exact again_of hr49 rfl
              | exact again_of hr50 rfl
              | exact again_of hr51 rfl
          exact rest _ ⟨tm, hX, rfl, hXe, hvaX, hvbX, hvcX, hs.cons rfl (hs.cons rfl (hs.cons rfl (hs.cons rfl (hs.cons rfl (hs.cons rfl (hs.cons rfl (Sees.nil _)))))))⟩
        · skip
          refine dg_val hs rfl rfl rfl rfl (o_loadN (n := 3) rfl rfl rfl gx (Nat.le_refl 3)) fun tmr tm hr0 hs => ?_
          refine dg_val hs rfl rfl rfl rfl rfl fun tmr tm hr1 hs => ?_
          refine dg_val hs rfl rfl rfl rfl rfl fun tmr tm hr2 hs => ?_
          refine dg_val hs rfl rfl rfl rfl (atb rfl rfl rfl rfl rfl) fun tmr tm hr3 hs => ?_
          refine dg_val hs rfl rfl rfl rfl (rb.load rfl rfl rfl) fun tmr tm hr4 hs => ?_
          refine dg_val hs rfl rfl rfl rfl (o_bin rfl rfl (neq_cnd _) rfl) fun tmr tm hr5 hs => ?_
          refine dg_val hs rfl rfl rfl rfl rfl fun tmr tm hr6 hs => ?_
          refine dg_val hs rfl rfl rfl rfl rfl fun tmr tm hr7 hs => ?_
          refine dg_val hs rfl rfl rfl rfl (o_bin (v := .bool true) rfl rfl (by simp [binA, intOp]) rfl) fun tmr tm hr8 hs => ?_
          refine dg_val hs rfl rfl rfl rfl rfl fun tmr tm hr9 hs => ?_
          refine dg_val hs rfl rfl rfl rfl rfl fun tmr tm hr10 hs => ?_
          refine dg_val hs rfl rfl rfl rfl rfl fun tmr tm hr11 hs => ?_
          refine dg_val hs rfl rfl rfl rfl (o_bin rfl rfl (b_sub_i64 (z := ((k : Nat) : Int)) (by omega) (by omega) (by omega)) rfl) fun tmr tm hr12 hs => ?_
          refine dg_val hs rfl rfl rfl rfl (atk rfl rfl rfl rfl rfl) fun tmr tm hr13 hs => ?_
          refine dg_val hs rfl rfl rfl rfl rfl fun tmr tm hr14 hs => ?_
          refine dg_val hs rfl rfl rfl rfl (row_one rk (j := 1) rfl rfl rfl rfl) fun tmr tm hr15 hs => ?_
          refine dg_val hs rfl rfl rfl rfl rfl fun tmr tm hr16 hs => ?_
          refine dg_val hs rfl rfl rfl rfl rfl fun tmr tm hr17 hs => ?_
          refine dg_val hs rfl rfl rfl rfl (atk1 rfl rfl rfl rfl rfl) fun tmr tm hr18 hs => ?_
          refine dg_val hs rfl rfl rfl rfl rfl fun tmr tm hr19 hs => ?_
          refine dg_val hs rfl rfl rfl rfl (row_one rk1 (j := 1) rfl rfl rfl rfl) fun tmr tm hr20 hs => ?_
          refine dg_val hs rfl rfl rfl rfl (o_bin (v := .bool false) rfl rfl (by simp [binA, intOp]; omega) rfl) fun tmr tm hr21 hs => ?_
          refine dg_val hs rfl rfl rfl rfl rfl fun tmr tm hr22 hs => ?_
          refine dg_val hs rfl rfl rfl rfl rfl fun tmr tm hr23 hs => ?_
          refine dg_val hs rfl rfl rfl rfl rfl fun tmr tm hr24 hs => ?_
          refine dg_val hs rfl rfl rfl rfl (o_bin rfl rfl (b_sub_i64 (z := ((k : Nat) : Int)) (by omega) (by omega) (by omega)) rfl) fun tmr tm hr25 hs => ?_
          refine dg_val hs rfl rfl rfl rfl (atk rfl rfl rfl rfl rfl) fun tmr tm hr26 hs => ?_
          refine dg_val hs rfl rfl rfl rfl rfl fun tmr tm hr27 hs => ?_
          refine dg_val hs rfl rfl rfl rfl (row_one rk (j := 1) rfl rfl rfl rfl) fun tmr tm hr28 hs => ?_
          refine dg_val hs rfl rfl rfl rfl rfl fun tmr tm hr29 hs => ?_
          refine dg_val hs rfl rfl rfl rfl rfl fun tmr tm hr30 hs => ?_
          refine dg_val hs rfl rfl rfl rfl (atk1 rfl rfl rfl rfl rfl) fun tmr tm hr31 hs => ?_
          refine dg_val hs rfl rfl rfl rfl rfl fun tmr tm hr32 hs => ?_
          refine dg_val hs rfl rfl rfl rfl (row_one rk1 (j := 1) rfl rfl rfl rfl) fun tmr tm hr33 hs => ?_
          refine dg_val hs rfl rfl rfl rfl (o_bin (v := .bool false) rfl rfl (by simp [binA, intOp]; omega) rfl) fun tmr tm hr34 hs => ?_
          refine dg_val hs rfl rfl rfl rfl rfl fun tmr tm hr35 hs => ?_
          refine dg_no hs rfl rfl rfl fun tmr tm _ hs => ?_
          refine dg_no hs rfl rfl rfl fun tmr tm _ hs => ?_
          refine dg_no hs rfl rfl rfl fun tmr tm _ hs => ?_
          refine dg_no hs rfl rfl rfl fun tmr tm _ hs => ?_
          refine dg_no hs rfl rfl rfl fun tmr tm _ hs => ?_
          refine dg_no hs rfl rfl rfl fun tmr tm _ hs => ?_
          refine dg_no hs rfl rfl rfl fun tmr tm _ hs => ?_
          refine dg_no hs rfl rfl rfl fun tmr tm _ hs => ?_
          refine dg_no hs rfl rfl rfl fun tmr tm _ hs => ?_
          refine dg_no hs rfl rfl rfl fun tmr tm _ hs => ?_
          refine dg_no hs rfl rfl rfl fun tmr tm _ hs => ?_
          refine dg_no hs rfl rfl rfl fun tmr tm _ hs => ?_
          refine dg_val hs rfl rfl rfl rfl rfl fun tmr tm hr48 hs => ?_
          refine dg_val hs rfl rfl rfl rfl rfl fun tmr tm hr49 hs => ?_
          refine dg_val hs rfl rfl rfl rfl rfl fun tmr tm hr50 hs => ?_
          refine dg_val hs rfl rfl rfl rfl rfl fun tmr tm hr51 hs => ?_
          refine dg_nil (by repeat' (first | exact trivial | refine And.intro rfl ?_)) rfl ?_ ?_
          · repeat' (first | exact trivial | refine And.intro ?_ ?_)
            all_goals first
              | exact again_of hr0 (o_loadN (n := 3) rfl rfl rfl gx (Nat.le_refl 3))
              | exact again_of hr1 rfl
              | exact again_of hr2 rfl
              | exact again_of hr3 (atb rfl rfl rfl rfl rfl)
              | exact again_of hr4 (rb.load rfl rfl rfl)
              | exact again_of hr5 (o_bin rfl rfl (neq_cnd _) rfl)
              | exact again_of hr6 rfl
              | exact again_of hr7 rfl
              | exact again_of hr8 (o_bin (v := .bool true) rfl rfl (by simp [binA, intOp]) rfl)
              | exact again_of hr9 rfl
              | exact again_of hr10 rfl
              | exact again_of hr11 rfl
              | exact again_of hr12 (o_bin rfl rfl (b_sub_i64 (z := ((k : Nat) : Int)) (by omega) (by omega) (by omega)) rfl)
              | exact again_of hr13 (atk rfl rfl rfl rfl rfl)
              | exact again_of hr14 rfl
              | exact again_of hr15 (row_one rk (j := 1) rfl rfl rfl rfl)
              | exact again_of hr16 rfl
              | exact again_of hr17 rfl
              | exact again_of hr18 (atk1 rfl rfl rfl rfl rfl)
              | exact again_of hr19 rfl
              | exact again_of hr20 (row_one rk1 (j := 1) rfl rfl rfl rfl)
              | exact again_of hr21 (o_bin (v := .bool false) rfl rfl (by simp [binA, intOp]; omega) rfl)
              | exact again_of hr22 rfl
              | exact again_of hr23 rfl
              | exact again_of hr24 rfl
              | exact again_of hr25 (o_bin rfl rfl (b_sub_i64 (z := ((k : Nat) : Int)) (by omega) (by omega) (by omega)) rfl)
              | exact again_of hr26 (atk rfl rfl rfl rfl rfl)
              | exact again_of hr27 rfl
              | exact again_of hr28 (row_one rk (j := 1) rfl rfl rfl rfl)
              | exact again_of hr29 rfl
              | exact again_of hr30 rfl
              | exact again_of hr31 (atk1 rfl rfl rfl rfl rfl)
              | exact again_of hr32 rfl
              | exact again_of hr33 (row_one rk1 (j := 1) rfl rfl rfl rfl)
              | exact again_of hr34 (o_bin (v := .bool false) rfl rfl (by simp [binA, intOp]; omega) rfl)
              | exact again_of hr35 rfl
              | exact again_of hr48 rfl
              | exact again_of hr49 rfl
              | exact again_of hr50 rfl
              | exact again_of hr51 rfl
          exact rest _ ⟨tm, hX, rfl, hXe, hvaX, hvbX, hvcX, hs.cons rfl (hs.cons rfl (hs.cons rfl (hs.cons rfl (hs.cons rfl (hs.cons rfl (hs.cons rfl (Sees.nil _)))))))⟩
    · refine go_exit rfl (go_seq (go_region ?_))
      refine ops_val hs rfl rfl rfl rfl fun tm hs => ?_
      exact ops_nil (go_ret (ends_ret hs rfl ⟨rfl, he⟩))
end Go.Proofs.Ytebcbfpehalmjaa
