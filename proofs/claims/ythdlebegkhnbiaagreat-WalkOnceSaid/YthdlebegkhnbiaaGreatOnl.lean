/- What the functions of this part answer at any input, told by the rules over the evaluator. Conditions: those that each theorem states. -/
import Derived.Test.YthdlebegkhnbiaaGreatOnc
import Derived.Test.YthdlebegkhnbiaaGreatKit
open Go Ev
namespace Go.Proofs.YthdlebegkhnbiaaGreat
set_option maxRecDepth 10000
set_option linter.unusedVariables false
set_option linter.unusedSimpArgs false
set_option maxHeartbeats 2000000
set_option linter.unusedVariables false
theorem lives_n {n : Nat} (h : Heap) : (TV n).sm 5 [] h = some (.bool true, h) := b_w rfl rfl
def numM (c : Nat → Nat) (q : Nat) : Option AV := if c q = 0 then none else some (.int .i64 (c q : Nat))
theorem numM_at (c : Nat → Nat) (q : Nat) : (numM c q).getD (.int .i64 0) = .int .i64 (c q : Nat) := by
  unfold numM
  split
  · rename_i e; rw [e]; rfl
  · rfl
def inC (l : List Sn) (q : Nat) : Nat := if q ∈ entd l then 1 else 0
theorem k_lookv {κ : Type} [DecidableEq κ] {ek : κ → AV} {T : Ev.Tabs} {ρ : Operand → Option AV} {o : Oper} {h : Heap} {t kt et : TypeId} {x ix : Operand} {M n : Nat} {σ : κ → Option AV} {k : κ} {z v : AV} (ok : KeyOK ek) (m : MapR ek h M σ n) (e : (σ k).getD z = v) (ho : o.op = .lookup t x ix false) (ht : T.und t = some (.map kt et)) (hk : keyIs T kt (ek k) = true) (hx : ρ x = some (.map M)) (hi : ρ ix = some (ek k)) (hz : T.zero et = some z) : opA T ρ o h = .val v h := by
  rw [← e]; exact k_lookup ok m ho ht hk hx hi hz
theorem b_neqb {T : Ev.Tabs} {t : TypeId} {p q : Prop} [Decidable p] [Decidable q] (hu : T.und t = some .bool) (h : p ↔ q) : binA T .neq t (.bool (decide p)) (.bool (decide q)) = some (.bool false) := by
  have e : decide p = decide q := by simp only [h]
  rw [e]
  simp [binA, eqv, hu]
theorem b_eqlb {T : Ev.Tabs} {t : TypeId} {p q : Prop} [Decidable p] [Decidable q] (hu : T.und t = some .bool) (h : p ↔ q) : binA T .eql t (.bool (decide p)) (.bool (decide q)) = some (.bool true) := by
  have e : decide p = decide q := by simp only [h]
  rw [e]
  simp [binA, eqv, hu]
theorem numM_set {c c' : Nat → Nat} {p : Nat} (h : ∀ q, c' q = if q = p then c p + 1 else c q) : numM c' = fun q => if q = p then some (.int .i64 ((c p + 1 : Nat) : Int)) else numM c q := by
  funext q
  unfold numM
  rw [h q]
  by_cases e : q = p
  · rw [if_pos e, if_pos e, if_neg (by omega)]
  · rw [if_neg e, if_neg e]
theorem once_law {n : Nat} (hn : 9 < n) {z : Int} {img : List UInt8} {root : Nat} {h : Heap} (hk : h.ok) (hi : img.length < 9223372036854775808) (hr : root < 4294967296) : Gives (TV n) 3 [.int .i64 z, .str img, .int .u32 root] h (fun v h' => v = .bool true ∧ Ext h h') := by
  refine call_j (no_w rfl rfl) rfl rfl ?_
  have w1 := lives_n (n := n)
  have w2 := light_w (n := n) (by omega) img hi
  by_cases c1 : img.length ≤ 5000
  case neg =>
    rw [decide_eq_false c1] at w2
    exact auto
  rw [decide_eq_true c1] at w2
  have w3 := rpages_w (n := n) (by omega) z img (by omega)
  have p8 := pages_128 z img
  refine walk ?_
  refine jo_call (walk_g (n := n) hn (z := z) (img := img) (root := root) (h := h) hk c1 hr) rfl rfl rfl rfl ?_
  rintro w h1 ⟨acc, x1, ow, la, ψ⟩
  have ls := ow.ls
  have lw := ls.len
  have nw := ls.ns
  have k1 := x1.ok hk
  obtain ⟨nd, nl⟩ := once_all ψ
  have lp : ∀ s ∈ acc, s.visit.page < 4294967296 := fun s hs => by
    rcases ψ with ⟨_, e⟩ | ⟨_, run⟩
    · rw [e] at hs; cases hs
    · exact (run_mem run (fun v hv => by obtain rfl := List.mem_singleton.1 hv; exact hr) s hs).2
  refine walk ?_
  refine jg_loop (ι := Nat × List Nat × List Vis) (fun a => acc.length - a.1) (fun a => [(0, .int .i64 z), (1, .str img), (2, .int .u32 root), (7, w), (8, .map h1.next), (9, .map (h1.next + 1)), (10, .int .i64 (a.1 : Nat))])
    (fun a h2 => a.1 ≤ acc.length ∧ (root ≠ 0 → OnceI z img root acc a.1 a.2.1 a.2.2) ∧ Ext h1 h2 ∧ (∃ k, MapR k32 h2 h1.next (numM (metC (acc.take a.1))) k) ∧ MapR k32 h2 (h1.next + 1) (numM (inC (acc.take a.1))) (entd (acc.take a.1)).length) (0, [], [root0 root]) hsub ⟨by simp only; omega, fun hr0 => ?_, (Ext.alloc _ _).trans (Ext.alloc _ _), ⟨0, (MapR.new h1).keep (Heap.ga _ _ _ (by show h1.next ≠ h1.next + 1; omega)) (Nat.le_succ _)⟩, MapR.new _⟩ ?_
  · rcases ψ with ⟨e, _⟩ | ⟨_, e⟩
    · exact absurd e hr0
    · exact .zero e
  rintro ⟨i, mt, left⟩ h2 ⟨hi, on, x2, ⟨mk, mm⟩, mi⟩ next
  dsimp only at hi on mm mi next ⊢
  have nx2 := x2.nx
  have k2 := x2.ok k1
  by_cases hil : i < acc.length
  case neg =>
    have e : i = acc.length := by omega
    rw [e, List.take_length] at mi
    clear mm on next
    have ls2 := ls.ext x2
    refine walk ?_
    refine jo_call (pages_fn_g (n := n) (by omega) ls2 k2 la nd (by omega) lp) rfl rfl rfl rfl ?_
    rintro u h3 ⟨x3, l', so, lv⟩
    have lu := lv.len
    have nu := lv.ns
    have inc := issort_lt so nd
    have ll := so.1.length_eq
    have k3 := x3.ok k2
    have mi3 := mi.keep (x3.old _ mi.1) x3.nx
    refine walk ?_
    refine jg_loop (ι := Nat) (fun j => l'.length - j) (fun j => [(2, .int .u32 root), (7, w), (9, .map (h1.next + 1)), (12, u), (13, .int .i64 (j : Nat))]) (fun j h4 => j ≤ l'.length ∧ Ext h3 h4) 0 hsub ⟨by omega, .refl _⟩ ?_
    rintro j h4 ⟨hj, x4⟩ next
    have mi4 := mi3.keep (x4.old _ mi3.1) x4.nx
    have k4 := x4.ok k3
    by_cases hjl : j < l'.length
    case neg =>
      have c7 : (l'.length : Int) = ((entd acc).length : Int) := by omega
      have be : (root : Int) ≠ 0 ↔ (0 : Int) < (acc.length : Int) := by
        rcases ψ with ⟨e1, e2⟩ | ⟨e1, e2⟩
        · rw [e1, e2]; simp
        · have := run_len e2
          simp at this
          constructor
          · intro _; omega
          · intro _; omega
      refine walk ?_
      refine jo_val rfl rfl rfl (k_lenM mi4 rfl rfl rfl rfl) ?_
      refine walk ?_
      refine jg_ret1 (by exact hres) ⟨?_, by exact hext⟩
      have bd : decide ((root : Int) ≠ 0) = decide ((0 : Int) < (acc.length : Int)) := decide_eq_decide.2 be
      rw [bd]
      simp
    obtain ⟨x, hx⟩ : ∃ x, l'[j]? = some x := ⟨l'[j], List.getElem?_eq_getElem hjl⟩
    have xin : x ∈ entd acc := so.1.mem_iff.1 (List.mem_of_getElem? hx)
    have n1 := numM_at (inC acc) x
    rw [show inC acc x = 1 from if_pos xin] at n1
    obtain ⟨q1, p1, e1, all1, rw1, hb1, hg1, hpl1, he1, a1⟩ := (lv.ext x4).at u32c_len hx
    have he1 : (all1.drop p1).take 1 = [.int .u32 (x : Nat)] := he1
    have c8 : ¬ ((1 : Nat) : Int) ≠ 1 := by decide
    by_cases c9 : (0 : Int) < (j : Int)
    · obtain ⟨y, hy⟩ : ∃ y, l'[j - 1]? = some y := ⟨l'[j - 1]'(by omega), List.getElem?_eq_getElem (by omega)⟩
      obtain ⟨q2, p2, e2, all2, rw2, hb2, hg2, hpl2, he2, a2⟩ := (lv.ext x4).at u32c_len hy
      have he2 : (all2.drop p2).take 1 = [.int .u32 (y : Nat)] := he2
      have lt : y < x := by
        have := List.pairwise_iff_getElem.1 inc (j - 1) j (by omega) (by omega) (by omega)
        rw [List.getElem?_eq_getElem (by omega)] at hx hy
        cases hx; cases hy
        exact this
      have c10 : ¬ (x : Int) ≤ (y : Int) := by omega
      refine walk ?_
      refine jg_drawn (q := 23) (ms := [0, 0, 0, 6, 14, 31, 63, 127, 255, 511, 1023, 2047, 2047, 6143, 16383, 32767, 2047, 2047, 198655, 460799, 1048575, 2097151, 4194303]) (hl := [[138, 139, 140, 141], [137, 139], [137, 138], [137], [137], [], [], [], [], [], [], [149, 150, 153, 154, 155, 156], [148, 153, 154, 155, 156], [148, 153, 154, 155, 156], [153, 154, 155, 156], [153, 154, 155, 156], [148, 149, 150, 151, 152, 154], [148, 149, 150, 151, 152, 153], [148, 149, 150, 151, 152], [148, 149, 150, 151, 152], [], [], []]) k4 rfl (by kernel_rfl) (by kernel_rfl) rfl ?_
      refine walk ?_
      refine jd_val rfl rfl rfl rfl (k_lookv (kt := 22) (et := 3) k32_ok (mi4.keep rfl (by show h4.next ≤ h4.next + 23; omega)) n1 rfl rfl rfl rfl rfl rfl) ?_
      refine walk ?_
      exact next (j + 1) (by omega) hsub ⟨by omega, by exact hext⟩
    · refine walk ?_
      refine jg_drawn (q := 23) (ms := [0, 0, 0, 6, 14, 31, 63, 127, 255, 511, 1023, 2047, 2047, 6143, 16383, 32767, 2047, 2047, 198655, 460799, 1048575, 2097151, 4194303]) (hl := [[138, 139, 140, 141], [137, 139], [137, 138], [137], [137], [], [], [], [], [], [], [149, 150, 153, 154, 155, 156], [148, 153, 154, 155, 156], [148, 153, 154, 155, 156], [153, 154, 155, 156], [153, 154, 155, 156], [148, 149, 150, 151, 152, 154], [148, 149, 150, 151, 152, 153], [148, 149, 150, 151, 152], [148, 149, 150, 151, 152], [], [], []]) k4 rfl (by kernel_rfl) (by kernel_rfl) rfl ?_
      refine walk ?_
      refine jd_val rfl rfl rfl rfl (k_lookv (kt := 22) (et := 3) k32_ok (mi4.keep rfl (by show h4.next ≤ h4.next + 23; omega)) n1 rfl rfl rfl rfl rfl rfl) ?_
      refine walk ?_
      exact next (j + 1) (by omega) hsub ⟨by omega, by exact hext⟩
  have hr0 : root ≠ 0 := fun e => by
    rcases ψ with ⟨_, e2⟩ | ⟨e2, _⟩
    · rw [e2] at hil; simp at hil
    · exact e2 e
  obtain ⟨s, hs, f1, f2, f3, f4, f5, f6, mt', left', on'⟩ := (on hr0).step hil
  obtain ⟨b, p', e', all, rw', hb, hg, hpl, he, a1⟩ := (ls.ext x2).at Sn.csl hs
  have tk : acc.take (i + 1) = acc.take i ++ [s] := by rw [List.take_add_one, hs]; rfl
  have sp := lp s (List.mem_of_getElem? hs)
  have vcs : (all.drop (p' + 0)).take 8 = s.visit.cs := by
    have := congrArg (List.take 8) he
    rw [List.take_take] at this
    exact this
  have pcs : (all.drop (p' + 9)).take 6 = s.page.cs := by
    have := congrArg (List.drop 9) he
    rw [List.drop_take, List.drop_drop] at this
    exact this
  refine walk ?_
  refine jo_val rfl rfl rfl (k_row rfl rfl rfl rfl hget vcs (by show p' + 0 + 8 ≤ _; omega)) ?_
  clear vcs
  refine walk ?_
  refine oj_cut1 (ι := Unit) (fun _ => [(0, .int .i64 z), (1, .str img), (2, .int .u32 root), (7, w), (8, .map h1.next), (9, .map (h1.next + 1)), (10, .int .i64 (i : Nat)), (11, .ptr h2.next 0)]) (fun _ g => Ext h2 g ∧ h2.next < g.next ∧ g.get h2.next = some (.cells 29 s.visit.cs true)) ?_ ?_
  · intro k' join
    by_cases c2 : (0 : Int) < (i : Int)
    · have e1 : inC (acc.take i) s.visit.from' = 1 := if_pos (f1 (by omega))
      have nv := numM_at (inC (acc.take i)) s.visit.from'
      rw [e1] at nv
      refine walk ?_
      refine jo_val rfl rfl rfl (k_lookv (kt := 22) (et := 3) k32_ok (mi.keep (Ext.old (by exact hext) _ mi.1) (by show h2.next ≤ h2.next + 1; omega)) nv rfl rfl rfl rfl rfl rfl) ?_
      have c3 : ¬ (i : Int) = 0 := by omega
      have c4 : ¬ ((1 : Nat) : Int) = 0 := by omega
      refine walk ?_
      exact join () hsub ⟨by exact hext, hlt, by exact hget⟩
    · obtain ⟨g1, g2⟩ := f2 (by omega)
      have c3 : (i : Int) = 0 := by omega
      have c4 : ¬ (s.visit.from' : Int) ≠ 0 := by omega
      have c5 : ¬ (s.visit.page : Int) ≠ (root : Int) := by omega
      refine walk ?_
      exact join () hsub ⟨by exact hext, hlt, by exact hget⟩
  rintro ⟨⟩ g ⟨xg, lg, gv⟩
  have hgg := (xg.old _ hb).trans hg
  have kg := xg.ok k2
  have mmg := mm.keep (xg.old _ mm.1) xg.nx
  have mig := mi.keep (xg.old _ mi.1) xg.nx
  have nm := numM_at (metC (acc.take i)) s.visit.page
  have be := b_neqb (T := TV n) (t := 4) (p := s.why = 2) (q := (0 : Int) < ((metC (acc.take i) s.visit.page : Nat) : Int)) rfl (by rw [f3]; omega)
  refine walk ?_
  refine jg_drawn (q := 12) (ms := [0, 0, 3, 7, 15, 31, 0, 0, 128, 448, 960, 2047]) (hl := [[61, 66, 67, 68, 69, 70], [60, 66, 67, 68, 69, 70], [66, 67, 68, 69, 70], [66, 67, 68, 69, 70], [66, 67, 68, 69, 70], [66, 67, 68, 69, 70], [60, 61, 62, 63, 64, 65, 67, 68], [60, 61, 62, 63, 64, 65, 66], [60, 61, 62, 63, 64, 65, 66], [60, 61, 62, 63, 64, 65], [60, 61, 62, 63, 64, 65], []]) kg rfl (by kernel_rfl) (by kernel_rfl) rfl ?_
  refine walk ?_
  refine jd_val rfl rfl rfl rfl (k_lookv (kt := 22) (et := 3) k32_ok (mmg.keep rfl (by show g.next ≤ g.next + 12; omega)) nm rfl rfl rfl rfl rfl rfl) ?_
  refine walk ?_
  have bb : (!(decide (s.why = 2) == decide ((0 : Int) < ((metC (acc.take i) s.visit.page : Nat) : Int)))) = false := by
    have : decide (s.why = 2) = decide ((0 : Int) < ((metC (acc.take i) s.visit.page : Nat) : Int)) := by
      rw [decide_eq_decide, f3]; omega
    rw [this]; simp
  refine jg_iff (congrArg some (congrArg AV.bool bb)) ?_
  have kx : Heap.ok { t := g.t, next := g.next + 12 } := Heap.ok_more kg 12
  by_cases c6 : s.why = 1
  · have e1 : entd (acc.take (i + 1)) = entd (acc.take i) := by rw [tk, entd_app, if_neg (by omega), List.append_nil]
    have e2 : metC (acc.take (i + 1)) = metC (acc.take i) := by funext q; rw [tk, metC_app, if_neg (fun e => e.1 c6), Nat.add_zero]
    have e3 : inC (acc.take (i + 1)) = inC (acc.take i) := by funext q; unfold inC; rw [e1]
    by_cases c7 : (2 : Int) ≤ (s.visit.page : Int)
    · have c8 : ¬ (s.visit.page : Int) < (pages z img : Int) := by have := f4.1 c6; omega
      refine walk ?_
      refine jg_drawn (q := 12) (ms := [0, 1, 3, 7, 15, 31, 63, 15, 15, 399, 1023, 2047]) (hl := [[], [], [], [], [85, 86, 87], [85, 86, 87], [85, 86, 87], [82, 83, 84, 86], [82, 83, 84, 85], [82, 83, 84], [], []]) kx rfl (by kernel_rfl) (by kernel_rfl) rfl ?_
      refine walk ?_
      refine next (i + 1, mt', left') (by simp only; omega) (by exact hsub) ⟨by simp only; omega, fun _ => on', ?_, ⟨mk, ?_⟩, ?_⟩
      · exact x2.trans (xg.trans (Ext.mr (n := 24) rfl (Ext.refl _) kg))
      · simp only; rw [e2]; exact mmg.keep rfl (by show g.next ≤ g.next + 12 + 12; omega)
      · simp only; rw [e1, e3]; exact mig.keep rfl (by show g.next ≤ g.next + 12 + 12; omega)
    · refine walk ?_
      refine jg_drawn (q := 12) (ms := [0, 1, 3, 7, 15, 31, 63, 15, 15, 399, 1023, 2047]) (hl := [[], [], [], [], [85, 86, 87], [85, 86, 87], [85, 86, 87], [82, 83, 84, 86], [82, 83, 84, 85], [82, 83, 84], [], []]) kx rfl (by kernel_rfl) (by kernel_rfl) rfl ?_
      refine walk ?_
      refine next (i + 1, mt', left') (by simp only; omega) (by exact hsub) ⟨by simp only; omega, fun _ => on', ?_, ⟨mk, ?_⟩, ?_⟩
      · exact x2.trans (xg.trans (Ext.mr (n := 24) rfl (Ext.refl _) kg))
      · simp only; rw [e2]; exact mmg.keep rfl (by show g.next ≤ g.next + 12 + 12; omega)
      · simp only; rw [e1, e3]; exact mig.keep rfl (by show g.next ≤ g.next + 12 + 12; omega)
  have cl := metC_le (acc.take i) s.visit.page
  have mm1 := mm.1
  have cl2 : (acc.take i).length ≤ acc.length := by simp; omega
  obtain ⟨ob, eb, mb⟩ := update_map (T := TV n) (t := 27) (k := s.visit.page) (v := .int .i64 (((metC (acc.take i) s.visit.page : Nat) : Int) + 1)) (h := { t := g.t, next := g.next + 12 }) k32_ok (mmg.keep rfl (by show g.next ≤ g.next + 12; omega)) rfl rfl
  have xo : Ext h1 (Heap.set { t := g.t, next := g.next + 12 } h1.next ob) := Ext.st ((x2.trans xg).trans (Ext.mr (n := 12) rfl (Ext.refl _) kg)) _ _ (Nat.le_refl _) (by show h1.next < g.next + 12; have := mmg.1; omega)
  have mig2 : MapR k32 (Heap.set { t := g.t, next := g.next + 12 } h1.next ob) (h1.next + 1) (numM (inC (acc.take i))) (entd (acc.take i)).length := mig.keep (Heap.gn _ _ _ _ (by omega)) (by show g.next ≤ g.next + 12; omega)
  have em : (fun q => if q = s.visit.page then some (AV.int .i64 (((metC (acc.take i) s.visit.page : Nat) : Int) + 1)) else numM (metC (acc.take i)) q) = numM (metC (acc.take (i + 1))) := by
    rw [numM_set (c := metC (acc.take i)) (c' := metC (acc.take (i + 1))) (p := s.visit.page)]
    · funext q; split <;> simp
    · intro q
      rw [tk, metC_app]
      by_cases e : q = s.visit.page
      · rw [if_pos ⟨c6, e.symm⟩, if_pos e, e]
      · rw [if_neg (fun x => e x.2.symm), if_neg e, Nat.add_zero]
  rw [em] at mb
  have hb2 : b ≠ h1.next := fun e => by
    obtain ⟨_, _, q⟩ := mmg.is
    rw [e] at hgg; rw [hgg] at q; cases q
  have hg3 : Heap.get (Heap.set { t := g.t, next := g.next + 12 } h1.next ob) b = some (.cells e' all rw') := (Heap.gn _ _ _ _ hb2).trans hgg
  have gv3 : Heap.get (Heap.set { t := g.t, next := g.next + 12 } h1.next ob) h2.next = some (.cells 29 s.visit.cs true) := (Heap.gn _ _ _ _ (by omega)).trans gv
  refine walk ?_
  refine jo_val rfl rfl rfl (k_lookv (kt := 22) (et := 3) k32_ok (mmg.keep rfl (by show g.next ≤ g.next + 12; omega)) nm rfl rfl rfl rfl rfl rfl) ?_
  refine walk ?_
  refine jo_skip rfl rfl (k_mapUpd eb rfl rfl rfl rfl) ?_
  have kO := xo.ok k1
  generalize hG : Heap.set { t := g.t, next := g.next + 12 } h1.next ob = G at *
  have Gn : G.next = g.next + 12 := by rw [← hG]; rfl
  by_cases c7 : s.why = 0
  · obtain ⟨pp, pn⟩ := f6 c7
    have e0 : inC (acc.take i) s.visit.page = 0 := if_neg pn
    have ni := numM_at (inC (acc.take i)) s.visit.page
    rw [e0] at ni
    have e1 : entd (acc.take (i + 1)) = entd (acc.take i) ++ [s.visit.page] := by rw [tk, entd_app, if_pos c7]
    obtain ⟨o2, eb2, mb2⟩ := update_map (T := TV n) (t := 27) (k := s.visit.page) (v := .int .i64 (((0 : Nat) : Int) + 1)) (h := G) k32_ok mig2 rfl rfl
    have ei : (fun q => if q = s.visit.page then some (AV.int .i64 (((0 : Nat) : Int) + 1)) else numM (inC (acc.take i)) q) = numM (inC (acc.take (i + 1))) := by
      rw [numM_set (c := inC (acc.take i)) (c' := inC (acc.take (i + 1))) (p := s.visit.page)]
      · funext q; rw [e0]; split <;> simp
      · intro q
        rw [e0]
        unfold inC
        rw [e1]
        by_cases e : q = s.visit.page
        · rw [if_pos e, if_pos (by rw [e]; simp)]
        · rw [if_neg e]
          simp [e]
    have ec : (if ((numM (inC (acc.take i))) s.visit.page).isSome = true then (entd (acc.take i)).length else (entd (acc.take i)).length + 1) = (entd (acc.take (i + 1))).length := by
      rw [e1, List.length_append]
      unfold numM
      rw [e0]
      rfl
    rw [ei, ec] at mb2
    have n1 := numM_at (inC (acc.take (i + 1))) s.visit.page
    rw [show inC (acc.take (i + 1)) s.visit.page = 1 from if_pos (by rw [e1]; simp)] at n1
    have hb3 : b ≠ h1.next + 1 := fun e => by
      obtain ⟨_, _, q⟩ := mig2.is
      rw [e] at hg3; rw [hg3] at q; cases q
    have hg4 : Heap.get (Heap.set G (h1.next + 1) o2) b = some (.cells e' all rw') := (Heap.gn _ _ _ _ hb3).trans hg3
    have gv4 : Heap.get (Heap.set G (h1.next + 1) o2) h2.next = some (.cells 29 s.visit.cs true) := (Heap.gn _ _ _ _ (by have := mi.1; omega)).trans gv3
    have xo4 : Ext h1 (Heap.set G (h1.next + 1) o2) := Ext.st xo _ _ (by omega) (by have := mi.1; have := xg.nx; omega)
    have kO4 := xo4.ok k1
    have mb4 : MapR k32 (Heap.set G (h1.next + 1) o2) h1.next (numM (metC (acc.take (i + 1)))) _ := mb.keep (Heap.gn _ _ _ _ (by omega)) (Nat.le_refl _)
    refine walk ?_
    refine jo_val rfl rfl rfl (k_lookv (kt := 22) (et := 3) k32_ok mig2 ni rfl rfl rfl rfl rfl rfl) ?_
    refine walk ?_
    refine jo_skip rfl rfl (k_mapUpd eb2 rfl rfl rfl rfl) ?_
    generalize hG4 : Heap.set G (h1.next + 1) o2 = G4 at *
    refine walk ?_
    refine jg_drawn (q := 16) (ms := [0, 0, 2, 7, 15, 31, 63, 63, 255, 511, 1023, 2047, 63, 4159, 16383, 32767]) (hl := [[107, 108], [106], [106], [], [], [], [113, 118, 119], [112, 118, 119], [118, 119], [118, 119], [118, 119], [118, 119], [112, 113, 114, 115, 116, 117], [112, 113, 114, 115, 116, 117], [], []]) kO4 rfl (by kernel_rfl) (by kernel_rfl) rfl ?_
    refine walk ?_
    have c9 : ¬ (1 : Int) < ((1 : Nat) : Int) := by decide
    have c10 : ¬ (s.page.page : Int) ≠ (s.visit.page : Int) := by omega
    refine jd_val rfl rfl rfl rfl (k_lookv (kt := 22) (et := 3) k32_ok (mb2.keep rfl (by show G4.next ≤ G4.next + 16; omega)) n1 rfl rfl rfl rfl rfl rfl) ?_
    refine walk ?_
    refine next (i + 1, mt', left') (by simp only; omega) (by exact hsub) ⟨by simp only; omega, fun _ => on', xo4.trans (Ext.mr (n := 16) rfl (Ext.refl _) kO4), ⟨_, mb4.keep rfl (by show G4.next ≤ G4.next + 16; omega)⟩, mb2.keep rfl (by show G4.next ≤ G4.next + 16; omega)⟩
  · have pz : s.page = Pg.zero := f5 c7
    have e1 : entd (acc.take (i + 1)) = entd (acc.take i) := by rw [tk, entd_app, if_neg c7, List.append_nil]
    have e3 : inC (acc.take (i + 1)) = inC (acc.take i) := by funext q; unfold inC; rw [e1]
    refine walk ?_
    refine jo_val rfl rfl rfl (k_bin rfl rfl rfl (bin_ne (page_eqv s.page Pg.zero) rfl) rfl) ?_
    refine walk ?_
    refine next (i + 1, mt', left') (by simp only; omega) (by exact hsub) ⟨by simp only; omega, fun _ => on', xo, ⟨_, mb⟩, ?_⟩
    simp only
    rw [e1, e3]
    exact mig2
end Go.Proofs.YthdlebegkhnbiaaGreat
