/- What the functions of this part answer at any input, told by the rules over the evaluator. Conditions: those that each theorem states. -/
import Derived.Test.YtbmdcfehionkpaaGreatScn
open Go Ev
namespace Go.Proofs.YtbmdcfehionkpaaGreat
set_option maxRecDepth 10000
set_option linter.unusedVariables false
set_option linter.unusedSimpArgs false
set_option maxHeartbeats 4000000
set_option linter.unusedVariables false
/-! ### scan.Pages -/
def zeroRt : Rt := ⟨0, 0, 0⟩
theorem appSeq_g {n : Nat} {g : FuncId} {cap : List AV} {F : Func} {c : Code} {h0 : Heap} {Ψ : List Rt → Prop} (hF : (TV n).fn g = some F) (hb : F.body = some c) (hk : h0.ok) (sp : SeqOf (TV n) g cap Rt.cs h0 Ψ) :
    Gives (TV n) 68 [.nilslice, .func (.func g) [] cap] h0 (fun v h' => ∃ acc, Ext h0 h' ∧ OwnLS Rt.cs 37 3 (h0.next ≤ ·) h' v acc ∧ acc.length ≤ 300000 ∧ Ψ acc) := by
  refine call_jl (no_w rfl rfl) rfl rfl ?_
  refine walk ?_
  refine jg_range (P := fun h4 => ∃ acc u, Ext h0 h4 ∧ h4.ok ∧ h0.next + 3 ≤ h4.next ∧ h4.get h0.next = some (.cells 34 [u] true) ∧ h4.get (h0.next + 1) = some (.dfr (some [])) ∧ (∃ fn tm nt ps as' bd dd, h4.get (h0.next + 1 + 1) = some (.loop .ready none fn tm nt ps as' bd dd)) ∧ OwnLS Rt.cs 37 3 (fun c => h0.next ≤ c ∧ c ≠ h0.next ∧ c ≠ h0.next + 1 + 1 ∧ c ≠ h0.next + 1) h4 u acc ∧ acc.length ≤ 300000 ∧ Ψ acc) rfl rfl hF hb ?_ ?_
  · intro tm hs
    have hs2 : Sees tm [(2, .ptr h0.next 0)] := hs.sub hsub
    refine Gives.mono (sp _ (SeqI Rt.cs 34 37 3 h0.next (h0.next + 1 + 1) (h0.next + 1) _) (fun c => h0.next ≤ c ∧ c < h0.next + 3) _ (seq_yld (p := 7) rfl ?_) (by exact hok) (by exact hext) ⟨fun c q => q.2, by constructor <;> omega, by constructor <;> omega, by constructor <;> omega, by omega, by omega, by omega, get_new _ _, by exact hget, .nilslice, by exact hget, .nil⟩ (fun c q => q.1)) ?_
    · intro S acc s h la i
      obtain ⟨u, gb, ow⟩ := i.own
      have lb := i.low _ i.sb
      have ll := i.low _ i.sl
      have ld := i.low _ i.sd
      have gl := i.gl
      have gd := i.gd
      obtain ⟨v6, h6, e6, ⟨vc6, vo6⟩, g6, gl6, t6, S6, s6, i6⟩ := seq_end (T := TV n) (rest := [34]) s (.cells 37 zeroRt.cs true) (.cells 37 s.cs true) i gb ow (by omega) rfl rfl rfl rfl rfl (by exact Nat.le_of_ble_eq_true rfl) rfl (by decide) rfl
      refine round_of (hs2.set 7 _) ?_
      refine walk ?_
      refine jg_nil fun tm1 hs1 => ⟨tm1, _, _, none, _, _, _, _, _, _, _, rfl, hs1, by exact hget, ?_⟩
      refine walk ?_
      exact jg_nil fun tm3 hs3 => ⟨_, _, _, none, _, _, _, _, _, _, _, rfl, gl6, rfl, t6, S6, s6, i6⟩
    · rintro _ h' ⟨rfl, S, acc, t, k, i, s, la, ψ⟩
      obtain ⟨u, gb, ow⟩ := i.own
      exact ⟨acc, u, ⟨by have := t.nx; have : h0.next + 1 + 1 + 1 ≤ h'.next := this; omega, fun c hc => by rw [t.old c (by show c < h0.next + 1 + 1 + 1; omega) (fun q => by omega)]; exact (Heap.ga _ _ _ (by show c ≠ h0.next + 1 + 1; omega)).trans ((Heap.ga _ _ _ (by show c ≠ h0.next + 1; omega)).trans (Heap.ga _ _ _ (by omega))), fun _ => k⟩, k, t.nx, gb, i.gd, ⟨_, _, _, _, _, _, _, i.gl⟩, ow.mono fun c q _ => ⟨by rcases s c q.1 with r | r; exact r.1; (have r : h0.next + 1 + 1 + 1 ≤ c := r; omega), q.2⟩, la, ψ⟩
  · rintro h4 ⟨acc, u, x4, k4, n4, gb, gd, ⟨fn, tm, nt, ps, as', bd, dd, gl⟩, ow, la, ψ⟩
    refine ⟨_, fn, tm, nt, ps, as', bd, dd, gl, (by intro c; cases c), ?_⟩
    refine walk ?_
    refine jg_fin fun tm2 hs => ?_
    refine leave_collected (by exact hget) (leave_ret (vs := [u]) hs rfl rfl ⟨_, _, rfl, acc, ?_, ?_, la, ψ⟩)
    · exact Ext.st (Ext.st x4 _ _ (by show h0.next ≤ h0.next + 1 + 1; omega) (by show h0.next + 1 + 1 < h4.next; omega)) _ _ (by show h0.next ≤ h0.next + 1; omega) (by show h0.next + 1 < h4.next; omega)
    · refine OwnS.mono (OwnS.keep ow (fun c q _ => ?_) (Nat.le_refl _)) fun c q _ => q.1
      rw [Heap.gn _ _ _ _ (by show c ≠ h0.next + 1; omega), Heap.gn _ _ _ _ (by show c ≠ h0.next + 1 + 1; omega)]
theorem collect_g {n : Nat} {g : FuncId} {cap : List AV} {F : Func} {c : Code} {h0 : Heap} {Ψ : List Rt → Prop} (hF : (TV n).fn g = some F) (hb : F.body = some c) (hk : h0.ok) (sp : SeqOf (TV n) g cap Rt.cs h0 Ψ) :
    Gives (TV n) 40 [.func (.func g) [] cap] h0 (fun v h' => ∃ acc, Ext h0 h' ∧ OwnLS Rt.cs 37 3 (h0.next ≤ ·) h' v acc ∧ acc.length ≤ 300000 ∧ Ψ acc) := by
  refine call_j (no_w rfl rfl) rfl rfl ?_
  refine walk ?_
  refine jo_call (appSeq_g hF hb hk sp) rfl rfl rfl rfl ?_
  intro v h1 p
  refine walk ?_
  exact jg_ret1 (by exact hres) p
theorem ScnI.init {T : Ev.Tabs} {l : Nat} {z : Int} {img : List UInt8} {bs : List Nat} {I : (Nat → Prop) → List Rt → Heap → Prop} {S0 : Nat → Prop} {h0 h1 : Heap} {bf : Nat} {w : AV} {X Y : AObj} (yl : Yld T l Rt.cs I) (i0 : I S0 [] h0) (x1 : Ext { t := h0.t, next := h0.next + 7 } h1) (ka1 : KindAt h1 bs) (kb2 : ∀ b ∈ bs, h0.next + 7 ≤ b) (o1 : OwnLS clo 143 1 (h0.next + 7 ≤ ·) h1 w bs) (k : ((h1.set bf X).set bf Y).ok) (hY : Y = .cells 140 [.int .i64 z, .str img] true) (hbf : bf = h0.next + 4) :
    ScnI z img bs I S0 h0 bf w [] S0 ((h1.set bf X).set bf Y) := by
  have low0 := yl.low S0 [] h0 i0
  have nx1 : h0.next + 7 ≤ h1.next := x1.nx
  have nn : ((h1.set bf X).set bf Y).next = h1.next := rfl
  have y : ∀ c, c ≠ bf → ((h1.set bf X).set bf Y).get c = h1.get c := fun c hc => (Heap.gn _ _ _ _ hc).trans (Heap.gn _ _ _ _ hc)
  have g : ((h1.set bf X).set bf Y).get bf = some Y := Heap.gs _ _ _
  generalize (h1.set bf X).set bf Y = hh at k nn y g
  subst hY hbf
  have y0 : ∀ c, c < h0.next → hh.get c = h0.get c := fun c hc => (y c (by omega)).trans (x1.old c (by show c < h0.next + 7; omega))
  have o2 : OwnLS clo 143 1 (h0.next + 7 ≤ ·) hh w bs := o1.keep (fun c q hl => y c (by have q : h0.next + 7 ≤ c := q; omega)) (by omega)
  exact { t := ⟨by omega, fun c hc _ => y0 c hc, fun _ => k⟩, k := k, i := yl.stable S0 [] h0 hh i0 (by omega) (fun c _ hc => y0 c hc) (fun _ => k), low := (fun c q => by have := low0 c q; omega), s := fun c q => .inl q, ka := (fun i b q => by
      have := kb2 b (List.mem_of_getElem? q)
      have := (ka1 i b q).1
      exact ⟨by omega, (y b (by omega)).trans (ka1 i b q).2⟩), kb := (fun b q hs => by have := low0 b hs; have := kb2 b q; omega), fl := by omega, fn := (fun q => by have := low0 _ q; omega), fg := g, ow := o2.mono fun c q hl => ⟨fun s => by have := low0 c s; have q : h0.next + 7 ≤ c := q; omega, hl⟩ }
theorem scan1_g {n : Nat} (hn : 8 < n) {z : Int} {img : List UInt8} {l b1 b2 : Nat} {I : (Nat → Prop) → List Rt → Heap → Prop} {S0 : Nat → Prop} {h0 : Heap} (yl : Yld (TV n) l Rt.cs I) (hk : h0.ok) (hi : img.length ≤ 20000) (i0 : I S0 [] h0)
    (g1 : h0.get b1 = some (.cells 3 [.int .i64 z] true)) (g2 : h0.get b2 = some (.cells 9 [.str img] true)) (n1 : ¬ S0 b1) (n2 : ¬ S0 b2) (l1 : b1 < h0.next) (l2 : b2 < h0.next) :
    Gives (TV n) 69 [.func (.yield l) [] [], .ptr b1 0, .ptr b2 0] h0 (fun v h' => v = .tuple [] ∧ ∃ S acc, Ev.Touch S0 h0 h' ∧ h'.ok ∧ I S acc h' ∧ (∀ c, S c → S0 c ∨ h0.next ≤ c) ∧ acc.length ≤ 300000 ∧ acc = scanR z img) := by
  refine call_j (no_w rfl rfl) rfl rfl ?_
  have w1 := pages_w (n := n) (by omega) z img (by omega)
  have pl := pages_le z img
  have low0 := yl.low S0 [] h0 i0
  refine walk ?_
  refine jg_drawn (q := 7) (ms := [0, 0, 3, 0, 0, 31, 63]) (hl := [[12, 14, 4], [11, 14, 4], [14, 4], [11, 12, 13, 4], [11, 12, 13, 14], [], []]) hok rfl (by kernel_rfl) (by kernel_rfl) rfl ?_
  refine walk ?_
  refine jd_call (tries_g (by exact hok)) rfl rfl rfl rfl rfl rfl ?_
  rintro w h1 ⟨bs, lb, x1, ka1, kb1, o1⟩
  have nx1 : h0.next + 7 ≤ h1.next := x1.nx
  have kb2 : ∀ b ∈ bs, h0.next + 7 ≤ b := kb1
  refine walk ?_
  refine jg_loop (ι := Nat × List Rt × (Nat → Prop)) (fun a => pages z img - 2 - a.1) (fun a => [(0, .func (.yield l) [] []), (1, .ptr b1 0), (2, .ptr b2 0), (4, .ptr (h0.next + 4) 0), (5, w), (6, .int .i64 (2 + a.1 : Nat))]) (fun a h => a.1 ≤ pages z img - 2 ∧ a.2.1 = scanTo z img a.1 ∧ ScnI z img bs I S0 h0 (h0.next + 4) w a.2.1 a.2.2 h) (0, [], S0) hsub ⟨Nat.zero_le _, rfl, ?_⟩ ?_
  · exact ScnI.init yl i0 x1 ka1 kb2 o1 (by exact hok) rfl rfl
  rintro ⟨i, acc, S⟩ h2 ⟨hi2, ea, e2⟩ next
  dsimp only at hi2 ea e2 next ⊢
  have gb1 := (e2.t.old b1 l1 n1).trans g1
  have gb2 := (e2.t.old b2 l2 n2).trans g2
  have nx2 := e2.t.nx
  have lw := e2.ow.ls.len
  have nw := e2.ow.ls.ns
  have k2 := e2.k
  rw [lb] at lw
  by_cases c : 2 + i < pages z img
  case neg =>
    refine walk ?_
    refine jg_nil fun tm hs => ends_normal hs rfl ⟨rfl, S, acc, e2.t, e2.k, e2.i, e2.s, ?_, ?_⟩
    · rw [ea]
      have := scanTo_len z img i
      omega
    · rw [ea]
      show _ = scanTo z img (pages z img - 2)
      congr 1
      omega
  refine walk ?_
  refine jg_loop (ι := Nat × List Rt × (Nat → Prop)) (fun a => 5 - a.1) (fun a => [(0, .func (.yield l) [] []), (1, .ptr b1 0), (2, .ptr b2 0), (4, .ptr (h0.next + 4) 0), (5, w), (6, .int .i64 (2 + i : Nat)), (22, w), (23, .int .i64 (5 : Nat)), (24, .int .i64 a.1)]) (fun a h => a.1 ≤ 5 ∧ a.2.1 = scanTo z img i ++ scanN z img (2 + i) a.1 ∧ ScnI z img bs I S0 h0 (h0.next + 4) w a.2.1 a.2.2 h) (0, acc, S) hsub ⟨Nat.zero_le _, by rw [ea]; simp [scanN], e2⟩ ?_
  rintro ⟨j, acc', S'⟩ h3 ⟨hj, ea', e3⟩ next'
  dsimp only at hj ea' e3 next' ⊢
  have nx3 := e3.t.nx
  have k3 := e3.k
  have gf := e3.fg
  have fl := e3.fl
  by_cases cj : j < 5
  case neg =>
    have ej : j = 5 := by omega
    rw [ej, ← scanTo_succ] at ea'
    have e : ((2 + i : Nat) : Int) + 1 = ((2 + (i + 1) : Nat) : Int) := by omega
    refine walk ?_
    rw [e]
    exact next (i + 1, acc', S') (by simp only; omega) (by exact hsub) ⟨by simp only; omega, ea', e3⟩
  obtain ⟨b, hb⟩ : ∃ b, bs[j]? = some b := ⟨_, List.getElem?_eq_getElem (by omega)⟩
  have kbj := e3.ka j b hb
  obtain ⟨B, p', e', all, rw', hbB, hg, hpl, he, a1⟩ := e3.ow.ls.at (fun _ => rfl) hb
  clear gb1 gb2 lw nw e2 next
  refine walk ?_
  refine jo_call (try_g (n := n) hn (z := z) (img := img) (p := 2 + i) (b := b) (k := (2 + j : Nat)) (by omega) (by omega) k3 kbj.2 kbj.1) rfl rfl rfl rfl ?_
  rintro _ h4 ⟨rfl, x4⟩
  have nx4 := x4.nx
  have e5 := e3.ext yl (h' := ((h4.alloc (.cells 30 Pg.zero.cs true)).set h4.next (.cells 30 (rightR z img (2 + i) (2 + j : Nat)).1.cs true))) (by exact hext)
  have k5 := e5.k
  have n5 : h4.next + 1 = (((h4.alloc (.cells 30 Pg.zero.cs true)).set h4.next (.cells 30 (rightR z img (2 + i) (2 + j : Nat)).1.cs true))).next := rfl
  have ss := scanN_succ z img (2 + i) j
  have sl := scanTo_len z img i
  have sl2 := scanN_len z img (2 + i) j
  have la : acc'.length ≤ 500000 := by rw [ea', List.length_append]; omega
  unfold rtOf at ss
  generalize rightR z img (2 + i) (2 + j : Nat) = r at e5 k5 n5 ss
  obtain ⟨r1, r2⟩ := r
  dsimp only at e5 k5 n5 ss ⊢
  cases r2 with
  | false =>
    rw [if_neg (by decide), List.append_nil] at ss
    refine walk ?_
    exact next' (j + 1, acc', S') (by simp only; omega) (by exact hsub) ⟨by simp only; omega, by simp only; rw [ss]; exact ea', e5⟩
  | true =>
    rw [if_pos rfl] at ss
    obtain ⟨fn, tm, nt, asg, bd, einv, rg⟩ := yl.call S' acc' ⟨r1.page, r1.kind, r1.tx⟩ _ la e5.i
    refine walk ?_
    refine jo_round rg rfl rfl rfl (k_yield einv rfl rfl rfl) ?_
    rintro _ h6 ⟨rfl, t6, S6, s6, i6⟩
    have e6 := e5.yield yl t6 s6 i6
    refine walk ?_
    exact next' (j + 1, acc' ++ [⟨r1.page, r1.kind, r1.tx⟩], S6) (by simp only; omega) (by exact hsub) ⟨by simp only; omega, by simp only; rw [ss, ea', List.append_assoc], e6⟩
theorem sEach_g {n : Nat} (z : Int) (img : List UInt8) (h : Heap) : Gives (TV n) 41 [.int .i64 z, .str img] h (fun v h' => v = .func (.func 69) [] [.ptr h.next 0, .ptr (h.next + 1) 0] ∧ h' = (h.alloc (.cells 3 [.int .i64 z] true)).alloc (.cells 9 [.str img] true)) := by
  refine call_j (no_w rfl rfl) rfl rfl ?_
  refine walk ?_
  exact jg_ret1 (by exact hres) ⟨rfl, rfl⟩
theorem sEach_seq {n : Nat} (hn : 8 < n) {z : Int} {img : List UInt8} {b1 b2 : Nat} {h0 : Heap} (hi : img.length ≤ 20000)
    (g1 : h0.get b1 = some (.cells 3 [.int .i64 z] true)) (g2 : h0.get b2 = some (.cells 9 [.str img] true)) (l1 : b1 < h0.next) (l2 : b2 < h0.next) :
    SeqOf (TV n) 69 [.ptr b1 0, .ptr b2 0] Rt.cs h0 (fun acc => acc = scanR z img) := by
  intro l I S0 h yl hk x i0 s0
  have nx := x.nx
  exact scan1_g hn yl hk hi i0 ((x.old _ l1).trans g1) ((x.old _ l2).trans g2) (fun q => by have := s0 _ q; omega) (fun q => by have := s0 _ q; omega) (by omega) (by omega)
theorem scan_g {n : Nat} (hn : 8 < n) {z : Int} {img : List UInt8} {h : Heap} (hk : h.ok) (hi : img.length ≤ 20000) : Gives (TV n) 14 [.int .i64 z, .str img] h (fun v h' => Ext h h' ∧ OwnLS Rt.cs 37 3 (h.next ≤ ·) h' v (scanR z img)) := by
  refine call_j (no_w rfl rfl) rfl rfl ?_
  refine walk ?_
  refine jo_call (sEach_g z img _) rfl rfl rfl rfl ?_
  rintro _ _ ⟨rfl, rfl⟩
  refine walk ?_
  refine jo_call (collect_g rfl rfl (by exact hok) (sEach_seq (n := n) hn (z := z) (img := img) hi (by exact hget) (by exact hget) (by show h.next < h.next + 1 + 1; omega) (by show h.next + 1 < h.next + 1 + 1; omega))) rfl rfl rfl rfl ?_
  rintro v h1 ⟨acc, x, o, la, rfl⟩
  refine walk ?_
  exact jg_ret1 (by exact hres) ⟨Ext.trans (by exact hext) x, o.mono fun c q _ => by have q : h.next + 1 + 1 ≤ c := q; omega⟩
end Go.Proofs.YtbmdcfehionkpaaGreat
