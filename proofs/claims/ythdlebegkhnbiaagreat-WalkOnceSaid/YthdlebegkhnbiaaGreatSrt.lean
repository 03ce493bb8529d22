/- What the functions of this part answer at any input, told by the rules over the evaluator. Conditions: those that each theorem states. -/
import Derived.Test.YthdlebegkhnbiaaGreatFre
import Derived.Test.YthdlebegkhnbiaaGreatGao
import Derived.Sort.AssemblyPlain
open Go Ev
namespace Go.Proofs.YthdlebegkhnbiaaGreat
set_option maxRecDepth 10000
set_option linter.unusedVariables false
set_option linter.unusedSimpArgs false
set_option maxHeartbeats 4000000
set_option linter.unusedVariables false
/-! ### slices.Sort at uint32 -/
abbrev LsW (h : Heap) (v : AV) (l : List Nat) : Prop := Ls u32c 1 h v l
def ltN (x y : Nat) : Bool := decide (x < y)
theorem swo_ltN : Go.Sort.SWO ltN where
  irrefl := fun x => by simp [ltN]
  trans := fun x y z h1 h2 => by simp [ltN] at *; omega
  ntrans := fun x y z h1 h2 => by simp [ltN] at *; omega
def cel (d : Array Nat) (tl : List AV) : List AV := d.toList.flatMap u32c ++ tl
theorem cel_flat (d : Array Nat) : (d.toList.flatMap u32c).length = d.size := by rw [flat_len u32c_len]; simp
theorem cel_len (d : Array Nat) (tl : List AV) : (cel d tl).length = d.size + tl.length := by unfold cel; rw [List.length_append, cel_flat]
/-- a slice whose cells hold numbers; the block's further cells: tl -/
structure Dat (h : Heap) (v : AV) (B : Nat) (d : Array Nat) (tl : List AV) : Prop where
  lt : B < h.next
  get : h.get B = some (.cells 22 (cel d tl) true)
  hd : (∃ cap, v = .slice B 0 d.size cap) ∨ v = .oslice B 0 d.size 1
theorem Dat.ix {h : Heap} {v : AV} {B j : Nat} {d : Array Nat} {tl : List AV} (D : Dat h v B d tl) (hj : j < d.size) {hh : Heap} {T : Ev.Tabs} {ρ : Operand → Option AV} {o : Oper} {t elem : TypeId} {x ix : Operand} {k : IntKind} {i : Int} (ho : o.op = .indexAddr t x ix) (ht : T.und t = some (.slice elem)) (hsz : T.size elem = some 1) (hx : ρ x = some v) (hi : ρ ix = some (.int k i)) (e : i = j) : opA T ρ o hh = .val (.ptr B (0 + j * 1)) hh := by
  subst e
  rcases D.hd with ⟨cap, rfl⟩ | rfl
  · exact k_addrS ho ht hsz hx hi hj
  · exact k_addrO ho ht hsz hx hi hj
theorem Dat.at {h : Heap} {v : AV} {B j : Nat} {d : Array Nat} {tl : List AV} (D : Dat h v B d tl) (hj : j < d.size) : ((cel d tl).drop (0 + j * 1)).take 1 = [.int .u32 ((d[j]! : Nat) : Int)] := by
  have h1 := flat_at u32c_len d.toList j d[j]! (by rw [getElem!_pos d j hj]; simp [hj])
  unfold cel
  rw [Nat.zero_add, Nat.mul_one] at *
  rw [List.drop_append_of_le_length (by rw [cel_flat]; omega), List.take_append_of_le_length (by rw [List.length_drop, cel_flat]; omega)]
  exact h1
theorem cel_set (d : Array Nat) (tl : List AV) {j : Nat} (x : Nat) (hj : j < d.size) : (cel d tl).set (0 + j * 1) (.int .u32 x) = cel (d.setIfInBounds j x) tl := by
  have key : ∀ (l : List Nat) (j : Nat), (l.flatMap u32c).set j (.int .u32 x) = (l.set j x).flatMap u32c := by
    intro l
    induction l with
    | nil => intro j; rfl
    | cons a l ih =>
      intro j
      cases j with
      | zero => rfl
      | succ j =>
        show ((.int .u32 a : AV) :: l.flatMap u32c).set (j + 1) _ = (.int .u32 a : AV) :: (l.set j x).flatMap u32c
        rw [List.set_cons_succ, ih]
  unfold cel
  rw [Nat.zero_add, Nat.mul_one, List.set_append_left _ _ (by rw [cel_flat]; exact hj), key]
  congr 1
  simp
theorem cel_swp (d : Array Nat) (tl : List AV) {i j : Nat} (hi : i < d.size) (hj : j < d.size) : ((cel d tl).set (0 + i * 1) (.int .u32 ((d[j]! : Nat) : Int))).set (0 + j * 1) (.int .u32 ((d[i]! : Nat) : Int)) = cel (Go.Sort.swp d i j) tl := by
  rw [cel_set d tl _ hi, cel_set _ tl _ (by simpa using hj)]
  rfl
theorem swp_size (d : Array Nat) (i j : Nat) : (Go.Sort.swp d i j).size = d.size := Go.Sort.size_swp d i j
theorem Dat.swp {h h' : Heap} {v : AV} {B i j : Nat} {d : Array Nat} {tl : List AV} (D : Dat h v B d tl) (hi : i < d.size) (hj : j < d.size) (hn : h.next ≤ h'.next) (o : AObj) : Dat ((h'.set B o).set B (.cells 22 (((cel d tl).set (0 + i * 1) (.int .u32 ((d[j]! : Nat) : Int))).set (0 + j * 1) (.int .u32 ((d[i]! : Nat) : Int))) true)) v B (Go.Sort.swp d i j) tl := by
  rw [cel_swp d tl hi hj]
  exact ⟨Nat.lt_of_lt_of_le D.lt hn, Heap.gs _ _ _, by rw [swp_size]; exact D.hd⟩
/-- only one block has turned -/
structure Only (B : Nat) (h h' : Heap) : Prop where
  nx : h.next ≤ h'.next
  old : ∀ c, c < h.next → c ≠ B → h'.get c = h.get c
  ok : h.ok → h'.ok
theorem Only.refl (B : Nat) (h : Heap) : Only B h h := ⟨Nat.le_refl _, fun _ _ _ => rfl, id⟩
theorem Only.trans {B : Nat} {a b c : Heap} (x : Only B a b) (y : Only B b c) : Only B a c := ⟨Nat.le_trans x.nx y.nx, fun n hn hb => (y.old n (Nat.lt_of_lt_of_le hn x.nx) hb).trans (x.old n hn hb), fun k => y.ok (x.ok k)⟩
theorem Only.two {B n : Nat} {h : Heap} (hl : B < h.next) (k : h.ok) (o p : AObj) : Only B h (((Heap.mk h.t (h.next + n)).set B o).set B p) := ⟨by show h.next ≤ h.next + n; omega, fun c _ hb => by rw [Heap.gn _ _ _ _ hb, Heap.gn _ _ _ _ hb]; rfl, fun _ => ok_st (ok_st (Heap.ok_more k n) _ _ (by show B < h.next + n; omega)) _ _ (by show B < h.next + n; omega)⟩
theorem Only.more {B n : Nat} {h : Heap} (k : h.ok) : Only B h (Heap.mk h.t (h.next + n)) := ⟨by show h.next ≤ h.next + n; omega, fun _ _ _ => rfl, fun _ => Heap.ok_more k n⟩
theorem Dat.more {h : Heap} {v : AV} {B n : Nat} {d : Array Nat} {tl : List AV} (D : Dat h v B d tl) : Dat (Heap.mk h.t (h.next + n)) v B d tl := ⟨by have := D.lt; show B < h.next + n; omega, D.get, D.hd⟩
theorem Dat.ext {h h' : Heap} {v : AV} {B : Nat} {d : Array Nat} {tl : List AV} (D : Dat h v B d tl) (x : Ext h h') : Dat h' v B d tl := ⟨Nat.lt_of_lt_of_le D.lt x.nx, (x.old _ D.lt).trans D.get, D.hd⟩
theorem nan_w {n : Nat} (hn : 0 < n) (x : Nat) (h : Heap) : (TV n).sm 85 [.int .u32 x] h = some (.bool false, h) := by
  refine w_of hn rfl rfl rfl fun n hn => body_j rfl rfl ?_
  refine walk ?_
  exact jg_ret1 (by exact hres) (show AV.bool (decide ((x : Int) ≠ (x : Int))) = .bool false by simp)
theorem less_w {n : Nat} (hn : 1 < n) (x y : Nat) (h : Heap) : (TV n).sm 56 [.int .u32 x, .int .u32 y] h = some (.bool (ltN x y), h) := by
  refine w_of hn rfl rfl rfl fun n hn => body_j rfl rfl ?_
  have w1 := nan_w (n := n) (by omega) x
  have w2 := nan_w (n := n) (by omega) y
  unfold ltN
  refine walk ?_
  exact jg_ret1 (by exact hres) (av_d (by omega))
theorem ins_g {n : Nat} (hn : 1 < n) {v : AV} {B a b : Nat} {d : Array Nat} {tl : List AV} {h : Heap} (D : Dat h v B d tl) (hk : h.ok) (hs : d.size ≤ 1000000) (hab : a ≤ b) (hb : b ≤ d.size) : Gives (TV n) 50 [v, .int .i64 a, .int .i64 b] h (fun _ h' => Dat h' v B (Go.Sort.insertionSort ltN d a b) tl ∧ Only B h h') := by
  refine call_j (no_w rfl rfl) rfl rfl ?_
  unfold Go.Sort.insertionSort
  generalize hR : Go.Sort.insOuter ltN a b (a + 1) d = R
  refine walk ?_
  refine jg_loop (ι := Nat × Array Nat) (fun x => b - x.1) (fun x => [(0, v), (1, .int .i64 a), (2, .int .i64 b), (6, .int .i64 (x.1 : Nat))]) (fun x h2 => a < x.1 ∧ x.1 ≤ b + 1 ∧ x.2.size = d.size ∧ Go.Sort.insOuter ltN a b x.1 x.2 = R ∧ Dat h2 v B x.2 tl ∧ Only B h h2) (a + 1, d) hsub ⟨by simp only; omega, by simp only; omega, rfl, hR, D, .refl _ _⟩ ?_
  rintro ⟨i, d1⟩ h2 ⟨h1, hi, sz, eR, D1, O1⟩ next
  dsimp only at h1 hi sz eR D1 next ⊢
  rw [Go.Sort.insOuter] at eR
  by_cases c1 : (i : Int) < (b : Int)
  case neg =>
    rw [if_neg (by omega)] at eR
    subst eR
    refine walk ?_
    exact jg_nil fun tm hs => ends_normal hs rfl ⟨D1, O1⟩
  rw [if_pos (by omega)] at eR
  refine walk ?_
  refine jg_loop (ι := Nat × Array Nat) (fun x => x.1) (fun x => [(0, v), (1, .int .i64 a), (2, .int .i64 b), (6, .int .i64 (i : Nat)), (7, .int .i64 (x.1 : Nat))]) (fun x h3 => x.1 ≤ i ∧ x.2.size = d.size ∧ Go.Sort.insInner ltN a x.1 x.2 = Go.Sort.insInner ltN a i d1 ∧ Dat h3 v B x.2 tl ∧ Only B h h3) (i, d1) hsub ⟨by simp only; omega, sz, rfl, D1, O1⟩ ?_
  rintro ⟨j, d2⟩ h3 ⟨hj, sz2, eI, D2, O2⟩ next2
  dsimp only at hj sz2 eI D2 next2 ⊢
  have k3 := O2.ok hk
  have g3 := D2.get
  by_cases c2 : (a : Int) < (j : Int)
  case neg =>
    have e : Go.Sort.insInner ltN a j d2 = d2 := by
      cases j with
      | zero => rfl
      | succ k => rw [Go.Sort.insInner, if_neg (by simp; omega)]
    rw [e] at eI
    subst eI
    refine walk ?_
    refine jg_drawn (q := 15) (ms := [0, 0, 3, 7, 15, 15, 63, 127, 15, 15, 527, 1807, 3855, 8191, 16383]) (hl := [[17], [16], [], [], [21, 24, 25, 26, 27, 28], [20, 24, 25, 26, 27, 28], [24, 25, 26, 27, 28], [24, 25, 26, 27, 28], [20, 21, 22, 23, 25, 26], [20, 21, 22, 23, 24], [20, 21, 22, 23, 24], [20, 21, 22, 23], [20, 21, 22, 23], [], []]) k3 rfl (by kernel_rfl) (by kernel_rfl) rfl ?_
    refine walk ?_
    refine next (i + 1, _) (by simp only; omega) hsub ⟨by simp only; omega, by simp only; omega, sz2, eR, D2.more, O2.trans (.more k3)⟩
  obtain ⟨k, rfl⟩ : ∃ k, j = k + 1 := ⟨j - 1, by omega⟩
  have a1 := @Dat.ix _ _ _ (k + 1) _ _ D2 (by omega)
  have a2 := @Dat.ix _ _ _ k _ _ D2 (by omega)
  have he1 := D2.at (j := k + 1) (by omega)
  have he2 := D2.at (j := k) (by omega)
  have w1 := less_w (n := n) hn d2[k + 1]! d2[k]!
  rw [Go.Sort.insInner] at eI
  refine walk ?_
  refine jg_drawn (q := 15) (ms := [0, 0, 3, 7, 15, 15, 63, 127, 15, 15, 527, 1807, 3855, 8191, 16383]) (hl := [[17], [16], [], [], [21, 24, 25, 26, 27, 28], [20, 24, 25, 26, 27, 28], [24, 25, 26, 27, 28], [24, 25, 26, 27, 28], [20, 21, 22, 23, 25, 26], [20, 21, 22, 23, 24], [20, 21, 22, 23, 24], [20, 21, 22, 23], [20, 21, 22, 23], [], []]) k3 rfl (by kernel_rfl) (by kernel_rfl) rfl ?_
  refine walk ?_
  have kx : Heap.ok { t := h3.t, next := h3.next + 15 } := Heap.ok_more k3 15
  refine jg_bool rfl (fun c3 => ?_) (fun c3 => ?_)
  · rw [if_pos (by rw [c3]; simp; omega)] at eI
    have s1 : 0 + (k + 1) * 1 < (cel d2 tl).length := by rw [cel_len]; omega
    have s2 : 0 + k * 1 < ((cel d2 tl).set (0 + (k + 1) * 1) (.int .u32 ((d2[k]! : Nat) : Int))).length := by rw [List.length_set, cel_len]; omega
    refine walk ?_
    refine jg_drawn (q := 18) (ms := [0, 0, 0, 0, 8, 0, 0, 64, 224, 480, 0, 0, 3072, 7168, 16355, 32739, 65535, 131071]) (hl := [[34, 35, 36, 37, 38, 39, 40, 41, 42, 43, 44, 45, 46], [33, 35, 36, 37, 38, 39, 40, 41, 42, 43, 44, 45, 46], [33, 34, 36, 37, 38, 39, 40, 41, 42, 43, 44, 45, 46, 47], [33, 34, 35, 38, 39, 40, 41, 42, 43, 44, 45, 46, 47], [33, 34, 35, 38, 39, 40, 41, 42, 43, 44, 45, 46, 47], [33, 34, 35, 36, 37, 39, 40, 43, 44, 45, 46], [33, 34, 35, 36, 37, 38, 43, 44, 45, 46], [33, 34, 35, 36, 37, 38, 43, 44, 45, 46], [33, 34, 35, 36, 37, 43, 44, 45, 46], [33, 34, 35, 36, 37, 43, 44, 45, 46], [33, 34, 35, 36, 37, 38, 39, 40, 41, 42, 44], [33, 34, 35, 36, 37, 38, 39, 40, 41, 42, 43], [33, 34, 35, 36, 37, 38, 39, 40, 41, 42], [33, 34, 35, 36, 37, 38, 39, 40, 41, 42], [35, 36, 37], [35, 36, 37], [], []]) kx rfl (by kernel_rfl) (by kernel_rfl) rfl ?_
    refine walk ?_
    rw [show (((k + 1 : Nat) : Int) - 1) = (k : Int) by omega]
    exact next2 (k, Go.Sort.swp d2 (k + 1) k) (by simp only; omega) hsub ⟨by simp only; omega, by simp only [swp_size]; exact sz2, eI, D2.swp (h' := Heap.mk h3.t (h3.next + 33)) (by omega) (by omega) (by show h3.next ≤ h3.next + 33; omega) _, O2.trans (Only.two (n := 33) D2.lt k3 _ _)⟩
  · rw [if_neg (by rw [c3]; simp)] at eI
    subst eI
    refine walk ?_
    refine next (i + 1, _) (by simp only; omega) hsub ⟨by simp only; omega, by simp only; omega, sz2, eR, D2.more, O2.trans (.more k3)⟩
end Go.Proofs.YthdlebegkhnbiaaGreat
