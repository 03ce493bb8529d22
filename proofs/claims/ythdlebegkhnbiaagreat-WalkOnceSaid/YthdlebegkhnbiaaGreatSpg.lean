/- What the functions of this part answer at any input, told by the rules over the evaluator. Conditions: those that each theorem states. -/
import Derived.Test.YthdlebegkhnbiaaGreatSr8
open Go Ev
namespace Go.Proofs.YthdlebegkhnbiaaGreat
set_option maxRecDepth 10000
set_option linter.unusedVariables false
set_option linter.unusedSimpArgs false
set_option maxHeartbeats 2000000
set_option linter.unusedVariables false
/-! ### slices.Sort, slices.Compact at uint32, by lists -/
abbrev OwnW (S : Nat → Prop) (h : Heap) (v : AV) (l : List Nat) : Prop := OwnLS u32c 22 1 S h v l
def IsSort (l l' : List Nat) : Prop := l'.Perm l ∧ l'.Pairwise (· ≤ ·)
theorem ins_0 {n : Nat} {v : AV} {h : Heap} : Gives (TV n) 50 [v, .int .i64 0, .int .i64 0] h (fun v' h' => h' = h) := by
  refine call_j (no_w rfl rfl) rfl rfl ?_
  refine walk ?_
  refine jg_loop1 ?_
  refine walk ?_
  exact jg_nil fun tm hs => ends_normal hs rfl rfl
theorem pdq_0 {n : Nat} {v : AV} {h : Heap} : Gives (TV n) 30 [v, .int .i64 0, .int .i64 0, .int .i64 0] h (fun v' h' => h' = h) := by
  refine call_j (no_w rfl rfl) rfl rfl ?_
  refine walk ?_
  refine jg_loop1 ?_
  refine walk ?_
  refine jo_call (ins_0 (n := n)) rfl rfl rfl rfl ?_
  rintro u _ rfl
  refine walk ?_
  exact jg_fin fun tm hs => ends_ret hs rfl rfl
theorem sort_0 {n : Nat} (hn : 2 < n) {v : AV} {h : Heap} (hl : lenS v = some 0) (hns : v.isStr = false) : Gives (TV n) 15 [v] h (fun v' h' => v' = .tuple [] ∧ h' = h) := by
  refine call_j (no_w rfl rfl) rfl rfl ?_
  have w1 := len_w (n := n) (by omega) 0 (by decide)
  refine walk ?_
  refine jo_call (pdq_0 (n := n)) rfl rfl rfl rfl ?_
  rintro u _ rfl
  refine walk ?_
  exact jg_nil fun tm hs => ends_normal hs rfl ⟨rfl, rfl⟩
theorem issort_of {d d' : Array Nat} (pm : Go.Sort.PermIn 0 d.size d d') (so : Go.Sort.SortedIn ltN 0 d.size d') : IsSort d.toList d'.toList := by
  obtain ⟨sz, _, p⟩ := pm
  refine ⟨?_, ?_⟩
  · have e1 : d'.extract 0 d.size = d' := by rw [← sz]; simp
    have e2 : d.extract 0 d.size = d := by simp
    rw [e1, e2] at p
    exact p
  · rw [List.pairwise_iff_getElem]
    intro i j hi hj hij
    have := so i j (Nat.zero_le _) hij (by simp at hj; omega)
    simp only [ltN, decide_eq_false_iff_not] at this
    have h1 : d'[i]! = d'.toList[i] := by rw [getElem!_pos d' i (by simpa using hi)]; simp
    have h2 : d'[j]! = d'.toList[j] := by rw [getElem!_pos d' j (by simpa using hj)]; simp
    rw [h1, h2] at this
    omega
theorem sort_own {n : Nat} (hn : 2 < n) {S : Nat → Prop} {v : AV} {l : List Nat} {h : Heap} (o : OwnW S h v l) (hk : h.ok) (hs : l.length < 50) : Gives (TV n) 15 [v] h (fun v' h' => v' = .tuple [] ∧ ∃ l', IsSort l l' ∧ OwnW S h' v l' ∧ Ev.Touch S h h') := by
  have hl : lenS v = some l.length := o.ls.len
  have hns : v.isStr = false := o.ls.ns
  rcases Nat.eq_zero_or_pos l.length with h0 | h0
  · refine Gives.mono (sort_0 hn (hl.trans (by rw [h0])) hns) ?_
    rintro v' _ ⟨rfl, rfl⟩
    have : l = [] := List.length_eq_zero_iff.1 h0
    subst this
    exact ⟨rfl, [], ⟨.refl _, .nil⟩, o, .refl _ _⟩
  obtain ⟨B, tl, hB, hlt, hg, hd, back⟩ : ∃ B tl, S B ∧ B < h.next ∧ h.get B = some (.cells 22 (cel l.toArray tl) true) ∧ ((∃ cap, v = .slice B 0 l.length cap) ∨ v = .oslice B 0 l.length 1) ∧ (∀ (l' : List Nat) (h' : Heap), l'.length = l.length → B < h'.next → h'.get B = some (.cells 22 (cel l'.toArray tl) true) → OwnW S h' v l') := by
    unfold OwnW OwnLS at o
    have fl : (l.flatMap u32c).length = l.length * 1 := flat_len u32c_len l
    have key : ∀ (all : List AV), all.take (l.length * 1) = l.flatMap u32c → ∃ tl, all = cel l.toArray tl := fun all ha => ⟨all.drop (l.length * 1), by unfold cel; rw [List.toList_toArray, ← ha, List.take_append_drop]⟩
    have fl2 : ∀ (l' : List Nat) tl, l'.length = l.length → (cel l'.toArray tl).take (l'.length * 1) = l'.flatMap u32c := fun l' tl e => by
      unfold cel
      rw [List.toList_toArray]
      exact List.take_left' (flat_len u32c_len l')
    generalize hcs : l.flatMap u32c = cs at o
    generalize hln : l.length = ln at o
    cases o with
    | nil => omega
    | @sl B cap n all cs hb hl2 hg hn' ha hc =>
      subst hln hcs
      obtain ⟨tl, rfl⟩ := key all hc
      refine ⟨B, tl, hb, hl2, hg, .inl ⟨cap, rfl⟩, fun l' h' e1 e2 e3 => ?_⟩
      unfold OwnW OwnLS
      rw [e1]
      refine .sl hb e2 e3 hn' ?_ (by rw [← e1]; exact fl2 l' tl e1)
      rw [← ha, cel_len, cel_len]; simp [e1]
    | @os B cap n all cs hb hl2 hg hn' ha hc =>
      subst hln hcs
      obtain ⟨tl, rfl⟩ := key all hc
      refine ⟨B, tl, hb, hl2, hg, .inr rfl, fun l' h' e1 e2 e3 => ?_⟩
      unfold OwnW OwnLS
      rw [e1]
      refine .os hb e2 e3 hn' ?_ (by rw [← e1]; exact fl2 l' tl e1)
      rw [← ha, cel_len, cel_len]; simp [e1]
  refine Gives.mono (sort_g hn (d := l.toArray) (tl := tl) ⟨hlt, hg, hd⟩ hk (by simpa using hs)) ?_
  rintro v' h' ⟨rfl, d', pm, so, D', O'⟩
  refine ⟨rfl, d'.toList, issort_of pm so, back d'.toList h' (by have := pm.1; simpa using this) D'.lt (by simpa using D'.get), O'.nx, fun c hc hS => O'.old c hc (fun e => hS (e ▸ hB)), O'.ok⟩
theorem issort_lt {l l' : List Nat} (s : IsSort l l') (hn : l.Nodup) : l'.Pairwise (· < ·) := by
  have h1 := s.1.nodup_iff.2 hn
  have h2 := s.2
  exact (List.pairwise_and_iff.2 ⟨h2, h1⟩).imp fun h => by omega
/-- Compact of what rises: nothing falls away -/
theorem compact_g {n : Nat} {v : AV} {l : List Nat} {h : Heap} (ls : LsW h v l) (hk : h.ok) (hl : l.length ≤ 1000000) (hp : l.Pairwise (· < ·)) : Gives (TV n) 16 [v] h (fun v' h' => v' = v ∧ Ext h h') := by
  refine call_j (no_w rfl rfl) rfl rfl ?_
  have lv := ls.len
  have nv := ls.ns
  by_cases c1 : (l.length : Int) < 2
  · refine walk ?_
    exact jg_ret1 (by exact hres) ⟨rfl, .refl _⟩
  refine walk ?_
  refine jg_loop (ι := Nat) (fun i => l.length - i) (fun i => [(0, v), (3, .int .i64 (i : Nat))]) (fun i h2 => 1 ≤ i ∧ i ≤ l.length ∧ Ext h h2) 1 hsub ⟨by omega, by omega, .refl _⟩ ?_
  rintro i h2 ⟨h1, hi, x2⟩ next
  by_cases c2 : (i : Int) < (l.length : Int)
  case neg =>
    refine walk ?_
    exact jg_ret1 (by exact hres) ⟨rfl, x2⟩
  obtain ⟨x, hx⟩ : ∃ x, l[i]? = some x := ⟨l[i]'(by omega), List.getElem?_eq_getElem (by omega)⟩
  obtain ⟨y, hy⟩ : ∃ y, l[i - 1]? = some y := ⟨l[i - 1]'(by omega), List.getElem?_eq_getElem (by omega)⟩
  obtain ⟨q1, p1, e1, all1, rw1, hb1, hg1, hpl1, he1, a1⟩ := (ls.ext x2).at u32c_len hx
  obtain ⟨q2, p2, e2, all2, rw2, hb2, hg2, hpl2, he2, a2⟩ := (ls.ext x2).at u32c_len hy
  have he1 : (all1.drop p1).take 1 = [.int .u32 (x : Nat)] := he1
  have he2 : (all2.drop p2).take 1 = [.int .u32 (y : Nat)] := he2
  have lt : y < x := by
    have := List.pairwise_iff_getElem.1 hp (i - 1) i (by omega) (by omega) (by omega)
    rw [List.getElem?_eq_getElem (by omega)] at hx hy
    cases hx; cases hy
    exact this
  have c3 : ¬ (x : Int) = (y : Int) := by omega
  have k2 := x2.ok hk
  refine walk ?_
  refine jg_drawn (q := 10) (ms := [0, 0, 3, 7, 0, 0, 32, 112, 240, 511]) (hl := [[17, 20, 21, 22, 23, 24], [16, 20, 21, 22, 23, 24], [20, 21, 22, 23, 24], [20, 21, 22, 23, 24], [16, 17, 18, 19, 21, 22], [16, 17, 18, 19, 20], [16, 17, 18, 19, 20], [16, 17, 18, 19], [16, 17, 18, 19], []]) k2 rfl (by kernel_rfl) (by kernel_rfl) rfl ?_
  refine walk ?_
  exact next (i + 1) (by omega) hsub ⟨by omega, by omega, by exact hext⟩
end Go.Proofs.YthdlebegkhnbiaaGreat
