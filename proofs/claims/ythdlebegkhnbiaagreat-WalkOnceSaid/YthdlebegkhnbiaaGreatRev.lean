/- What the functions of this part answer at any input, told by the rules over the evaluator. Conditions: those that each theorem states. -/
import Derived.Test.YthdlebegkhnbiaaGreatVts
import Derived.Test.YthdlebegkhnbiaaGreatGao
open Go Ev
namespace Go.Proofs.YthdlebegkhnbiaaGreat
set_option maxRecDepth 10000
set_option linter.unusedVariables false
set_option linter.unusedSimpArgs false
set_option maxHeartbeats 4000000
set_option linter.unusedVariables false
/-! ### slices.Reverse -/
def mid (l l2 : List Vis) (i : Nat) : Prop := l2.length = l.length ∧ ∀ k, l2[k]? = if k < i ∨ l.length < k + i + 1 then l.reverse[k]? else l[k]?
theorem mid_0 (l : List Vis) : mid l l 0 := ⟨rfl, fun k => by
  by_cases c : l.length < k + 0 + 1
  · rw [if_pos (.inr c), List.getElem?_eq_none (by omega), List.getElem?_eq_none (by simp; omega)]
  · rw [if_neg (by omega)]⟩
theorem mid_end {l l2 : List Vis} {i : Nat} (m : mid l l2 i) (h : l.length ≤ i + i + 1) : l2 = l.reverse := by
  apply List.ext_getElem?
  intro k
  rw [m.2]
  by_cases c : k < i ∨ l.length < k + i + 1
  · rw [if_pos c]
  · rw [if_neg c, List.getElem?_reverse (by omega)]
    congr 1
    omega
theorem mid_s {l l2 : List Vis} {i : Nat} {a b : Vis} (m : mid l l2 i) (h : i + i + 1 < l.length) (ha : l2[i]? = some a) (hb : l2[l.length - 1 - i]? = some b) : mid l ((l2.set i b).set (l.length - 1 - i) a) (i + 1) := by
  refine ⟨by simp [m.1], fun k => ?_⟩
  have ma := m.2 i
  have mb := m.2 (l.length - 1 - i)
  rw [if_neg (by omega), ha] at ma
  rw [if_neg (by omega), hb] at mb
  have ml := m.1
  rw [List.getElem?_set, List.getElem?_set, List.length_set]
  by_cases c1 : l.length - 1 - i = k
  · rw [if_pos c1, if_pos (by omega), if_pos (by omega), List.getElem?_reverse (by omega), ma]
    congr 1
    omega
  · rw [if_neg c1]
    by_cases c2 : i = k
    · rw [if_pos c2, if_pos (by omega), if_pos (by omega), List.getElem?_reverse (by omega), mb]
      congr 1
      omega
    · rw [if_neg c2, m.2]
      by_cases c : k < i ∨ l.length < k + i + 1
      · rw [if_pos c, if_pos (by omega)]
      · rw [if_neg c, if_neg (by omega)]
theorem reverse_g {n lo : Nat} {l : List Vis} {v : AV} {h : Heap} (hk : h.ok) (ow : OwnLV lo h v l) (hl : l.length ≤ 1000000) : Gives (TV n) 29 [v] h (fun v' h' => v' = .tuple [] ∧ Keep lo h h' ∧ OwnLV lo h' v l.reverse) := by
  refine call_j (no_w rfl rfl) rfl rfl ?_
  have ls := ow.ls
  have hlen := ls.len
  refine walk ?_
  refine jg_loop (ι := Nat × Int × List Vis) (fun a => l.length - a.1) (fun a => [(0, v), (2, .int .i64 (a.1 : Nat)), (3, .int .i64 a.2.1)]) (fun a h2 => 2 * a.1 ≤ l.length + 1 ∧ a.2.1 = (l.length : Int) - 1 - a.1 ∧ Keep lo h h2 ∧ OwnLV lo h2 v a.2.2 ∧ mid l a.2.2 a.1) (0, (l.length : Int) - 1, l) hsub ⟨by omega, by simp, Keep.refl _ _, ow, mid_0 l⟩ ?_
  rintro ⟨i, j, l2⟩ h2 ⟨hi, hj, k2, o2, m⟩ next
  dsimp only at hi hj o2 m next ⊢
  have ml := m.1
  by_cases c : i + i + 1 < l.length
  case neg =>
    have e := mid_end m (by omega)
    subst e
    refine walk ?_
    exact jg_nil fun tm hs => ends_normal hs rfl ⟨rfl, k2, o2⟩
  obtain ⟨a, ha⟩ : ∃ a, l2[i]? = some a := ⟨l2[i]'(by rw [m.1]; omega), List.getElem?_eq_getElem _⟩
  obtain ⟨b, hb⟩ : ∃ b, l2[l.length - 1 - i]? = some b := ⟨l2[l.length - 1 - i]'(by rw [m.1]; omega), List.getElem?_eq_getElem _⟩
  have ms := mid_s m (by omega) ha hb
  obtain ⟨q, rfl⟩ : ∃ q : Nat, j = q := ⟨l.length - 1 - i, by omega⟩
  have hq : l.length - 1 - i = q := by omega
  rw [hq] at hb ms
  have ok2 := k2.ok hk
  unfold OwnLV OwnL at o2
  generalize hcs : l2.flatMap Vis.cs = cs at o2
  generalize hln : l2.length = ln at o2
  cases o2 with
  | nil => omega
  | sl h1 h2' h3 h4 h5 h6 =>
    rename_i B cap all
    subst hln hcs
    obtain ⟨r1, r2⟩ := row_own Vis.csl ha h6
    obtain ⟨r3, r4⟩ := row_own Vis.csl hb h6
    have hle : l2.length * 8 ≤ all.length := by omega
    have s1 : 0 + i * 8 + 8 ≤ all.length := by omega
    have s2 : 0 + q * 8 + 8 ≤ all.length := by omega
    have f1 := over_own Vis.csl (i := i) b (by omega) h6
    have f2 := over_own (l := l2.set i b) (i := q) Vis.csl a (by rw [List.length_set]; omega) (by rw [List.length_set]; exact f1)
    rw [List.length_set] at f2
    have s3 : 0 + q * 8 + 8 ≤ (over all (0 + i * 8) b.cs).length := by rw [over_len _ _ _ s1]; exact s2
    have s4 : (over (over all (0 + i * 8) b.cs) (0 + q * 8) a.cs).length = all.length := by rw [over_len _ _ _ s3, over_len _ _ _ s1]
    have el : ((l2.set i b).set q a).length = l2.length := by simp
    refine walk ?_
    refine jg_drawn (q := 16) (ms := [0, 0, 0, 0, 0, 0, 48, 112, 0, 0, 768, 1792, 4083, 8179, 16383, 32767]) (hl := [[15, 16, 17, 18, 19, 20, 21, 22, 23, 24, 25], [14, 16, 17, 18, 19, 20, 21, 22, 23, 24, 25], [14, 15, 17, 18, 19, 20, 21, 22, 23, 24, 25, 26], [14, 15, 16, 18, 19, 20, 21, 22, 23, 24, 25, 26], [14, 15, 16, 17, 19, 22, 23, 24, 25], [14, 15, 16, 17, 18, 22, 23, 24, 25], [14, 15, 16, 17, 22, 23, 24, 25], [14, 15, 16, 17, 22, 23, 24, 25], [14, 15, 16, 17, 18, 19, 20, 21, 23], [14, 15, 16, 17, 18, 19, 20, 21, 22], [14, 15, 16, 17, 18, 19, 20, 21], [14, 15, 16, 17, 18, 19, 20, 21], [16, 17], [16, 17], [], []]) hok rfl (by kernel_rfl) (by kernel_rfl) rfl ?_
    refine walk ?_
    refine jd_skip rfl rfl rfl (k_storeN rfl rfl rfl rfl rfl rfl hget s1) ?_
    refine walk ?_
    refine jd_skip rfl rfl rfl (k_storeN rfl rfl rfl rfl rfl rfl (Heap.gs _ _ _) s3) ?_
    refine walk ?_
    refine next (i + 1, (q : Int) - 1, (l2.set i b).set q a) (by simp only; omega) hsub ⟨by simp only; omega, by simp only; omega, ((k2.mr ok2 16).st B _ h1 (by show B < h2.next + 16; omega)).st B _ h1 (by show B < h2.next + 16; omega), ?_, ms⟩
    simp only
    unfold OwnLV OwnL
    rw [el]
    exact Own.sl h1 (by show B < h2.next + 16; omega) (Heap.gs _ _ _) h4 (s4.trans h5) f2
  | os h1 h2' h3 h4 h5 =>
    rename_i B
    subst hln
    have h6 : cs.take (l2.length * 8) = l2.flatMap Vis.cs := by rw [hcs]; exact List.take_of_length_le (by omega)
    clear hcs
    generalize cs = all at h3 h4 h6
    obtain ⟨r1, r2⟩ := row_own Vis.csl ha h6
    obtain ⟨r3, r4⟩ := row_own Vis.csl hb h6
    have hle : l2.length * 8 ≤ all.length := by omega
    have s1 : 0 + i * 8 + 8 ≤ all.length := by omega
    have s2 : 0 + q * 8 + 8 ≤ all.length := by omega
    have f1 := over_own Vis.csl (i := i) b (by omega) h6
    have f2 := over_own (l := l2.set i b) (i := q) Vis.csl a (by rw [List.length_set]; omega) (by rw [List.length_set]; exact f1)
    rw [List.length_set] at f2
    have s3 : 0 + q * 8 + 8 ≤ (over all (0 + i * 8) b.cs).length := by rw [over_len _ _ _ s1]; exact s2
    have s4 : (over (over all (0 + i * 8) b.cs) (0 + q * 8) a.cs).length = all.length := by rw [over_len _ _ _ s3, over_len _ _ _ s1]
    have el : ((l2.set i b).set q a).length = l2.length := by simp
    refine walk ?_
    refine jg_drawn (q := 16) (ms := [0, 0, 0, 0, 0, 0, 48, 112, 0, 0, 768, 1792, 4083, 8179, 16383, 32767]) (hl := [[15, 16, 17, 18, 19, 20, 21, 22, 23, 24, 25], [14, 16, 17, 18, 19, 20, 21, 22, 23, 24, 25], [14, 15, 17, 18, 19, 20, 21, 22, 23, 24, 25, 26], [14, 15, 16, 18, 19, 20, 21, 22, 23, 24, 25, 26], [14, 15, 16, 17, 19, 22, 23, 24, 25], [14, 15, 16, 17, 18, 22, 23, 24, 25], [14, 15, 16, 17, 22, 23, 24, 25], [14, 15, 16, 17, 22, 23, 24, 25], [14, 15, 16, 17, 18, 19, 20, 21, 23], [14, 15, 16, 17, 18, 19, 20, 21, 22], [14, 15, 16, 17, 18, 19, 20, 21], [14, 15, 16, 17, 18, 19, 20, 21], [16, 17], [16, 17], [], []]) hok rfl (by kernel_rfl) (by kernel_rfl) rfl ?_
    refine walk ?_
    refine jd_skip rfl rfl rfl (k_storeN rfl rfl rfl rfl rfl rfl hget s1) ?_
    refine walk ?_
    refine jd_skip rfl rfl rfl (k_storeN rfl rfl rfl rfl rfl rfl (Heap.gs _ _ _) s3) ?_
    refine walk ?_
    refine next (i + 1, (q : Int) - 1, (l2.set i b).set q a) (by simp only; omega) hsub ⟨by simp only; omega, by simp only; omega, ((k2.mr ok2 16).st B _ h1 (by show B < h2.next + 16; omega)).st B _ h1 (by show B < h2.next + 16; omega), ?_, ms⟩
    simp only
    unfold OwnLV OwnL
    rw [el]
    have f3 : over (over all (0 + i * 8) b.cs) (0 + q * 8) a.cs = ((l2.set i b).set q a).flatMap Vis.cs := by rw [← f2]; exact (List.take_of_length_le (by omega)).symm
    refine Own.os h1 (by show B < h2.next + 16; omega) ?_ (by rw [← f3]; omega) h5
    rw [← f3]
    exact Heap.gs _ _ _
end Go.Proofs.YthdlebegkhnbiaaGreat
