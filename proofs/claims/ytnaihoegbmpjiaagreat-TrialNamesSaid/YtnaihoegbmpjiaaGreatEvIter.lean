/- A part of the proof that what the evaluator (EvDefs) says of a call is what the machine does: EvIter. Conditions: those that each theorem states. -/
import Derived.Test.YtnaihoegbmpjiaaGreatEvOps10
set_option linter.unusedVariables false
set_option linter.unusedSimpArgs false
namespace Ev
open Go Go.RowKit

variable {P : Program} {T : Tabs} {base : Nat} {w0 : World}

/-! ### going through a map -/
theorem memN_eq (n : Nat) : ∀ (l : List Nat), memN n l = l.contains n
  | [] => by simp [memN]
  | m :: l => by
    unfold memN
    cases h : Nat.beq n m with
    | true => have := Nat.eq_of_beq_eq_true h; subst this; simp
    | false =>
      have hne : ¬ n = m := fun e => by subst e; simp at h
      simp [memN_eq n l, hne]
theorem run_getIter {w : World} {r : Nat} {m : Option Nat} {s : Nat} {seen : Array Nat} {c : Nat} (h : w.heap[r]? = some (.mapIter m s seen c)) : (getObj r).run P w = .ok (.mapIter m s seen c) w := by simp [getObj, Sem.run, h]
theorem run_setIter {w : World} {r : Nat} {m : Option Nat} {s : Nat} {seen : Array Nat} {c : Nat} (h : w.heap[r]? = some (.mapIter m s seen c)) (o : Obj) : (setObj r o).run P w = .ok () (w.putObj r o) := by simp [setObj, Sem.run, h, World.putObj]

theorem range_sound (ok : TabsOK P T) {E : En} {h : Heap} {w : World} (H : HR base w0 E h w) {t : TypeId} {m : AV} {o : AObj} (hr : rangeA T t h m = some o) {m' : Value} (hm : VR E m m') :
    ∃ E' w' v', (Instr.range t m').run P w = .ok v' w' ∧ VR E' (.ptr h.next 0) v' ∧ HR base w0 E' (h.alloc o) w' ∧ Ste E h w E' (h.alloc o) w' := by
  have hnd : ¬ E.dom h.next := fun hd => by have := H.dlt _ hd; omega
  have le := E.push_le h.next w.heap.size 0 0 hnd
  have mk : ∀ (mm : Option Nat) (since last : Nat), (∀ x, mm = some x → E.dom x) → ∃ E' v', v' = Value.pointer (some ⟨w.heap.size, 0, none⟩) ∧ VR E' (.ptr h.next 0) v' ∧ HR base w0 E' (h.alloc (.iter mm since [] last)) (w.alloc (.mapIter (mm.map E.blk) since #[] last)) ∧
      Ste E h w E' (h.alloc (.iter mm since [] last)) (w.alloc (.mapIter (mm.map E.blk) since #[] last)) := by
    intro mm since last hd
    have K := new_obj H (.iter mm since [] last) (.mapIter (mm.map E.blk) since #[] last) 0 (by
      refine ⟨by simpa [En.push] using H.bsz, by simp [En.push], fun x hx => .inr (hd x hx), ?_⟩
      have : mm.map (E.push h.next w.heap.size 0 0).blk = mm.map E.blk := by
        cases mm with
        | none => rfl
        | some x => simp [le.blk x (hd x rfl)]
      rw [this]
      simp only [En.push, if_true]
      exact heap_alloc_new)
    have hv := VR.ptr (E := E.push h.next w.heap.size 0 0) h.next 0 (.inl rfl)
    have ha : (E.push h.next w.heap.size 0 0).at h.next 0 = ⟨w.heap.size, 0, none⟩ := by simp [En.at, En.push]
    rw [ha] at hv
    exact ⟨_, _, rfl, hv, K.1, K.2⟩
  unfold rangeA at hr
  split at hr
  · rename_i k e hu
    simp at hr; subst hr
    cases hm
    obtain ⟨E', v', rfl, q1, q2, q3⟩ := mk none 0 0 (by simp)
    exact ⟨E', _, _, by simp [Instr.range, run_und ok hu], q1, q2, q3⟩
  · rename_i k e b hu
    cases hm with | map _ hd =>
    split at hr <;> simp at hr
    rename_i es clock hg
    subst hr
    obtain ⟨hb, es', he1, he2⟩ := H.obj b _ hd hg
    obtain ⟨E', v', rfl, q1, q2, q3⟩ := mk (some b) clock clock (by intro x hx; cases hx; exact hd)
    exact ⟨E', _, _, by simp [Instr.range, run_und ok hu, run_getMap he1], q1, q2, q3⟩
  · simp at hr

theorem left_sound {E : En} (seen : List Nat) : ∀ {es : List (AV × AV × Nat)} {es' : List MapEntry}, ER E es es' → ER E (leftA seen es) (es'.filter fun e => !seen.contains e.born)
  | _, _, .nil => .nil
  | _, _, .cons k v k' v' n l l' hk hv hl => by
    have ih := left_sound seen hl
    simp only [leftA, memN_eq, List.filter_cons]
    cases hc : seen.contains n with
    | true => simp only [Bool.not_true, Bool.false_eq_true, if_false]; exact ih
    | false => simp only [Bool.not_false, if_true]; exact .cons _ _ _ _ _ _ _ hk hv ih
theorem allFrom_sound {E : En} (last : Nat) : ∀ {es : List (AV × AV × Nat)} {es' : List MapEntry}, ER E es es' → allFrom last es = es'.all (fun e => decide (e.born ≥ last))
  | _, _, .nil => rfl
  | _, _, .cons k v k' v' n l l' hk hv hl => by
    simp only [allFrom, List.all_cons, allFrom_sound last hl]
    congr 1
    cases h : Nat.ble last n with
    | true => have := Nat.le_of_ble_eq_true h; simp [this]
    | false =>
      have : ¬ last ≤ n := fun hh => by rw [Nat.ble_eq_true_of_le hh] at h; cases h
      simp [this]

theorem condA_sound {E : En} (seen : List Nat) (last : Nat) {es : List (AV × AV × Nat)}
    (hc : (match seen, es with | [], _ => true | _, [] => true | _, es => !allFrom last es) = true) {es' : Array MapEntry} (hE : ER E es es'.toList) : (!seen.toArray.isEmpty && !es'.isEmpty && es'.all (fun x => decide (x.born ≥ last))) = false := by
  obtain ⟨l⟩ := es'
  simp only [List.isEmpty_toArray, List.all_toArray] at hE ⊢
  have ha := allFrom_sound last hE
  cases seen with
  | nil => simp
  | cons x xs =>
    cases hE with
    | nil => simp
    | cons k v k' v' n l l' hk hv hl =>
      have hc : (!allFrom last ((k, v, n) :: l)) = true := hc
      rw [ha] at hc
      have hc2 := Bool.not_eq_true' _ ▸ hc
      simp only [Bool.and_eq_false_iff]
      exact .inr hc2

theorem next_sound {E : En} {h : Heap} {w : World} (H : HR base w0 E h w) {b : Nat} (hd : E.dom b) {v : AV} {h' : Heap} (hn : nextA T h b = .val v h') (ty : TypeId) :
    ∃ E' w' v', (Instr.next (.pointer (some (E.at b 0))) false ty).run P w = .ok v' w' ∧ VR E' v v' ∧ HR base w0 E' h' w' ∧ Ste E h w E' h' w' := by
  unfold nextA at hn
  split at hn
  · rename_i since seen last hg
    simp at hn; obtain ⟨rfl, rfl⟩ := hn
    obtain ⟨hb, ho, _, h1⟩ := H.obj b _ hd hg
    have hat : E.at b 0 = ⟨E.blk b, 0, none⟩ := by simp [En.at, ho]
    rw [hat]
    refine ⟨E, w, .tuple #[.bool false], ?_, .tuple _ _ (.cons _ _ _ _ (.bool _) .nil), H, .refl _ _ _⟩
    simp [Instr.next, run_getIter h1]
  · rename_i m since seen last hg
    split at hn
    · rename_i es clock hgm
      obtain ⟨hb, ho, hmd, h1⟩ := H.obj b _ hd hg
      have hdm := hmd m rfl
      obtain ⟨hbm, es', he1, he2⟩ := H.obj m _ hdm hgm
      have hat : E.at b 0 = ⟨E.blk b, 0, none⟩ := by simp [En.at, ho]
      rw [hat]
      simp only [Option.map_some] at h1
      have hlt := H.live hd hg trivial
      split at hn
      · simp at hn
      · rename_i hc
        have hc' := condA_sound seen last hc he2
        have hL := left_sound seen he2
        have hA : (es'.filter fun e => !seen.toArray.contains e.born).toList = es'.toList.filter fun e => !seen.contains e.born := by simp
        split at hn
        · rename_i hl
          simp at hn; obtain ⟨rfl, rfl⟩ := hn
          rw [hl] at hL
          have hnil : (es'.filter fun e => !seen.toArray.contains e.born) = #[] := by
            apply Array.toList_inj.1
            rw [hA]
            generalize es'.toList.filter (fun e => !seen.contains e.born) = q at hL
            cases hL; rfl
          refine ⟨E, w, .tuple #[.bool false], ?_, .tuple _ _ (.cons _ _ _ _ (.bool _) .nil), H, .refl _ _ _⟩
          simp only [Instr.next, Sem.run_bind, run_getIter h1, Result.andThen_ok, run_getMap he1, hc', hnil]
          simp [choose, Sem.run, Question.forced]
        · rename_i e hl
          split at hn
          · rename_i hlt2
            simp at hn; obtain ⟨rfl, rfl⟩ := hn
            rw [hl] at hL
            generalize hq : es'.toList.filter (fun e => !seen.contains e.born) = q at hL
            cases hL with | cons k v k' v' n l l' hk hv hl' =>
            cases hl'
            have hone : (es'.filter fun e => !seen.toArray.contains e.born) = #[{ key := k', val := v', born := n }] := by
              apply Array.toList_inj.1
              rw [hA, hq]
            have hns : n < since := by
              have := hlt2
              rw [blt_eq] at this
              simpa using this
            have hge : ¬ n ≥ since := by omega
            have K := HR.put H hd hg trivial (.mapIter (some (E.blk m)) since (seen ++ [n]).toArray clock) (.iter (some m) since (seen ++ [n]) clock) (by
              refine ⟨hb, ho, hmd, ?_⟩
              simpa using World.putObj_heap_same hlt)
            refine ⟨E, _, .tuple #[.bool true, k', v'], ?_, .tuple _ _ (.cons _ _ _ _ (.bool _) (.cons _ _ _ _ hk (.cons _ _ _ _ hv .nil))), K.1, K.2⟩
            simp only [Instr.next, Sem.run_bind, run_getIter h1, Result.andThen_ok, run_getMap he1, hc', hone]
            simp [choose, Sem.run, Question.forced, hns, hge, run_setIter h1]
          · simp at hn
        · split at hn <;> simp at hn
    · simp at hn
  · simp at hn

theorem run_choose {q : Question} (hq : ¬ q.forced = true) (w : World) : (choose q).run P w = .ok (q.cut (w.tape w.drawn q)) { w with drawn := w.drawn + 1 } := by
  simp [choose, Sem.run, hq]
theorem allOld_iff (since : Nat) : ∀ {l : List (AV × AV × Nat)}, allOld since l = true → ∀ e, e ∈ l → e.2.2 < since
  | [], _, e, he => by cases he
  | x :: l, h, e, he => by
    unfold allOld at h
    split at h
    · rename_i hx
      rw [blt_eq] at hx
      rcases List.mem_cons.1 he with rfl | he
      · simpa using hx
      · exact allOld_iff since h e he
    · cases h
theorem ER.born {E : En} : ∀ {l : List (AV × AV × Nat)} {l' : List MapEntry}, ER E l l' → ∀ e', e' ∈ l' → ∃ e, e ∈ l ∧ e.2.2 = e'.born ∧ VR E e.1 e'.key ∧ VR E e.2.1 e'.val
  | _, _, .nil, e', he => by cases he
  | _, _, .cons k v k' v' n l l' hk hv hl, e', he => by
    rcases List.mem_cons.1 he with rfl | he
    · exact ⟨(k, v, n), List.mem_cons_self .., rfl, hk, hv⟩
    · obtain ⟨e, h1, h2⟩ := hl.born e' he
      exact ⟨e, List.mem_cons_of_mem _ h1, h2⟩
theorem nextsA_mem (m : Option Nat) (since : Nat) (seen : List Nat) (clock : Nat) (h : Heap) (b : Nat) : ∀ {l : List (AV × AV × Nat)} {e : AV × AV × Nat}, e ∈ l → (AV.tuple [.bool true, e.1, e.2.1], h.set b (.iter m since (seen ++ [e.2.2]) clock)) ∈ nextsA m since seen clock h b l
  | [], e, he => by cases he
  | x :: l, e, he => by
    rcases List.mem_cons.1 he with rfl | he
    · exact List.mem_cons_self ..
    · exact List.mem_cons_of_mem _ (nextsA_mem m since seen clock h b he)
theorem choice_sound {E : En} {h : Heap} {w : World} (H : HR base w0 E h w) {b : Nat} (hd : E.dom b) {l : List (AV × Heap)} (hn : nextA T h b = .choice l) (ty : TypeId) :
    ∃ p, p ∈ l ∧ ∃ E' w' v', (Instr.next (.pointer (some (E.at b 0))) false ty).run P w = .ok v' w' ∧ VR E' p.1 v' ∧ HR base w0 E' p.2 w' ∧ Ste E h w E' p.2 w' := by
  unfold nextA at hn
  split at hn
  · simp at hn
  · rename_i m since seen last hg
    split at hn
    · rename_i es clock hgm
      obtain ⟨hb, ho, hmd, h1⟩ := H.obj b _ hd hg
      have hdm := hmd m rfl
      obtain ⟨hbm, es', he1, he2⟩ := H.obj m _ hdm hgm
      have hat : E.at b 0 = ⟨E.blk b, 0, none⟩ := by simp [En.at, ho]
      rw [hat]
      simp only [Option.map_some] at h1
      have hlt := H.live hd hg trivial
      split at hn
      · simp at hn
      · rename_i hc
        have hc' := condA_sound seen last hc he2
        have hL := left_sound seen he2
        split at hn
        · simp at hn
        · split at hn <;> simp at hn
        · rename_i hne1 hne2
          split at hn
          · rename_i hall
            simp at hn
            subst hn
            simp only [Bool.and_eq_true] at hall
            have hold := allOld_iff since hall.2
            generalize hL' : es'.filter (fun e => !seen.toArray.contains e.born) = L
            have hA : L.toList = es'.toList.filter fun e => !seen.contains e.born := by rw [← hL']; simp
            rw [← hA] at hL
            have hlen : (leftA seen es).length = L.size := by rw [hL.length]; simp
            have h2 : 2 ≤ L.size := by
              rw [← hlen]
              match hq : leftA seen es with
              | [] => exact absurd hq hne1
              | [e] => exact absurd hq (hne2 e)
              | _ :: _ :: _ => simp
            have hold' : ∀ e, e ∈ L → e.born < since := by
              intro e he
              obtain ⟨x, x1, x2, _⟩ := hL.born e (by simpa using he)
              rw [← x2]; exact hold x x1
            have f1 : L.filter (fun e => decide (e.born < since)) = L := by
              apply Array.filter_eq_self.2
              intro e he; simpa using hold' e he
            have f2 : L.filter (fun e => decide (e.born ≥ since)) = #[] := by
              apply Array.filter_eq_empty_iff.2
              intro e he; simpa using hold' e he
            have hne : L.isEmpty = false := by
              rw [Array.isEmpty_eq_false_iff]
              intro e; rw [e] at h2; simp at h2
            let t := w.tape w.drawn (.mapNext L.size)
            have hti : t % L.size < L.size := Nat.mod_lt _ (by omega)
            obtain ⟨x, x1, x2, x3, x4⟩ := hL.born L[t % L.size] (by simp)
            refine ⟨_, nextsA_mem (some m) since seen clock h b x1, ?_⟩
            have H1 : HR base w0 E h { w with drawn := w.drawn + 1 } := H.heap rfl rfl rfl rfl (by simp)
            have K := HR.put H1 hd hg trivial (.mapIter (some (E.blk m)) since (seen ++ [x.2.2]).toArray clock) (.iter (some m) since (seen ++ [x.2.2]) clock) (by
              refine ⟨hb, ho, hmd, ?_⟩
              simpa using World.putObj_heap_same (w := { w with drawn := w.drawn + 1 }) hlt)
            have S0 : Ste E h w E h { w with drawn := w.drawn + 1 } := ⟨.refl E, fun _ h => .inl h, Nat.le_refl _, fun _ _ _ => rfl, Nat.le_refl _, fun _ _ _ => rfl, fun _ h => .inl h⟩
            refine ⟨E, _, .tuple #[.bool true, L[t % L.size].key, L[t % L.size].val], ?_, .tuple _ _ (.cons _ _ _ _ (.bool _) (.cons _ _ _ _ x3 (.cons _ _ _ _ x4 .nil))), K.1, S0.trans K.2⟩
            have hforced : ¬ (Question.mapNext L.size).forced = true := by simp [Question.forced]; omega
            simp only [Instr.next, Sem.run_bind, run_getIter h1, Result.andThen_ok, run_getMap he1, hc', hL', f1, f2]
            have hc1 : ((if L.isEmpty = true then #[none] else #[]) ++ Array.map some (L ++ #[])) = L.map some := by simp [hne]
            rw [hc1]
            simp only [Bool.false_eq_true, if_false, Sem.run_bind, Array.size_map, run_choose hforced, Result.andThen_ok]
            have hg2 : (L.map some)[Question.cut (.mapNext L.size) (w.tape w.drawn (.mapNext L.size))]? = some (some L[t % L.size]) := by
              show (L.map some)[t % L.size]? = _
              simp [hti]
            rw [hg2]
            simp only [Sem.run_bind, run_setIter (w := { w with drawn := w.drawn + 1 }) h1, Result.andThen_ok]
            have hs : (seen ++ [x.2.2]).toArray = seen.toArray.push L[t % L.size].born := by rw [x2]; simp
            rw [hs]
            simp
          · simp at hn
    · simp at hn
  · simp at hn

theorem bornA_sound {E : En} (n : Nat) : ∀ {es : List (AV × AV × Nat)} {es' : List MapEntry} {e : AV × AV × Nat}, ER E es es' → bornA n es = some e → ∃ e', es'.find? (fun x => x.born == n) = some e' ∧ VR E e.1 e'.key ∧ VR E e.2.1 e'.val
  | _, _, _, .nil, h => by simp [bornA] at h
  | _, _, e, .cons k v k' v' m l l' hk hv hl, h => by
    unfold bornA at h
    split at h
    · rename_i hb
      simp at h; subst h
      have := Nat.eq_of_beq_eq_true hb
      simp only at this
      subst this
      exact ⟨⟨k', v', m⟩, by simp, hk, hv⟩
    · rename_i hb
      obtain ⟨e', h1, h2⟩ := bornA_sound n hl h
      refine ⟨e', ?_, h2⟩
      have hne : ¬ m = n := fun q => by subst q; simp at hb
      simp [hne, h1]
theorem lastN_eq : ∀ (l : List Nat), lastN l = l.getLast?
  | [] => rfl
  | [n] => rfl
  | n :: m :: l => by
    simp only [lastN]
    rw [lastN_eq (m :: l), List.getLast?_cons_cons]
theorem entry_sound {E : En} {h : Heap} {w : World} (H : HR base w0 E h w) {b : Nat} (hd : E.dom b) {v : AV} (hn : entryA h b = some v) :
    ∃ v', (Instr.entry (.pointer (some (E.at b 0)))).run P w = .ok v' w ∧ VR E v v' := by
  unfold entryA at hn
  split at hn
  · rename_i m since seen stepped hg
    split at hn
    · rename_i stamp es clock hl hgm
      obtain ⟨hb, ho, hmd, h1⟩ := H.obj b _ hd hg
      have hdm := hmd m rfl
      obtain ⟨hbm, es', he1, he2⟩ := H.obj m _ hdm hgm
      have hat : E.at b 0 = ⟨E.blk b, 0, none⟩ := by simp [En.at, ho]
      rw [hat]
      simp only [Option.map_some] at h1
      split at hn
      · rename_i e hck hbn
        simp at hn; subst hn
        have hck := Nat.eq_of_beq_eq_true hck
        subst hck
        obtain ⟨e', q1, q2, q3⟩ := bornA_sound stamp he2 hbn
        rw [lastN_eq] at hl
        refine ⟨.tuple #[e'.key, e'.val], ?_, .tuple _ _ (.cons _ _ _ _ q2 (.cons _ _ _ _ q3 .nil))⟩
        have q1' : es'.find? (fun x => x.born == stamp) = some e' := by rw [← Array.find?_toList]; exact q1
        have hl' : seen.toArray.back? = some stamp := by simpa using hl
        simp [Instr.entry, run_getIter h1, hl', run_getMap he1, q1']
      · simp at hn
    · simp at hn
  · simp at hn
end Ev
