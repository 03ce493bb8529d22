/- What the functions of this part answer at any input, told by the rules over the evaluator (EvWp) or by the kit's contracts. Conditions: those that each theorem states. -/
import Derived.Test.YtcngecdjmmjlhaaGreatEvBuild
import Derived.Test.YtcngecdjmmjlhaaGreatLay
import Derived.Test.YtcngecdjmmjlhaaGreatCrc
open Go Ev
namespace Go.Proofs.YtcngecdjmmjlhaaGreat
open Go.Shelf Go.RowKit Go.Proofs
set_option maxRecDepth 10000
set_option linter.unusedVariables false
set_option linter.unusedSimpArgs false
theorem ccSize : (Tryz.prog.info? 290).map (·.size) = some 2 := by kernel_rfl
theorem ccLies : liesAt Tryz.prog Tryz.prog.depth 290 (2 / Tryz.prog.cellsOf 290) 0 290 1 = true := by kernel_rfl
set_option maxHeartbeats 1000000 in
set_option maxRecDepth 100000 in
theorem cc_used (b : Nat) (w : World) (h0 : w.cell? ⟨b, 0, none⟩ = some (.pointer (some ⟨b, 0, none⟩))) :
    Calls Tryz.prog 299 #[.pointer (some ⟨b, 0, none⟩)] w fun e w' => e = .returned (.tuple #[]) ∧ w' = w := by
  obtain ⟨j, hj, _⟩ := Option.map_eq_some_iff.1 ccSize
  have t72 := Tryz.underlying290; have a72 := Tryz.isAgg290; have z72 := Tryz.sizeOf290; have v72 := Tryz.zeroValue290; have u72 := run_underlying Tryz.underlying290
  have t70 := Tryz.underlying288; have a70 := Tryz.isAgg288; have z70 := Tryz.sizeOf288; have v70 := Tryz.zeroValue288; have u70 := run_underlying Tryz.underlying288
  go_enter Tryz.func299, Tryz.ntmps299
  go_wp2
  rw [Lib.run_neq_ptr_same w _ Tryz.underlying288 hj]
  go_wp2
  go_end0
  exact ⟨rfl, rfl⟩
set_option maxHeartbeats 1000000 in
set_option maxRecDepth 100000 in
theorem cc_fresh (b : Nat) (w : World) (h0 : w.cell? ⟨b, 0, none⟩ = some (.pointer none)) (hsh : w.shape? b = some (290, 2)) (hfz : w.frozen? ⟨b, 0, none⟩ = false) :
    Calls Tryz.prog 299 #[.pointer (some ⟨b, 0, none⟩)] w fun e w' => e = .returned (.tuple #[]) ∧ w' = w.setCell ⟨b, 0, none⟩ (.pointer (some ⟨b, 0, none⟩)) := by
  obtain ⟨j, hj, hjs⟩ := Option.map_eq_some_iff.1 ccSize
  have t72 := Tryz.underlying290; have a72 := Tryz.isAgg290; have z72 := Tryz.sizeOf290; have v72 := Tryz.zeroValue290; have u72 := run_underlying Tryz.underlying290
  have t70 := Tryz.underlying288; have a70 := Tryz.isAgg288; have z70 := Tryz.sizeOf288; have v70 := Tryz.zeroValue288; have u70 := run_underlying Tryz.underlying288
  have t164 := Tryz.underlying446; have a164 := Tryz.isAgg446; have z164 := Tryz.sizeOf446; have v164 := Tryz.zeroValue446; have u164 := run_underlying Tryz.underlying446
  go_enter Tryz.func299, Tryz.ntmps299
  go_wp2
  rw [Lib.run_to_unsafe w ⟨b, 0, none⟩ Tryz.underlying288 Tryz.underlying446 hj (by rw [hjs]; decide) hsh (Nat.zero_lt_succ 1)]
  simp only [Result.andThen]
  rw [Oper.upon_value]
  go_wp2
  rw [run_callFunc_extern Tryz.func374 (by kernel_rfl) (by kernel_rfl) (by kernel_rfl) (e := Extern.AbiNoEscape.same) (by kernel_rfl)]
  rw [Lib.run_noEscape]
  simp only [Result.andThen]
  rw [Oper.upon_value]
  go_wp2
  rw [Lib.run_from_unsafe w ⟨b, 0, none⟩ Tryz.underlying446 Tryz.underlying288 hj hsh ccLies]
  simp only [Result.andThen]
  rw [Oper.upon_value]
  go_wp2
  go_end0
  exact ⟨rfl, rfl⟩
theorem strX : Builder.Extra Tryz.prog Tryz.strL_ren := {
  sizeBuilder := by kernel_rfl
  liesBuilder := by kernel_rfl
  t5 := Tryz.underlying5
  a5 := Tryz.isAgg5
  z5 := Tryz.sizeOf5
  v5 := Tryz.zeroValue5
  infoByte := by kernel_rfl
  cellsByte := by kernel_rfl
  sizeByte := by kernel_rfl
  neB5 := by decide }
/-- the tables, with strings.Builder's variables kept as blocks of their own -/
noncomputable def TP : Ev.Tabs := { TB with pin := fun t => Nat.beq t 290 }
theorem TP_ok : Ev.TabsOK Tryz.prog TP := ⟨TB_ok.ti, TB_ok.und, TB_ok.fn, TB_ok.eqg, TB_ok.stood, TB_ok.mix, TB_ok.ext, TB_ok.rt, TB_ok.kd⟩
def checkWord (b : Nat) (h : Heap) : Option (AV × Heap) := match h.get b with
  | some (.cells e [.nilptr, buf] true) => match Nat.beq e 290 with
    | true => some (.tuple [], h.set b (.cells e [.own b 2, buf] true))
    | false => none
  | some (.cells _ [.own b' 2, _] true) => match Nat.beq b' b with
    | true => some (.tuple [], h)
    | false => none
  | _ => none
def stringWord (b : Nat) (h : Heap) : Option (AV × Heap) := match h.get b with
  | some (.cells _ [_, .nilslice] true) => some (.str [], h)
  | some (.cells _ [_, .oslice b1 0 (n + 1) 1] true) => match h.get b1 with
    | some (.cells e cs true) => match Nat.beq e 5, Nat.blt n 1000000000, bytesN (n + 1) cs with
      | true, true, some s => some (.str s, h.set b1 .dead)
      | _, _, _ => none
    | _ => none
  | _ => none
noncomputable def trialSm (f : FuncId) (args : List AV) (h : Heap) : Option (AV × Heap) := match crcSm f args h with
  | some r => some r
  | none => match args with
    | [.own b 2] => match Nat.beq f 299 with
      | true => checkWord b h
      | false => match Nat.beq f 188 with
        | true => stringWord b h
        | false => none
    | [.func (.func g) [] [.ptr b 0]] => match Nat.beq f 253 with
      | true => normWord TB 100000 f [.func (.func g) [] [.ptr b 0]] h
      | false => match Nat.beq f 336 with
        | true => normWord TB 100000 f [.func (.func g) [] [.ptr b 0]] h
        | false => none
    | _ => none
theorem trialSm_ok (base : Nat) (w0 : World) (f : FuncId) (args : List AV) (h : Heap) (v : AV) (h' : Heap) (e : trialSm f args h = some (v, h')) : TaskOK Tryz.prog base w0 (.call f args h) (.ret v h') := by
  unfold trialSm at e
  split at e
  · rename_i r hc
    cases e
    exact crcSm_ok base w0 f args h v h' hc
  · split at e
    · split at e
      · rename_i hf
        have hf := Nat.eq_of_beq_eq_true hf
        subst hf
        unfold checkWord at e
        split at e
        · rename_i hg
          split at e
          · rename_i he
            have he := Nat.eq_of_beq_eq_true he
            subst he
            cases e
            exact copyCheck_new cc_fresh hg
          · cases e
        · rename_i hg
          split at e
          · rename_i he
            have he := Nat.eq_of_beq_eq_true he
            subst he
            cases e
            exact copyCheck_used cc_used hg
          · cases e
        · cases e
      · split at e
        · rename_i hf
          have hf := Nat.eq_of_beq_eq_true hf
          subst hf
          unfold stringWord at e
          split at e
          · rename_i hg
            cases e
            exact string_none Tryz.strL strX hg
          · rename_i hg
            split at e
            · rename_i hg1
              split at e
              · rename_i he hn hs
                have he := Nat.eq_of_beq_eq_true he
                subst he
                cases e
                exact string_row Tryz.strL strX hg hg1 hs (blt_lt hn)
              · cases e
            · cases e
          · cases e
        · cases e
    · split at e
      · exact normWord_ok TB_ok (fun _ _ _ => rfl) e
      · split at e
        · exact normWord_ok TB_ok (fun _ _ _ => rfl) e
        · cases e
    · cases e
end Go.Proofs.YtcngecdjmmjlhaaGreat
