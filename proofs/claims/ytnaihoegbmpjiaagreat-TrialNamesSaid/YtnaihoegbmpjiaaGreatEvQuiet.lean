/- A part of the proof that what the evaluator (EvDefs) says of a call is what the machine does: EvQuiet. Conditions: those that each theorem states. -/
import Derived.Test.YtnaihoegbmpjiaaGreatEvOps11
set_option linter.unusedVariables false
set_option linter.unusedSimpArgs false
namespace Ev
open Go Go.RowKit

variable {P : Program} {T : Tabs} {base : Nat} {w0 : World}

def quiet : Kd → Bool
  | .pure => true
  | .read => true
  | _ => false
def OutQ (E : En) (h : Heap) (w : World) (r : OR) (res : Result Next) : Prop := match r with
  | .val v h' => h' = h ∧ ∃ v', res = .ok (.value v') w ∧ VR E v v'
  | _ => True
theorem outq_rv {E : En} {h : Heap} {w : World} (why : String) (r : Option AV) (s : Sem Value) (hs : ∀ v, r = some v → ∃ v', s.run P w = .ok v' w ∧ VR E v v') :
    OutQ E h w (rv why h r) ((do pure (Next.value (← s)) : Sem Next).run P w) := by
  cases r with
  | none => trivial
  | some v =>
    obtain ⟨v', h1, h2⟩ := hs v rfl
    exact ⟨rfl, v', by simp [h1], h2⟩
theorem outq_val0 {E : En} {h : Heap} {w : World} {v : AV} (s : Sem Value) (hs : ∃ v', s.run P w = .ok v' w ∧ VR E v v') :
    OutQ E h w (.val v h) ((do pure (Next.value (← s)) : Sem Next).run P w) := by
  obtain ⟨v', h1, h2⟩ := hs
  exact ⟨rfl, v', by simp [h1], h2⟩

set_option maxRecDepth 8000 in
theorem conv_quiet (ok : TabsOK P T) {E : En} {h : Heap} {w : World} (H : HR base w0 E h w) (src dst : TypeId) {x : AV} {x' : Value} (hx : VR E x x') (x0 : Operand) (hk : quiet (kindOf T (.convert src dst x0)) = true) :
    OutQ E h w (convA T src dst h x) ((do pure (Next.value (← convert src dst x')) : Sem Next).run P w) := by
  simp only [kindOf] at hk
  unfold convA
  split
  · rename_i d k k2 n hs hd
    cases hx
    apply outq_val0
    exact ⟨_, by simp [convert, run_und ok hs, run_und ok hd, Conv.intToInt], .int _ _⟩
  · rename_i d s hs hd
    cases hx
    apply outq_val0
    exact ⟨_, by simp [convert, run_und ok hs, run_und ok hd], .str _⟩
  · rename_i d e s hs hd
    rw [hs, hd] at hk
    cases d <;> simp [quiet] at hk
  · rename_i e e2 x hs hd hno1
    rw [hs, hd] at hk
    simp [quiet] at hk
  · rename_i e x hs hd hno
    split
    · rename_i n he hn
      split
      · rename_i cs hf
        split
        · rename_i s hb
          apply outq_val0
          unfold firstA at hf
          cases hx with
          | str s => simp [lenS] at hn; exact absurd rfl (hno _)
          | nilslice =>
            simp at hf
            obtain ⟨_, rfl⟩ := hf
            simp [toBytes] at hb; subst hb
            exact ⟨_, by simp [convert, run_und ok hs, run_und ok hd, run_und ok he, Conv.bytesToString]; rfl, .str []⟩
          | eslice a k =>
            simp at hf
            obtain ⟨_, rfl⟩ := hf
            simp [toBytes] at hb; subst hb
            refine ⟨.string ⟨#[]⟩, ?_, .str []⟩
            have := bytes_string (P := P) (a := a) (n := 0) (k := k) (ns := []) (w := w) (by simp [loadCells, loadCellsFrom])
            simp [convert, run_und ok hs, run_und ok hd, run_und ok he]
            simpa using this
          | slice b off n2 c hdd =>
            simp [lenS] at hn; subst hn
            simp at hf
            obtain ⟨l', r1, v1⟩ := read_cells0 (P := P) hdd H hf
            obtain ⟨ns, rfl, rfl⟩ := toBytes_sound _ _ hb _ v1
            have := bytes_string (P := P) (k := c) r1
            refine ⟨_, ?_, .str _⟩
            simp [convert, run_und ok hs, run_und ok hd, run_und ok he]
            exact this
          | oslice b off n2 sz k hdd hk =>
            simp [lenS] at hn; subst hn
            simp at hf
            obtain ⟨l', r1, v1⟩ := read_cells0 (P := P) hdd H hf
            obtain ⟨ns, rfl, rfl⟩ := toBytes_sound _ _ hb _ v1
            have := bytes_string (P := P) (k := k) r1
            refine ⟨_, ?_, .str _⟩
            simp [convert, run_und ok hs, run_und ok hd, run_und ok he]
            exact this
          | _ => simp [lenS] at hn
        · trivial
      · trivial
    · trivial
  · trivial

set_option maxHeartbeats 1000000 in
theorem op_quiet (ok : TabsOK P T) {E : En} {h : Heap} {w : World} (H : HR base w0 E h w) {ρ : Operand → Option AV} {f : Operand → Value} (hρ : RhoR E ρ f) (o : Oper) (hk : quiet (kindOf T o.op) = true) :
    OutQ E h w (opA T ρ o h) ((execOp f o).run P w) := by
  unfold opA
  split
  -- move, assign
  · rename_i x hop
    simp only [execOp, hop]
    cases hx : ρ x with
    | none => trivial
    | some v => exact ⟨rfl, f x, by simp, hρ x v hx⟩
  · rename_i x hop
    simp only [execOp, hop]
    cases hx : ρ x with
    | none => trivial
    | some v => exact ⟨rfl, f x, by simp, hρ x v hx⟩
  -- pick
  · rename_i c a b hop
    simp only [execOp, hop]
    split
    · rename_i hc
      have h1 := hρ c _ hc
      generalize f c = fc at h1
      cases h1
      cases hx : ρ a with
      | none => trivial
      | some v => exact ⟨rfl, f a, by simp [asBool], hρ a v hx⟩
    · rename_i hc
      have h1 := hρ c _ hc
      generalize f c = fc at h1
      cases h1
      cases hx : ρ b with
      | none => trivial
      | some v => exact ⟨rfl, f b, by simp [asBool], hρ b v hx⟩
    · trivial
  · rename_i elem hop
    simp [kindOf, hop, quiet] at hk
  · rename_i elem x hop
    simp [kindOf, hop, quiet] at hk
  -- build
  · rename_i t parts hop
    simp only [execOp, hop]
    split
    · rename_i ps hps
      obtain ⟨p1, p2⟩ := pairMap_sound hρ _ _ hps
      obtain ⟨q1, q2⟩ := pairs_list parts.toList f
      refine outq_rv _ _ _ fun v hv => ?_
      have := build_sound (P := P) ok hv (ps' := parts.toList.map fun p => (p.1, f p.2)) (p1.trans q1.symm) (by rw [q2]; exact p2) w
      have e : (parts.map fun (p : Nat × Operand) => (p.1, f p.2)) = (parts.toList.map fun p => (p.1, f p.2)).toArray := by rw [← Array.toList_map, Array.toArray_toList]
      rw [show (parts.map fun x => match x with | (i, x) => (i, f x)) = (parts.map fun (p : Nat × Operand) => (p.1, f p.2)) from rfl, e]
      exact this
    · trivial
  · rename_i t len parts hop
    simp [kindOf, hop, quiet] at hk
  -- load
  · rename_i t a hop
    simp only [execOp, hop]
    split
    · rename_i b off ha
      have h1 := hρ a _ ha
      generalize f a = fa at h1
      cases h1 with | ptr _ _ hd =>
      refine outq_rv _ _ _ fun v hv => ?_
      obtain ⟨v', r1, r2⟩ := load_var (P := P) ok hd H hv
      exact ⟨v', by simp [Instr.loadAt, Instr.sureAddr, r1], r2⟩
    · trivial
  · rename_i t a x hop
    simp [kindOf, hop, quiet] at hk
  -- nilCheck
  · rename_i x hop
    simp only [execOp, hop]
    split
    all_goals first | trivial | skip
    all_goals
      rename_i hx
      have h1 := hρ x _ hx
      generalize f x = fx at h1
    · cases h1 with | ptr _ _ hd => exact ⟨rfl, _, by simp, .ptr _ _ hd⟩
    · cases h1 with | own _ _ hd h0 hk => exact ⟨rfl, _, by simp, .own _ _ hd h0 hk⟩
    · cases h1 with | slice _ _ _ _ hd => exact ⟨rfl, _, by simp, .slice _ _ _ _ hd⟩
    · cases h1 with | iface _ _ v' hv => exact ⟨rfl, _, by simp, .iface _ _ _ hv⟩
    · cases h1 with | func _ f' hf _ _ l' m' hl hm => cases hf; exact ⟨rfl, _, by simp, .func _ _ (.same _ (by simp)) _ _ _ _ hl hm⟩
    · cases h1 with | func _ f' hf _ _ l' m' hl hm =>
      cases hf with
      | yield _ hd => exact ⟨rfl, _, by simp, .func _ _ (.yield _ hd) _ _ _ _ hl hm⟩
      | same _ hn => exact absurd rfl (hn _)
  -- binOp
  · rename_i op t x y u hop
    simp only [execOp, hop]
    split
    · rename_i a b ha hb
      split
      · rename_i hg
        refine outq_rv _ _ _ fun v hv => ?_
        have g := guard_sound (P := P) ok hg (hρ x a ha) (hρ y b hb) w
        obtain ⟨v', r1, r2⟩ := bin_sound (P := P) ok hv (hρ x a ha) (hρ y b hb) w
        exact ⟨v', by simp [g, r1], r2⟩
      · trivial
    · trivial
  -- unOp
  · rename_i op t x hop
    simp only [execOp, hop]
    split
    · rename_i a ha
      refine outq_rv _ _ _ fun v hv => ?_
      exact un_sound (P := P) hv (hρ x a ha) w
    · trivial
  -- convert
  · rename_i src dst x hop
    simp only [execOp, hop]
    split
    · rename_i a ha
      exact conv_quiet ok H src dst (hρ x a ha) x (by rw [hop] at hk; exact hk)
    · trivial
  -- makeInterface
  · rename_i t x hop
    simp only [execOp, hop]
    split
    · trivial
    · rename_i v d hni hx hu
      apply outq_val0
      refine ⟨.iface t (f x), ?_, .iface _ _ _ (hρ x v hx)⟩
      cases d <;> first | (simp [Instr.makeInterface, run_und ok hu]; done) | exact (hni _ rfl).elim
    · trivial
  -- makeFunc
  · rename_i fn first cap hop
    simp only [execOp, hop]
    split
    · trivial
    · rename_i fn _ _ _ a b hny ha hb
      have p1 := argMap_sound hρ _ _ ha
      have p2 := argMap_sound hρ _ _ hb
      apply outq_val0
      refine ⟨.func fn (first.map f) (cap.map f), by simp [Instr.makeFunc], ?_⟩
      have := VR.func (E := E) fn fn (.same fn (fun l e => by subst e; simp at hny)) a b _ _ p1 p2
      have e1 : (first.toList.map f).toArray = first.map f := by rw [← Array.toList_map, Array.toArray_toList]
      have e2 : (cap.toList.map f).toArray = cap.map f := by rw [← Array.toList_map, Array.toArray_toList]
      rw [e1, e2] at this
      exact this
    · trivial
  · rename_i t r hop
    simp [kindOf, hop, quiet] at hk
  · rename_i t l c hop
    simp [kindOf, hop, quiet] at hk
  -- slice
  · rename_i t x lo hi mx hop
    simp only [execOp, hop]
    split
    · rename_i a l hh m ha hl hh' hm
      refine outq_rv _ _ _ fun v hv => ?_
      exact slice_sound (P := P) ok H hv (hρ x a ha) (opt_sound hρ hl) (opt_sound hρ hh') (opt_sound hρ hm)
    · trivial
  -- fieldAddr
  · rename_i s x fi hop
    simp only [execOp, hop]
    split
    · rename_i b off fields hx hu
      have h1 := hρ x _ hx
      generalize f x = fx at h1
      cases h1 with | ptr _ _ hd =>
      split
      · rename_i fd hf
        rw [nth_eq] at hf
        have hf' : fields[fi]? = some fd := by simpa using hf
        split
        · trivial
        · rename_i n hn0 hn
          apply outq_val0
          refine ⟨_, ?_, .ptr _ _ hd⟩
          have hn0 : n ≠ 0 := fun e => by subst e; simp at hn0
          simp [Instr.fieldAt, run_und ok hu, hf', Instr.sureAddr, fieldPlace, run_size ok hn, hn0, En.at_add]
        · trivial
      · trivial
    · rename_i b n0 fields hx hu
      have h1 := hρ x _ hx
      generalize f x = fx at h1
      cases h1 with | own _ _ hd h0 hk =>
      split
      · rename_i fd hf
        rw [nth_eq] at hf
        have hf' : fields[fi]? = some fd := by simpa using hf
        split
        · trivial
        · rename_i n hn0 hn
          apply outq_val0
          refine ⟨_, ?_, .ptr _ _ hd⟩
          have hn0 : n ≠ 0 := fun e => by subst e; simp at hn0
          simp [Instr.fieldAt, run_und ok hu, hf', Instr.sureAddr, fieldPlace, run_size ok hn, hn0, En.at_add]
        · trivial
      · trivial
    · trivial
  -- field
  · rename_i t x fi hop
    simp only [execOp, hop]
    split
    · rename_i cs fields hx hu
      have h1 := hρ x _ hx
      generalize f x = fx at h1
      cases h1 with | agg _ l' hl =>
      split
      · rename_i fd hf
        rw [nth_eq] at hf
        have hf' : fields[fi]? = some fd := by simpa using hf
        refine outq_rv _ _ _ fun v hv => ?_
        obtain ⟨v', r1, r2⟩ := part_sound (P := P) ok hv hl w
        exact ⟨v', by simp [Instr.field, run_und ok hu, hf', asAgg, r1], r2⟩
      · trivial
    · trivial
  -- indexAddr
  · rename_i t x ix hop
    simp only [execOp, hop]
    split
    · rename_i len elem b off k i hu hx hi
      have h1 := hρ x _ hx
      generalize f x = fx at h1
      have h2 := hρ ix _ hi
      generalize f ix = fi at h2
      cases h1 with | ptr _ _ hd =>
      cases h2
      split
      · rename_i sz hsz
        split
        · rename_i hb
          apply outq_val0
          refine ⟨_, ?_, .ptr _ _ hd⟩
          simp [Instr.indexAt, asIntOf, run_und ok hu, Instr.sureAddr, hb.1, hb.2, run_size ok hsz, En.at_add]
        · trivial
      · trivial
    · rename_i elem b off len cap k i hu hx hi
      have h1 := hρ x _ hx
      generalize f x = fx at h1
      have h2 := hρ ix _ hi
      generalize f ix = fi at h2
      cases h1 with | slice _ _ _ _ hd =>
      cases h2
      split
      · rename_i sz hsz
        split
        · rename_i hb
          apply outq_val0
          refine ⟨_, ?_, .ptr _ _ hd⟩
          simp [Instr.indexAt, asIntOf, run_und ok hu, hb.1, hb.2, run_size ok hsz, En.at_add]
        · trivial
      · trivial
    · rename_i elem b off len ssz k i hu hx hi
      have h1 := hρ x _ hx
      generalize f x = fx at h1
      have h2 := hρ ix _ hi
      generalize f ix = fi at h2
      cases h1 with | oslice _ _ _ _ kk hd hk =>
      cases h2
      split
      · rename_i sz hsz
        split
        · rename_i hb
          apply outq_val0
          refine ⟨_, ?_, .ptr _ _ hd⟩
          simp [Instr.indexAt, asIntOf, run_und ok hu, hb.1, hb.2, run_size ok hsz, En.at_add]
        · trivial
      · trivial
    · trivial
  -- index
  · rename_i t x ix hop
    simp only [execOp, hop]
    split
    · rename_i len elem cs k i hu hx hi
      have h1 := hρ x _ hx
      generalize f x = fx at h1
      have h2 := hρ ix _ hi
      generalize f ix = fi at h2
      cases h1 with | agg _ l' hl =>
      cases h2
      split
      · rename_i sz hsz
        split
        · rename_i hb
          refine outq_rv _ _ _ fun v hv => ?_
          obtain ⟨v', r1, r2⟩ := part_sound (P := P) ok hv hl w
          exact ⟨v', by simp [Instr.index, asIntOf, run_und ok hu, hb.1, hb.2, run_size ok hsz, r1], r2⟩
        · trivial
      · trivial
    · rename_i s k i hu hx hi
      have h1 := hρ x _ hx
      generalize f x = fx at h1
      have h2 := hρ ix _ hi
      generalize f ix = fi at h2
      cases h1
      cases h2
      split
      · rename_i hb
        split
        · rename_i bt hn
          rw [nth_eq] at hn
          apply outq_val0
          refine ⟨_, ?_, .int _ _⟩
          have hs : (⟨s.toArray⟩ : ByteArray)[i.toNat]? = some bt := by
            have hlt : i.toNat < s.length := (List.getElem?_eq_some_iff.1 hn).1
            have := (List.getElem?_eq_some_iff.1 hn).2
            have hsz : i.toNat < (⟨s.toArray⟩ : ByteArray).size := by simpa [ByteArray.size] using hlt
            rw [getElem?_pos (⟨s.toArray⟩ : ByteArray) i.toNat hsz, ← this]
            rfl
          simp [Instr.index, asIntOf, run_und ok hu, hb, hs]
        · trivial
      · trivial
    · trivial
  -- lookup
  · rename_i t x ix cok hop
    simp only [execOp, hop]
    split
    · rename_i m k hm hk
      refine outq_rv _ _ _ fun v hv => ?_
      exact lookup_sound (P := P) ok H hv (hρ x m hm) (hρ ix k hk)
    · trivial
  · rename_i t m k x hop
    simp [kindOf, hop, quiet] at hk
  · rename_i t m k x hop
    simp [kindOf, hop, quiet] at hk
  -- typeAssert
  · rename_i x xt asserted cok hop
    simp only [execOp, hop]
    split
    · trivial
    · rename_i d t v hni hu hx
      have h1 := hρ x _ hx
      generalize f x = fx at h1
      cases h1 with | iface _ _ v' hv =>
      split
      · rename_i hta
        subst hta
        apply outq_val0
        refine ⟨if cok then .tuple #[v', .bool true] else v', ?_, ?_⟩
        · cases d <;> first | (simp [Instr.typeAssert, run_und ok hu]; done) | exact (hni _ rfl).elim
        · cases cok
          · exact hv
          · exact .tuple _ _ (.cons _ _ _ _ hv (.cons _ _ _ _ (.bool _) .nil))
      · rename_i hta
        split
        · rename_i hok
          subst hok
          split
          · rename_i z hz
            obtain ⟨zv, rz, vz⟩ := run_zero ok hz
            apply outq_val0
            refine ⟨.tuple #[zv, .bool false], ?_, .tuple _ _ (.cons _ _ _ _ (vz E) (.cons _ _ _ _ (.bool _) .nil))⟩
            cases d <;> first | (simp [Instr.typeAssert, run_und ok hu, hta, rz]; done) | exact (hni _ rfl).elim
          · trivial
        · trivial
    · rename_i d hni hu hx
      have h1 := hρ x _ hx
      generalize f x = fx at h1
      cases h1
      split
      · rename_i hok
        subst hok
        split
        · rename_i z hz
          obtain ⟨zv, rz, vz⟩ := run_zero ok hz
          apply outq_val0
          refine ⟨.tuple #[zv, .bool false], ?_, .tuple _ _ (.cons _ _ _ _ (vz E) (.cons _ _ _ _ (.bool _) .nil))⟩
          cases d <;> first | (simp [Instr.typeAssert, run_und ok hu, rz]; done) | exact (hni _ rfl).elim
        · trivial
      · trivial
    · trivial
  · rename_i t x hop
    simp [kindOf, hop, quiet] at hk
  · rename_i it isS hop
    simp [kindOf, hop, quiet] at hk
  · rename_i it hop
    simp [kindOf, hop, quiet] at hk
  -- extract
  · rename_i t ix hop
    simp only [execOp, hop]
    split
    · rename_i vs ht
      have h1 := hρ t _ ht
      generalize f t = ft at h1
      cases h1 with | tuple _ l' hl =>
      refine outq_rv _ _ _ fun v hv => ?_
      rw [nth_eq] at hv
      obtain ⟨v', r1, r2⟩ := hl.get hv
      exact ⟨v', by simp [Instr.extract, r1], r2⟩
    · trivial
  -- call
  · rename_i c hop
    simp only [execOp, hop]
    have eargs : c.args.map f = (c.args.toList.map f).toArray := by rw [← Array.toList_map, Array.toArray_toList]
    split
    · rename_i b hcal
      split
      · trivial
      · rename_i args hargs
        have ha := argMap_sound hρ _ _ hargs
        have hres : ∀ ty, (resolve f c ty).run P w = .ok { target := .builtin b c.argTypes ty (c.args.map fun | .const _ => true | _ => false), args := c.args.map f } w := by
          intro ty
          simp [resolve, hcal]
          intro a _
          cases a <;> rfl
        have hrun : ((do let d ← resolve f c o.type; invoke d.target d.args) : Sem Next).run P w = (builtin b c.argTypes o.type (c.args.map fun | .const _ => true | _ => false) (c.args.map f)).run P w := by
          rw [Sem.run_bind, hres]
          rfl
        rw [hrun, eargs]
        generalize (c.args.map fun | .const _ => true | _ => false) = consts
        generalize c.args.toList.map f = args' at ha
        have et : c.argTypes = c.argTypes.toList.toArray := by simp
        rw [et]
        generalize c.argTypes.toList = tys
        cases b
        case len =>
          simp only [Go.builtin]
          split
          · rename_i x l t ts
            cases ha with | cons _ x' _ l' hx hl =>
            refine outq_rv _ _ _ fun v hv => ?_
            exact len_sound (P := P) ok H hv hx ts l' o.type
          · trivial
        case max =>
          simp only [Go.builtin]
          split
          · rename_i x l
            cases ha with | cons _ x' _ l' hx hl =>
            refine outq_rv _ _ _ fun v hv => ?_
            have := maxmin_sound (P := P) (w := w) true l x v l' x' hv hx hl
            simpa [Builtin.max_] using this
          · trivial
        case min =>
          simp only [Go.builtin]
          split
          · rename_i x l
            cases ha with | cons _ x' _ l' hx hl =>
            refine outq_rv _ _ _ fun v hv => ?_
            have := maxmin_sound (P := P) (w := w) false l x v l' x' hv hx hl
            simpa [Builtin.min_] using this
          · trivial
        all_goals simp [kindOf, hop, hcal, quiet] at hk
    · rename_i hnb
      simp only [kindOf, hop] at hk
      cases hcal : c.callee with
      | builtin b => exact absurd hcal (hnb b)
      | value v => simp [quiet] at hk
      | invoke v n => simp [quiet] at hk
  · rename_i c hop
    simp [kindOf, hop, quiet] at hk
  · rename_i x hop
    simp [kindOf, hop, quiet] at hk
  · trivial
end Ev
