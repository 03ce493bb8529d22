/- The evaluator of EvDefs again, cut for the kernel, and that it says the same: EvRaw. Conditions: none. -/
import Derived.Test.YtnaihoegbmpjiaaGreatEvFast
set_option linter.unusedVariables false
set_option linter.unusedSimpArgs false
namespace Ev
open Go

/-! ### the same with bare recursors, for the kernel -/
noncomputable def blR {α : Type} (v : Option α) (l r : Tr α) : Tr α := Tr.rec (motive := fun _ => Tr α) (Tr.node v .nil r) (fun a b c _ _ => Tr.node v (.node a b c) r) l
noncomputable def brR {α : Type} (v : Option α) (l r : Tr α) : Tr α := Tr.rec (motive := fun _ => Tr α) (Tr.node v l .nil) (fun a b c _ _ => Tr.node v l (.node a b c)) r
theorem blR_eq {α : Type} (v : Option α) (l r : Tr α) : blR v l r = Tr.bl v l r := by cases l <;> rfl
theorem brR_eq {α : Type} (v : Option α) (l r : Tr α) : brR v l r = Tr.br v l r := by cases r <;> rfl
noncomputable def getR {α : Type} (p : Pt) : Tr α → Option α := Pt.rec (motive := fun _ => Tr α → Option α)
  (fun t => Tr.rec (motive := fun _ => Option α) none (fun v _ _ _ _ => v) t)
  (fun _ ih t => Tr.rec (motive := fun _ => Option α) none (fun _ l _ _ _ => ih l) t)
  (fun _ ih t => Tr.rec (motive := fun _ => Option α) none (fun _ _ r _ _ => ih r) t) p
theorem getR_eq {α : Type} : ∀ (p : Pt) (t : Tr α), getR p t = getP p t
  | .here, t => by cases t <;> rfl
  | .l p, t => by
    cases t with
    | nil => rfl
    | node v l r => exact getR_eq p l
  | .r p, t => by
    cases t with
    | nil => rfl
    | node v l r => exact getR_eq p r
noncomputable def setR {α : Type} (p : Pt) : Tr α → α → Tr α := Pt.rec (motive := fun _ => Tr α → α → Tr α)
  (fun t x => Tr.rec (motive := fun _ => Tr α) (.node (some x) .nil .nil) (fun _ l r _ _ => .node (some x) l r) t)
  (fun _ ih t x => Tr.rec (motive := fun _ => Tr α) (blR none (ih .nil x) .nil) (fun v l r _ _ => blR v (ih l x) r) t)
  (fun _ ih t x => Tr.rec (motive := fun _ => Tr α) (brR none .nil (ih .nil x)) (fun v l r _ _ => brR v l (ih r x)) t) p
theorem setR_eq {α : Type} : ∀ (p : Pt) (t : Tr α) (x : α), setR p t x = setP p t x
  | .here, t, x => by cases t <;> rfl
  | .l p, t, x => by
    cases t with
    | nil => show blR none (setR p .nil x) .nil = _; rw [setR_eq p, blR_eq]; rfl
    | node v l r => show blR v (setR p l x) r = _; rw [setR_eq p, blR_eq]; rfl
  | .r p, t, x => by
    cases t with
    | nil => show brR none .nil (setR p .nil x) = _; rw [setR_eq p, brR_eq]; rfl
    | node v l r => show brR v l (setR p r x) = _; rw [setR_eq p, brR_eq]; rfl
noncomputable def envR (tm : Tr AV) (x : Operand) : Option AV := OdBox.rec (motive := fun _ => Option AV) (fun p => getR p tm) (fun v => v) (odBox x)
theorem envR_eq (tm : Tr AV) : envR tm = envP tm := by
  funext x
  unfold envR envP
  cases odBox x with
  | tmp p => exact getR_eq p tm
  | val v => rfl
noncomputable def putR (rec : Task → Res) (cx : Cx) (all rest : List Oper) (tm : Tr AV) (df : List ADef) (pan : Option (AV × Bool)) (h : Heap) (dst : Option Tmp) (v : AV) : Res :=
  Option.rec (motive := fun _ => Res) (rec (.ops cx all rest ⟨tm, df, pan, h⟩))
    (fun d => Bool.rec (motive := fun _ => Res) (.no "put" [])
      (Tr.rec (motive := fun _ => Res) (rec (.ops cx all rest ⟨.nil, df, pan, h⟩)) (fun a b c _ _ => rec (.ops cx all rest ⟨.node a b c, df, pan, h⟩)) (setR (pt d) tm v)) (Nat.blt d cx.nt)) dst
theorem putR_eq (T : Tabs) (rec : Task → Res) (cx : Cx) (all rest : List Oper) (tm : Tr AV) (df : List ADef) (pan : Option (AV × Bool)) (h : Heap) (dst : Option Tmp) (v : AV) :
    putR rec cx all rest tm df pan h dst v = stF_put T rec cx all rest tm df pan h dst v := by
  unfold putR stF_put
  cases dst with
  | none => rfl
  | some d =>
    simp only [setR_eq]
    cases Nat.blt d cx.nt with
    | false => rfl
    | true =>
      simp only []
      cases setP (pt d) tm v <;> rfl
noncomputable def heapR (rec : Task → Res) (cx : Cx) (all rest : List Oper) (tm : Tr AV) (df : List ADef) (pan : Option (AV × Bool)) (h : Heap) (dst : Option Tmp) (v : AV) : Res :=
  Heap.rec (motive := fun _ => Res) (fun t nx => Tr.rec (motive := fun _ => Res) (putR rec cx all rest tm df pan ⟨.nil, nx⟩ dst v) (fun a b c _ _ => putR rec cx all rest tm df pan ⟨.node a b c, nx⟩ dst v) t) h
theorem heapR_eq (T : Tabs) (rec : Task → Res) (cx : Cx) (all rest : List Oper) (tm : Tr AV) (df : List ADef) (pan : Option (AV × Bool)) (h : Heap) (dst : Option Tmp) (v : AV) :
    heapR rec cx all rest tm df pan h dst v = stF_heap T rec cx all rest tm df pan h dst v := by
  obtain ⟨t, nx⟩ := h
  cases t with
  | nil => exact putR_eq T ..
  | node a b c => exact putR_eq T ..
noncomputable def oneR (T : Tabs) (rec : Task → Res) (cx : Cx) (all : List Oper) (o : Oper) (rest : List Oper) (tm : Tr AV) (df : List ADef) (pan : Option (AV × Bool)) (h : Heap) : Res :=
  Option.rec (motive := fun _ => Res)
    (OpBox.rec (motive := fun _ => Res) (fun f => OR.rec (motive := fun _ => Res)
      (fun v h' => heapR rec cx all rest tm df pan h' o.dst v)
      (fun h' => heapR rec cx all rest tm df pan h' o.dst undefA)
      (fun f args h' => bindR (rec (.call f args h')) (stF_back T rec cx all rest tm df pan o.dst f))
      (fun l fn tm' nt as bd h' => bindR (rec (.round l fn tm' nt as bd h')) (stF_back T rec cx all rest tm df pan o.dst fn))
      (fun d => stF_res T rec cx all o rest tm df pan h (.defer d))
      (stF_res T rec cx all o rest tm df pan h .recover)
      (fun v h' => .pan v ⟨tm, df, pan, h'⟩)
      (fun l => altR (chooseA rec cx all rest ⟨tm, df, pan, h⟩ o.dst l))
      (fun w => .no (w ++ " at " ++ o.pos) []) (f (envR tm) h)) (opBox T o.op))
    (fun g => stF_one T rec cx all o rest tm df pan h) o.guard
theorem oneR_eq (T : Tabs) (rec : Task → Res) (cx : Cx) (all : List Oper) (o : Oper) (rest : List Oper) (tm : Tr AV) (df : List ADef) (pan : Option (AV × Bool)) (h : Heap) :
    oneR T rec cx all o rest tm df pan h = stF_one T rec cx all o rest tm df pan h := by
  unfold oneR
  cases hg : o.guard with
  | some g => rfl
  | none =>
    unfold stF_one
    have hw : wantedP all tm o = some true := by unfold wantedP; rw [hg]
    rw [hw]
    simp only [opF, envR_eq]
    cases opBox T o.op with
    | mk f =>
      simp only []
      cases f (envP tm) h with
      | val v h' => simp only [stF_res]; exact heapR_eq T ..
      | skip h' => simp only [stF_res]; exact heapR_eq T ..
      | _ => rfl
noncomputable def opsR (T : Tabs) (rec : Task → Res) (cx : Cx) (all rest : List Oper) (s : St) : Res :=
  List.rec (motive := fun _ => Res) (.fin .normal s) (fun o rest _ => St.rec (motive := fun _ => Res) (fun tm df pan h => oneR T rec cx all o rest tm df pan h) s) rest
theorem opsR_eq (T : Tabs) (rec : Task → Res) (cx : Cx) (all rest : List Oper) (s : St) : opsR T rec cx all rest s = stF_ops T rec cx all rest s := by
  cases rest with
  | nil => rfl
  | cons o rest => obtain ⟨tm, df, pan, h⟩ := s; exact oneR_eq T ..
noncomputable def stepR (T : Tabs) (rec : Task → Res) (t : Task) : Res := Task.rec (motive := fun _ => Res)
  (fun cx c s => CBox.rec (motive := fun _ => Res) (fun f => f rec cx s) (cBox T c))
  (fun cx all rest s => opsR T rec cx all rest s)
  (fun f args h => stF_call T rec f args h)
  (fun l fn tm nt as bd h => stF_round T rec l fn tm nt as bd h)
  (fun f tm ds pan h => stF_leave T rec f tm ds pan h)
  (fun f args pan h => stF_dcall T rec f args pan h) t
theorem stepR_eq (T : Tabs) (rec : Task → Res) (t : Task) : stepR T rec t = stepF T rec t := by
  cases t with
  | code cx c s =>
    show CBox.rec (motive := fun _ => Res) (fun f => f rec cx s) (cBox T c) = stF_code T rec cx c s
    unfold stF_code
    cases cBox T c; rfl
  | ops cx all rest s => exact opsR_eq T ..
  | _ => rfl
noncomputable def evR (T : Tabs) (n : Nat) : Task → Res := Nat.rec (motive := fun _ => Task → Res) (fun _ => .no "fuel" []) (fun _ ih t => stepR T ih t) n
theorem evR_eq (T : Tabs) : ∀ (n : Nat) (t : Task), evR T n t = ev T n t
  | 0, _ => rfl
  | n + 1, t => by
    have : evR T n = ev T n := funext (evR_eq T n)
    show stepR T (evR T n) t = step T (ev T n) t
    rw [stepR_eq, stepF_eq, this]
end Ev
