/- The evaluator of EvDefs again, cut for the kernel, and that it says the same: EvFast. Conditions: none. -/
import Derived.Test.YtnaihoegbmpjiaaGreatEvSum
set_option linter.unusedVariables false
set_option linter.unusedSimpArgs false
namespace Ev
open Go

/-! ### the evaluator, cut small -/
def opF_move (T : Tabs) (ρ : Operand → Option AV) (x : Operand) (h : Heap) : OR := rv "move" h (ρ x)
def opF_assign (T : Tabs) (ρ : Operand → Option AV) (x : Operand) (h : Heap) : OR := rv "assign" h (ρ x)
def opF_pick (T : Tabs) (ρ : Operand → Option AV) (c : Operand) (a : Operand) (b : Operand) (h : Heap) : OR := match ρ c with
  | some (.bool true) => rv "pick" h (ρ a)
  | some (.bool false) => rv "pick" h (ρ b)
  | _ => .no "pick"
def opF_alloc (T : Tabs) (ρ : Operand → Option AV) (elem : TypeId) (h : Heap) : OR := match T.zero elem with
  | some z => .val (newPtr (T.pin elem) h.next z.cells.length) (h.alloc (.cells elem z.cells true))
  | none => .no "alloc"
def opF_box (T : Tabs) (ρ : Operand → Option AV) (elem : TypeId) (x : Operand) (h : Heap) : OR := match ρ x with
  | some v => .val (.ptr h.next 0) (h.alloc (.cells elem v.cells true))
  | none => .no "box"
def opF_build (T : Tabs) (ρ : Operand → Option AV) (t : TypeId) (parts : Array (Nat × Operand)) (h : Heap) : OR := match pairMap ρ parts.toList with
  | some ps => rv "build" h (buildA T t ps)
  | none => .no "build"
def opF_buildSlice (T : Tabs) (ρ : Operand → Option AV) (t : TypeId) (len : Nat) (parts : Array (Nat × Operand)) (h : Heap) : OR := match T.und t, pairMap ρ parts.toList with
  | some (.slice elem), some ps => match T.size elem, zerosA T elem len with
    | some sz, some z => if len * sz > 16777216 then .no "buildSlice: great" else
      if z.length ≠ len * sz then .no "buildSlice: zero" else
      match fillA (fun i => some (i * sz, sz)) z ps with
      | some l => .val (.slice h.next 0 len len) (h.alloc (.cells elem l true))
      | none => .no "buildSlice"
    | _, _ => .no "buildSlice"
  | _, _ => .no "buildSlice"
def opF_load (T : Tabs) (ρ : Operand → Option AV) (t : TypeId) (a : Operand) (h : Heap) : OR := match ρ a with
  | some (.ptr b off) => rv "load" h (loadVarA T t h b off)
  | _ => .no "load"
def opF_store (T : Tabs) (ρ : Operand → Option AV) (t : TypeId) (a : Operand) (x : Operand) (h : Heap) : OR := match ρ a, ρ x, T.size t with
  | some (.ptr b off), some v, some n => if v.cells.length ≠ n then .no "store: size" else match writeCells h b off v.cells with
    | some h' => .skip h'
    | none => .no "store"
  | _, _, _ => .no "store"
def opF_nilCheck (T : Tabs) (ρ : Operand → Option AV) (x : Operand) (h : Heap) : OR := match ρ x with
  | some (.ptr b off) => .val (.ptr b off) h
  | some (.own b n) => .val (.own b n) h
  | some (.slice b off n c) => .val (.slice b off n c) h
  | some (.iface t v) => .val (.iface t v) h
  | some (.func (.func f) a b) => .val (.func (.func f) a b) h
  | some (.func (.yield f) a b) => .val (.func (.yield f) a b) h
  | _ => .no "nilCheck"
def opF_binOp (T : Tabs) (ρ : Operand → Option AV) (op : BinOp) (t : TypeId) (x : Operand) (y : Operand) (_u4 : TypeId) (h : Heap) : OR := match ρ x, ρ y with
  | some a, some b => if guardEq T op t x y a b then rv "binOp" h (binA T op t a b) else .no "binOp: guard"
  | _, _ => .no "binOp: operand"
def opF_unOp (T : Tabs) (ρ : Operand → Option AV) (op : UnOp) (_u1 : TypeId) (x : Operand) (h : Heap) : OR := match ρ x with
  | some a => rv "unOp" h (unA op a)
  | none => .no "unOp"
def opF_convert (T : Tabs) (ρ : Operand → Option AV) (src : TypeId) (dst : TypeId) (x : Operand) (h : Heap) : OR := match ρ x with
  | some a => convA T src dst h a
  | none => .no "convert"
def opF_makeInterface (T : Tabs) (ρ : Operand → Option AV) (t : TypeId) (x : Operand) (h : Heap) : OR := match ρ x, T.und t with
  | some _, some (.interface _) => .no "makeInterface"
  | some v, some _ => .val (.iface t v) h
  | _, _ => .no "makeInterface"
def opF_makeFunc (T : Tabs) (ρ : Operand → Option AV) (fn : Fn) (first : Array Operand) (captured : Array Operand) (h : Heap) : OR := match fn, argMap ρ first.toList, argMap ρ captured.toList with
  | .yield _, _, _ => .no "makeFunc: yield"
  | fn, some a, some b => .val (.func fn a b) h
  | _, _, _ => .no "makeFunc"
def opF_makeMap (T : Tabs) (ρ : Operand → Option AV) (t : TypeId) (r : Option Operand) (h : Heap) : OR := match T.und t, optOp ρ r with
  | some (.map _ _), some none => .val (.map h.next) (h.alloc (.map [] 0))
  | some (.map _ _), some (some (.int _ _)) => .val (.map h.next) (h.alloc (.map [] 0))
  | _, _ => .no "makeMap"
def opF_makeSlice (T : Tabs) (ρ : Operand → Option AV) (t : TypeId) (l : Operand) (c : Operand) (h : Heap) : OR := match T.und t, ρ l, ρ c with
  | some (.slice elem), some (.int _ l), some (.int _ c) => match T.size elem, T.ti elem with
    | some sz, some ei =>
      if 0 ≤ l ∧ l ≤ c ∧ c ≤ 1073741824 ∧ roomA c.toNat ei.bytes = true then (match zerosA T elem c.toNat with
        | some cs => if cs.length = c.toNat * sz then .val (.slice h.next 0 l.toNat c.toNat) (h.alloc (.cells elem cs true)) else .no "makeSlice: zero"
        | none => .no "makeSlice: zero")
      else .no "makeSlice: bounds"
    | _, _ => .no "makeSlice"
  | _, _, _ => .no "makeSlice"
def opF_slice (T : Tabs) (ρ : Operand → Option AV) (t : TypeId) (x : Operand) (lo : Option Operand) (hi : Option Operand) (mx : Option Operand) (h : Heap) : OR := match ρ x, optOp ρ lo, optOp ρ hi, optOp ρ mx with
  | some a, some l, some hh, some m => rv "slice" h (sliceA T t h a l hh m)
  | _, _, _, _ => .no "slice"
def opF_fieldAddr (T : Tabs) (ρ : Operand → Option AV) (s : TypeId) (x : Operand) (f : Nat) (h : Heap) : OR := match ρ x, T.und s with
  | some (.ptr b off), some (.struct fields) => match nth fields.toList f with
    | some fd => match T.size fd.type with
      | some 0 => .no "fieldAddr: no cell"
      | some _ => .val (.ptr b (off + fd.offset)) h
      | none => .no "fieldAddr"
    | none => .no "fieldAddr"
  | some (.own b _), some (.struct fields) => match nth fields.toList f with
    | some fd => match T.size fd.type with
      | some 0 => .no "fieldAddr: no cell"
      | some _ => .val (.ptr b (0 + fd.offset)) h
      | none => .no "fieldAddr"
    | none => .no "fieldAddr"
  | _, _ => .no "fieldAddr"
def opF_field (T : Tabs) (ρ : Operand → Option AV) (t : TypeId) (x : Operand) (f : Nat) (h : Heap) : OR := match ρ x, T.und t with
  | some (.agg cs), some (.struct fields) => match nth fields.toList f with
    | some fd => rv "field" h (part T fd.type cs fd.offset)
    | none => .no "field"
  | _, _ => .no "field"
def opF_indexAddr (T : Tabs) (ρ : Operand → Option AV) (t : TypeId) (x : Operand) (ix : Operand) (h : Heap) : OR := match T.und t, ρ x, ρ ix with
  | some (.array len elem), some (.ptr b off), some (.int _ i) => match T.size elem with
    | some sz => if 0 ≤ i ∧ i < len then .val (.ptr b (off + i.toNat * sz)) h else .no "indexAddr: array"
    | none => .no "indexAddr"
  | some (.slice elem), some (.slice b off len _), some (.int _ i) => match T.size elem with
    | some sz => if 0 ≤ i ∧ i < len then .val (.ptr b (off + i.toNat * sz)) h else .no "indexAddr: bounds"
    | none => .no "indexAddr"
  | some (.slice elem), some (.oslice b off len _), some (.int _ i) => match T.size elem with
    | some sz => if 0 ≤ i ∧ i < len then .val (.ptr b (off + i.toNat * sz)) h else .no "indexAddr: bounds"
    | none => .no "indexAddr"
  | _, _, _ => .no "indexAddr"
def opF_index (T : Tabs) (ρ : Operand → Option AV) (t : TypeId) (x : Operand) (ix : Operand) (h : Heap) : OR := match T.und t, ρ x, ρ ix with
  | some (.array len elem), some (.agg cs), some (.int _ i) => match T.size elem with
    | some sz => if 0 ≤ i ∧ i < len then rv "index" h (part T elem cs (i.toNat * sz)) else .no "index: bounds"
    | none => .no "index"
  | some .string, some (.str s), some (.int _ i) => if 0 ≤ i then (match nth s i.toNat with
      | some b => .val (.int .u8 b.toNat) h
      | none => .no "index: bounds") else .no "index: bounds"
  | _, _, _ => .no "index"
def opF_lookup (T : Tabs) (ρ : Operand → Option AV) (t : TypeId) (x : Operand) (ix : Operand) (ok : Bool) (h : Heap) : OR := match ρ x, ρ ix with
  | some m, some k => rv "lookup" h (lookupA T t h m k ok)
  | _, _ => .no "lookup"
def opF_mapUpdate (T : Tabs) (ρ : Operand → Option AV) (t : TypeId) (m : Operand) (k : Operand) (x : Operand) (h : Heap) : OR := match ρ m, ρ k, ρ x with
  | some m, some k, some v => match updateA T t h m k v with
    | some h' => .skip h'
    | none => .no "mapUpdate"
  | _, _, _ => .no "mapUpdate"
def opF_insert (T : Tabs) (ρ : Operand → Option AV) (t : TypeId) (m : Operand) (k : Operand) (x : Operand) (h : Heap) : OR := match ρ m, ρ k, ρ x with
  | some m, some k, some v => match updateA T t h m k v with
    | some h' => .skip h'
    | none => .no "insert"
  | _, _, _ => .no "insert"
def opF_typeAssert (T : Tabs) (ρ : Operand → Option AV) (x : Operand) (xt : TypeId) (asserted : TypeId) (ok : Bool) (h : Heap) : OR := match T.und asserted, ρ x with
  | some (.interface _), _ => .no "typeAssert: interface"
  | some _, some (.iface t v) =>
    if t = asserted then .val (if ok then .tuple [v, .bool true] else v) h
    else if ok then (match T.zero asserted with
      | some z => .val (.tuple [z, .bool false]) h
      | none => .no "typeAssert")
    else .no "typeAssert: panics"
  | some _, some .niliface => if ok then (match T.zero asserted with
      | some z => .val (.tuple [z, .bool false]) h
      | none => .no "typeAssert") else .no "typeAssert: panics"
  | _, _ => .no "typeAssert"
def opF_range (T : Tabs) (ρ : Operand → Option AV) (t : TypeId) (x : Operand) (h : Heap) : OR := match ρ x with
  | some m => match rangeA T t h m with
    | some o => .val (.ptr h.next 0) (h.alloc o)
    | none => .no "range"
  | none => .no "range"
def opF_next (T : Tabs) (ρ : Operand → Option AV) (it : Operand) (isString : Bool) (h : Heap) : OR := match ρ it, isString with
  | some (.ptr b 0), false => nextA T h b
  | _, _ => .no "next"
def opF_entry (T : Tabs) (ρ : Operand → Option AV) (it : Operand) (h : Heap) : OR := match ρ it with
  | some (.ptr b 0) => rv "entry" h (entryA h b)
  | _ => .no "entry"
def opF_extract (T : Tabs) (ρ : Operand → Option AV) (t : Operand) (ix : Nat) (h : Heap) : OR := match ρ t with
  | some (.tuple vs) => rv "extract" h (nth vs ix)
  | _ => .no "extract"
def opF_builtin (T : Tabs) (c : Go.Call) (b : Builtin) (args : List AV) (h : Heap) : OR := match b with
  | .append => appendA T args c.argTypes.toList h
  | .copy => copyA T args c.argTypes.toList h
  | .len => match args, c.argTypes.toList with
    | x :: _, t :: _ => rv "len" h (lenA T t h x)
    | _, _ => .no "len"
  | .cap => match args, c.argTypes.toList with
    | x :: _, t :: _ => rv "cap" h (capA T t x)
    | _, _ => .no "cap"
  | .delete => match args, c.argTypes.toList with
    | [m, k], t :: _ => match deleteA T t h m k with
      | some h' => .val (.tuple []) h'
      | none => .no "delete"
    | _, _ => .no "delete"
  | .clear => match args, c.argTypes.toList with
    | x :: _, t :: _ => clearA T t h x
    | _, _ => .no "clear"
  | .max => match args with
    | x :: l => rv "max" h (maxIntA true x l)
    | [] => .no "max"
  | .min => match args with
    | x :: l => rv "min" h (maxIntA false x l)
    | [] => .no "min"
  | .recover => .recover
  | .panic => .no "panic builtin"
  | _ => .no "builtin"
def opF_fn (T : Tabs) (ρ : Operand → Option AV) (c : Go.Call) (h : Heap) : OR := match resolveA ρ c with
    | some (.fn fn cap args) => invokeA T fn cap args h
    | _ => match c.callee with
      | .invoke r m => match ρ r, argMap ρ c.args.toList with
        | some (.iface t v), some args => match methA T t m with
          | some f => invokeA T (.func f) [] (v :: args) h
          | none => .no ("invoke " ++ m)
        | _, _ => .no ("invoke " ++ m)
      | _ => .no "call: operand"
def opF_call (T : Tabs) (ρ : Operand → Option AV) (c : Go.Call) (h : Heap) : OR := match c.callee with
  | .builtin b => match argMap ρ c.args.toList with
    | none => .no "builtin: args"
    | some args => opF_builtin T c b args h
  | _ => opF_fn T ρ c h
def opF_defer (T : Tabs) (ρ : Operand → Option AV) (c : Go.Call) (h : Heap) : OR := match resolveA ρ c with
  | some d => .defer d
  | none => .no "defer"
def opF_panic (T : Tabs) (ρ : Operand → Option AV) (x : Operand) (h : Heap) : OR := match ρ x with
  | some (.iface t v) => .panic (.iface t v) h
  | _ => .no "panic"
/-- an operation, looked at once -/
inductive OpBox where
  | mk (f : (Operand → Option AV) → Heap → OR)
def opBox (T : Tabs) (op : Op) : OpBox := match op with
  | .move x0 => .mk fun ρ h => opF_move T ρ x0 h
  | .assign x0 => .mk fun ρ h => opF_assign T ρ x0 h
  | .pick x0 x1 x2 => .mk fun ρ h => opF_pick T ρ x0 x1 x2 h
  | .alloc x0 => .mk fun ρ h => opF_alloc T ρ x0 h
  | .box x0 x1 => .mk fun ρ h => opF_box T ρ x0 x1 h
  | .build x0 x1 => .mk fun ρ h => opF_build T ρ x0 x1 h
  | .buildSlice x0 x1 x2 => .mk fun ρ h => opF_buildSlice T ρ x0 x1 x2 h
  | .load x0 x1 => .mk fun ρ h => opF_load T ρ x0 x1 h
  | .store x0 x1 x2 => .mk fun ρ h => opF_store T ρ x0 x1 x2 h
  | .nilCheck x0 => .mk fun ρ h => opF_nilCheck T ρ x0 h
  | .binOp x0 x1 x2 x3 x4 => .mk fun ρ h => opF_binOp T ρ x0 x1 x2 x3 x4 h
  | .unOp x0 x1 x2 => .mk fun ρ h => opF_unOp T ρ x0 x1 x2 h
  | .convert x0 x1 x2 => .mk fun ρ h => opF_convert T ρ x0 x1 x2 h
  | .makeInterface x0 x1 => .mk fun ρ h => opF_makeInterface T ρ x0 x1 h
  | .makeFunc x0 x1 x2 => .mk fun ρ h => opF_makeFunc T ρ x0 x1 x2 h
  | .makeMap x0 x1 => .mk fun ρ h => opF_makeMap T ρ x0 x1 h
  | .makeSlice x0 x1 x2 => .mk fun ρ h => opF_makeSlice T ρ x0 x1 x2 h
  | .slice x0 x1 x2 x3 x4 => .mk fun ρ h => opF_slice T ρ x0 x1 x2 x3 x4 h
  | .fieldAddr x0 x1 x2 => .mk fun ρ h => opF_fieldAddr T ρ x0 x1 x2 h
  | .field x0 x1 x2 => .mk fun ρ h => opF_field T ρ x0 x1 x2 h
  | .indexAddr x0 x1 x2 => .mk fun ρ h => opF_indexAddr T ρ x0 x1 x2 h
  | .index x0 x1 x2 => .mk fun ρ h => opF_index T ρ x0 x1 x2 h
  | .lookup x0 x1 x2 x3 => .mk fun ρ h => opF_lookup T ρ x0 x1 x2 x3 h
  | .mapUpdate x0 x1 x2 x3 => .mk fun ρ h => opF_mapUpdate T ρ x0 x1 x2 x3 h
  | .insert x0 x1 x2 x3 => .mk fun ρ h => opF_insert T ρ x0 x1 x2 x3 h
  | .typeAssert x0 x1 x2 x3 => .mk fun ρ h => opF_typeAssert T ρ x0 x1 x2 x3 h
  | .range x0 x1 => .mk fun ρ h => opF_range T ρ x0 x1 h
  | .next x0 x1 => .mk fun ρ h => opF_next T ρ x0 x1 h
  | .entry x0 => .mk fun ρ h => opF_entry T ρ x0 h
  | .extract x0 x1 => .mk fun ρ h => opF_extract T ρ x0 x1 h
  | .call x0 => .mk fun ρ h => opF_call T ρ x0 h
  | .defer x0 => .mk fun ρ h => opF_defer T ρ x0 h
  | .panic x0 => .mk fun ρ h => opF_panic T ρ x0 h
  | _ => .mk fun _ _ => .no "operation"
def opF (T : Tabs) (ρ : Operand → Option AV) (o : Oper) (h : Heap) : OR := match opBox T o.op with
  | .mk f => f ρ h
theorem opF_eq (T : Tabs) (ρ : Operand → Option AV) (o : Oper) (h : Heap) : opF T ρ o h = opA T ρ o h := by
  unfold opF opA
  cases o.op <;> rfl
/-! ### slots by their paths -/
inductive Pt where
  | here
  | l (p : Pt)
  | r (p : Pt)
def ptAux : Nat → Nat → Pt
  | 0, _ => .here
  | f + 1, n => match n with
    | 0 => .here
    | k + 1 => match k % 2 with
      | 0 => .l (ptAux f (k / 2))
      | _ + 1 => .r (ptAux f (k / 2))
def pt (n : Nat) : Pt := ptAux (n + 1) n
def getP {α : Type} : Pt → Tr α → Option α
  | .here, t => t.val
  | .l p, t => (match t with
    | .nil => none
    | .node _ l _ => getP p l)
  | .r p, t => (match t with
    | .nil => none
    | .node _ _ r => getP p r)
def setP {α : Type} : Pt → Tr α → α → Tr α
  | .here, t, x => (match t with
    | .nil => .node (some x) .nil .nil
    | .node _ l r => .node (some x) l r)
  | .l p, t, x => (match t with
    | .nil => Tr.bl none (setP p .nil x) .nil
    | .node v l r => Tr.bl v (setP p l x) r)
  | .r p, t, x => (match t with
    | .nil => Tr.br none .nil (setP p .nil x)
    | .node v l r => Tr.br v l (setP p r x))
theorem getP_aux {α : Type} : ∀ (f n : Nat) (t : Tr α), n < f → getP (ptAux f n) t = t.get n
  | 0, _, _, h => by omega
  | f + 1, n, t, h => by
    cases n with
    | zero => cases t <;> rfl
    | succ k =>
      have ih := fun (t' : Tr α) => getP_aux f (k / 2) t' (by omega)
      simp only [ptAux]
      cases hk : k % 2 with
      | zero =>
        cases t with
        | nil => simp only [getP, Tr.get_nil]
        | node v l r => simp only [getP, ih, Tr.get_node, hk]
      | succ q =>
        cases t with
        | nil => simp only [getP, Tr.get_nil]
        | node v l r => simp only [getP, ih, Tr.get_node, hk]
theorem setP_aux {α : Type} : ∀ (f n : Nat) (t : Tr α) (x : α), n < f → setP (ptAux f n) t x = Tr.setAux f t n x
  | 0, _, _, _, h => by omega
  | f + 1, n, t, x, h => by
    cases n with
    | zero => cases t <;> rfl
    | succ k =>
      have ih := fun (t' : Tr α) => setP_aux f (k / 2) t' x (by omega)
      simp only [ptAux]
      cases hk : k % 2 with
      | zero => cases t <;> simp only [setP, ih, Tr.setAux, hk]
      | succ q => cases t <;> simp only [setP, ih, Tr.setAux, hk]
theorem getP_eq {α : Type} (n : Nat) (t : Tr α) : getP (pt n) t = t.get n := getP_aux (n + 1) n t (by omega)
theorem setP_eq {α : Type} (n : Nat) (t : Tr α) (x : α) : setP (pt n) t x = t.set n x := setP_aux (n + 1) n t x (by omega)
inductive OdBox where
  | tmp (p : Pt)
  | val (v : Option AV)
def odBox (x : Operand) : OdBox := match x with
  | .tmp t => .tmp (pt t)
  | .const v => (match ofValue v with
    | some a => .val (some a)
    | none => .val none)
  | .global _ => .val none
  | .func f => .val (some (.func (.func f) [] []))
def envP (tm : Tr AV) (x : Operand) : Option AV := match odBox x with
  | .tmp p => getP p tm
  | .val v => v
theorem envP_eq (tm : Tr AV) : envP tm = env tm := by
  funext x
  cases x with
  | tmp t => exact getP_eq t tm
  | const v => unfold envP odBox env; simp only []; cases ofValue v <;> rfl
  | _ => rfl
def wantedP (ops : List Oper) (tm : Tr AV) (o : Oper) : Option Bool := match o.guard with
  | none => some true
  | some (j, want) => match dstOf ops j with
    | some d => match getP (pt d) tm with
      | some (.bool b) => some (b == want)
      | some _ => some false
      | none => none
    | none => none
theorem wantedP_eq (ops : List Oper) (tm : Tr AV) (o : Oper) : wantedP ops tm o = wantedA ops tm o := by
  unfold wantedP wantedA
  simp only [getP_eq]
  cases o.guard with
  | none => rfl
  | some g =>
    obtain ⟨j, w⟩ := g
    simp only []
    cases dstOf ops j with
    | none => rfl
    | some d =>
      simp only []
      cases tm.get d with
      | none => rfl
      | some v => cases v <;> rfl
def stF_skip (T : Tabs) (rec : Task → Res) (cx : Cx)  (s : St) : Res := .fin .normal s
def stF_label (T : Tabs) (rec : Task → Res) (cx : Cx) (_u0 : Nat) (s : St) : Res := .fin .normal s
def stF_region (T : Tabs) (rec : Task → Res) (cx : Cx) (_u0 : Nat) (ops : Array Oper) (draw : Bool) (s : St) : Res := match draw with
  | false => rec (.ops cx ops.toList ops.toList s)
  | true => drawn T rec cx ops.toList s
def stF_seq (T : Tabs) (rec : Task → Res) (cx : Cx) (a : Code) (b : Code) (s : St) : Res := bindR (rec (.code cx a s)) fun r => match r with
  | .fin .normal s' => rec (.code cx b s')
  | r => r
def stF_cond (T : Tabs) (rec : Task → Res) (cx : Cx) (x : Operand) (a : Code) (b : Code) (s : St) : Res := match envP s.tm x with
  | some (.bool true) => rec (.code cx a s)
  | some (.bool false) => rec (.code cx b s)
  | _ => .no "cond" []
def stF_block (T : Tabs) (rec : Task → Res) (cx : Cx) (id : Nat) (b : Code) (s : St) : Res := bindR (rec (.code cx b s)) fun r => match r with
  | .fin (.exit id') s' => if id' = id then .fin .normal s' else .fin (.exit id') s'
  | r => r
def stF_loop (T : Tabs) (rec : Task → Res) (cx : Cx) (b : Code) (s : St) : Res := bindR (rec (.code cx b s)) fun r => match r with
  | .fin .normal s' => rec (.code cx (.loop b) s')
  | r => r
def stF_exit (T : Tabs) (rec : Task → Res) (cx : Cx) (id : Nat) (s : St) : Res := .fin (.exit id) s
def stF_ret (T : Tabs) (rec : Task → Res) (cx : Cx)  (s : St) : Res := .fin .ret s
def stF_scope (T : Tabs) (rec : Task → Res) (cx : Cx) (b : Code) (s : St) : Res := bindR (rec (.code cx b s)) fun r => match r with
  | .fin (.goto l) s' => .fin (.goto l) s'
  | r => r
def stF_rangeFunc (T : Tabs) (rec : Task → Res) (cx : Cx) (f : Operand) (params : Array Tmp) (assign : Code) (body : Code) (s : St) : Res := 
  match env s.tm f with
  | some (.func fn first cap) =>
    match startLoop cx s.h with
    | none => .no "rangeFunc: no loop" []
    | some (dfs, h1, mark) =>
    let l := h1.next
    let h2 := h1.alloc (.loop .ready none cx.fn s.tm cx.nt params.toList assign body dfs)
    let s2 : St := { s with df := mark ++ s.df, h := h2 }
    match invokeA T fn cap (first ++ [.func (.yield l) [] []]) h2 with
    | .enter g args h3 => bindR (rec (.call g args h3)) fun r => match r with
      | .ret _ h4 => match h4.get l with
        | some (.loop st pend fn' tm' nt' ps as bd d) => match st with
          | .busy => .no "rangeFunc: busy" []
          | _ =>
            let s5 : St := { s2 with h := h4.set l (.loop .exhausted pend fn' tm' nt' ps as bd d) }
            match pend with
            | none => .fin .normal s5
            | some c => rec (.code cx c s5)
        | _ => .no "rangeFunc: no loop" []
      | .thrown v h4 => .pan v { s2 with h := h4 }
      | r => r
    | .no w => .no w []
    | _ => .no "rangeFunc: callee" []
  | _ => .no "rangeFunc: no function" []
def stF_goto (T : Tabs) (rec : Task → Res) (cx : Cx) (_u0 : Nat) (s : St) : Res := .no "goto" []
def stF_refuse (T : Tabs) (rec : Task → Res) (cx : Cx) (w : String) (s : St) : Res := .no ("refuse " ++ w) []
/-- a piece of code, looked at once -/
inductive CBox where
  | mk (f : (Task → Res) → Cx → St → Res)
def cBox (T : Tabs) (c : Code) : CBox := match c with
  | .skip  => .mk fun rec cx s => stF_skip T rec cx  s
  | .label x0 => .mk fun rec cx s => stF_label T rec cx x0 s
  | .region x0 x1 x2 => .mk fun rec cx s => stF_region T rec cx x0 x1 x2 s
  | .seq x0 x1 => .mk fun rec cx s => stF_seq T rec cx x0 x1 s
  | .cond x0 x1 x2 => .mk fun rec cx s => stF_cond T rec cx x0 x1 x2 s
  | .block x0 x1 => .mk fun rec cx s => stF_block T rec cx x0 x1 s
  | .loop x0 => .mk fun rec cx s => stF_loop T rec cx x0 s
  | .exit x0 => .mk fun rec cx s => stF_exit T rec cx x0 s
  | .ret  => .mk fun rec cx s => stF_ret T rec cx  s
  | .scope x0 => .mk fun rec cx s => stF_scope T rec cx x0 s
  | .rangeFunc x0 x1 x2 x3 => .mk fun rec cx s => stF_rangeFunc T rec cx x0 x1 x2 x3 s
  | .goto x0 => .mk fun rec cx s => stF_goto T rec cx x0 s
  | .refuse x0 => .mk fun rec cx s => stF_refuse T rec cx x0 s
def stF_code (T : Tabs) (rec : Task → Res) (cx : Cx) (c : Code) (s : St) : Res := match cBox T c with
  | .mk f => f rec cx s
/-- goes on behind an operation, with the memory looked at -/
def stF_put (T : Tabs) (rec : Task → Res) (cx : Cx) (all rest : List Oper) (tm : Tr AV) (df : List ADef) (pan : Option (AV × Bool)) (h : Heap) (dst : Option Tmp) (v : AV) : Res := match dst with
  | none => rec (.ops cx all rest ⟨tm, df, pan, h⟩)
  | some d => match Nat.blt d cx.nt with
    | true => (match setP (pt d) tm v with
      | .nil => rec (.ops cx all rest ⟨.nil, df, pan, h⟩)
      | .node a b c => rec (.ops cx all rest ⟨.node a b c, df, pan, h⟩))
    | false => .no "put" []
def stF_heap (T : Tabs) (rec : Task → Res) (cx : Cx) (all rest : List Oper) (tm : Tr AV) (df : List ADef) (pan : Option (AV × Bool)) (h : Heap) (dst : Option Tmp) (v : AV) : Res := match h with
  | ⟨t, nx⟩ => match t with
    | .nil => stF_put T rec cx all rest tm df pan ⟨.nil, nx⟩ dst v
    | .node a b c => stF_put T rec cx all rest tm df pan ⟨.node a b c, nx⟩ dst v
def stF_back (T : Tabs) (rec : Task → Res) (cx : Cx) (all rest : List Oper) (tm : Tr AV) (df : List ADef) (pan : Option (AV × Bool)) (dst : Option Tmp) (f : FuncId) (r : Res) : Res := match r with
  | .ret v h => stF_heap T rec cx all rest tm df pan h dst v
  | .thrown v h => .pan v ⟨tm, df, pan, h⟩
  | r => no1 f r
def stF_res (T : Tabs) (rec : Task → Res) (cx : Cx) (all : List Oper) (o : Oper) (rest : List Oper) (tm : Tr AV) (df : List ADef) (pan : Option (AV × Bool)) (h : Heap) (r : OR) : Res := match r with
  | .val v h' => stF_heap T rec cx all rest tm df pan h' o.dst v
  | .skip h' => stF_heap T rec cx all rest tm df pan h' o.dst undefA
  | .enter f args h' => bindR (rec (.call f args h')) (stF_back T rec cx all rest tm df pan o.dst f)
  | .round l fn tm' nt as bd h' => bindR (rec (.round l fn tm' nt as bd h')) (stF_back T rec cx all rest tm df pan o.dst fn)
  | .defer d => (match cx.round with
    | some _ => .no "defer in a round" []
    | none => stF_put T rec cx all rest tm (d :: df) pan h o.dst undefA)
  | .recover => (match cx.round with
    | some _ => .no "recover in a round" []
    | none => match pan with
      | some (v, false) => stF_put T rec cx all rest tm df (some (v, true)) h o.dst v
      | _ => stF_put T rec cx all rest tm df pan h o.dst .niliface)
  | .panic v h' => .pan v ⟨tm, df, pan, h'⟩
  | .choice l => altR (chooseA rec cx all rest ⟨tm, df, pan, h⟩ o.dst l)
  | .no w => .no (w ++ " at " ++ o.pos) []
def stF_one (T : Tabs) (rec : Task → Res) (cx : Cx) (all : List Oper) (o : Oper) (rest : List Oper) (tm : Tr AV) (df : List ADef) (pan : Option (AV × Bool)) (h : Heap) : Res := match wantedP all tm o with
  | none => .no "guard" []
  | some false => stF_put T rec cx all rest tm df pan h o.dst undefA
  | some true => stF_res T rec cx all o rest tm df pan h (opF T (envP tm) o h)
def stF_ops (T : Tabs) (rec : Task → Res) (cx : Cx) (all rest : List Oper) (s : St) : Res := match rest with
  | [] => .fin .normal s
  | o :: rest => match s with
    | ⟨tm, df, pan, h⟩ => stF_one T rec cx all o rest tm df pan h
theorem stF_put_eq (T : Tabs) (rec : Task → Res) (cx : Cx) (all rest : List Oper) (tm : Tr AV) (df : List ADef) (pan : Option (AV × Bool)) (h : Heap) (dst : Option Tmp) (v : AV) :
    stF_put T rec cx all rest tm df pan h dst v = match putA cx ⟨tm, df, pan, h⟩ dst v with
      | some s' => rec (.ops cx all rest s')
      | none => .no "put" [] := by
  unfold stF_put putA
  cases dst with
  | none => rfl
  | some d =>
    simp only []
    by_cases hd : d < cx.nt
    · have : Nat.blt d cx.nt = true := by rw [blt_eq]; simpa using hd
      simp only [this, if_pos hd, setP_eq]
      cases tm.set d v <;> rfl
    · have : Nat.blt d cx.nt = false := by rw [blt_eq]; simpa using hd
      simp only [this, if_neg hd]
theorem stF_heap_eq (T : Tabs) (rec : Task → Res) (cx : Cx) (all rest : List Oper) (tm : Tr AV) (df : List ADef) (pan : Option (AV × Bool)) (h : Heap) (dst : Option Tmp) (v : AV) :
    stF_heap T rec cx all rest tm df pan h dst v = match putA cx ⟨tm, df, pan, h⟩ dst v with
      | some s' => rec (.ops cx all rest s')
      | none => .no "put" [] := by
  rw [← stF_put_eq T rec cx all rest tm df pan h dst v]
  obtain ⟨t, nx⟩ := h
  cases t <;> rfl
def stF_call (T : Tabs) (rec : Task → Res) (f : FuncId) (args : List AV) (h : Heap) : Res :=  match T.sm f args h with
  | some (v, h') => .ret v h'
  | none => match T.fn f with
  | some F => match F.body with
    | some c => bindR (rec (.code { fn := f, nt := Nat.max F.ntmps args.length, round := none } c { tm := argsTm args 0 .nil, df := [], pan := none, h := h })) fun r => match r with
      | .fin .normal s => rec (.leave f s.tm s.df none s.h)
      | .fin .ret s => rec (.leave f s.tm s.df none s.h)
      | .pan v s => rec (.leave f s.tm s.df (some (v, false)) s.h)
      | .fin _ _ => .no "jump out of a function" []
      | r => r
    | none => .no "no body" []
  | none => .no "no function" []
def stF_leave (T : Tabs) (rec : Task → Res) (f : FuncId) (tm : Tr AV) (ds : List ADef) (pan : Option (AV × Bool)) (h : Heap) : Res :=  match ds with
  | [] => (match pan with
    | none => match T.fn f with
      | some F => match resultsA T tm h F.results.toList with
        | some vs => .ret (oneOf vs) h
        | none => .no "results" []
      | none => .no "results" []
    | some (v, false) => (match T.fn f with
      | some _ => .thrown v h
      | none => .no "no function" [])
    | some (_, true) => .no "leave: recovered" [])
  | .collected b :: ds => (match h.get b with
    | some (.dfr (some l)) => rec (.leave f tm (l ++ ds) pan (h.set b (.dfr none)))
    | _ => .no "leave: collected" [])
  | .fn fn cap args :: ds => match invokeA T fn cap args h with
    | .enter g as h' => bindR (rec (.dcall g as pan h')) fun r => match r with
      | .dret pan' h'' => (match pan' with
        | some (_, true) => rec (.leave f tm ds none h'')
        | p => rec (.leave f tm ds p h''))
      | .thrown _ _ => .no "a deferred call panics" []
      | r => no1 g r
    | .no w => .no w []
    | _ => .no "leave: deferred" []
def stF_dcall (T : Tabs) (rec : Task → Res) (f : FuncId) (args : List AV) (pan : Option (AV × Bool)) (h : Heap) : Res :=  match T.fn f with
  | some F => match F.results.toList with
   | _ :: _ => .no "deferred: results" []
   | [] => match F.body with
    | some c => bindR (rec (.code { fn := f, nt := Nat.max F.ntmps args.length, round := none } c { tm := argsTm args 0 .nil, df := [], pan := pan, h := h })) fun r => match r with
      | .fin e s => (match e, s.df with
        | .normal, [] => .dret s.pan s.h
        | .ret, [] => .dret s.pan s.h
        | _, _ => .no "deferred: defers" [])
      | .pan v s => .thrown v s.h
      | r => r
    | none => .no "no body" []
  | none => .no "no function" []
def stF_round (T : Tabs) (rec : Task → Res) (l : Nat) (fn : FuncId) (tm : Tr AV) (nt : Nat) (as bd : Code) (h : Heap) : Res := 
  let cx : Cx := { fn := fn, nt := nt, round := some l }
  bindR (rec (.code cx as { tm := tm, df := [], pan := none, h := h })) fun r => match r with
  | .fin .normal s => (match s.h.get l with
    | some (.loop .ready pend fn' tm' nt' ps as' bd' d) =>
      (bindR (rec (.code cx bd { s with h := s.h.set l (.loop .busy pend fn' tm' nt' ps as' bd' d) })) fun r => match r with
      | .fin e s' => (match s'.df, s'.h.get l with
        | [], some (.loop _ _ fn'' tm'' nt'' ps'' as'' bd'' d') => (match e with
          | .normal => .ret (.bool true) (s'.h.set l (.loop .ready none fn'' tm'' nt'' ps'' as'' bd'' d'))
          | e => .ret (.bool false) (s'.h.set l (.loop .done (some (goCode e)) fn'' tm'' nt'' ps'' as'' bd'' d')))
        | _, _ => .no "round: defers" [])
      | .pan v s' => (match s'.df, T.fn fn with
        | [], some _ => .thrown v s'.h
        | _, _ => .no "round: defers" [])
      | r => r)
    | _ => .no "round: not ready" [])
  | .fin _ _ => .no "round: jump in assign" []
  | .pan v s => (match s.df, T.fn fn with
    | [], some _ => .thrown v s.h
    | _, _ => .no "round: defers" [])
  | r => r
def stepF (T : Tabs) (rec : Task → Res) (t : Task) : Res := match t with
  | .code x0 x1 x2 => stF_code T rec x0 x1 x2
  | .ops x0 x1 x2 x3 => stF_ops T rec x0 x1 x2 x3
  | .call x0 x1 x2 => stF_call T rec x0 x1 x2
  | .leave x0 x1 x2 x3 x4 => stF_leave T rec x0 x1 x2 x3 x4
  | .dcall x0 x1 x2 x3 => stF_dcall T rec x0 x1 x2 x3
  | .round x0 x1 x2 x3 x4 x5 x6 => stF_round T rec x0 x1 x2 x3 x4 x5 x6
theorem stepF_eq (T : Tabs) (rec : Task → Res) (t : Task) : stepF T rec t = step T rec t := by
  cases t with
  | code cx c s =>
    cases c <;> try rfl
    case cond x a b => unfold stepF step; simp only [stF_code, cBox, stF_cond, envP_eq]; rfl
  | ops cx all rest s =>
    cases rest with
    | nil => rfl
    | cons o rest =>
      obtain ⟨tm, df, pan, h⟩ := s
      show stF_one T rec cx all o rest tm df pan h = step T rec (.ops cx all (o :: rest) ⟨tm, df, pan, h⟩)
      unfold stF_one
      simp only [step, wantedP_eq, envP_eq]
      cases wantedA all tm o with
      | none => rfl
      | some b =>
        cases b with
        | false => simp only [stF_put_eq]; cases putA cx ⟨tm, df, pan, h⟩ o.dst undefA <;> rfl
        | true =>
          simp only [opF_eq]
          cases opA T (env tm) o h with
          | val v h' => simp only [stF_res, stF_heap_eq]; cases putA cx ⟨tm, df, pan, h'⟩ o.dst v <;> rfl
          | skip h' => simp only [stF_res, stF_heap_eq]; cases putA cx ⟨tm, df, pan, h'⟩ o.dst undefA <;> rfl
          | enter f args h' =>
            simp only [stF_res]
            congr 1
            funext r
            cases r with
            | ret v h2 => simp only [stF_back, stF_heap_eq]; cases putA cx ⟨tm, df, pan, h2⟩ o.dst v <;> rfl
            | _ => rfl
          | round l fn tm' nt as bd h' =>
            simp only [stF_res]
            congr 1
            funext r
            cases r with
            | ret v h2 => simp only [stF_back, stF_heap_eq]; cases putA cx ⟨tm, df, pan, h2⟩ o.dst v <;> rfl
            | _ => rfl
          | defer d =>
            simp only [stF_res]
            cases cx.round with
            | none => simp only [stF_put_eq]; cases putA cx ⟨tm, d :: df, pan, h⟩ o.dst undefA <;> rfl
            | some _ => rfl
          | recover =>
            simp only [stF_res]
            cases cx.round with
            | some _ => rfl
            | none =>
              cases pan with
              | none => simp only [stF_put_eq]; cases putA cx ⟨tm, df, none, h⟩ o.dst .niliface <;> rfl
              | some p =>
                obtain ⟨v, b⟩ := p
                cases b with
                | false => simp only [stF_put_eq]; cases putA cx ⟨tm, df, some (v, true), h⟩ o.dst v <;> rfl
                | true => simp only [stF_put_eq]; cases putA cx ⟨tm, df, some (v, true), h⟩ o.dst .niliface <;> rfl
          | panic v h' => rfl
          | choice l => rfl
          | no w => rfl
  | call f args h => rfl
  | leave f tm ds pan h => rfl
  | dcall f args pan h => rfl
  | round l fn tm nt as bd h => rfl
def evF (T : Tabs) : Nat → Task → Res
  | 0, _ => .no "fuel" []
  | n + 1, t => stepF T (evF T n) t
theorem evF_eq (T : Tabs) : ∀ (n : Nat) (t : Task), evF T n t = ev T n t
  | 0, _ => rfl
  | n + 1, t => by
    have : evF T n = ev T n := funext (evF_eq T n)
    show stepF T (evF T n) t = step T (ev T n) t
    rw [stepF_eq, this]
end Ev
