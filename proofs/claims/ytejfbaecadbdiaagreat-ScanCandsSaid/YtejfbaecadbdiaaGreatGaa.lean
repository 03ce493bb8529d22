/- A part of an evaluator of the program's form in Lean, of the proof that what it says of a call is what the machine does, and of the rules by which proofs walk over it. Conditions: those that each theorem states. -/
import Derived.Calls
set_option linter.unusedVariables false
set_option linter.unusedSimpArgs false
section
namespace Ev
open Go
inductive Tr (α:Type) where
 |nil
 |node (v:Option α) (l r:Tr α)
namespace Tr
variable {α:Type}
def val:Tr α→Option α
 |nil=>none
 |node v _ _=>v
def get:Tr α→Nat→Option α
 |nil,_=>none
 |node v l r,n=>match n with
  |0=>v
  |k+1=>match k % 2 with
   |0=>get l (k / 2)
   |_+1=>get r (k / 2)
def bl (v:Option α) (l r:Tr α):Tr α:=match l with
 |nil=>node v nil r
 |node a b c=>node v (node a b c) r
def br (v:Option α) (l r:Tr α):Tr α:=match r with
 |nil=>node v l nil
 |node a b c=>node v l (node a b c)
def setAux:Nat→Tr α→Nat→α→Tr α
 |0,t,_,_=>t
 |f+1,t,n,x=>match t with
  |nil=>(match n with
   |0=>node (some x) nil nil
   |k+1=>match k % 2 with
    |0=>bl none (setAux f nil (k / 2) x) nil
    |_+1=>br none nil (setAux f nil (k / 2) x))
  |node v l r=>(match n with
   |0=>node (some x) l r
   |k+1=>match k % 2 with
    |0=>bl v (setAux f l (k / 2) x) r
    |_+1=>br v l (setAux f r (k / 2) x))
def set (t:Tr α) (n:Nat) (x:α):Tr α:=setAux (n+1) t n x
def c2u:Tr α→Nat→Tr α
 |nil,_=>nil
 |node v l r,n=>match n with
  |0=>node none l r
  |k+1=>match k % 2 with
   |0=>node v (c2u l (k / 2)) r
   |_+1=>node v l (c2u r (k / 2))
def b1k:List α→Nat→Tr α→Tr α
 |[],_,t=>t
 |x::l,n,t=>b1k l (n+1) (t.set n x)
def ofList (l:List α):Tr α:=b1k l 0 nil
end Tr
inductive AV where
 |bool (b:Bool)
 |int (k:IntKind) (n:Int)
 |str (s:List UInt8)
 |ptr (b off:Nat)
 |nilptr
 |slice (b off len cap:Nat)
 |oslice (b off len sz:Nat)
 |eslice
 |nilslice
 |map (b:Nat)
 |nilmap
 |func (fn:Fn) (first captured:List AV)
 |nilfunc
 |iface (t:TypeId) (v:AV)
 |niliface
 |agg (cs:List AV)
 |tuple (vs:List AV)
 |raw (b o:Nat)
 | own (b n : Nat)      -- the address of a variable of n cells, a block of its own
 deriving Inhabited
def AV.cells:AV→List AV
 |.agg cs=>cs
 |v=>[v]
def AV.one:AV→Bool
 |.agg _=>false
 |.tuple _=>false
 |_=>true
def a2w:AV:=.tuple []
def b7i:Value→Option AV
 |.bool b=>some (.bool b)
 |.int k n=>some (.int k n)
 |.string s=>some (.str s.data.toList)
 |.pointer none=>some .nilptr
 |.slice none 0 0=>some .nilslice
 |.map none=>some .nilmap
 |.nilFunc=>some .nilfunc
 |.nilIface=>some .niliface
 |_=>none
def b1h:List Value→Option (List AV)
 |[]=>some []
 |v::l=>match b7i v,b1h l with
  |some a,some b=>some (a::b)
  |_,_=>none
def ofValue:Value→Option AV
 |.agg cs=>match b1h cs.toList with
  |some l=>some (.agg l)
  |none=>none
 |.tuple vs=>match vs.toList with
  |[]=>some (.tuple [])
  |_=>none
 |v=>b7i v
inductive ADef where
 |fn (f:Fn) (cap args:List AV)
 |collected (b:Nat)
inductive a1t where
 |cells (elem:TypeId) (cs:List AV) (rw:Bool)
 |map (es:List (AV×AV×Nat)) (clock:Nat)
 |loop (st:LoopState) (pend:Option Code) (fn:FuncId) (tm:Tr AV) (nt:Nat) (params:List Tmp) (assign body:Code) (defers:Nat)
 |dfr (ds:Option (List ADef))
 |iter (m:Option Nat) (since:Nat) (seen:List Nat) (last:Nat)
 |dead
structure a0a where
 t:Tr a1t
 next:Nat
def a0a.get (h:a0a) (b:Nat):Option a1t:=h.t.get b
def a0a.set (h:a0a) (b:Nat) (o:a1t):a0a:={ h with t:=h.t.set b o }
def a0a.alloc (h:a0a) (o:a1t):a0a:={ t:=h.t.set h.next o,next:=h.next+1 }
inductive ExtK where
 |valueOf
 |valueLen
 |overlaps (sz:Nat)
 |same
 |mapsClone
structure a0k where
 ti:Nat→Option TypeInfo
 und:Nat→Option TypeDesc
 fn:Nat→Option Func
 eqg : Nat → Bool      -- eqGuardType
 stood : Nat → Bool    -- stoodInHeld
 ext:Nat→Option ExtK
 rt : Nat              -- the block of the types' handles
 kd : Nat → Bool       -- a slice type that no pack declares
 alts : Bool           -- several results at once are let by (a map's keys in any order)
 sm : FuncId → List AV → a0a → Option (AV × a0a)   -- functions that are told by a word of their own
 pin : Nat → Bool := fun _ => false   -- types of whose variables it is kept that they are blocks of their own
def a0k.size (T:a0k) (t:TypeId):Option Nat:=match T.ti t with
 |some i=>some i.size
 |none=>none
def a0k.zero (T:a0k) (t:TypeId):Option AV:=match T.ti t with
 |some i=>match i.zero with
  |some z=>ofValue z
  |none=>none
 |none=>none
def a0k.agg (T:a0k) (t:TypeId):Option Bool:=match T.und t with
 |some (.struct _)=>some true
 |some (.array _ _)=>some true
 |some _=>some false
 |none=>none
def nth {α:Type}:List α→Nat→Option α
 |[],_=>none
 |x::l,n=>match n with
  |0=>some x
  |k+1=>nth l k
def cut {α:Type}(l:List α) (off n:Nat):List α:=(l.drop off).take n
def c4b {α:Type}(l:List α) (off n:Nat):Option (List α):=if off+n≤l.length then some (cut l off n) else none
def over {α:Type}(l:List α) (off:Nat) (vs:List α):List α:=l.take off++vs++l.drop (off+vs.length)
def a2j (h:a0a) (b off n:Nat):Option (List AV):=match h.get b with
 |some (.cells _ cs _)=>c4b cs off n
 |_=>none
def a1m (h:a0a) (b off:Nat) (vs:List AV):Option a0a:=match h.get b with
 |some (.cells e cs true)=>if off+vs.length≤cs.length∧vs.all AV.one=true then some (h.set b (.cells e (over cs off vs) true)) else none
 |_=>none
def part (T:a0k) (t:TypeId) (cs:List AV) (off:Nat):Option AV:=match T.agg t,T.size t with
 |some true,some n=>match c4b cs off n with
  |some l=>some (.agg l)
  |none=>none
 |some false,some _=>nth cs off
 |_,_=>none
def oneOf:List AV→AV
 |[v]=>v
 |vs=>.tuple vs
def a3y (T:a0k) (t:TypeId) (h:a0a) (b off:Nat):Option AV:=match T.agg t,T.size t with
 |some true,some n=>match a2j h b off n with
  |some l=>some (.agg l)
  |none=>none
 |some false,some _=>match a2j h b off 1 with
  |some l=>nth l 0
  |none=>none
 |_,_=>none
def bytesLess:List UInt8→List UInt8→Bool
 |_,[]=>false
 |[],_::_=>true
 |a::x,b::y=>match Nat.blt a.toNat b.toNat with
  |true=>true
  |false=>match Nat.beq a.toNat b.toNat with
   |true=>bytesLess x y
   |false=>false
def a1w:List UInt8→List UInt8→Bool
 |[],[]=>true
 |a::x,b::y=>match Nat.beq a.toNat b.toNat with
  |true=>a1w x y
  |false=>false
 |_,_=>false
def a3f (op:BinOp) (k:IntKind) (x y:Int):Option AV :=
 match op with
 |.add=>some (.int k (k.wrap (x+y)))
 |.sub=>some (.int k (k.wrap (x-y)))
 |.mul=>some (.int k (k.wrap (x*y)))
 |.quo=>if y=0 then none else some (.int k (k.wrap (x.tdiv y)))
 |.rem=>if y=0 then none else some (.int k (x.tmod y))
 |.and=>some (.int k (k.wrap (BitVec.ofInt k.bits x &&& BitVec.ofInt k.bits y).toNat))
 |.or=>some (.int k (k.wrap (BitVec.ofInt k.bits x ||| BitVec.ofInt k.bits y).toNat))
 |.xor=>some (.int k (k.wrap (BitVec.ofInt k.bits x ^^^ BitVec.ofInt k.bits y).toNat))
 |.andNot=>some (.int k (k.wrap (BitVec.ofInt k.bits x &&& ~~~BitVec.ofInt k.bits y).toNat))
 |.eql=>some (.bool (x==y))
 |.neq=>some (.bool (x != y))
 |.lss=>some (.bool (x<y))
 |.leq=>some (.bool (x≤y))
 |.gtr=>some (.bool (x>y))
 |.geq=>some (.bool (x ≥ y))
 |_=>none
def shiftOp (op:BinOp) (k:IntKind) (x y:Int):Option AV :=
 if y<0 then none else
 let n:=min y.toNat k.bits
 match op with
 |.shl=>some (.int k (k.wrap (x*2 ^ n)))
 |.shr=>some (.int k (x.fdiv (2 ^ n)))
 |_=>none
def e0m (op:BinOp) (x y:List UInt8):Option AV :=
 match op with
 |.add=>if x.length+y.length≤140737488355328 then some (.str (x++y)) else none
 |.eql=>some (.bool (a1w x y))
 |.neq=>some (.bool (!a1w x y))
 |.lss=>some (.bool (bytesLess x y))
 |.leq=>some (.bool (bytesLess x y||a1w x y))
 |.gtr=>some (.bool (!(bytesLess x y||a1w x y)))
 |.geq=>some (.bool (!bytesLess x y))
 |_=>none
def e4o:Bool→Bool→Bool
 |true,true=>true
 |false,false=>true
 |_,_=>false
def eqFields (T:a0k) (e:TypeId→AV→AV→Option Bool):List Field→List AV→List AV→Option Bool
 |[],_,_=>some true
 |f::fs,xs,ys =>
  if f.name = "_" then eqFields T e fs xs ys else
  match part T f.type xs f.offset,part T f.type ys f.offset with
  |some a,some b=>match e f.type a b with
   |some true=>eqFields T e fs xs ys
   |some false=>some false
   |none=>none
  |_,_=>none
def b7s (T:a0k) (e:TypeId→AV→AV→Option Bool):TypeId→Nat→List AV→List AV→Nat→Nat→Option Bool
 |_,_,_,_,0,_=>some true
 |elem,n,xs,ys,len+1,i=>match part T elem xs (i*n),part T elem ys (i*n) with
  |some a,some b=>match e elem a b with
   |some true=>b7s T e elem n xs ys len (i+1)
   |some false=>some false
   |none=>none
  |_,_=>none
def eqv (T:a0k):Nat→TypeId→AV→AV→Option Bool
 |0,_,_,_=>none
 |d+1,t,x,y=>match T.und t,x,y with
  |some .bool,.bool a,.bool b=>some (a==b)
  |some (.int _),.int k a,.int k' b=>if k=k' then some (a==b) else none
  |some .string,.str a,.str b=>some (a1w a b)
  |some (.pointer _),.nilptr,.nilptr=>some true
  |some (.pointer _),.nilptr,.ptr _ _=>some false
  |some (.pointer _),.ptr _ _,.nilptr=>some false
  |some (.slice _),.nilslice,.nilslice=>some true
  |some (.slice _),.nilslice,.slice .. => some false
  |some (.slice _),.nilslice,.oslice .. => some false
  |some (.slice _),.nilslice,.eslice=>some false
  |some (.slice _),.slice ..,.nilslice=>some false
  |some (.slice _),.oslice ..,.nilslice=>some false
  |some (.slice _),.eslice,.nilslice=>some false
  |some (.map _ _),.nilmap,.nilmap=>some true
  |some (.map _ _),.nilmap,.map _=>some false
  |some (.map _ _),.map _,.nilmap=>some false
  |some (.func _ _ _),.nilfunc,.nilfunc=>some true
  |some (.func _ _ _),.nilfunc,.func .. => some false
  |some (.func _ _ _),.func ..,.nilfunc=>some false
  |some (.interface _),.niliface,.niliface=>some true
  |some (.interface _),.niliface,.iface _ _=>some false
  |some (.interface _),.iface _ _,.niliface=>some false
  |some (.struct fields),.agg xs,.agg ys=>if T.stood t then none else eqFields T (eqv T d) fields.toList xs ys
  |some (.array len elem),.agg xs,.agg ys=>match T.size elem with
   |some n=>b7s T (eqv T d) elem n xs ys len 0
   |none=>none
  |_,_,_=>none
def isConst:Operand→Bool
 |.const _=>true
 |_=>false
def b8o (T:a0k) (op:BinOp) (t:TypeId) (x y:Operand) (a b:AV):Bool :=
 match op with
 |.eql|.neq=>match a,b with
  |.niliface,.niliface=>isConst x||isConst y
  |.agg _,.agg _ => !T.eqg t
  |_,_=>true
 |_=>true
def a1i (T:a0k) (op:BinOp) (t:TypeId) (a b:AV):Option AV :=
 match a,b with
 |.int k x,.int k' y=>match op with
  |.shl=>shiftOp op k x y
  |.shr=>shiftOp op k x y
  |_=>if k=k' then a3f op k x y else none
 |.str x,.str y=>e0m op x y
 |a,b=>match op with
  |.eql=>match eqv T 100 t a b with
   |some r=>some (.bool r)
   |none=>none
  |.neq=>match eqv T 100 t a b with
   |some r=>some (.bool (!r))
   |none=>none
  |_=>none
def unA (op:UnOp) (x:AV):Option AV:=match op,x with
 |.neg,.int k n=>some (.int k (k.wrap (0-n)))
 |.xor,.int k n=>a3f .xor k (if k.signed then -1 else k.max) n
 |.not,.bool b=>some (.bool (!b))
 |_,_=>none
def c0i (place:Nat→Option (Nat×Nat)) (cells:List AV):List (Nat×AV)→Option (List AV)
 |[]=>some cells
 |(i,v)::rest=>match place i with
  |none=>none
  |some (off,size)=>if v.cells.length≠size∨off+v.cells.length>cells.length then none
   else c0i place (over cells off v.cells) rest
def times {α:Type}(l:List α):Nat→List α
 |0=>[]
 |n+1=>l++times l n
def a8o (T:a0k):List Field→Option (List (Nat×Nat))
 |[]=>some []
 |f::fs=>match T.size f.type,a8o T fs with
  |some n,some l=>some ((f.offset,n)::l)
  |_,_=>none
def d3z (T:a0k) (t:TypeId) (parts:List (Nat×AV)):Option AV:=match T.zero t,T.und t with
 |some z,some (.struct fields)=>match a8o T fields.toList with
  |some places=>match c0i (nth places) z.cells parts with
   |some l=>some (.agg l)
   |none=>none
  |none=>none
 |some z,some (.array _ elem)=>match T.size elem with
  |some n=>match c0i (fun i=>some (i*n,n)) z.cells parts with
   |some l=>some (.agg l)
   |none=>none
  |none=>none
 |_,_=>none
inductive OR where
 |val (v:AV) (h:a0a)
 |skip (h:a0a)
 |enter (f:FuncId) (args:List AV) (h:a0a)
 |round (l:Nat) (fn:FuncId) (tm:Tr AV) (nt:Nat) (assign body:Code) (h:a0a)
 |defer (d:ADef)
 |recover
 |panic (v:AV) (h:a0a)
 | choice (l : List (AV × a0a))   -- one of these
 |no (why:String)
def rv (why:String) (h:a0a):Option AV→OR
 |some v=>.val v h
 |none=>.no why
def a5e (ρ:Operand→Option AV):List (Nat×Operand)→Option (List (Nat×AV))
 |[]=>some []
 |(i,x)::l=>match ρ x,a5e ρ l with
  |some v,some r=>some ((i,v)::r)
  |_,_=>none
def a4d (ρ:Operand→Option AV):List Operand→Option (List AV)
 |[]=>some []
 |x::l=>match ρ x,a4d ρ l with
  |some v,some r=>some (v::r)
  |_,_=>none
def a5q (y:Nat):AV→Option Nat
 |.int _ i=>if 0≤i∧i≤y then some i.toNat else none
 |_=>none
def mxA (cap:Nat):Option AV→Option Nat
 |some v=>a5q cap v
 |none=>some cap
def hiA (len m:Nat):Option AV→Option AV→Option Nat
 |some v,_=>a5q m v
 |none,none=>some len
 |none,some _=>none
def loA (h:Nat):Option AV→Option Nat
 |some v=>a5q h v
 |none=>some 0
def a2y (len cap:Nat) (lo hi mx:Option AV):Option (Nat×Nat×Nat) :=
 match mxA cap mx with
 |none=>none
 |some m=>match hiA len m hi mx with
  |none=>none
  |some h=>match loA h lo with
   |none=>none
   |some l=>some (l,h,m)
def a5b (ρ:Operand→Option AV):Option Operand→Option (Option AV)
 |none=>some none
 |some x=>match ρ x with
  |some v=>some (some v)
  |none=>none
def a3j (sz:Nat) (h:a0a) (x:AV) (lo hi mx:Option AV):Option AV:=match x with
 |.nilslice=>match a2y 0 0 lo hi mx with
  |some (_,_,_)=>some .nilslice
  |none=>none
 |.slice b off len cap=>match a2y len cap lo hi mx with
  |some (l,hh,m)=>some (.slice b (if m=l then off else off+l*sz) (hh-l) (m-l))
  |none=>none
 |.oslice b off len sz'=>if sz'≠sz then none else match h.get b with
  |some (.cells _ cs _) =>
   let known:=(cs.length-off) / sz
   match a2y len known lo hi mx with
   |some (l,hh,m)=>match mx with
    |some _=>if l<m then some (.slice b (off+l*sz) (hh-l) (m-l)) else none
    |none=>if l<known then some (.oslice b (off+l*sz) (hh-l) sz) else if l=0 then some (.oslice b off (hh-l) sz) else if hh=l then some .eslice else none
   |none=>none
  |_=>none
 |.eslice=>match a2y 0 0 lo hi mx with
  |some (_,_,_)=>some .eslice
  |none=>none
 |_=>none
def b4m (T:a0k) (t:TypeId) (h:a0a) (x:AV) (lo hi mx:Option AV):Option AV:=match T.und t,x with
 |some .string,.str s=>match mx with
  |some _=>none
  |none=>match a2y s.length s.length lo hi none with
   |some (l,hh,_)=>some (.str (cut s l (hh-l)))
   |none=>none
 |some (.slice elem),x=>match T.size elem with
  |some sz=>a3j sz h x lo hi mx
  |none=>none
 |some (.array n elem),.ptr b off=>match T.size elem,a2y n n lo hi mx with
  |some sz,some (l,hh,m)=>some (.slice b (if m=l then off else off+l*sz) (hh-l) (m-l))
  |_,_=>none
 |_,_=>none
def a5a:AV→Option Nat
 |.nilslice=>some 0
 |.slice _ _ n _=>some n
 |.oslice _ _ n _=>some n
 |.eslice=>some 0
 |.str s=>some s.length
 |_=>none
def d4o (T:a0k) (t:TypeId) (h:a0a) (x:AV):Option AV:=match T.und t,x with
 |some (.array n _),_=>some (.int .i64 n)
 |some (.pointer arr),_=>match T.und arr with
  |some (.array n _)=>some (.int .i64 n)
  |_=>none
 |some (.map _ _),.nilmap=>some (.int .i64 0)
 |some (.map _ _),.map b=>match h.get b with
  |some (.map es _)=>some (.int .i64 es.length)
  |_=>none
 |some .string,.str s=>some (.int .i64 s.length)
 |some (.slice _),.str _=>none
 |some (.slice _),x=>match a5a x with
  |some n=>some (.int .i64 n)
  |none=>none
 |_,_=>none
def f2y (T:a0k) (t:TypeId) (x:AV):Option AV:=match T.und t,x with
 |some (.slice _),.slice _ _ _ n=>some (.int .i64 n)
 |some (.slice _),.nilslice=>some (.int .i64 0)
 |_,_=>none
def u8s (l:List UInt8):List AV:=l.map fun b=>.int .u8 b.toNat
def a3z (sz n:Nat) (h:a0a):AV→Option (List AV)
 |.nilslice=>if n=0 then some [] else none
 |.eslice=>if n=0 then some [] else none
 |.slice b off _ _=>a2j h b off (n*sz)
 |.oslice b off _ _=>a2j h b off (n*sz)
 |.str s=>some (u8s (s.take n))
 |_=>none
def a2u (need bytes:Nat):Bool:=Nat.ble ((4*need+1000)*(bytes+1)) 140737488355328
def a5w (T:a0k) (t:TypeId) (n:Nat):Option (List AV):=if n=0 then some [] else match T.zero t with
 |some z=>some (times z.cells n)
 |none=>none
def a3x (T:a0k) (rest:List TypeId):Option Bool:=match rest with
 |[]=>some false
 |xt::_=>match T.und xt with
  |some (.int _)=>some true
  |some _=>some false
  |none=>none
def b0z (T:a0k) (rest:List TypeId) (x:AV):Option Nat:=match a3x T rest,x with
 |some true,.int _ n=>if 0≤n∧n≤1073741824 then some n.toNat else none
 |some false,x=>a5a x
 |_,_=>none
def c4r (T:a0k) (elem:TypeId) (sz n:Nat) (h:a0a) (rest:List TypeId) (x:AV):Option (List AV):=match a3x T rest with
 |some true=>match a5w T elem n with
  |some l=>if l.length=n*sz then some l else none
  |none=>none
 |some false=>a3z sz n h x
 |none=>none
def a5y (T:a0k) (elem:TypeId) (sz:Nat):Bool:=match T.zero elem with
 |some z=>Nat.beq z.cells.length sz
 |none=>false
def a1h (T:a0k) (args:List AV) (argTypes:List TypeId) (h:a0a):OR:=match args,argTypes with
 |[s,x],st::rest=>match T.und st with
  |some (.slice elem) =>
   match T.size elem,a5a s,b0z T rest x,T.ti elem with
   |some sz,some sl,some n,some ei =>
    match c4r T elem sz n h rest x,a3z sz sl h s with
    |some new,some old =>
     if a2u (sl + n) ei.bytes = false ∨ a5y T elem sz = false ∨ Nat.beq new.length (n * sz) = false ∨ Nat.beq old.length (sl * sz) = false then .no "append: room" else
     match s with
     |.slice b off len cap =>
      if len+n≤cap then(match a1m h b (off+len*sz) new with
       |some h'=>.val (.slice b off (len+n) cap) h'
       | none => .no "append: in place")
      else .val (.oslice h.next 0 (len+n) sz) (h.alloc (.cells elem (old++new) true))
     |.oslice b off len sz'=>match h.get b with
      |some (.cells e cs true) =>
       if sz' ≠ sz ∨ sz = 0 ∨ e ≠ elem ∨ new.all AV.one = false then .no "append: size" else
       if off+(len+n)*sz≤cs.length then(match a1m h b (off+len*sz) new with
        |some h'=>.val (.oslice b off (len+n) sz) h'
        | none => .no "append: in place")
       else -- in place or not: the old block is given up
        .val (.oslice h.next 0 (len+n) sz) ((h.set b .dead).alloc (.cells elem (old++new) true))
      | _ => .no "append: no block"
     |.nilslice=>if n=0 then .val .nilslice h else .val (.oslice h.next 0 n sz) (h.alloc (.cells elem (old++new) true))
     | .eslice => if n = 0 then .val .eslice h else .no "append: to a slice's end"
     | _ => .no "append: slice"
    | _, _ => .no "append: cells"
   | _, _, _, _ => .no "append: type"
  | _ => .no "append: type"
 | _, _ => .no "append: args"
def b6x (T:a0k) (elem:TypeId) (h:a0a) (b off n:Nat):OR:=match n with
 |0=>.val (.tuple []) h
 |k+1=>match T.size elem,a5w T elem (k+1) with
  |some sz,some l=>match Nat.beq l.length ((k+1)*sz) with
   |true=>(match a1m h b off l with
    |some h'=>.val (.tuple []) h'
    | none => .no "clear: store")
   | false => .no "clear: zero"
  | _, _ => .no "clear: zero"
def b4e (T:a0k) (t:TypeId) (h:a0a) (x:AV):OR:=match T.und t with
 |some (.slice elem)=>match x with
  |.nilslice=>.val (.tuple []) h
  |.eslice=>.val (.tuple []) h
  |.slice b off n _=>b6x T elem h b off n
  |.oslice b off n _=>b6x T elem h b off n
  | _ => .no "clear"
 | _ => .no "clear"
def c0d (T:a0k) (args:List AV) (argTypes:List TypeId) (h:a0a):OR:=match args,argTypes with
 |[d,s],dt::_=>match T.und dt with
  |some (.slice elem)=>match T.size elem,a5a d,a5a s with
   |some sz,some dl,some sl =>
    let n:=Nat.min sl dl
    match a3z sz n h s,d with
    |some new,.slice b off _ _=>(match a1m h b off new with
     |some h'=>.val (.int .i64 n) h'
     | none => .no "copy: store")
    |some new,.oslice b off _ _=>(match a1m h b off new with
     |some h'=>.val (.int .i64 n) h'
     | none => .no "copy: store")
    |some _,.nilslice=>.val (.int .i64 n) h
    |some [],.eslice=>.val (.int .i64 n) h
    | _, _ => .no "copy"
   | _, _, _ => .no "copy"
  | _ => .no "copy"
 | _, _ => .no "copy"
def sameKey:AV→AV→Option Bool
 |.int k a,.int k' b=>if k=k' then some (a==b) else none
 |.str a,.str b=>some (a1w a b)
 |_,_=>none
def b5x (T:a0k) (t:TypeId) (k:AV):Bool:=match T.und t,k with
 |some (.int _),.int _ _=>true
 |some .string,.str _=>true
 |_,_=>false
def b1p (k:AV):List (AV×AV×Nat)→Nat→Option (Option (Nat×AV))
 |[],_=>some none
 |(kk,v,_)::es,i=>match sameKey k kk with
  |some true=>some (some (i,v))
  |some false=>b1p k es (i+1)
  |none=>none
def a8v {α:Type}:List α→Nat→α→List α
 |[],_,_=>[]
 |x::l,n,v=>match n with
  |0=>v::l
  |k+1=>x::a8v l k v
def b1b {α:Type}:List α→Nat→List α
 |[],_=>[]
 |x::l,n=>match n with
  |0=>l
  |k+1=>x::b1b l k
def c0z (T:a0k) (t:TypeId) (h:a0a) (m k:AV) (ok:Bool):Option AV:=match T.und t with
 |some (.map kt et) =>
  if b5x T kt k=false then none else
  let res (r:Option (Nat×AV)):Option AV:=match r with
   |some (_,v)=>some (if ok then .tuple [v,.bool true] else v)
   |none=>match T.zero et with
    |some z=>some (if ok then .tuple [z,.bool false] else z)
    |none=>none
  match m with
  |.nilmap=>res none
  |.map b=>match h.get b with
   |some (.map es _)=>match b1p k es 0 with
    |some r=>res r
    |none=>none
   |_=>none
  |_=>none
 |_=>none
def a8f (T:a0k) (t:TypeId) (h:a0a) (m k v:AV):Option a0a:=match T.und t,m with
 |some (.map kt _),.map b =>
  if b5x T kt k=false then none else
  match h.get b with
  |some (.map es clock)=>match b1p k es 0 with
   |some (some (i,_))=>match nth es i with
    |some (kk,_,born)=>some (h.set b (.map (a8v es i (kk,v,born)) clock))
    |none=>none
   |some none=>some (h.set b (.map (es++[(k,v,clock)]) (clock+1)))
   |none=>none
  |_=>none
 |_,_=>none
def c6v (T:a0k) (t:TypeId) (h:a0a) (m k:AV):Option a0a:=match T.und t,m with
 |some (.map kt _),.nilmap=>if b5x T kt k then some h else none
 |some (.map kt _),.map b =>
  if b5x T kt k=false then none else
  match h.get b with
  |some (.map es clock)=>match b1p k es 0 with
   |some (some (i,_))=>some (h.set b (.map (b1b es i) clock))
   |some none=>some h
   |none=>none
  |_=>none
 |_,_=>none
def b0h (n:Nat):List Nat→Bool
 |[]=>false
 |m::l=>match Nat.beq n m with
  |true=>true
  |false=>b0h n l
def b1j (seen:List Nat):List (AV×AV×Nat)→List (AV×AV×Nat)
 |[]=>[]
 |e::l=>match b0h e.2.2 seen with
  |true=>b1j seen l
  |false=>e::b1j seen l
def b5c (last:Nat):List (AV×AV×Nat)→Bool
 |[]=>true
 |e::l=>Nat.ble last e.2.2&&b5c last l
def c0j (n:Nat):List (AV×AV×Nat)→Option (AV×AV×Nat)
 |[]=>none
 |e::l=>match Nat.beq e.2.2 n with
  |true=>some e
  |false=>c0j n l
def d0f:List Nat→Option Nat
 |[]=>none
 |[n]=>some n
 |_::l=>d0f l
def b6q (since:Nat):List (AV×AV×Nat)→Bool
 |[]=>true
 |e::l=>(match Nat.blt e.2.2 since with
  |true=>b6q since l
  |false=>false)
def b6i (m:Option Nat) (since:Nat) (seen:List Nat) (clock:Nat) (h:a0a) (b:Nat):List (AV×AV×Nat)→List (AV×a0a)
 |[]=>[]
 |e::l=>(.tuple [.bool true,e.1,e.2.1],h.set b (.iter m since (seen++[e.2.2]) clock))::b6i m since seen clock h b l
def a9b (T:a0k) (h:a0a) (b:Nat):OR:=match h.get b with
 |some (.iter none _ _ _)=>.val (.tuple [.bool false]) h
 |some (.iter (some m) since seen last)=>match h.get m with
  |some (.map es clock) =>
   match (match seen,es with|[],_=>true|_,[]=>true|_,es => !b5c last es) with
   | false => .no "next: new entries"
   |true=>match b1j seen es with
    |[]=>.val (.tuple [.bool false]) h
    |[e]=>match Nat.blt e.2.2 since with
     |true=>.val (.tuple [.bool true,e.1,e.2.1]) (h.set b (.iter (some m) since (seen++[e.2.2]) clock))
     | false => .no "next: a new entry"
    |l=>match T.alts&&b6q since l with
     |true=>.choice (b6i (some m) since seen clock h b l)
     | false => .no "next: a new entry"
  | _ => .no "next: no map"
 | _ => .no "next: no iterator"
def c1x (h:a0a) (b:Nat):Option AV:=match h.get b with
 |some (.iter (some m) _ seen stepped)=>match d0f seen,h.get m with
  |some stamp,some (.map es clock)=>match Nat.beq clock stepped,c0j stamp es with
   |true,some e=>some (.tuple [e.1,e.2.1])
   |_,_=>none
  |_,_=>none
 |_=>none
def c8c (T:a0k) (t:TypeId) (h:a0a) (x:AV):Option a1t:=match T.und t,x with
 |some (.map _ _),.nilmap=>some (.iter none 0 [] 0)
 |some (.map _ _),.map m=>match h.get m with
  |some (.map _ clock)=>some (.iter (some m) clock [] clock)
  |_=>none
 |_,_=>none
def a7k:List AV→Option (List UInt8)
 |[]=>some []
 |.int .u8 n::l=>match a7k l with
  |some r=>some (UInt8.ofNat n.toNat::r)
  |none=>none
 |_=>none
def b4q (T:a0k) (src dst:TypeId) (h:a0a) (x:AV):OR:=match T.und src,T.und dst,x with
 |some _,some (.int k),.int _ n=>.val (.int k (k.wrap n)) h
 |some _,some .string,.str s=>.val (.str s) h
 |some _,some (.slice e),.str s=>match T.und e with
  | some (.int .u8) => if a2u s.length 1 = false then .no "convert: room" else .val (.oslice h.next 0 s.length 1) (h.alloc (.cells e (u8s s) true))
  | _ => .no "convert: string to what"
 | some (.slice e), some (.slice _), x => if src ≠ dst then .no "convert: slices" else match T.und e, x with
  |some (.int .u8),.slice b off n c=>(match h.get b with
   |some (.cells t _ true)=>match T.und t with
    |some (.int .u8)=>.val (.slice b off n c) h
    | _ => .no "convert: slices"
   | _ => .no "convert: slices")
  | _, _ => .no "convert: slices"
 |some (.slice e),some .string,x=>match T.und e,a5a x with
  |some (.int .u8),some n=>match a3z 1 n h x with
   |some cs=>match a7k cs with
    |some s=>.val (.str s) h
    | none => .no "convert: bytes"
   | none => .no "convert: bytes"
  | _, _ => .no "convert: slice to string"
 | _, _, _ => .no "convert"
def b5j (up:Bool):AV→List AV→Option AV
 |x,[]=>some x
 |.int k x,.int _ y::l=>b5j up (.int k (if up then(if y>x then y else x) else(if y<x then y else x))) l
 |_,_=>none
def a3m (ρ:Operand→Option AV) (c:Call):Option ADef:=match c.callee with
 |.value f=>match ρ f,a4d ρ c.args.toList with
  |some (.func fn first cap),some args=>some (.fn fn cap (first++args))
  |_,_=>none
 |_=>none
def a5m:Tr AV→List Tmp→List AV→Tr AV
 |tm,t::ts,a::l=>a5m (tm.set t a) ts l
 |tm,_,_=>tm
def a9n:AV→Option Nat
 |.nilslice=>some 0
 |.eslice=>some 0
 |.slice _ _ n _=>some n
 |.oslice _ _ n _=>some n
 |_=>none
def a9x:AV→Option Nat
 |.slice b _ _ _=>some b
 |.oslice b _ _ _=>some b
 |_=>none
def e3a (T:a0k) (h:a0a) (x y:AV):Option Bool:=match a9x x,a9x y with
 |some b,some b'=>match h.get b,h.get b' with
  |some (.cells e _ true),some (.cells _ (_::_) true)=>match Nat.beq b b' with
   |false=>match T.und e with
    |some (.int .u8)=>none
    |some _=>some false
    |none=>none
   |true=>none
  |_,_=>none
 |_,_=>none
def b8w (T:a0k) (h:a0a) (sz:Nat) (x y:AV):Option Bool:=match a9n x,a9n y with
 |some n,some n'=>if n=0∨n'=0∨sz=0 then some false else e3a T h x y
 |_,_=>none
def e4f (T:a0k) (f:FuncId) (args:List AV) (h:a0a):OR:=match T.ext f with
 | none => .no "extern"
 |some .valueOf=>match args with
  |[.iface t v]=>match T.kd t with
   |true=>.val (.agg [.raw T.rt t,.ptr h.next 0,.int .u64 151]) (h.alloc (.cells t v.cells true))
   | false => .no "reflectlite.ValueOf"
  | _ => .no "reflectlite.ValueOf"
 |some .valueLen=>match args with
  |[.agg [.raw g t,.ptr b off,.int .u64 k]]=>if T.kd t=true∧g=T.rt∧k=151 then match a3y T t h b off with
    | some x => rv "reflectlite.Value.Len" h (d4o T t h x)
    | none => .no "reflectlite.Value.Len" else .no "reflectlite.Value.Len"
  | _ => .no "reflectlite.Value.Len"
 |some (.overlaps sz)=>match args with
  |[x,y]=>match b8w T h sz x y with
   |some b=>.val (.bool b) h
   | none => .no "slices.overlaps"
  | _ => .no "slices.overlaps"
 |some .same=>match args with
  |[x]=>.val x h
  | _ => .no "abi.NoEscape"
 |some .mapsClone=>match args with
  |[.iface t (.map b)]=>match h.get b with
   |some (.map es clock)=>.val (.iface t (.map h.next)) (h.alloc (.map es clock))
   | _ => .no "maps.clone"
  | _ => .no "maps.clone"
def a3d (T:a0k) (fn:Fn) (cap args:List AV) (h:a0a):OR:=match fn with
 |.func f=>match T.fn f with
  |some F=>match F.body with
   |some _=>.enter f (args++cap) h
   |none=>e4f T f (args++cap) h
  | none => .no "no function"
 |.yield l=>match h.get l with
  |some (.loop _ _ fn tm nt params assign body _) =>
   if args.length ≠ params.length ∨ params.all (fun p => Nat.blt p nt) = false then .no "yield: arguments" else .round l fn (a5m tm params args) nt assign body h
  | _ => .no "yield: no loop"
 | .method n => .no ("method " ++ n)
 | .methodOf _ n => .no ("methodOf " ++ n)
 | .via _ _ _ _ => .no "via"
def e3t (T:a0k) (t:TypeId) (m:String):Option FuncId:=match T.ti t with
 |some i=>match i.methods.find? (·.name==m) with
  |some x=>match x.path.toList,x.func with
   |[],some (f,p)=>match T.und t,p with
    |some (.pointer _),true=>some f
    |some (.pointer _),false=>none
    |some _,false=>some f
    |_,_=>none
   |_,_=>none
  |none=>none
 |none=>none
def e0v:Bool→Nat→Nat→AV
 |true,b,n=>.own b n
 |false,b,_=>.ptr b 0
def opA (T:a0k) (ρ:Operand→Option AV) (o:Oper) (h:a0a):OR:=match o.op with
 | .move x => rv "move" h (ρ x)
 | .assign x => rv "assign" h (ρ x)
 |.pick c a b=>match ρ c with
  | some (.bool true) => rv "pick" h (ρ a)
  | some (.bool false) => rv "pick" h (ρ b)
  | _ => .no "pick"
 |.alloc elem=>match T.zero elem with
  |some z=>.val (e0v (T.pin elem) h.next z.cells.length) (h.alloc (.cells elem z.cells true))
  | none => .no "alloc"
 |.box elem x=>match ρ x with
  |some v=>.val (.ptr h.next 0) (h.alloc (.cells elem v.cells true))
  | none => .no "box"
 |.build t parts=>match a5e ρ parts.toList with
  | some ps => rv "build" h (d3z T t ps)
  | none => .no "build"
 |.buildSlice t len parts=>match T.und t,a5e ρ parts.toList with
  |some (.slice elem),some ps=>match T.size elem,a5w T elem len with
   | some sz, some z => if len * sz > 16777216 then .no "buildSlice: great" else
    if z.length ≠ len * sz then .no "buildSlice: zero" else
    match c0i (fun i=>some (i*sz,sz)) z ps with
    |some l=>.val (.slice h.next 0 len len) (h.alloc (.cells elem l true))
    | none => .no "buildSlice"
   | _, _ => .no "buildSlice"
  | _, _ => .no "buildSlice"
 |.load t a=>match ρ a with
  | some (.ptr b off) => rv "load" h (a3y T t h b off)
  | _ => .no "load"
 |.store t a x=>match ρ a,ρ x,T.size t with
  | some (.ptr b off), some v, some n => if v.cells.length ≠ n then .no "store: size" else match a1m h b off v.cells with
   |some h'=>.skip h'
   | none => .no "store"
  | _, _, _ => .no "store"
 |.nilCheck x=>match ρ x with
  |some (.ptr b off)=>.val (.ptr b off) h
  |some (.own b n)=>.val (.own b n) h
  |some (.slice b off n c)=>.val (.slice b off n c) h
  |some (.iface t v)=>.val (.iface t v) h
  |some (.func (.func f) a b)=>.val (.func (.func f) a b) h
  |some (.func (.yield f) a b)=>.val (.func (.yield f) a b) h
  | _ => .no "nilCheck"
 |.binOp op t x y _=>match ρ x,ρ y with
  | some a, some b => if b8o T op t x y a b then rv "binOp" h (a1i T op t a b) else .no "binOp: guard"
  | _, _ => .no "binOp: operand"
 |.unOp op _ x=>match ρ x with
  | some a => rv "unOp" h (unA op a)
  | none => .no "unOp"
 |.convert src dst x=>match ρ x with
  |some a=>b4q T src dst h a
  | none => .no "convert"
 |.makeInterface t x=>match ρ x,T.und t with
  | some _, some (.interface _) => .no "makeInterface"
  |some v,some _=>.val (.iface t v) h
  | _, _ => .no "makeInterface"
 |.makeFunc fn first captured=>match fn,a4d ρ first.toList,a4d ρ captured.toList with
  | .yield _, _, _ => .no "makeFunc: yield"
  |fn,some a,some b=>.val (.func fn a b) h
  | _, _, _ => .no "makeFunc"
 |.makeMap t r=>match T.und t,a5b ρ r with
  |some (.map _ _),some none=>.val (.map h.next) (h.alloc (.map [] 0))
  |some (.map _ _),some (some (.int _ _))=>.val (.map h.next) (h.alloc (.map [] 0))
  | _, _ => .no "makeMap"
 |.makeSlice t l c=>match T.und t,ρ l,ρ c with
  |some (.slice elem),some (.int _ l),some (.int _ c)=>match T.size elem,T.ti elem with
   |some sz,some ei =>
    if 0≤l∧l≤c∧c≤1073741824∧a2u c.toNat ei.bytes=true then(match a5w T elem c.toNat with
     | some cs => if cs.length = c.toNat * sz then .val (.slice h.next 0 l.toNat c.toNat) (h.alloc (.cells elem cs true)) else .no "makeSlice: zero"
     | none => .no "makeSlice: zero")
    else .no "makeSlice: bounds"
   | _, _ => .no "makeSlice"
  | _, _, _ => .no "makeSlice"
 |.slice t x lo hi mx=>match ρ x,a5b ρ lo,a5b ρ hi,a5b ρ mx with
  | some a, some l, some hh, some m => rv "slice" h (b4m T t h a l hh m)
  | _, _, _, _ => .no "slice"
 |.fieldAddr s x f=>match ρ x,T.und s with
  |some (.ptr b off),some (.struct fields)=>match nth fields.toList f with
   |some fd=>match T.size fd.type with
    | some 0 => .no "fieldAddr: no cell"
    |some _=>.val (.ptr b (off+fd.offset)) h
    | none => .no "fieldAddr"
   | none => .no "fieldAddr"
  |some (.own b _),some (.struct fields)=>match nth fields.toList f with
   |some fd=>match T.size fd.type with
    | some 0 => .no "fieldAddr: no cell"
    |some _=>.val (.ptr b (0+fd.offset)) h
    | none => .no "fieldAddr"
   | none => .no "fieldAddr"
  | _, _ => .no "fieldAddr"
 |.field t x f=>match ρ x,T.und t with
  |some (.agg cs),some (.struct fields)=>match nth fields.toList f with
   | some fd => rv "field" h (part T fd.type cs fd.offset)
   | none => .no "field"
  | _, _ => .no "field"
 |.indexAddr t x ix=>match T.und t,ρ x,ρ ix with
  |some (.array len elem),some (.ptr b off),some (.int _ i)=>match T.size elem with
   | some sz => if 0 ≤ i ∧ i < len then .val (.ptr b (off + i.toNat * sz)) h else .no "indexAddr: array"
   | none => .no "indexAddr"
  |some (.slice elem),some (.slice b off len _),some (.int _ i)=>match T.size elem with
   | some sz => if 0 ≤ i ∧ i < len then .val (.ptr b (off + i.toNat * sz)) h else .no "indexAddr: bounds"
   | none => .no "indexAddr"
  |some (.slice elem),some (.oslice b off len _),some (.int _ i)=>match T.size elem with
   | some sz => if 0 ≤ i ∧ i < len then .val (.ptr b (off + i.toNat * sz)) h else .no "indexAddr: bounds"
   | none => .no "indexAddr"
  | _, _, _ => .no "indexAddr"
 |.index t x ix=>match T.und t,ρ x,ρ ix with
  |some (.array len elem),some (.agg cs),some (.int _ i)=>match T.size elem with
   | some sz => if 0 ≤ i ∧ i < len then rv "index" h (part T elem cs (i.toNat * sz)) else .no "index: bounds"
   | none => .no "index"
  |some .string,some (.str s),some (.int _ i)=>if 0≤i then(match nth s i.toNat with
    |some b=>.val (.int .u8 b.toNat) h
    | none => .no "index: bounds") else .no "index: bounds"
  | _, _, _ => .no "index"
 |.lookup t x ix ok=>match ρ x,ρ ix with
  | some m, some k => rv "lookup" h (c0z T t h m k ok)
  | _, _ => .no "lookup"
 |.mapUpdate t m k x=>match ρ m,ρ k,ρ x with
  |some m,some k,some v=>match a8f T t h m k v with
   |some h'=>.skip h'
   | none => .no "mapUpdate"
  | _, _, _ => .no "mapUpdate"
 |.insert t m k x=>match ρ m,ρ k,ρ x with
  |some m,some k,some v=>match a8f T t h m k v with
   |some h'=>.skip h'
   | none => .no "insert"
  | _, _, _ => .no "insert"
 |.typeAssert x xt asserted ok=>match T.und asserted,ρ x with
  | some (.interface _), _ => .no "typeAssert: interface"
  |some _,some (.iface t v) =>
   if t=asserted then .val (if ok then .tuple [v,.bool true] else v) h
   else if ok then(match T.zero asserted with
    |some z=>.val (.tuple [z,.bool false]) h
    | none => .no "typeAssert")
   else .no "typeAssert: panics"
  |some _,some .niliface=>if ok then(match T.zero asserted with
    |some z=>.val (.tuple [z,.bool false]) h
    | none => .no "typeAssert") else .no "typeAssert: panics"
  | _, _ => .no "typeAssert"
 |.range t x=>match ρ x with
  |some m=>match c8c T t h m with
   |some o=>.val (.ptr h.next 0) (h.alloc o)
   | none => .no "range"
  | none => .no "range"
 |.next it isString=>match ρ it,isString with
  |some (.ptr b 0),false=>a9b T h b
  | _, _ => .no "next"
 |.entry it=>match ρ it with
  | some (.ptr b 0) => rv "entry" h (c1x h b)
  | _ => .no "entry"
 |.extract t ix=>match ρ t with
  | some (.tuple vs) => rv "extract" h (nth vs ix)
  | _ => .no "extract"
 |.call c=>match c.callee with
  |.builtin b=>match a4d ρ c.args.toList with
   | none => .no "builtin: args"
   |some args=>match b with
    |.append=>a1h T args c.argTypes.toList h
    |.copy=>c0d T args c.argTypes.toList h
    |.len=>match args,c.argTypes.toList with
     | x :: _, t :: _ => rv "len" h (d4o T t h x)
     | _, _ => .no "len"
    |.cap=>match args,c.argTypes.toList with
     | x :: _, t :: _ => rv "cap" h (f2y T t x)
     | _, _ => .no "cap"
    |.delete=>match args,c.argTypes.toList with
     |[m,k],t::_=>match c6v T t h m k with
      |some h'=>.val (.tuple []) h'
      | none => .no "delete"
     | _, _ => .no "delete"
    |.clear=>match args,c.argTypes.toList with
     |x::_,t::_=>b4e T t h x
     | _, _ => .no "clear"
    |.max=>match args with
     | x :: l => rv "max" h (b5j true x l)
     | [] => .no "max"
    |.min=>match args with
     | x :: l => rv "min" h (b5j false x l)
     | [] => .no "min"
    |.recover=>.recover
    | .panic => .no "panic builtin"
    | _ => .no "builtin"
  |_=>match a3m ρ c with
   |some (.fn fn cap args)=>a3d T fn cap args h
   |_=>match c.callee with
    |.invoke r m=>match ρ r,a4d ρ c.args.toList with
     |some (.iface t v),some args=>match e3t T t m with
      |some f=>a3d T (.func f) [] (v::args) h
      | none => .no ("invoke " ++ m)
     | _, _ => .no ("invoke " ++ m)
    | _ => .no "call: operand"
 |.defer c=>match a3m ρ c with
  |some d=>.defer d
  | none => .no "defer"
 |.panic x=>match ρ x with
  |some (.iface t v)=>.panic (.iface t v) h
  | _ => .no "panic"
 | _ => .no "operation"
inductive Ex where
 |normal
 |exit (id:Nat)
 |goto (l:Nat)
 |ret
structure St where
 tm:Tr AV
 df:List ADef
 pan:Option (AV×Bool)
 h:a0a
structure Cx where
 fn:FuncId
 nt:Nat
 round:Option Nat
inductive Res where
 |fin (e:Ex) (s:St)
 |pan (v:AV) (s:St)
 |ret (v:AV) (h:a0a)
 |thrown (v:AV) (h:a0a)
 |dret (pan:Option (AV×Bool)) (h:a0a)
 |no (why:String) (at_:List FuncId)
 | alt (a b : Res)      -- one of the two
inductive Task where
 |code (cx:Cx) (c:Code) (s:St)
 |ops (cx:Cx) (all rest:List Oper) (s:St)
 |call (f:FuncId) (args:List AV) (h:a0a)
 |round (l:Nat) (fn:FuncId) (tm:Tr AV) (nt:Nat) (assign body:Code) (h:a0a)
 |leave (f:FuncId) (tm:Tr AV) (ds:List ADef) (pan:Option (AV×Bool)) (h:a0a)
 |dcall (f:FuncId) (args:List AV) (pan:Option (AV×Bool)) (h:a0a)
def a5c:Res→(Res→Res)→Res
 |.alt a b,f=>.alt (a5c a f) (a5c b f)
 |r,f=>f r
def env (tm:Tr AV):Operand→Option AV
 |.tmp t=>tm.get t
 |.const v=>ofValue v
 |.global _=>none
 |.func f=>some (.func (.func f) [] [])
def a8n (ops:List Oper) (j:Nat):Option Tmp:=match nth ops j with
 |some o=>o.dst
 |none=>none
def a8e (ops:List Oper) (tm:Tr AV) (o:Oper):Option Bool:=match o.guard with
 |none=>some true
 |some (j,want)=>match a8n ops j with
  |some d=>match tm.get d with
   |some (.bool b)=>some (b==want)
   |some _=>some false
   |none=>none
  |none=>none
def a7q (cx:Cx) (s:St) (dst:Option Tmp) (v:AV):Option St:=match dst with
 |none=>some s
 |some d=>if d<cx.nt then some { s with tm:=s.tm.set d v } else none
def a5u:List AV→Nat→Tr AV→Tr AV
 |[],_,t=>t
 |a::l,n,t=>a5u l (n+1) (t.set n a)
def a5i (T:a0k) (tm:Tr AV) (h:a0a):List ResultVar→Option (List AV)
 |[]=>some []
 |.tmp t::l=>match tm.get t,a5i T tm h l with
  |some v,some r=>some (v::r)
  |_,_=>none
 |.cell a t::l=>match tm.get a with
  |some (.ptr b off)=>match a3y T t h b off,a5i T tm h l with
   |some v,some r=>some (v::r)
   |_,_=>none
  |_=>none
def no1 (f:FuncId):Res→Res
 |.no w l=>.no w (f::l)
 |r=>r
mutual
def a5d:AV→AV→Bool
 |.bool a,.bool b=>e4o a b
 |.int k a,.int k' b=>decide (k=k')&&decide (a=b)
 |.str a,.str b=>a1w a b
 |.ptr a b,.ptr a' b'=>Nat.beq a a'&&Nat.beq b b'
 |.nilptr,.nilptr=>true
 |.slice a b c d,.slice a' b' c' d'=>Nat.beq a a'&&Nat.beq b b'&&Nat.beq c c'&&Nat.beq d d'
 |.oslice a b c d,.oslice a' b' c' d'=>Nat.beq a a'&&Nat.beq b b'&&Nat.beq c c'&&Nat.beq d d'
 |.eslice,.eslice=>true
 |.nilslice,.nilslice=>true
 |.map a,.map b=>Nat.beq a b
 |.nilmap,.nilmap=>true
 |.func f a b,.func f' a' b'=>decide (f=f')&&b3k a a'&&b3k b b'
 |.nilfunc,.nilfunc=>true
 |.iface t v,.iface t' v'=>Nat.beq t t'&&a5d v v'
 |.niliface,.niliface=>true
 |.agg a,.agg b=>b3k a b
 |.tuple a,.tuple b=>b3k a b
 |.raw a b,.raw a' b'=>Nat.beq a a'&&Nat.beq b b'
 |.own a b,.own a' b'=>Nat.beq a a'&&Nat.beq b b'
 |_,_=>false
def b3k:List AV→List AV→Bool
 |[],[]=>true
 |a::l,b::m=>a5d a b&&b3k l m
 |_,_=>false
end
def b2b (acc:List Nat):List Edge→Nat
 |[]=>0
 |e::l=>match Region.binds .any e with
  |true=>(1 <<< e.on) ||| (nth acc e.on).getD 0 ||| b2b acc l
  |false=>b2b acc l
def b3x:List Oper→List Nat→List Nat
 |[],acc=>acc
 |o::l,acc=>b3x l (acc++[b2b acc o.after.toList])
def masks (ops:List Oper):List Nat:=b3x ops []
def b7j (i:Nat):List Edge→Bool
 |[]=>true
 |e::l=>(!Region.binds .any e||Nat.blt e.on i)&&b7j i l
def a3q:List Oper→Nat→Bool
 |[],_=>true
 |o::l,i=>b7j i o.after.toList&&a3q l (i+1)
def a0y (m i:Nat):List Oper→List Nat→Nat→List Tmp
 |o::l,mj::ms,j=>match o.dst with
  |some d=>match (if j<i then Nat.testBit m j else if j=i then true else Nat.testBit mj i) with
   |true=>a0y m i l ms (j+1)
   |false=>d::a0y m i l ms (j+1)
  |none=>a0y m i l ms (j+1)
 |_,_,_=>[]
def a1e (tm:Tr AV):List Tmp→Tr AV
 |[]=>tm
 |d::l=>a1e (tm.c2u d) l
inductive Kd where
 |pure
 |alloc
 |read
 |act
 |bad
def a1l (T:a0k):Op→Kd
 |.move _=>.pure
 |.assign _=>.pure
 |.pick .. => .pure
 |.build .. => .pure
 |.binOp .. => .pure
 |.unOp .. => .pure
 |.makeInterface .. => .pure
 |.makeFunc .. => .pure
 |.fieldAddr .. => .pure
 |.field .. => .pure
 |.indexAddr .. => .pure
 |.index .. => .pure
 |.extract .. => .pure
 |.nilCheck _=>.pure
 |.typeAssert .. => .pure
 |.alloc _=>.alloc
 |.box .. => .alloc
 |.buildSlice .. => .alloc
 |.makeMap .. => .alloc
 |.makeSlice .. => .alloc
 |.load .. => .read
 |.lookup .. => .read
 |.slice .. => .read
 |.convert src dst _=>match T.und src,T.und dst with
  |some (.slice _),some .string=>.read
  |some (.slice _),some (.slice _)=>.act
  |some .string,some (.slice _)=>.alloc
  |some (.int _),some (.int _)=>.pure
  |some .string,some .string=>.pure
  |_,_=>.bad
 |.store .. => .act
 |.mapUpdate .. => .act
 |.insert .. => .act
 |.range .. => .act
 |.next .. => .act
 |.entry .. => .act
 |.call c=>match c.callee with
  |.builtin b=>match b with
   |.len=>.read
   |.min=>.pure
   |.max=>.pure
   |.append=>.act
   |.copy=>.act
   |.delete=>.act
   |.clear=>.act
   |_=>.bad
  |_=>.act
 |_=>.bad
def a8m (T:a0k) (ρ:Operand→Option AV) (o:Oper) (r:Nat):Option (AV×a1t):=match o.op with
 |.alloc elem=>match T.zero elem with
  |some z=>some (.ptr r 0,.cells elem z.cells true)
  |none=>none
 |.box elem x=>match ρ x with
  |some v=>some (.ptr r 0,.cells elem v.cells true)
  |none=>none
 |.buildSlice t len parts=>match T.und t,a5e ρ parts.toList with
  |some (.slice elem),some ps=>match T.size elem,a5w T elem len with
   |some sz,some z=>if len*sz>16777216 then none else
    if z.length≠len*sz then none else
    match c0i (fun i=>some (i*sz,sz)) z ps with
    |some l=>some (.slice r 0 len len,.cells elem l true)
    |none=>none
   |_,_=>none
  |_,_=>none
 |.makeMap t r'=>match T.und t,a5b ρ r' with
  |some (.map _ _),some none=>some (.map r,.map [] 0)
  |some (.map _ _),some (some (.int _ _))=>some (.map r,.map [] 0)
  |_,_=>none
 |.makeSlice t l c=>match T.und t,ρ l,ρ c with
  |some (.slice elem),some (.int _ l),some (.int _ c)=>match T.size elem,T.ti elem with
   |some sz,some ei =>
    if 0≤l∧l≤c∧c≤1073741824∧a2u c.toNat ei.bytes=true then(match a5w T elem c.toNat with
     |some cs=>if cs.length=c.toNat*sz then some (.slice r 0 l.toNat c.toNat,.cells elem cs true) else none
     |none=>none)
    else none
   |_,_=>none
  |_,_,_=>none
 |.convert src dst x=>match T.und src,T.und dst,ρ x with
  |some .string,some (.slice e),some (.str s)=>match T.und e with
   |some (.int .u8)=>if a2u s.length 1=false then none else some (.oslice r 0 s.length 1,.cells e (u8s s) true)
   |_=>none
  |_,_,_=>none
 |_=>none
structure Ent where
 o:Oper
 m:Nat
 kd:Kd
 want:Bool
 tm:Tr AV
 h0:a0a
 v:AV
 h1:a0a
inductive DRes where
 |fin (tm:Tr AV) (h:a0a) (es:List Ent)
 |pan (v:AV) (h:a0a) (es:List Ent)
 |no (why:String) (at_:List FuncId)
def b0a (e:Ent):DRes→DRes
 |.fin tm h es=>.fin tm h (e::es)
 |.pan v h es=>.pan v h (e::es)
 |r=>r
def again (T:a0k) (e:Ent) (h:a0a):Bool := !e.want||match opA T (env e.tm) e.o h with
 |.val v' _=>a5d v' e.v
 |_=>false
def a9c:Kd→Bool
 |.act=>true
 |_=>false
def a6i:Kd→Bool
 |.read=>true
 |_=>false
def b3f (a b:Oper):Bool:=match a.dst,b.dst with
 |some x,some y=>Nat.beq x y
 |_,_=>false
def b0f (T:a0k) (j:Nat) (a b:Ent):Bool:=Nat.testBit b.m j||(!b3f a.o b.o&&match a9c a.kd,a9c b.kd with
 |true,true=>false
 |true,false => !a6i b.kd||again T b a.h0
 |false,true => !a6i a.kd||again T a b.h1
 |false,false=>true)
def b4w (T:a0k) (j:Nat) (a:Ent):List Ent→Bool
 |[]=>true
 |b::l=>b0f T j a b&&b4w T j a l
def okD (T:a0k):List Ent→Nat→Bool
 |[],_=>true
 |a::l,j=>b4w T j a l&&okD T l (j+1)
def dstsOf:List Oper→List Tmp
 |[]=>[]
 |o::l=>match o.dst with
  |some d=>d::dstsOf l
  |none=>dstsOf l
def b3e (h:a0a) (N:Nat):Nat→Bool
 |0=>true
 |n+1=>(match h.get (N+n) with|none=>true|some _=>false)&&b3e h N n
def goCode:Ex→Code
 |.normal=>.ret
 |.exit id=>.exit id
 |.goto l=>.goto l
 |.ret=>.ret
def b1l (cx:Cx) (h:a0a):Option (Nat×a0a×List ADef):=match cx.round with
 |some l=>match h.get l with
  |some (.loop _ _ _ _ _ _ _ _ d)=>some (d,h,[])
  |_=>none
 |none=>some (h.next,h.alloc (.dfr (some [])),[.collected h.next])
def c1p (T:a0k) (rec:Task→Res) (tm:Tr AV) (o:Oper) (h:a0a):Res:=match opA T (env tm) o h with
 |.val v h'=>.ret v h'
 |.skip h'=>.ret a2w h'
 |.enter f args h'=>no1 f (rec (.call f args h'))
 |.round l fn tm nt as bd h'=>no1 fn (rec (.round l fn tm nt as bd h'))
 | .no w => .no (w ++ " at " ++ o.pos) []
 | _ => .no ("an operation in a region that draws at " ++ o.pos) []
def goD (T:a0k) (rec:Task→Res) (nt:Nat) (all:List Oper) (ms:List Nat) (N:Nat):List Oper→List Nat→Nat→Tr AV→a0a→DRes
 |[],_,_,tm,h=>.fin tm h []
 |o::rest,mr,i,tm,h =>
  let m:=(nth mr 0).getD 0
  let tmr:=a1e tm (a0y m i all ms 0)
  let next (kd:Kd) (want:Bool) (v:AV) (h1:a0a):DRes:=match o.dst with
   |none=>b0a ⟨o,m,kd,want,tmr,h,v,h1⟩ (goD T rec nt all ms N rest (mr.drop 1) (i+1) tm h1)
   | some d => if d < nt then b0a ⟨o, m, kd, want, tmr, h, v, h1⟩ (goD T rec nt all ms N rest (mr.drop 1) (i + 1) (tm.set d v) h1) else .no "put" []
  match a8e all tmr o with
  | none => .no ("guard at " ++ o.pos) []
  |some false=>next .pure false a2w h
  |some true=>match a1l T o.op with
   | .bad => .no ("an operation in a region that draws at " ++ o.pos) []
   |.alloc=>(match a8m T (env tmr) o (N+i) with
    |some (v,a)=>next .alloc true v (h.set (N+i) a)
    | none => .no ("a new object at " ++ o.pos) [])
   |.act=>(match c1p T rec tmr o h with
    |.ret v h'=>next .act true v h'
    |.thrown v h'=>(match (mr.drop 1).all (fun m'=>Nat.testBit m' i) with
     |true=>.pan v h' [⟨o,m,.act,true,tmr,h,v,h'⟩]
     | false => .no ("panics in a region that draws, others go on at " ++ o.pos) [])
    |.no w l=>.no w l
    | _ => .no ("panics in a region that draws at " ++ o.pos) [])
   |_=>(match opA T (env tmr) o h with
    |.val v _=>next .read true v h
    | .no w => .no (w ++ " at " ++ o.pos) []
    | _ => .no ("an operation in a region that draws at " ++ o.pos) [])
def drawn (T:a0k) (rec:Task→Res) (cx:Cx) (all:List Oper) (s:St):Res :=
 let ms:=masks all
 match a3q all 0&&b3e s.h s.h.next all.length with
 | false => .no "region" []
 |true=>match goD T rec cx.nt all ms s.h.next all ms 0 s.tm { s.h with next:=s.h.next+all.length } with
  |.no w l=>.no w l
  |.pan v h es=>(match okD T es 0 with
   |true=>.pan v { s with tm:=a1e s.tm (dstsOf all),h:=h }
   | false => .no "the order counts" [])
  |.fin tm h es=>match okD T es 0 with
   |true=>.fin .normal { s with tm:=tm,h:=h }
   | false => .no "the order counts" []
def d1x:List Res→Res
 | [] => .no "choice" []
 |r::l=>(match l with
  |[]=>r
  |_::_=>.alt r (d1x l))
def b2k (rec:Task→Res) (cx:Cx) (all rest:List Oper) (s:St) (dst:Option Tmp):List (AV×a0a)→List Res
 |[]=>[]
 |p::l=>(match a7q cx { s with h:=p.2 } dst p.1 with
  |some s'=>rec (.ops cx all rest s')
  | none => .no "put" []) :: b2k rec cx all rest s dst l
def step (T:a0k) (rec:Task→Res):Task→Res
 |.code cx c s=>match c with
  |.skip=>.fin .normal s
  |.label _=>.fin .normal s
  |.region _ ops draw=>match draw with
   |false=>rec (.ops cx ops.toList ops.toList s)
   |true=>drawn T rec cx ops.toList s
  |.seq a b=>a5c (rec (.code cx a s)) fun r=>match r with
   |.fin .normal s'=>rec (.code cx b s')
   |r=>r
  |.cond x a b=>match env s.tm x with
   |some (.bool true)=>rec (.code cx a s)
   |some (.bool false)=>rec (.code cx b s)
   | _ => .no "cond" []
  |.block id b=>a5c (rec (.code cx b s)) fun r=>match r with
   |.fin (.exit id') s'=>if id'=id then .fin .normal s' else .fin (.exit id') s'
   |r=>r
  |.loop b=>a5c (rec (.code cx b s)) fun r=>match r with
   |.fin .normal s'=>rec (.code cx (.loop b) s')
   |r=>r
  |.exit id=>.fin (.exit id) s
  |.ret=>.fin .ret s
  |.scope b=>a5c (rec (.code cx b s)) fun r=>match r with
   |.fin (.goto l) s'=>.fin (.goto l) s'
   |r=>r
  |.rangeFunc f params assign body =>
   match env s.tm f with
   |some (.func fn first cap) =>
    match b1l cx s.h with
    | none => .no "rangeFunc: no loop" []
    |some (dfs,h1,mark) =>
    let l:=h1.next
    let h2:=h1.alloc (.loop .ready none cx.fn s.tm cx.nt params.toList assign body dfs)
    let s2:St:={ s with df:=mark++s.df,h:=h2 }
    match a3d T fn cap (first++[.func (.yield l) [] []]) h2 with
    |.enter g args h3=>a5c (rec (.call g args h3)) fun r=>match r with
     |.ret _ h4=>match h4.get l with
      |some (.loop st pend fn' tm' nt' ps as bd d)=>match st with
       | .busy => .no "rangeFunc: busy" []
       |_ =>
        let s5:St:={ s2 with h:=h4.set l (.loop .exhausted pend fn' tm' nt' ps as bd d) }
        match pend with
        |none=>.fin .normal s5
        |some c=>rec (.code cx c s5)
      | _ => .no "rangeFunc: no loop" []
     |.thrown v h4=>.pan v { s2 with h:=h4 }
     |r=>r
    |.no w=>.no w []
    | _ => .no "rangeFunc: callee" []
   | _ => .no "rangeFunc: no function" []
  | .goto _ => .no "goto" []
  | .refuse w => .no ("refuse " ++ w) []
 |.ops cx all rest s=>match rest with
  |[]=>.fin .normal s
  |o::rest=>match a8e all s.tm o with
   | none => .no "guard" []
   |some false=>(match a7q cx s o.dst a2w with
    |some s'=>rec (.ops cx all rest s')
    | none => .no "put" [])
   |some true=>match opA T (env s.tm) o s.h with
    |.val v h'=>(match a7q cx { s with h:=h' } o.dst v with
     |some s'=>rec (.ops cx all rest s')
     | none => .no "put" [])
    |.skip h'=>(match a7q cx { s with h:=h' } o.dst a2w with
     |some s'=>rec (.ops cx all rest s')
     | none => .no "put" [])
    |.enter f args h'=>(a5c (rec (.call f args h')) fun r=>match r with
     |.ret v h''=>(match a7q cx { s with h:=h'' } o.dst v with
      |some s'=>rec (.ops cx all rest s')
      | none => .no "put" [])
     |.thrown v h''=>.pan v { s with h:=h'' }
     |r=>no1 f r)
    |.round l fn tm nt as bd h'=>(a5c (rec (.round l fn tm nt as bd h')) fun r=>match r with
     |.ret v h''=>(match a7q cx { s with h:=h'' } o.dst v with
      |some s'=>rec (.ops cx all rest s')
      | none => .no "put" [])
     |.thrown v h''=>.pan v { s with h:=h'' }
     |r=>no1 fn r)
    |.defer d=>(match cx.round with
     | some _ => .no "defer in a round" []
     |none=>match a7q cx { s with df:=d::s.df } o.dst a2w with
      |some s'=>rec (.ops cx all rest s')
      | none => .no "put" [])
    |.recover=>(match cx.round with
     | some _ => .no "recover in a round" []
     |none=>match s.pan with
      |some (v,false)=>(match a7q cx { s with pan:=some (v,true) } o.dst v with
       |some s'=>rec (.ops cx all rest s')
       | none => .no "put" [])
      |_=>(match a7q cx s o.dst .niliface with
       |some s'=>rec (.ops cx all rest s')
       | none => .no "put" []))
    |.panic v h'=>.pan v { s with h:=h' }
    |.choice l=>d1x (b2k rec cx all rest s o.dst l)
    | .no w => .no (w ++ " at " ++ o.pos) []
 |.call f args h=>match T.sm f args h with
  |some (v,h')=>.ret v h'
  |none=>match T.fn f with
  |some F=>match F.body with
   |some c=>a5c (rec (.code { fn:=f,nt:=Nat.max F.ntmps args.length,round:=none } c { tm:=a5u args 0 .nil,df:=[],pan:=none,h:=h })) fun r=>match r with
    |.fin .normal s=>rec (.leave f s.tm s.df none s.h)
    |.fin .ret s=>rec (.leave f s.tm s.df none s.h)
    |.pan v s=>rec (.leave f s.tm s.df (some (v,false)) s.h)
    | .fin _ _ => .no "jump out of a function" []
    |r=>r
   | none => .no "no body" []
  | none => .no "no function" []
 |.leave f tm ds pan h=>match ds with
  |[]=>(match pan with
   |none=>match T.fn f with
    |some F=>match a5i T tm h F.results.toList with
     |some vs=>.ret (oneOf vs) h
     | none => .no "results" []
    | none => .no "results" []
   |some (v,false)=>(match T.fn f with
    |some _=>.thrown v h
    | none => .no "no function" [])
   | some (_, true) => .no "leave: recovered" [])
  |.collected b::ds=>(match h.get b with
   |some (.dfr (some l))=>rec (.leave f tm (l++ds) pan (h.set b (.dfr none)))
   | _ => .no "leave: collected" [])
  |.fn fn cap args::ds=>match a3d T fn cap args h with
   |.enter g as h'=>a5c (rec (.dcall g as pan h')) fun r=>match r with
    |.dret pan' h''=>(match pan' with
     |some (_,true)=>rec (.leave f tm ds none h'')
     |p=>rec (.leave f tm ds p h''))
    | .thrown _ _ => .no "a deferred call panics" []
    |r=>no1 g r
   |.no w=>.no w []
   | _ => .no "leave: deferred" []
 |.dcall f args pan h=>match T.fn f with
  |some F=>match F.results.toList with
   | _ :: _ => .no "deferred: results" []
   |[]=>match F.body with
    |some c=>a5c (rec (.code { fn:=f,nt:=Nat.max F.ntmps args.length,round:=none } c { tm:=a5u args 0 .nil,df:=[],pan:=pan,h:=h })) fun r=>match r with
     |.fin e s=>(match e,s.df with
      |.normal,[]=>.dret s.pan s.h
      |.ret,[]=>.dret s.pan s.h
      | _, _ => .no "deferred: defers" [])
     |.pan v s=>.thrown v s.h
     |r=>r
    | none => .no "no body" []
  | none => .no "no function" []
 |.round l fn tm nt as bd h =>
  let cx:Cx:={ fn:=fn,nt:=nt,round:=some l }
  a5c (rec (.code cx as { tm:=tm,df:=[],pan:=none,h:=h })) fun r=>match r with
  |.fin .normal s=>(match s.h.get l with
   |some (.loop .ready pend fn' tm' nt' ps as' bd' d) =>
    (a5c (rec (.code cx bd { s with h:=s.h.set l (.loop .busy pend fn' tm' nt' ps as' bd' d) })) fun r=>match r with
    |.fin e s'=>(match s'.df,s'.h.get l with
     |[],some (.loop _ _ fn'' tm'' nt'' ps'' as'' bd'' d')=>(match e with
      |.normal=>.ret (.bool true) (s'.h.set l (.loop .ready none fn'' tm'' nt'' ps'' as'' bd'' d'))
      |e=>.ret (.bool false) (s'.h.set l (.loop .done (some (goCode e)) fn'' tm'' nt'' ps'' as'' bd'' d')))
     | _, _ => .no "round: defers" [])
    |.pan v s'=>(match s'.df,T.fn fn with
     |[],some _=>.thrown v s'.h
     | _, _ => .no "round: defers" [])
    |r=>r)
   | _ => .no "round: not ready" [])
  | .fin _ _ => .no "round: jump in assign" []
  |.pan v s=>(match s.df,T.fn fn with
   |[],some _=>.thrown v s.h
   | _, _ => .no "round: defers" [])
  |r=>r
def ev (T:a0k):Nat→Task→Res
 | 0, _ => .no "fuel" []
 |n+1,t=>step T (ev T n) t
end Ev
end
