/- A part of an evaluator of the program's form in Lean, of the proof that what it says of a call is what the machine does, and of the rules by which proofs walk over it. Conditions: those that each theorem states. -/
import Derived.Test.YtmnhbehmjaibgaaGreatGai
set_option linter.unusedVariables false
set_option linter.unusedSimpArgs false
section
namespace Ev
open Go Go.RowKit
variable {P:Program}{T:Tabs}{base:Nat}{w0:World}
theorem FnR.back {E E':En}(le:E.Le E'){f g g':Fn}(h:FnR E f g) (h':FnR E' f g'):FnR E f g':=by
 cases h with
 |yield l d =>
  cases h' with
  |yield _ d'=>rw[le.blk l d]; exact .yield l d
  |same _ hn=>exact absurd rfl (hn l)
 |same _ hn =>
  cases h' with
  |yield l _=>exact absurd rfl (hn l)
  |same _ _=>exact .same _ hn
mutual
theorem VR.back {E E':En}(le:E.Le E'):∀ {a:AV}{v v':Value},VR E a v→VR E' a v'→VR E a v'
 |_,_,_,.bool b,.bool _=>.bool b
 |_,_,_,.int k n,.int _ _=>.int k n
 |_,_,_,.str s,.str _=>.str s
 |_,_,_,.ptr b o h,.ptr _ _ _=>by rw[le.at_ h]; exact .ptr b o h
 |_,_,_,.nilptr,.nilptr=>.nilptr
 |_,_,_,.slice b o n c h,.slice _ _ _ _ _=>by rw[le.at_ h]; exact .slice b o n c h
 |_,_,_,.oslice b o n sz k h hk,.oslice _ _ _ _ k' _ hk'=>by rw[le.at_ h]; exact .oslice b o n sz k' h (by rw[hk',le.ext b h])
 |_,_,_,.eslice a k,.eslice a' k'=>.eslice a' k'
 |_,_,_,.nilslice,.nilslice=>.nilslice
 |_,_,_,.map b h,.map _ _=>by rw[le.blk b h]; exact .map b h
 |_,_,_,.nilmap,.nilmap=>.nilmap
 |_,_,_,.func f f' hf l m l' m' hl hm,.func _ _ hf2 _ _ _ _ hl2 hm2=>.func f _ (hf.back le hf2) l m _ _ (VRs.back le hl hl2) (VRs.back le hm hm2)
 |_,_,_,.nilfunc,.nilfunc=>.nilfunc
 |_,_,_,.iface t v v' h,.iface _ _ _ h2=>.iface t v _ (VR.back le h h2)
 |_,_,_,.niliface,.niliface=>.niliface
 |_,_,_,.agg l l' h,.agg _ _ h2=>.agg l _ (VRs.back le h h2)
 |_,_,_,.tuple l l' h,.tuple _ _ h2=>.tuple l _ (VRs.back le h h2)
 |_,_,_,.raw b o,.raw _ _=>.raw b o
 |_,_,_,.own b n h h0 hk,.own _ _ _ _ _=>by rw[le.at_ h]; exact .own b n h h0 hk
theorem VRs.back {E E':En}(le:E.Le E'):∀ {a:List AV}{v v':List Value},VRs E a v→VRs E' a v'→VRs E a v'
 |_,_,_,.nil,.nil=>.nil
 |_,_,_,.cons v v' l l' h hl,.cons _ _ _ _ h2 hl2=>.cons _ _ _ _ (VR.back le h h2) (VRs.back le hl hl2)
end
theorem ER.back {E E':En}(le:E.Le E'):∀ {d:List (AV×AV×Nat)}{e e':List MapEntry},ER E d e→ER E' d e'→ER E d e'
 |_,_,_,.nil,.nil=>.nil
 |_,_,_,.cons k v k' v' n l l' hk hv hl,.cons _ _ _ _ _ _ _ hk2 hv2 hl2=>.cons _ _ _ _ _ _ _ (hk.back le hk2) (hv.back le hv2) (hl.back le hl2)
theorem DR.back {E E':En}(le:E.Le E'){d:ADef}{e e':Deferred}(h:DR E d e) (h':DR E' d e'):DR E d e':=by
 cases h with
 |fn f f' hf l m l' m' hl hm=>cases h' with|fn _ _ hf2 _ _ _ _ hl2 hm2=>exact .fn _ _ (hf.back le hf2) _ _ _ _ (hl.back le hl2) (hm.back le hm2)
 |collected b h=>cases h' with|collected _ h2=>rw[le.blk b h]; exact .collected b h
theorem DRs.back {E E':En}(le:E.Le E'):∀ {d:List ADef}{e e':List Deferred},DRs E d e→DRs E' d e'→DRs E d e'
 |_,_,_,.nil,.nil=>.nil
 |_,_,_,.cons _ _ _ _ h hl,.cons _ _ _ _ h2 hl2=>.cons _ _ _ _ (h.back le h2) (hl.back le hl2)
theorem OR'.back {E E':En}(le:E.Le E'){b:Nat}(d:E.dom b){w w':World}{o:AObj}(h:OR' base E b w o) (h':OR' base E' b w' o):OR' base E b w' o:=by
 cases o with
 |cells e cs rw =>
  obtain⟨c,z,p1,p2,p3,p4,p5,p6⟩:=h
  obtain⟨c',z',q1,q2,q3,q4,q5,q6⟩:=h'
  rw[le.blk b d] at q1 q5 q6
  rw[le.off b d,le.ext b d] at q2
  rw[le.ext b d] at q3
  refine⟨c',z',q1,q2,q3,fun i v hv=>?_,q5,q6⟩
  obtain⟨v0,_,r2⟩:=p4 i v hv
  obtain⟨v1,s1,s2⟩:=q4 i v hv
  rw[le.off b d] at s1
  exact⟨v1,s1,r2.back le s2⟩
 |map es clock =>
  obtain⟨p0,es1,p1,p2⟩:=h
  obtain⟨q0,es2,q1,q2⟩:=h'
  rw[le.blk b d] at q1
  exact⟨p0,es2,q1,p2.back le q2⟩
 |loop st pend fn tm nt ps as bd dd =>
  obtain⟨p0,pd,t1,p1,p2,p3⟩:=h
  obtain⟨q0,qd,t2,q1,q2,q3⟩:=h'
  rw[le.blk b d,le.blk dd pd] at q1
  refine⟨p0,pd,t2,q1,q2,fun t v hv=>?_⟩
  obtain⟨v0,_,r2⟩:=p3 t v hv
  obtain⟨v1,s1,s2⟩:=q3 t v hv
  exact⟨v1,s1,r2.back le s2⟩
 |dfr ds =>
  obtain⟨p0,d1,p1,p2⟩:=h
  obtain⟨q0,d2,q1,q2⟩:=h'
  rw[le.blk b d] at q1
  refine⟨p0,d2,q1,?_⟩
  cases ds with
  |none=>exact q2
  |some l =>
   obtain⟨l1,_,r1⟩:=p2
   obtain⟨l2,e2,r2⟩:=q2
   exact⟨l2,e2,r1.back le r2⟩
 |iter m since seen last =>
  obtain⟨p0,po,pd,p1⟩:=h
  obtain⟨q0,qo,qd,q1⟩:=h'
  rw[le.blk b d] at q1
  refine⟨p0,po,pd,?_⟩
  have:m.map E'.blk=m.map E.blk:=by
   cases m with
   |none=>rfl
   |some x=>simp[le.blk x (pd x rfl)]
  rw[this] at q1
  exact q1
 |dead=>trivial
mutual
def AV.plain:AV→Bool
 |.bool _=>true
 |.int _ _=>true
 |.str _=>true
 |.nilptr=>true
 |.nilslice=>true
 |.nilmap=>true
 |.nilfunc=>true
 |.niliface=>true
 |.iface _ v=>AV.plain v
 |.agg l=>AV.plains l
 |.tuple l=>AV.plains l
 |.raw _ _=>true
 |_=>false
def AV.plains:List AV→Bool
 |[]=>true
 |v::l=>AV.plain v&&AV.plains l
end
mutual
theorem VR.plain {E E':En}:∀ {a:AV}{v:Value},VR E a v→a.plain=true→VR E' a v
 |_,_,.bool b,_=>.bool b
 |_,_,.int k n,_=>.int k n
 |_,_,.str s,_=>.str s
 |_,_,.nilptr,_=>.nilptr
 |_,_,.nilslice,_=>.nilslice
 |_,_,.nilmap,_=>.nilmap
 |_,_,.nilfunc,_=>.nilfunc
 |_,_,.niliface,_=>.niliface
 |_,_,.iface t v v' h,hp=>.iface t v v' (VR.plain h (by simpa [AV.plain] using hp))
 |_,_,.agg l l' h,hp=>.agg l l' (VRs.plain h (by simpa [AV.plain] using hp))
 |_,_,.tuple l l' h,hp=>.tuple l l' (VRs.plain h (by simpa [AV.plain] using hp))
 |_,_,.raw b o,_=>.raw b o
 |_,_,.ptr ..,hp=>by simp[AV.plain] at hp
 |_,_,.own ..,hp=>by simp[AV.plain] at hp
 |_,_,.slice ..,hp=>by simp[AV.plain] at hp
 |_,_,.oslice ..,hp=>by simp[AV.plain] at hp
 |_,_,.eslice ..,hp=>by simp[AV.plain] at hp
 |_,_,.map ..,hp=>by simp[AV.plain] at hp
 |_,_,.func ..,hp=>by simp[AV.plain] at hp
theorem VRs.plain {E E':En}:∀ {a:List AV}{v:List Value},VRs E a v→AV.plains a=true→VRs E' a v
 |_,_,.nil,_=>.nil
 |_,_,.cons v v' l l' h hl,hp=>by
  simp only[AV.plains,Bool.and_eq_true] at hp
  exact .cons _ _ _ _ (VR.plain h hp.1) (VRs.plain hl hp.2)
end
theorem forget_ok {E E':En}{f:FuncId}{args:List AV}{args':List Value}{h h2:Heap}{w w':World}{v:AV}{v':Value}{fr:Frame}{m:Machine}{cs:List Frame}(ha:VRs E args args') (H:HR base w0 E h w)
  (p1:HR base w0 E' h2 w') (p2:Ste E h w E' h2 w') (p3:VR E v v') (he:Ext h h2) (p4:Steps P m (lone fr cs w')) (p5:fr.fn=f∧fr.leaving P w' (.returned v')):CallOK P base w0 m f cs E h w (.ret v h):=by
 refine⟨E,w',v',fr,⟨H.dlt,fun b o hd hg=>?_,H.inj,p1.wd,p1.drawn,p1.bsz,fun b hd=>?_⟩,⟨.refl E,fun _ h=>.inl h,Nat.le_refl _,fun _ _ _=>rfl,p2.sz,p2.fr,fun _ h=>.inl h⟩,p3,p4,p5⟩
 ·refine OR'.back p2.le hd (H.obj b o hd hg) (p1.obj b o (p2.le.dom b hd) ?_)
  rw[he.old b (H.dlt b hd)]; exact hg
 ·exact Nat.lt_of_lt_of_le (H.blt b hd) p2.sz
theorem sm_of_gives (ok:TabsOK P T) (hsm:∀ f a h,T.sm f a h=none){f:FuncId}{args:List AV}{h:Heap}{v:AV}(g:Gives T f args h fun v' h'=>v'=v∧Ext h h') (hp:v.plain=true):TaskOK P base w0 (.call f args h) (.ret v h):=by
 obtain⟨r,hs,hl⟩:=g
 obtain⟨n,hn⟩:=hs.ev
 have K:=ev_sound (base:=base) (w0:=w0) ok (fun f a h v h' hh=>by rw[hsm] at hh; cases hh) n (.call f args h)
 rw[hn] at K
 intro E args' w cs ha H
 obtain⟨q,hq,hc⟩:=K E args' w cs ha H
 obtain⟨v',h2,rfl,rfl,he⟩:=hl.get hq
 obtain⟨E',w',v'',fr,p1,p2,p3,p4,p5⟩:=hc
 exact⟨_,rfl,forget_ok ha H p1 p2 (p3.plain hp) he p4 p5⟩
def Tabs.withSm (T:Tabs) (sm:FuncId→List AV→Heap→Option (AV×Heap)):Tabs:={ T with sm:=sm }
theorem TabsOK.withSm (ok:TabsOK P T) (sm:FuncId→List AV→Heap→Option (AV×Heap)):TabsOK P (T.withSm sm):=⟨ok.ti,ok.und,ok.fn,ok.eqg,ok.stood,ok.mix,ok.ext,ok.rt,ok.kd⟩
theorem ev_calls_sm (ok:TabsOK P T) (hsm:∀ (base:Nat) (w0:World) f args h v h',T.sm f args h=some (v,h')→TaskOK P base w0 (.call f args h) (.ret v h')){n:Nat}{f:FuncId}(hg:good (ev T n (.call f [] ⟨.nil,0⟩))=true) (w:World) :
  Calls P f #[] w fun e w'=>e=.returned (.bool true)∧Below w.heap.size w w':=by
 intro cs
 have h:=ev_sound (base:=w.heap.size) (w0:=w) ok (hsm _ _) n (.call f [] ⟨.nil,0⟩) En.none [] w cs .nil (HR.start w)
 obtain⟨q,hq,h⟩:=h
 obtain⟨h',rfl⟩:=good_leaf hg hq
 obtain⟨E',w',v',fr,p1,p2,p3,p4,p5,p6⟩:=h
 cases p3
 exact⟨_,w',fr,⟨rfl,p1.wd⟩,p4,p5,p6⟩
end Ev
end
section
namespace Ev
open Go
def opF_move (T : Tabs) (ρ : Operand → Option AV) (x : Operand) (h : Heap) : OR := rv "move" h (ρ x)
def opF_assign (T : Tabs) (ρ : Operand → Option AV) (x : Operand) (h : Heap) : OR := rv "assign" h (ρ x)
def opF_pick (T:Tabs) (ρ:Operand→Option AV) (c:Operand) (a:Operand) (b:Operand) (h:Heap):OR:=match ρ c with
 | some (.bool true) => rv "pick" h (ρ a)
 | some (.bool false) => rv "pick" h (ρ b)
 | _ => .no "pick"
def opF_alloc (T:Tabs) (ρ:Operand→Option AV) (elem:TypeId) (h:Heap):OR:=match T.zero elem with
 |some z=>.val (newPtr (T.pin elem) h.next z.cells.length) (h.alloc (.cells elem z.cells true))
 | none => .no "alloc"
def opF_box (T:Tabs) (ρ:Operand→Option AV) (elem:TypeId) (x:Operand) (h:Heap):OR:=match ρ x with
 |some v=>.val (.ptr h.next 0) (h.alloc (.cells elem v.cells true))
 | none => .no "box"
def opF_build (T:Tabs) (ρ:Operand→Option AV) (t:TypeId) (parts:Array (Nat×Operand)) (h:Heap):OR:=match pairMap ρ parts.toList with
 | some ps => rv "build" h (buildA T t ps)
 | none => .no "build"
def opF_buildSlice (T:Tabs) (ρ:Operand→Option AV) (t:TypeId) (len:Nat) (parts:Array (Nat×Operand)) (h:Heap):OR:=match T.und t,pairMap ρ parts.toList with
 |some (.slice elem),some ps=>match T.size elem,zerosA T elem len with
  | some sz, some z => if len * sz > 16777216 then .no "buildSlice: great" else
   if z.length ≠ len * sz then .no "buildSlice: zero" else
   match fillA (fun i=>some (i*sz,sz)) z ps with
   |some l=>.val (.slice h.next 0 len len) (h.alloc (.cells elem l true))
   | none => .no "buildSlice"
  | _, _ => .no "buildSlice"
 | _, _ => .no "buildSlice"
def opF_load (T:Tabs) (ρ:Operand→Option AV) (t:TypeId) (a:Operand) (h:Heap):OR:=match ρ a with
 | some (.ptr b off) => rv "load" h (loadVarA T t h b off)
 | _ => .no "load"
def opF_store (T:Tabs) (ρ:Operand→Option AV) (t:TypeId) (a:Operand) (x:Operand) (h:Heap):OR:=match ρ a,ρ x,T.size t with
 | some (.ptr b off), some v, some n => if v.cells.length ≠ n then .no "store: size" else match writeCells h b off v.cells with
  |some h'=>.skip h'
  | none => .no "store"
 | _, _, _ => .no "store"
def opF_nilCheck (T:Tabs) (ρ:Operand→Option AV) (x:Operand) (h:Heap):OR:=match ρ x with
 |some (.ptr b off)=>.val (.ptr b off) h
 |some (.own b n)=>.val (.own b n) h
 |some (.slice b off n c)=>.val (.slice b off n c) h
 |some (.iface t v)=>.val (.iface t v) h
 |some (.func (.func f) a b)=>.val (.func (.func f) a b) h
 |some (.func (.yield f) a b)=>.val (.func (.yield f) a b) h
 | _ => .no "nilCheck"
def opF_binOp (T:Tabs) (ρ:Operand→Option AV) (op:BinOp) (t:TypeId) (x:Operand) (y:Operand) (_u4:TypeId) (h:Heap):OR:=match ρ x,ρ y with
 | some a, some b => if guardEq T op t x y a b then rv "binOp" h (binA T op t a b) else .no "binOp: guard"
 | _, _ => .no "binOp: operand"
def opF_unOp (T:Tabs) (ρ:Operand→Option AV) (op:UnOp) (_u1:TypeId) (x:Operand) (h:Heap):OR:=match ρ x with
 | some a => rv "unOp" h (unA op a)
 | none => .no "unOp"
def opF_convert (T:Tabs) (ρ:Operand→Option AV) (src:TypeId) (dst:TypeId) (x:Operand) (h:Heap):OR:=match ρ x with
 |some a=>convA T src dst h a
 | none => .no "convert"
def opF_makeInterface (T:Tabs) (ρ:Operand→Option AV) (t:TypeId) (x:Operand) (h:Heap):OR:=match ρ x,T.und t with
 | some _, some (.interface _) => .no "makeInterface"
 |some v,some _=>.val (.iface t v) h
 | _, _ => .no "makeInterface"
def opF_makeFunc (T:Tabs) (ρ:Operand→Option AV) (fn:Fn) (first:Array Operand) (captured:Array Operand) (h:Heap):OR:=match fn,argMap ρ first.toList,argMap ρ captured.toList with
 | .yield _, _, _ => .no "makeFunc: yield"
 |fn,some a,some b=>.val (.func fn a b) h
 | _, _, _ => .no "makeFunc"
def opF_makeMap (T:Tabs) (ρ:Operand→Option AV) (t:TypeId) (r:Option Operand) (h:Heap):OR:=match T.und t,optOp ρ r with
 |some (.map _ _),some none=>.val (.map h.next) (h.alloc (.map [] 0))
 |some (.map _ _),some (some (.int _ _))=>.val (.map h.next) (h.alloc (.map [] 0))
 | _, _ => .no "makeMap"
def opF_makeSlice (T:Tabs) (ρ:Operand→Option AV) (t:TypeId) (l:Operand) (c:Operand) (h:Heap):OR:=match T.und t,ρ l,ρ c with
 |some (.slice elem),some (.int _ l),some (.int _ c)=>match T.size elem,T.ti elem with
  |some sz,some ei =>
   if 0≤l∧l≤c∧c≤1073741824∧roomA c.toNat ei.bytes=true then(match zerosA T elem c.toNat with
    | some cs => if cs.length = c.toNat * sz then .val (.slice h.next 0 l.toNat c.toNat) (h.alloc (.cells elem cs true)) else .no "makeSlice: zero"
    | none => .no "makeSlice: zero")
   else .no "makeSlice: bounds"
  | _, _ => .no "makeSlice"
 | _, _, _ => .no "makeSlice"
def opF_slice (T:Tabs) (ρ:Operand→Option AV) (t:TypeId) (x:Operand) (lo:Option Operand) (hi:Option Operand) (mx:Option Operand) (h:Heap):OR:=match ρ x,optOp ρ lo,optOp ρ hi,optOp ρ mx with
 | some a, some l, some hh, some m => rv "slice" h (sliceA T t h a l hh m)
 | _, _, _, _ => .no "slice"
def opF_fieldAddr (T:Tabs) (ρ:Operand→Option AV) (s:TypeId) (x:Operand) (f:Nat) (h:Heap):OR:=match ρ x,T.und s with
 |some (.ptr b off),some (.struct fields)=>match nth fields.toList f with
  |some fd=>match T.size fd.type with
   | some 0 => .no "fieldAddr: no cell"
   |some _=>.val (.ptr b (off+fd.offset)) h
   | none => .no "fieldAddr"
  | none => .no "fieldAddr"
 |some (.own b _),some (.struct fields)=>match nth fields.toList f with
  |some fd=>match T.size fd.type with
   | some 0 => .no "fieldAddr: no cell"
   |some _=>.val (.ptr b (0+fd.offset)) h
   | none => .no "fieldAddr"
  | none => .no "fieldAddr"
 | _, _ => .no "fieldAddr"
def opF_field (T:Tabs) (ρ:Operand→Option AV) (t:TypeId) (x:Operand) (f:Nat) (h:Heap):OR:=match ρ x,T.und t with
 |some (.agg cs),some (.struct fields)=>match nth fields.toList f with
  | some fd => rv "field" h (part T fd.type cs fd.offset)
  | none => .no "field"
 | _, _ => .no "field"
def opF_indexAddr (T:Tabs) (ρ:Operand→Option AV) (t:TypeId) (x:Operand) (ix:Operand) (h:Heap):OR:=match T.und t,ρ x,ρ ix with
 |some (.array len elem),some (.ptr b off),some (.int _ i)=>match T.size elem with
  | some sz => if 0 ≤ i ∧ i < len then .val (.ptr b (off + i.toNat * sz)) h else .no "indexAddr: array"
  | none => .no "indexAddr"
 |some (.slice elem),some (.slice b off len _),some (.int _ i)=>match T.size elem with
  | some sz => if 0 ≤ i ∧ i < len then .val (.ptr b (off + i.toNat * sz)) h else .no "indexAddr: bounds"
  | none => .no "indexAddr"
 |some (.slice elem),some (.oslice b off len _),some (.int _ i)=>match T.size elem with
  | some sz => if 0 ≤ i ∧ i < len then .val (.ptr b (off + i.toNat * sz)) h else .no "indexAddr: bounds"
  | none => .no "indexAddr"
 | _, _, _ => .no "indexAddr"
def opF_index (T:Tabs) (ρ:Operand→Option AV) (t:TypeId) (x:Operand) (ix:Operand) (h:Heap):OR:=match T.und t,ρ x,ρ ix with
 |some (.array len elem),some (.agg cs),some (.int _ i)=>match T.size elem with
  | some sz => if 0 ≤ i ∧ i < len then rv "index" h (part T elem cs (i.toNat * sz)) else .no "index: bounds"
  | none => .no "index"
 |some .string,some (.str s),some (.int _ i)=>if 0≤i then(match nth s i.toNat with
   |some b=>.val (.int .u8 b.toNat) h
   | none => .no "index: bounds") else .no "index: bounds"
 | _, _, _ => .no "index"
def opF_lookup (T:Tabs) (ρ:Operand→Option AV) (t:TypeId) (x:Operand) (ix:Operand) (ok:Bool) (h:Heap):OR:=match ρ x,ρ ix with
 | some m, some k => rv "lookup" h (lookupA T t h m k ok)
 | _, _ => .no "lookup"
def opF_mapUpdate (T:Tabs) (ρ:Operand→Option AV) (t:TypeId) (m:Operand) (k:Operand) (x:Operand) (h:Heap):OR:=match ρ m,ρ k,ρ x with
 |some m,some k,some v=>match updateA T t h m k v with
  |some h'=>.skip h'
  | none => .no "mapUpdate"
 | _, _, _ => .no "mapUpdate"
def opF_insert (T:Tabs) (ρ:Operand→Option AV) (t:TypeId) (m:Operand) (k:Operand) (x:Operand) (h:Heap):OR:=match ρ m,ρ k,ρ x with
 |some m,some k,some v=>match updateA T t h m k v with
  |some h'=>.skip h'
  | none => .no "insert"
 | _, _, _ => .no "insert"
def opF_typeAssert (T:Tabs) (ρ:Operand→Option AV) (x:Operand) (xt:TypeId) (asserted:TypeId) (ok:Bool) (h:Heap):OR:=match T.und asserted,ρ x with
 | some (.interface _), _ => .no "typeAssert: interface"
 |some _,some (.iface t v) =>
  if t=asserted then .val (if ok then .tuple [v,.bool true] else v) h
  else if ok then(match T.zero asserted with
   |some z=>.val (.tuple [z,.bool false]) h
   | none => .no "typeAssert")
  else .no "typeAssert: panics"
 |some _,some .niliface=>if ok then(match T.zero asserted with
   |some z=>.val (.tuple [z,.bool false]) h
   | none => .no "typeAssert") else .no "typeAssert: panics"
 | _, _ => .no "typeAssert"
def opF_range (T:Tabs) (ρ:Operand→Option AV) (t:TypeId) (x:Operand) (h:Heap):OR:=match ρ x with
 |some m=>match rangeA T t h m with
  |some o=>.val (.ptr h.next 0) (h.alloc o)
  | none => .no "range"
 | none => .no "range"
def opF_next (T:Tabs) (ρ:Operand→Option AV) (it:Operand) (isString:Bool) (h:Heap):OR:=match ρ it,isString with
 |some (.ptr b 0),false=>nextA T h b
 | _, _ => .no "next"
def opF_entry (T:Tabs) (ρ:Operand→Option AV) (it:Operand) (h:Heap):OR:=match ρ it with
 | some (.ptr b 0) => rv "entry" h (entryA h b)
 | _ => .no "entry"
def opF_extract (T:Tabs) (ρ:Operand→Option AV) (t:Operand) (ix:Nat) (h:Heap):OR:=match ρ t with
 | some (.tuple vs) => rv "extract" h (nth vs ix)
 | _ => .no "extract"
def opF_builtin (T:Tabs) (c:Go.Call) (b:Builtin) (args:List AV) (h:Heap):OR:=match b with
 |.append=>appendA T args c.argTypes.toList h
 |.copy=>copyA T args c.argTypes.toList h
 |.len=>match args,c.argTypes.toList with
  | x :: _, t :: _ => rv "len" h (lenA T t h x)
  | _, _ => .no "len"
 |.cap=>match args,c.argTypes.toList with
  | x :: _, t :: _ => rv "cap" h (capA T t x)
  | _, _ => .no "cap"
 |.delete=>match args,c.argTypes.toList with
  |[m,k],t::_=>match deleteA T t h m k with
   |some h'=>.val (.tuple []) h'
   | none => .no "delete"
  | _, _ => .no "delete"
 |.clear=>match args,c.argTypes.toList with
  |x::_,t::_=>clearA T t h x
  | _, _ => .no "clear"
 |.max=>match args with
  | x :: l => rv "max" h (maxIntA true x l)
  | [] => .no "max"
 |.min=>match args with
  | x :: l => rv "min" h (maxIntA false x l)
  | [] => .no "min"
 |.recover=>.recover
 | .panic => .no "panic builtin"
 | _ => .no "builtin"
def opF_fn (T:Tabs) (ρ:Operand→Option AV) (c:Go.Call) (h:Heap):OR:=match resolveA ρ c with
  |some (.fn fn cap args)=>invokeA T fn cap args h
  |_=>match c.callee with
   |.invoke r m=>match ρ r,argMap ρ c.args.toList with
    |some (.iface t v),some args=>match methA T t m with
     |some f=>invokeA T (.func f) [] (v::args) h
     | none => .no ("invoke " ++ m)
    | _, _ => .no ("invoke " ++ m)
   | _ => .no "call: operand"
def opF_call (T:Tabs) (ρ:Operand→Option AV) (c:Go.Call) (h:Heap):OR:=match c.callee with
 |.builtin b=>match argMap ρ c.args.toList with
  | none => .no "builtin: args"
  |some args=>opF_builtin T c b args h
 |_=>opF_fn T ρ c h
def opF_defer (T:Tabs) (ρ:Operand→Option AV) (c:Go.Call) (h:Heap):OR:=match resolveA ρ c with
 |some d=>.defer d
 | none => .no "defer"
def opF_panic (T:Tabs) (ρ:Operand→Option AV) (x:Operand) (h:Heap):OR:=match ρ x with
 |some (.iface t v)=>.panic (.iface t v) h
 | _ => .no "panic"
inductive OpBox where
 |mk (f:(Operand→Option AV)→Heap→OR)
def opBox (T:Tabs) (op:Op):OpBox:=match op with
 |.move x0=>.mk fun ρ h=>opF_move T ρ x0 h
 |.assign x0=>.mk fun ρ h=>opF_assign T ρ x0 h
 |.pick x0 x1 x2=>.mk fun ρ h=>opF_pick T ρ x0 x1 x2 h
 |.alloc x0=>.mk fun ρ h=>opF_alloc T ρ x0 h
 |.box x0 x1=>.mk fun ρ h=>opF_box T ρ x0 x1 h
 |.build x0 x1=>.mk fun ρ h=>opF_build T ρ x0 x1 h
 |.buildSlice x0 x1 x2=>.mk fun ρ h=>opF_buildSlice T ρ x0 x1 x2 h
 |.load x0 x1=>.mk fun ρ h=>opF_load T ρ x0 x1 h
 |.store x0 x1 x2=>.mk fun ρ h=>opF_store T ρ x0 x1 x2 h
 |.nilCheck x0=>.mk fun ρ h=>opF_nilCheck T ρ x0 h
 |.binOp x0 x1 x2 x3 x4=>.mk fun ρ h=>opF_binOp T ρ x0 x1 x2 x3 x4 h
 |.unOp x0 x1 x2=>.mk fun ρ h=>opF_unOp T ρ x0 x1 x2 h
 |.convert x0 x1 x2=>.mk fun ρ h=>opF_convert T ρ x0 x1 x2 h
 |.makeInterface x0 x1=>.mk fun ρ h=>opF_makeInterface T ρ x0 x1 h
 |.makeFunc x0 x1 x2=>.mk fun ρ h=>opF_makeFunc T ρ x0 x1 x2 h
 |.makeMap x0 x1=>.mk fun ρ h=>opF_makeMap T ρ x0 x1 h
 |.makeSlice x0 x1 x2=>.mk fun ρ h=>opF_makeSlice T ρ x0 x1 x2 h
 |.slice x0 x1 x2 x3 x4=>.mk fun ρ h=>opF_slice T ρ x0 x1 x2 x3 x4 h
 |.fieldAddr x0 x1 x2=>.mk fun ρ h=>opF_fieldAddr T ρ x0 x1 x2 h
 |.field x0 x1 x2=>.mk fun ρ h=>opF_field T ρ x0 x1 x2 h
 |.indexAddr x0 x1 x2=>.mk fun ρ h=>opF_indexAddr T ρ x0 x1 x2 h
 |.index x0 x1 x2=>.mk fun ρ h=>opF_index T ρ x0 x1 x2 h
 |.lookup x0 x1 x2 x3=>.mk fun ρ h=>opF_lookup T ρ x0 x1 x2 x3 h
 |.mapUpdate x0 x1 x2 x3=>.mk fun ρ h=>opF_mapUpdate T ρ x0 x1 x2 x3 h
 |.insert x0 x1 x2 x3=>.mk fun ρ h=>opF_insert T ρ x0 x1 x2 x3 h
 |.typeAssert x0 x1 x2 x3=>.mk fun ρ h=>opF_typeAssert T ρ x0 x1 x2 x3 h
 |.range x0 x1=>.mk fun ρ h=>opF_range T ρ x0 x1 h
 |.next x0 x1=>.mk fun ρ h=>opF_next T ρ x0 x1 h
 |.entry x0=>.mk fun ρ h=>opF_entry T ρ x0 h
 |.extract x0 x1=>.mk fun ρ h=>opF_extract T ρ x0 x1 h
 |.call x0=>.mk fun ρ h=>opF_call T ρ x0 h
 |.defer x0=>.mk fun ρ h=>opF_defer T ρ x0 h
 |.panic x0=>.mk fun ρ h=>opF_panic T ρ x0 h
 | _ => .mk fun _ _ => .no "operation"
def opF (T:Tabs) (ρ:Operand→Option AV) (o:Oper) (h:Heap):OR:=match opBox T o.op with
 |.mk f=>f ρ h
theorem opF_eq (T:Tabs) (ρ:Operand→Option AV) (o:Oper) (h:Heap):opF T ρ o h=opA T ρ o h:=by
 unfold opF opA
 cases o.op<;>rfl
inductive Pt where
 |here
 |l (p:Pt)
 |r (p:Pt)
def ptAux:Nat→Nat→Pt
 |0,_=>.here
 |f+1,n=>match n with
  |0=>.here
  |k+1=>match k % 2 with
   |0=>.l (ptAux f (k / 2))
   |_+1=>.r (ptAux f (k / 2))
def pt (n:Nat):Pt:=ptAux (n+1) n
def getP {α:Type}:Pt→Tr α→Option α
 |.here,t=>t.val
 |.l p,t=>(match t with
  |.nil=>none
  |.node _ l _=>getP p l)
 |.r p,t=>(match t with
  |.nil=>none
  |.node _ _ r=>getP p r)
def setP {α:Type}:Pt→Tr α→α→Tr α
 |.here,t,x=>(match t with
  |.nil=>.node (some x) .nil .nil
  |.node _ l r=>.node (some x) l r)
 |.l p,t,x=>(match t with
  |.nil=>Tr.bl none (setP p .nil x) .nil
  |.node v l r=>Tr.bl v (setP p l x) r)
 |.r p,t,x=>(match t with
  |.nil=>Tr.br none .nil (setP p .nil x)
  |.node v l r=>Tr.br v l (setP p r x))
theorem getP_aux {α:Type}:∀ (f n:Nat) (t:Tr α),n<f→getP (ptAux f n) t=t.get n
 |0,_,_,h=>by omega
 |f+1,n,t,h=>by
  cases n with
  |zero=>cases t<;>rfl
  |succ k =>
   have ih:=fun(t':Tr α)=>getP_aux f (k / 2) t' (by omega)
   simp only[ptAux]
   cases hk:k % 2 with
   |zero =>
    cases t with
    |nil=>simp only[getP,Tr.get_nil]
    |node v l r=>simp only[getP,ih,Tr.get_node,hk]
   |succ q =>
    cases t with
    |nil=>simp only[getP,Tr.get_nil]
    |node v l r=>simp only[getP,ih,Tr.get_node,hk]
theorem setP_aux {α:Type}:∀ (f n:Nat) (t:Tr α) (x:α),n<f→setP (ptAux f n) t x=Tr.setAux f t n x
 |0,_,_,_,h=>by omega
 |f+1,n,t,x,h=>by
  cases n with
  |zero=>cases t<;>rfl
  |succ k =>
   have ih:=fun(t':Tr α)=>setP_aux f (k / 2) t' x (by omega)
   simp only[ptAux]
   cases hk:k % 2 with
   |zero=>cases t<;>simp only[setP,ih,Tr.setAux,hk]
   |succ q=>cases t<;>simp only[setP,ih,Tr.setAux,hk]
theorem getP_eq {α:Type}(n:Nat) (t:Tr α):getP (pt n) t=t.get n:=getP_aux (n+1) n t (by omega)
theorem setP_eq {α:Type}(n:Nat) (t:Tr α) (x:α):setP (pt n) t x=t.set n x:=setP_aux (n+1) n t x (by omega)
inductive OdBox where
 |tmp (p:Pt)
 |val (v:Option AV)
def odBox (x:Operand):OdBox:=match x with
 |.tmp t=>.tmp (pt t)
 |.const v=>(match ofValue v with
  |some a=>.val (some a)
  |none=>.val none)
 |.global _=>.val none
 |.func f=>.val (some (.func (.func f) [] []))
def envP (tm:Tr AV) (x:Operand):Option AV:=match odBox x with
 |.tmp p=>getP p tm
 |.val v=>v
theorem envP_eq (tm:Tr AV):envP tm=env tm:=by
 funext x
 cases x with
 |tmp t=>exact getP_eq t tm
 |const v=>unfold envP odBox env; simp only[]; cases ofValue v<;>rfl
 |_=>rfl
def wantedP (ops:List Oper) (tm:Tr AV) (o:Oper):Option Bool:=match o.guard with
 |none=>some true
 |some (j,want)=>match dstOf ops j with
  |some d=>match getP (pt d) tm with
   |some (.bool b)=>some (b==want)
   |some _=>some false
   |none=>none
  |none=>none
theorem wantedP_eq (ops:List Oper) (tm:Tr AV) (o:Oper):wantedP ops tm o=wantedA ops tm o:=by
 unfold wantedP wantedA
 simp only[getP_eq]
 cases o.guard with
 |none=>rfl
 |some g =>
  obtain⟨j,w⟩:=g
  simp only[]
  cases dstOf ops j with
  |none=>rfl
  |some d =>
   simp only[]
   cases tm.get d with
   |none=>rfl
   |some v=>cases v<;>rfl
def stF_skip (T:Tabs) (rec:Task→Res) (cx:Cx)  (s:St):Res:=.fin .normal s
def stF_label (T:Tabs) (rec:Task→Res) (cx:Cx) (_u0:Nat) (s:St):Res:=.fin .normal s
def stF_region (T:Tabs) (rec:Task→Res) (cx:Cx) (_u0:Nat) (ops:Array Oper) (draw:Bool) (s:St):Res:=match draw with
 |false=>rec (.ops cx ops.toList ops.toList s)
 |true=>drawn T rec cx ops.toList s
def stF_seq (T:Tabs) (rec:Task→Res) (cx:Cx) (a:Code) (b:Code) (s:St):Res:=bindR (rec (.code cx a s)) fun r=>match r with
 |.fin .normal s'=>rec (.code cx b s')
 |r=>r
def stF_cond (T:Tabs) (rec:Task→Res) (cx:Cx) (x:Operand) (a:Code) (b:Code) (s:St):Res:=match envP s.tm x with
 |some (.bool true)=>rec (.code cx a s)
 |some (.bool false)=>rec (.code cx b s)
 | _ => .no "cond" []
def stF_block (T:Tabs) (rec:Task→Res) (cx:Cx) (id:Nat) (b:Code) (s:St):Res:=bindR (rec (.code cx b s)) fun r=>match r with
 |.fin (.exit id') s'=>if id'=id then .fin .normal s' else .fin (.exit id') s'
 |r=>r
def stF_loop (T:Tabs) (rec:Task→Res) (cx:Cx) (b:Code) (s:St):Res:=bindR (rec (.code cx b s)) fun r=>match r with
 |.fin .normal s'=>rec (.code cx (.loop b) s')
 |r=>r
def stF_exit (T:Tabs) (rec:Task→Res) (cx:Cx) (id:Nat) (s:St):Res:=.fin (.exit id) s
def stF_ret (T:Tabs) (rec:Task→Res) (cx:Cx)  (s:St):Res:=.fin .ret s
def stF_scope (T:Tabs) (rec:Task→Res) (cx:Cx) (b:Code) (s:St):Res:=bindR (rec (.code cx b s)) fun r=>match r with
 |.fin (.goto l) s'=>.fin (.goto l) s'
 |r=>r
def stF_rangeFunc (T:Tabs) (rec:Task→Res) (cx:Cx) (f:Operand) (params:Array Tmp) (assign:Code) (body:Code) (s:St):Res :=
 match env s.tm f with
 |some (.func fn first cap) =>
  match startLoop cx s.h with
  | none => .no "rangeFunc: no loop" []
  |some (dfs,h1,mark) =>
  let l:=h1.next
  let h2:=h1.alloc (.loop .ready none cx.fn s.tm cx.nt params.toList assign body dfs)
  let s2:St:={ s with df:=mark++s.df,h:=h2 }
  match invokeA T fn cap (first++[.func (.yield l) [] []]) h2 with
  |.enter g args h3=>bindR (rec (.call g args h3)) fun r=>match r with
   |.ret _ h4=>match h4.get l with
    |some (.loop st pend fn' tm' nt' ps as bd d)=>match st with
     | .busy => .no "rangeFunc: busy" []
     |_ =>
      let s5:St:={ s2 with h:=h4.set l (.loop .exhausted pend fn' tm' nt' ps as bd d) }
      match pend with
      |none=>.fin .normal s5
      |some c=>rec (.code cx c s5)
    | _ => .no "rangeFunc: no loop" []
   |.thrown v h4=>.pan v { s2 with h:=h4 }
   |r=>r
  |.no w=>.no w []
  | _ => .no "rangeFunc: callee" []
 | _ => .no "rangeFunc: no function" []
def stF_goto (T : Tabs) (rec : Task → Res) (cx : Cx) (_u0 : Nat) (s : St) : Res := .no "goto" []
def stF_refuse (T : Tabs) (rec : Task → Res) (cx : Cx) (w : String) (s : St) : Res := .no ("refuse " ++ w) []
inductive CBox where
 |mk (f:(Task→Res)→Cx→St→Res)
def cBox (T:Tabs) (c:Code):CBox:=match c with
 |.skip  => .mk fun rec cx s=>stF_skip T rec cx  s
 |.label x0=>.mk fun rec cx s=>stF_label T rec cx x0 s
 |.region x0 x1 x2=>.mk fun rec cx s=>stF_region T rec cx x0 x1 x2 s
 |.seq x0 x1=>.mk fun rec cx s=>stF_seq T rec cx x0 x1 s
 |.cond x0 x1 x2=>.mk fun rec cx s=>stF_cond T rec cx x0 x1 x2 s
 |.block x0 x1=>.mk fun rec cx s=>stF_block T rec cx x0 x1 s
 |.loop x0=>.mk fun rec cx s=>stF_loop T rec cx x0 s
 |.exit x0=>.mk fun rec cx s=>stF_exit T rec cx x0 s
 |.ret  => .mk fun rec cx s=>stF_ret T rec cx  s
 |.scope x0=>.mk fun rec cx s=>stF_scope T rec cx x0 s
 |.rangeFunc x0 x1 x2 x3=>.mk fun rec cx s=>stF_rangeFunc T rec cx x0 x1 x2 x3 s
 |.goto x0=>.mk fun rec cx s=>stF_goto T rec cx x0 s
 |.refuse x0=>.mk fun rec cx s=>stF_refuse T rec cx x0 s
def stF_code (T:Tabs) (rec:Task→Res) (cx:Cx) (c:Code) (s:St):Res:=match cBox T c with
 |.mk f=>f rec cx s
def stF_put (T:Tabs) (rec:Task→Res) (cx:Cx) (all rest:List Oper) (tm:Tr AV) (df:List ADef) (pan:Option (AV×Bool)) (h:Heap) (dst:Option Tmp) (v:AV):Res:=match dst with
 |none=>rec (.ops cx all rest ⟨tm,df,pan,h⟩)
 |some d=>match Nat.blt d cx.nt with
  |true=>(match setP (pt d) tm v with
   |.nil=>rec (.ops cx all rest ⟨.nil,df,pan,h⟩)
   |.node a b c=>rec (.ops cx all rest ⟨.node a b c,df,pan,h⟩))
  | false => .no "put" []
def stF_heap (T:Tabs) (rec:Task→Res) (cx:Cx) (all rest:List Oper) (tm:Tr AV) (df:List ADef) (pan:Option (AV×Bool)) (h:Heap) (dst:Option Tmp) (v:AV):Res:=match h with
 |⟨t,nx⟩=>match t with
  |.nil=>stF_put T rec cx all rest tm df pan ⟨.nil,nx⟩ dst v
  |.node a b c=>stF_put T rec cx all rest tm df pan ⟨.node a b c,nx⟩ dst v
def stF_back (T:Tabs) (rec:Task→Res) (cx:Cx) (all rest:List Oper) (tm:Tr AV) (df:List ADef) (pan:Option (AV×Bool)) (dst:Option Tmp) (f:FuncId) (r:Res):Res:=match r with
 |.ret v h=>stF_heap T rec cx all rest tm df pan h dst v
 |.thrown v h=>.pan v ⟨tm,df,pan,h⟩
 |r=>no1 f r
def stF_res (T:Tabs) (rec:Task→Res) (cx:Cx) (all:List Oper) (o:Oper) (rest:List Oper) (tm:Tr AV) (df:List ADef) (pan:Option (AV×Bool)) (h:Heap) (r:OR):Res:=match r with
 |.val v h'=>stF_heap T rec cx all rest tm df pan h' o.dst v
 |.skip h'=>stF_heap T rec cx all rest tm df pan h' o.dst undefA
 |.enter f args h'=>bindR (rec (.call f args h')) (stF_back T rec cx all rest tm df pan o.dst f)
 |.round l fn tm' nt as bd h'=>bindR (rec (.round l fn tm' nt as bd h')) (stF_back T rec cx all rest tm df pan o.dst fn)
 |.defer d=>(match cx.round with
  | some _ => .no "defer in a round" []
  |none=>stF_put T rec cx all rest tm (d::df) pan h o.dst undefA)
 |.recover=>(match cx.round with
  | some _ => .no "recover in a round" []
  |none=>match pan with
   |some (v,false)=>stF_put T rec cx all rest tm df (some (v,true)) h o.dst v
   |_=>stF_put T rec cx all rest tm df pan h o.dst .niliface)
 |.panic v h'=>.pan v ⟨tm,df,pan,h'⟩
 |.choice l=>altR (chooseA rec cx all rest ⟨tm,df,pan,h⟩ o.dst l)
 | .no w => .no (w ++ " at " ++ o.pos) []
def stF_one (T:Tabs) (rec:Task→Res) (cx:Cx) (all:List Oper) (o:Oper) (rest:List Oper) (tm:Tr AV) (df:List ADef) (pan:Option (AV×Bool)) (h:Heap):Res:=match wantedP all tm o with
 | none => .no "guard" []
 |some false=>stF_put T rec cx all rest tm df pan h o.dst undefA
 |some true=>stF_res T rec cx all o rest tm df pan h (opF T (envP tm) o h)
def stF_ops (T:Tabs) (rec:Task→Res) (cx:Cx) (all rest:List Oper) (s:St):Res:=match rest with
 |[]=>.fin .normal s
 |o::rest=>match s with
  |⟨tm,df,pan,h⟩=>stF_one T rec cx all o rest tm df pan h
theorem stF_put_eq (T:Tabs) (rec:Task→Res) (cx:Cx) (all rest:List Oper) (tm:Tr AV) (df:List ADef) (pan:Option (AV×Bool)) (h:Heap) (dst:Option Tmp) (v:AV) :
  stF_put T rec cx all rest tm df pan h dst v=match putA cx ⟨tm,df,pan,h⟩ dst v with
   |some s'=>rec (.ops cx all rest s')
   | none => .no "put" [] := by
 unfold stF_put putA
 cases dst with
 |none=>rfl
 |some d =>
  simp only[]
  by_cases hd:d<cx.nt
  ·have:Nat.blt d cx.nt=true:=by rw[blt_eq]; simpa using hd
   simp only[this,if_pos hd,setP_eq]
   cases tm.set d v<;>rfl
  ·have:Nat.blt d cx.nt=false:=by rw[blt_eq]; simpa using hd
   simp only[this,if_neg hd]
theorem stF_heap_eq (T:Tabs) (rec:Task→Res) (cx:Cx) (all rest:List Oper) (tm:Tr AV) (df:List ADef) (pan:Option (AV×Bool)) (h:Heap) (dst:Option Tmp) (v:AV) :
  stF_heap T rec cx all rest tm df pan h dst v=match putA cx ⟨tm,df,pan,h⟩ dst v with
   |some s'=>rec (.ops cx all rest s')
   | none => .no "put" [] := by
 rw[← stF_put_eq T rec cx all rest tm df pan h dst v]
 obtain⟨t,nx⟩:=h
 cases t<;>rfl
def stF_call (T:Tabs) (rec:Task→Res) (f:FuncId) (args:List AV) (h:Heap):Res :=  match T.sm f args h with
 |some (v,h')=>.ret v h'
 |none=>match T.fn f with
 |some F=>match F.body with
  |some c=>bindR (rec (.code { fn:=f,nt:=Nat.max F.ntmps args.length,round:=none } c { tm:=argsTm args 0 .nil,df:=[],pan:=none,h:=h })) fun r=>match r with
   |.fin .normal s=>rec (.leave f s.tm s.df none s.h)
   |.fin .ret s=>rec (.leave f s.tm s.df none s.h)
   |.pan v s=>rec (.leave f s.tm s.df (some (v,false)) s.h)
   | .fin _ _ => .no "jump out of a function" []
   |r=>r
  | none => .no "no body" []
 | none => .no "no function" []
def stF_leave (T:Tabs) (rec:Task→Res) (f:FuncId) (tm:Tr AV) (ds:List ADef) (pan:Option (AV×Bool)) (h:Heap):Res :=  match ds with
 |[]=>(match pan with
  |none=>match T.fn f with
   |some F=>match resultsA T tm h F.results.toList with
    |some vs=>.ret (oneOf vs) h
    | none => .no "results" []
   | none => .no "results" []
  |some (v,false)=>(match T.fn f with
   |some _=>.thrown v h
   | none => .no "no function" [])
  | some (_, true) => .no "leave: recovered" [])
 |.collected b::ds=>(match h.get b with
  |some (.dfr (some l))=>rec (.leave f tm (l++ds) pan (h.set b (.dfr none)))
  | _ => .no "leave: collected" [])
 |.fn fn cap args::ds=>match invokeA T fn cap args h with
  |.enter g as h'=>bindR (rec (.dcall g as pan h')) fun r=>match r with
   |.dret pan' h''=>(match pan' with
    |some (_,true)=>rec (.leave f tm ds none h'')
    |p=>rec (.leave f tm ds p h''))
   | .thrown _ _ => .no "a deferred call panics" []
   |r=>no1 g r
  |.no w=>.no w []
  | _ => .no "leave: deferred" []
def stF_dcall (T:Tabs) (rec:Task→Res) (f:FuncId) (args:List AV) (pan:Option (AV×Bool)) (h:Heap):Res :=  match T.fn f with
 |some F=>match F.results.toList with
  | _ :: _ => .no "deferred: results" []
  |[]=>match F.body with
   |some c=>bindR (rec (.code { fn:=f,nt:=Nat.max F.ntmps args.length,round:=none } c { tm:=argsTm args 0 .nil,df:=[],pan:=pan,h:=h })) fun r=>match r with
    |.fin e s=>(match e,s.df with
     |.normal,[]=>.dret s.pan s.h
     |.ret,[]=>.dret s.pan s.h
     | _, _ => .no "deferred: defers" [])
    |.pan v s=>.thrown v s.h
    |r=>r
   | none => .no "no body" []
 | none => .no "no function" []
def stF_round (T:Tabs) (rec:Task→Res) (l:Nat) (fn:FuncId) (tm:Tr AV) (nt:Nat) (as bd:Code) (h:Heap):Res :=
 let cx:Cx:={ fn:=fn,nt:=nt,round:=some l }
 bindR (rec (.code cx as { tm:=tm,df:=[],pan:=none,h:=h })) fun r=>match r with
 |.fin .normal s=>(match s.h.get l with
  |some (.loop .ready pend fn' tm' nt' ps as' bd' d) =>
   (bindR (rec (.code cx bd { s with h:=s.h.set l (.loop .busy pend fn' tm' nt' ps as' bd' d) })) fun r=>match r with
   |.fin e s'=>(match s'.df,s'.h.get l with
    |[],some (.loop _ _ fn'' tm'' nt'' ps'' as'' bd'' d')=>(match e with
     |.normal=>.ret (.bool true) (s'.h.set l (.loop .ready none fn'' tm'' nt'' ps'' as'' bd'' d'))
     |e=>.ret (.bool false) (s'.h.set l (.loop .done (some (goCode e)) fn'' tm'' nt'' ps'' as'' bd'' d')))
    | _, _ => .no "round: defers" [])
   |.pan v s'=>(match s'.df,T.fn fn with
    |[],some _=>.thrown v s'.h
    | _, _ => .no "round: defers" [])
   |r=>r)
  | _ => .no "round: not ready" [])
 | .fin _ _ => .no "round: jump in assign" []
 |.pan v s=>(match s.df,T.fn fn with
  |[],some _=>.thrown v s.h
  | _, _ => .no "round: defers" [])
 |r=>r
def stepF (T:Tabs) (rec:Task→Res) (t:Task):Res:=match t with
 |.code x0 x1 x2=>stF_code T rec x0 x1 x2
 |.ops x0 x1 x2 x3=>stF_ops T rec x0 x1 x2 x3
 |.call x0 x1 x2=>stF_call T rec x0 x1 x2
 |.leave x0 x1 x2 x3 x4=>stF_leave T rec x0 x1 x2 x3 x4
 |.dcall x0 x1 x2 x3=>stF_dcall T rec x0 x1 x2 x3
 |.round x0 x1 x2 x3 x4 x5 x6=>stF_round T rec x0 x1 x2 x3 x4 x5 x6
theorem stepF_eq (T:Tabs) (rec:Task→Res) (t:Task):stepF T rec t=step T rec t:=by
 cases t with
 |code cx c s =>
  cases c<;>try rfl
  case cond x a b=>unfold stepF step; simp only[stF_code,cBox,stF_cond,envP_eq]; rfl
 |ops cx all rest s =>
  cases rest with
  |nil=>rfl
  |cons o rest =>
   obtain⟨tm,df,pan,h⟩:=s
   show stF_one T rec cx all o rest tm df pan h=step T rec (.ops cx all (o::rest) ⟨tm,df,pan,h⟩)
   unfold stF_one
   simp only[step,wantedP_eq,envP_eq]
   cases wantedA all tm o with
   |none=>rfl
   |some b =>
    cases b with
    |false=>simp only[stF_put_eq]; cases putA cx ⟨tm,df,pan,h⟩ o.dst undefA<;>rfl
    |true =>
     simp only[opF_eq]
     cases opA T (env tm) o h with
     |val v h'=>simp only[stF_res,stF_heap_eq]; cases putA cx ⟨tm,df,pan,h'⟩ o.dst v<;>rfl
     |skip h'=>simp only[stF_res,stF_heap_eq]; cases putA cx ⟨tm,df,pan,h'⟩ o.dst undefA<;>rfl
     |enter f args h' =>
      simp only[stF_res]
      congr 1
      funext r
      cases r with
      |ret v h2=>simp only[stF_back,stF_heap_eq]; cases putA cx ⟨tm,df,pan,h2⟩ o.dst v<;>rfl
      |_=>rfl
     |round l fn tm' nt as bd h' =>
      simp only[stF_res]
      congr 1
      funext r
      cases r with
      |ret v h2=>simp only[stF_back,stF_heap_eq]; cases putA cx ⟨tm,df,pan,h2⟩ o.dst v<;>rfl
      |_=>rfl
     |defer d =>
      simp only[stF_res]
      cases cx.round with
      |none=>simp only[stF_put_eq]; cases putA cx ⟨tm,d::df,pan,h⟩ o.dst undefA<;>rfl
      |some _=>rfl
     |recover =>
      simp only[stF_res]
      cases cx.round with
      |some _=>rfl
      |none =>
       cases pan with
       |none=>simp only[stF_put_eq]; cases putA cx ⟨tm,df,none,h⟩ o.dst .niliface<;>rfl
       |some p =>
        obtain⟨v,b⟩:=p
        cases b with
        |false=>simp only[stF_put_eq]; cases putA cx ⟨tm,df,some (v,true),h⟩ o.dst v<;>rfl
        |true=>simp only[stF_put_eq]; cases putA cx ⟨tm,df,some (v,true),h⟩ o.dst .niliface<;>rfl
     |panic v h'=>rfl
     |choice l=>rfl
     |no w=>rfl
 |call f args h=>rfl
 |leave f tm ds pan h=>rfl
 |dcall f args pan h=>rfl
 |round l fn tm nt as bd h=>rfl
end Ev
end
section
namespace Ev
open Go
noncomputable def blR {α:Type}(v:Option α) (l r:Tr α):Tr α:=Tr.rec (motive:=fun _=>Tr α) (Tr.node v .nil r) (fun a b c _ _=>Tr.node v (.node a b c) r) l
noncomputable def brR {α:Type}(v:Option α) (l r:Tr α):Tr α:=Tr.rec (motive:=fun _=>Tr α) (Tr.node v l .nil) (fun a b c _ _=>Tr.node v l (.node a b c)) r
theorem blR_eq {α:Type}(v:Option α) (l r:Tr α):blR v l r=Tr.bl v l r:=by cases l<;>rfl
theorem brR_eq {α:Type}(v:Option α) (l r:Tr α):brR v l r=Tr.br v l r:=by cases r<;>rfl
noncomputable def getR {α:Type}(p:Pt):Tr α→Option α:=Pt.rec (motive:=fun _=>Tr α→Option α)
 (fun t=>Tr.rec (motive:=fun _=>Option α) none (fun v _ _ _ _=>v) t)
 (fun _ ih t=>Tr.rec (motive:=fun _=>Option α) none (fun _ l _ _ _=>ih l) t)
 (fun _ ih t=>Tr.rec (motive:=fun _=>Option α) none (fun _ _ r _ _=>ih r) t) p
theorem getR_eq {α:Type}:∀ (p:Pt) (t:Tr α),getR p t=getP p t
 |.here,t=>by cases t<;>rfl
 |.l p,t=>by
  cases t with
  |nil=>rfl
  |node v l r=>exact getR_eq p l
 |.r p,t=>by
  cases t with
  |nil=>rfl
  |node v l r=>exact getR_eq p r
noncomputable def setR {α:Type}(p:Pt):Tr α→α→Tr α:=Pt.rec (motive:=fun _=>Tr α→α→Tr α)
 (fun t x=>Tr.rec (motive:=fun _=>Tr α) (.node (some x) .nil .nil) (fun _ l r _ _=>.node (some x) l r) t)
 (fun _ ih t x=>Tr.rec (motive:=fun _=>Tr α) (blR none (ih .nil x) .nil) (fun v l r _ _=>blR v (ih l x) r) t)
 (fun _ ih t x=>Tr.rec (motive:=fun _=>Tr α) (brR none .nil (ih .nil x)) (fun v l r _ _=>brR v l (ih r x)) t) p
theorem setR_eq {α:Type}:∀ (p:Pt) (t:Tr α) (x:α),setR p t x=setP p t x
 |.here,t,x=>by cases t<;>rfl
 |.l p,t,x=>by
  cases t with
  |nil=>show blR none (setR p .nil x) .nil=_; rw[setR_eq p,blR_eq]; rfl
  |node v l r=>show blR v (setR p l x) r=_; rw[setR_eq p,blR_eq]; rfl
 |.r p,t,x=>by
  cases t with
  |nil=>show brR none .nil (setR p .nil x)=_; rw[setR_eq p,brR_eq]; rfl
  |node v l r=>show brR v l (setR p r x)=_; rw[setR_eq p,brR_eq]; rfl
noncomputable def envR (tm:Tr AV) (x:Operand):Option AV:=OdBox.rec (motive:=fun _=>Option AV) (fun p=>getR p tm) (fun v=>v) (odBox x)
theorem envR_eq (tm:Tr AV):envR tm=envP tm:=by
 funext x
 unfold envR envP
 cases odBox x with
 |tmp p=>exact getR_eq p tm
 |val v=>rfl
noncomputable def putR (rec:Task→Res) (cx:Cx) (all rest:List Oper) (tm:Tr AV) (df:List ADef) (pan:Option (AV×Bool)) (h:Heap) (dst:Option Tmp) (v:AV):Res :=
 Option.rec (motive:=fun _=>Res) (rec (.ops cx all rest ⟨tm,df,pan,h⟩))
  (fun d => Bool.rec (motive := fun _ => Res) (.no "put" [])
   (Tr.rec (motive:=fun _=>Res) (rec (.ops cx all rest ⟨.nil,df,pan,h⟩)) (fun a b c _ _=>rec (.ops cx all rest ⟨.node a b c,df,pan,h⟩)) (setR (pt d) tm v)) (Nat.blt d cx.nt)) dst
theorem putR_eq (T:Tabs) (rec:Task→Res) (cx:Cx) (all rest:List Oper) (tm:Tr AV) (df:List ADef) (pan:Option (AV×Bool)) (h:Heap) (dst:Option Tmp) (v:AV) :
  putR rec cx all rest tm df pan h dst v=stF_put T rec cx all rest tm df pan h dst v:=by
 unfold putR stF_put
 cases dst with
 |none=>rfl
 |some d =>
  simp only[setR_eq]
  cases Nat.blt d cx.nt with
  |false=>rfl
  |true =>
   simp only[]
   cases setP (pt d) tm v<;>rfl
noncomputable def heapR (rec:Task→Res) (cx:Cx) (all rest:List Oper) (tm:Tr AV) (df:List ADef) (pan:Option (AV×Bool)) (h:Heap) (dst:Option Tmp) (v:AV):Res :=
 Heap.rec (motive:=fun _=>Res) (fun t nx=>Tr.rec (motive:=fun _=>Res) (putR rec cx all rest tm df pan ⟨.nil,nx⟩ dst v) (fun a b c _ _=>putR rec cx all rest tm df pan ⟨.node a b c,nx⟩ dst v) t) h
theorem heapR_eq (T:Tabs) (rec:Task→Res) (cx:Cx) (all rest:List Oper) (tm:Tr AV) (df:List ADef) (pan:Option (AV×Bool)) (h:Heap) (dst:Option Tmp) (v:AV) :
  heapR rec cx all rest tm df pan h dst v=stF_heap T rec cx all rest tm df pan h dst v:=by
 obtain⟨t,nx⟩:=h
 cases t with
 |nil=>exact putR_eq T ..
 |node a b c=>exact putR_eq T ..
noncomputable def oneR (T:Tabs) (rec:Task→Res) (cx:Cx) (all:List Oper) (o:Oper) (rest:List Oper) (tm:Tr AV) (df:List ADef) (pan:Option (AV×Bool)) (h:Heap):Res :=
 Option.rec (motive:=fun _=>Res)
  (OpBox.rec (motive:=fun _=>Res) (fun f=>OR.rec (motive:=fun _=>Res)
   (fun v h'=>heapR rec cx all rest tm df pan h' o.dst v)
   (fun h'=>heapR rec cx all rest tm df pan h' o.dst undefA)
   (fun f args h'=>bindR (rec (.call f args h')) (stF_back T rec cx all rest tm df pan o.dst f))
   (fun l fn tm' nt as bd h'=>bindR (rec (.round l fn tm' nt as bd h')) (stF_back T rec cx all rest tm df pan o.dst fn))
   (fun d=>stF_res T rec cx all o rest tm df pan h (.defer d))
   (stF_res T rec cx all o rest tm df pan h .recover)
   (fun v h'=>.pan v ⟨tm,df,pan,h'⟩)
   (fun l=>altR (chooseA rec cx all rest ⟨tm,df,pan,h⟩ o.dst l))
   (fun w => .no (w ++ " at " ++ o.pos) []) (f (envR tm) h)) (opBox T o.op))
  (fun g=>stF_one T rec cx all o rest tm df pan h) o.guard
theorem oneR_eq (T:Tabs) (rec:Task→Res) (cx:Cx) (all:List Oper) (o:Oper) (rest:List Oper) (tm:Tr AV) (df:List ADef) (pan:Option (AV×Bool)) (h:Heap) :
  oneR T rec cx all o rest tm df pan h=stF_one T rec cx all o rest tm df pan h:=by
 unfold oneR
 cases hg:o.guard with
 |some g=>rfl
 |none =>
  unfold stF_one
  have hw:wantedP all tm o=some true:=by unfold wantedP; rw[hg]
  rw[hw]
  simp only[opF,envR_eq]
  cases opBox T o.op with
  |mk f =>
   simp only[]
   cases f (envP tm) h with
   |val v h'=>simp only[stF_res]; exact heapR_eq T ..
   |skip h'=>simp only[stF_res]; exact heapR_eq T ..
   |_=>rfl
noncomputable def opsR (T:Tabs) (rec:Task→Res) (cx:Cx) (all rest:List Oper) (s:St):Res :=
 List.rec (motive:=fun _=>Res) (.fin .normal s) (fun o rest _=>St.rec (motive:=fun _=>Res) (fun tm df pan h=>oneR T rec cx all o rest tm df pan h) s) rest
theorem opsR_eq (T:Tabs) (rec:Task→Res) (cx:Cx) (all rest:List Oper) (s:St):opsR T rec cx all rest s=stF_ops T rec cx all rest s:=by
 cases rest with
 |nil=>rfl
 |cons o rest=>obtain⟨tm,df,pan,h⟩:=s; exact oneR_eq T ..
noncomputable def stepR (T:Tabs) (rec:Task→Res) (t:Task):Res:=Task.rec (motive:=fun _=>Res)
 (fun cx c s=>CBox.rec (motive:=fun _=>Res) (fun f=>f rec cx s) (cBox T c))
 (fun cx all rest s=>opsR T rec cx all rest s)
 (fun f args h=>stF_call T rec f args h)
 (fun l fn tm nt as bd h=>stF_round T rec l fn tm nt as bd h)
 (fun f tm ds pan h=>stF_leave T rec f tm ds pan h)
 (fun f args pan h=>stF_dcall T rec f args pan h) t
theorem stepR_eq (T:Tabs) (rec:Task→Res) (t:Task):stepR T rec t=stepF T rec t:=by
 cases t with
 |code cx c s =>
  show CBox.rec (motive:=fun _=>Res) (fun f=>f rec cx s) (cBox T c)=stF_code T rec cx c s
  unfold stF_code
  cases cBox T c; rfl
 |ops cx all rest s=>exact opsR_eq T ..
 |_=>rfl
noncomputable def evR (T : Tabs) (n : Nat) : Task → Res := Nat.rec (motive := fun _ => Task → Res) (fun _ => .no "fuel" []) (fun _ ih t => stepR T ih t) n
theorem evR_eq (T:Tabs):∀ (n:Nat) (t:Task),evR T n t=ev T n t
 |0,_=>rfl
 |n+1,t=>by
  have:evR T n=ev T n:=funext (evR_eq T n)
  show stepR T (evR T n) t=step T (ev T n) t
  rw[stepR_eq,stepF_eq,this]
end Ev
end
section
namespace Ev
open Go Go.RowKit
variable {P:Program}{T:Tabs}
def allRet (v:AV):Res→Bool
 |.alt a b=>allRet v a&&allRet v b
 |.ret u _=>aveq u v
 |_=>false
theorem allRet_leaf {v:AV}:∀ {r q:Res},allRet v r=true→Lf r q→∃ h,q=.ret v h
 |.alt a b,q,g,h=>by
  unfold allRet at g
  simp only[Bool.and_eq_true] at g
  exact h.elim (allRet_leaf g.1) (allRet_leaf g.2)
 |.ret u h',q,g,h=>by
  cases h
  have:=aveq_eq _ _ g
  subst this
  exact⟨_,rfl⟩
 |.fin ..,_,g,_=>by simp[allRet] at g
 |.pan ..,_,g,_=>by simp[allRet] at g
 |.thrown ..,_,g,_=>by simp[allRet] at g
 |.dret ..,_,g,_=>by simp[allRet] at g
 |.no ..,_,g,_=>by simp[allRet] at g
theorem sm_closed (ok:TabsOK P T) (hsm:∀ (base:Nat) (w0:World) f args h v h',T.sm f args h=some (v,h')→TaskOK P base w0 (.call f args h) (.ret v h')){f:FuncId}{args:List AV}{v:AV}{n:Nat}
  (hp:AV.plains args=true) (hv:v.plain=true) (he:allRet v (ev T n (.call f args ⟨.nil,0⟩))=true) (base:Nat) (w0:World) (h:Heap):TaskOK P base w0 (.call f args h) (.ret v h):=by
 intro E args' w cs ha H
 have H0:HR base w0 En.none ⟨.nil,0⟩ w:=⟨fun _ h=>h.elim,fun _ _ h=>h.elim,fun _ _ _ _ h=>h.elim,H.wd,H.drawn,H.bsz,fun _ h=>h.elim⟩
 obtain⟨q,hq,K⟩:=ev_sound (base:=base) (w0:=w0) ok (hsm base w0) n (.call f args ⟨.nil,0⟩) En.none args' w cs (ha.plain hp) H0
 obtain⟨h2,rfl⟩:=allRet_leaf he hq
 obtain⟨E',w',v',fr,p1,p2,p3,p4,p5⟩:=K
 have old:∀ k,k<w.heap.size→w'.heap[k]?=w.heap[k]?:=fun k hk=>p2.fr k hk (fun _ hd=>hd.elim)
 exact⟨_,rfl,E,w',v',fr,⟨H.dlt,fun b o hd hg=>OR'.same (old _ (H.blt b hd)) (H.obj b o hd hg),H.inj,p1.wd,p1.drawn,p1.bsz,fun b hd=>Nat.lt_of_lt_of_le (H.blt b hd) p2.sz⟩,
  ⟨.refl E,fun _ h=>.inl h,Nat.le_refl _,fun _ _ _=>rfl,p2.sz,fun k hk _=>old k hk,fun _ h=>.inl h⟩,p3.plain hv,p4,p5⟩
def near:AV→AV→Bool
 |.int _ a,.int _ b=>(match a,b with
  |.ofNat m,.ofNat n=>Nat.beq m n
  |.negSucc m,.negSucc n=>Nat.beq m n
  |_,_=>false)
 |_,_=>true
def nears:List AV→List AV→Bool
 |a::l,b::m=>(match near a b with
  |true=>nears l m
  |false=>false)
 |_,_=>true
def findM (args:List AV):List (List AV×AV)→Option AV
 |[]=>none
 |(a,v)::l=>match nears args a with
  |false=>findM args l
  |true=>match aveqs args a with
   |true=>some v
   |false=>findM args l
abbrev Memo:=Tr (List (List AV×AV))
def memoSm (M:Memo) (sm:FuncId→List AV→Heap→Option (AV×Heap)) (f:FuncId) (args:List AV) (h:Heap):Option (AV×Heap):=match getP (pt f) M with
 |none=>sm f args h
 |some es=>match findM args es with
  |some v=>some (v,h)
  |none=>sm f args h
def Memo.add (M:Memo) (f:FuncId) (args:List AV) (v:AV):Memo:=M.set f ((args,v)::(M.get f).getD [])
def MemoOK (P:Program) (M:Memo):Prop:=∀ f es,M.get f=some es→∀ a v,(a,v)∈es→∀ base w0 h,TaskOK P base w0 (.call f a h) (.ret v h)
theorem MemoOK.nil:MemoOK P (.nil:Memo):=fun f es h=>by rw[Tr.get_nil] at h; cases h
theorem findM_mem (args:List AV):∀ (l:List (List AV×AV)) (v:AV),findM args l=some v→(args,v)∈l
 |[],_,h=>by cases h
 |(a,u)::l,v,h=>by
  unfold findM at h
  split at h
  ·exact List.mem_cons_of_mem _ (findM_mem args l v h)
  ·split at h
   ·rename_i he
    cases h
    rw[aveqs_eq _ _ he]
    exact List.mem_cons_self ..
   ·exact List.mem_cons_of_mem _ (findM_mem args l v h)
theorem memoSm_ok {M:Memo}(hM:MemoOK P M){sm:FuncId→List AV→Heap→Option (AV×Heap)}(hsm:∀ (base:Nat) (w0:World) f args h v h',sm f args h=some (v,h')→TaskOK P base w0 (.call f args h) (.ret v h'))
  (base:Nat) (w0:World) (f:FuncId) (args:List AV) (h:Heap) (v:AV) (h':Heap) (e:memoSm M sm f args h=some (v,h')):TaskOK P base w0 (.call f args h) (.ret v h'):=by
 unfold memoSm at e
 rw[getP_eq] at e
 split at e
 ·exact hsm base w0 f args h v h' e
 ·rename_i es hes
  split at e
  ·rename_i u hu
   simp only[Option.some.injEq,Prod.mk.injEq] at e
   obtain⟨rfl,rfl⟩:=e
   exact hM f es hes args _ (findM_mem _ _ _ hu) base w0 _
  ·exact hsm base w0 f args h v h' e
noncomputable def memoChk (T:Tabs) (f:FuncId) (args:List AV) (v:AV):Bool:=match AV.plains args,v.plain with
 |true,true=>allRet v (evR T 1000000 (.call f args ⟨.nil,0⟩))
 |_,_=>false
theorem MemoOK.add (ok:TabsOK P T) (hT:∀ (base:Nat) (w0:World) f args h v h',T.sm f args h=some (v,h')→TaskOK P base w0 (.call f args h) (.ret v h'))
  {M:Memo} (hM:MemoOK P M) {f:FuncId} {args:List AV} {v:AV} (hc:memoChk T f args v=true):MemoOK P (M.add f args v):=by
 have key:∀ base w0 h,TaskOK P base w0 (.call f args h) (.ret v h):=by
  unfold memoChk at hc
  split at hc
  ·rename_i hp hv
   rw[evR_eq] at hc
   exact sm_closed ok hT hp hv hc
  ·cases hc
 intro g es hg a u hm
 unfold Memo.add at hg
 rw[Tr.get_set] at hg
 by_cases e:g=f
 ·rw[if_pos e] at hg
  simp only[Option.some.injEq] at hg
  subst hg
  rcases List.mem_cons.1 hm with h1|h1
  ·simp only[Prod.mk.injEq] at h1
   obtain⟨rfl,rfl⟩:=h1
   subst e
   exact key
  ·cases hq:M.get f with
   |none=>rw[hq] at h1; simp at h1
   |some es0 =>
    rw[hq] at h1
    subst e
    exact hM g es0 hq a u (by simpa using h1)
 ·rw[if_neg e] at hg
  exact hM g es hg a u hm
def bsAux:Nat→Nat→List UInt8→List UInt8
 |0,_,acc=>acc
 |n+1,x,acc=>match x with
  |0=>bsAux n 0 (UInt8.ofNat 0::acc)
  |k+1=>bsAux n (Nat.div (k+1) 256) (UInt8.ofNat (Nat.mod (k+1) 256)::acc)
def bs (n x:Nat):AV:=.str (bsAux n x [])
theorem ev_calls_memo (ok:TabsOK P T) (hsm:∀ (base:Nat) (w0:World) f args h v h',T.sm f args h=some (v,h')→TaskOK P base w0 (.call f args h) (.ret v h')){n:Nat}{f:FuncId}(hg:good (evR T n (.call f [] ⟨.nil,0⟩))=true) (w:World) :
  Calls P f #[] w fun e w'=>e=.returned (.bool true)∧Below w.heap.size w w':=by
 rw[evR_eq] at hg
 exact ev_calls_sm ok hsm hg w
end Ev
namespace Ev
open Go Go.RowKit
theorem ev_calls_chk {P:Program}{T:Tabs}(ok:TabsOK P T) (hsm:∀ (base:Nat) (w0:World) f args h v h',T.sm f args h=some (v,h')→TaskOK P base w0 (.call f args h) (.ret v h')){f:FuncId}(hc:memoChk T f [] (.bool true)=true) (w:World) :
  Calls P f #[] w fun e w'=>e=.returned (.bool true)∧Below w.heap.size w w':=by
 refine ev_calls_memo ok hsm (n:=1000000) ?_ w
 unfold memoChk at hc
 split at hc
 ·have key:∀ r:Res,allRet (.bool true) r=true→good r=true:=by
   intro r
   induction r with
   |alt a b iha ihb =>
    intro h
    unfold allRet at h
    simp only[Bool.and_eq_true] at h
    unfold good
    rw[iha h.1,ihb h.2]; rfl
   |ret u h' =>
    intro h
    have:=aveq_eq _ _ h
    subst this
    rfl
   |_=>intro h; simp[allRet] at h
  exact key _ hc
 ·cases hc
end Ev
end
