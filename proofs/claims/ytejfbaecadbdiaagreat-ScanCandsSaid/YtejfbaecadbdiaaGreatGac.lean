/- A part of an evaluator of the program's form in Lean, of the proof that what it says of a call is what the machine does, and of the rules by which proofs walk over it. Conditions: those that each theorem states. -/
import Derived.Test.YtejfbaecadbdiaaGreatGab
import Derived.Laws.Strings
set_option linter.unusedVariables false
set_option linter.unusedSimpArgs false
section
namespace Ev
open Go Go.RowKit
variable {P:Program}{T:a0k}
theorem blt_eq (a b:Nat):Nat.blt a b=decide (a<b):=by
 rw[Bool.eq_iff_iff]; simp[Nat.blt_eq]
theorem d5f (a b:UInt8):Nat.beq a.toNat b.toNat=(a==b):=by
 rw[Bool.eq_iff_iff]
 simp[Nat.beq_eq,UInt8.toNat_inj]
theorem a6b:∀ (x y:List UInt8),a1w x y=(x==y)
 |[],[]=>rfl
 |[],_::_=>rfl
 |_::_,[]=>rfl
 |a::x,b::y=>by
  simp only[a1w,d5f]
  rw[List.cons_beq_cons,a6b x y]
  cases a==b<;>simp
theorem b8d:∀ (x y:List UInt8),bytesLess x y=Op.bytesLess x y
 |[],[]=>rfl
 |[],_::_=>rfl
 |_::_,[]=>rfl
 |a::x,b::y=>by
  simp only[bytesLess,Op.bytesLess,d5f,blt_eq]
  rw[b8d x y]
  by_cases h:a<b
  ·have:a.toNat<b.toNat:=h
   simp[h,this]
  ·have:¬ a.toNat<b.toNat:=h
   simp only[this,decide_false,h,Bool.false_or]
   cases a==b<;>simp
theorem c8m (x y:List UInt8):((⟨x.toArray⟩:ByteArray)==⟨y.toArray⟩)=(x==y):=by
 show(x.toArray==y.toArray)=(x==y)
 simp
theorem d2f (x y:List UInt8):(⟨x.toArray⟩:ByteArray)++⟨y.toArray⟩=⟨(x++y).toArray⟩:=by
 apply ByteArray.ext
 simp
theorem e0c {op:BinOp}{x y:List UInt8}{v:AV}(h:e0m op x y=some v) (E:En) (w:World) :
  ∃ v',(Op.stringOp op ⟨x.toArray⟩ ⟨y.toArray⟩).run P w=.ok v' w∧VR E v v':=by
 cases op<;>simp only[e0m] at h<;>first|(simp at h; done)|skip
 case add =>
  split at h<;>simp at h
  rename_i hl
  subst h
  refine⟨_,?_,.str _⟩
  simp only[Op.stringOp,d2f]
  rw[if_neg]
  ·rfl
  ·simp[ByteArray.size,IntKind.max,IntKind.signed,IntKind.bits]; omega
 all_goals
  simp only[Option.some.injEq] at h
  subst h
  refine⟨_,?_,.bool _⟩
  simp[Op.stringOp,ByteArray.toList_mk,a6b,b8d]
theorem d9s {op:BinOp}{k:IntKind}{x y:Int}{v:AV}(h:a3f op k x y=some v) (E:En) (t:TypeId) (w:World) (h1:op≠.shl) (h2:op≠.shr) :
  ∃ v',(Go.binOp op t (.int k x) (.int k y)).run P w=.ok v' w∧VR E v v':=by
 cases op<;>simp only[a3f] at h<;>first|(exact absurd rfl h1)|(exact absurd rfl h2)|(simp at h; done)|skip
 case quo =>
  split at h<;>simp at h
  rename_i hy
  subst h
  refine⟨_,?_,.int _ _⟩; simp[Go.binOp,Op.intDiv,hy]
 case rem =>
  split at h<;>simp at h
  rename_i hy
  subst h
  refine⟨_,?_,.int _ _⟩; simp[Go.binOp,Op.intDiv,hy]
 all_goals
  simp only[Option.some.injEq] at h
  subst h
  first
  |(refine⟨_,?_,.int _ _⟩; simp[Go.binOp,Op.intArith,Op.intBits]; done)
  |(refine⟨_,?_,.bool _⟩; simp[Go.binOp,Op.intCmp]; done)
theorem b9o {op:BinOp}{k k':IntKind}{x y:Int}{v:AV}(h:shiftOp op k x y=some v) (E:En) (w:World) :
  ∃ v',(Op.shift op k x k' y).run P w=.ok v' w∧VR E v v':=by
 unfold shiftOp at h
 split at h
 ·simp at h
 ·rename_i hy
  unfold Op.shift
  rw[if_neg hy]
  cases op<;>simp at h
  all_goals
   subst h
   exact⟨_,rfl,.int _ _⟩
theorem a5v (ok:a0v P T){t:TypeId}{cs:List AV}{off:Nat}{v:AV}(h:Ev.part T t cs off=some v){E:En}{cs':List Value}(hc:VRs E cs cs') (w:World) :
  ∃ v',(Go.part t cs'.toArray off).run P w=.ok v' w∧VR E v v':=by
 unfold Ev.part at h
 split at h
 ·rename_i n ha hs
  split at h<;>simp at h
  rename_i l hl
  subst h
  obtain⟨_,rfl⟩:=b1s hl
  refine⟨.agg ((cs'.drop off).take n).toArray,?_,.agg _ _ ((hc.drop off).take n)⟩
  simp[Go.part,c1c ok ha,a1o ok hs]
 ·rename_i n ha hs
  rw[a4w] at h
  obtain⟨v',h1,h2⟩:=hc.get h
  refine⟨v',?_,h2⟩
  simp[Go.part,c1c ok ha,h1]
 ·simp at h
def EqAt (P:Program) (d:Nat) (t:TypeId) (x' y':Value) (r:Bool):Prop:=∀ (D:Nat),d≤D→∀ w,(Op.equalIn D t x' y').run P w=.ok r w
theorem a9w (ok:a0v P T) (d:Nat) (ih:∀ (t:TypeId) (x y:AV) (r:Bool),eqv T d t x y=some r→∀ (E:En) (x' y':Value),VR E x x'→VR E y y'→EqAt P d t x' y' r) :
  ∀ (fs:List Field) (xs ys:List AV) (r:Bool),eqFields T (eqv T d) fs xs ys=some r→∀ (E:En) (xs' ys':List Value),VRs E xs xs'→VRs E ys ys'→∀ (D:Nat),d≤D→∀ w,
   (forIn (m:=Sem) fs ((none,()):Option Bool×Unit) fun f __s =>
      if f.name = "_" then pure (ForInStep.yield (none, ()))
      else do
       let a ← Go.part f.type xs'.toArray f.offset
       let b ← Go.part f.type ys'.toArray f.offset
       let c ← Op.equalIn D f.type a b
       if c=false then pure (ForInStep.done (some false,())) else pure (ForInStep.yield (none,()))).run P w=.ok (if r then(none,()) else(some false,())) w
 |[],xs,ys,r,h,E,xs',ys',hx,hy,D,hD,w=>by
  simp[eqFields] at h
  subst h
  simp
 |f::fs,xs,ys,r,h,E,xs',ys',hx,hy,D,hD,w=>by
  unfold eqFields at h
  by_cases hf : f.name = "_"
  ·rw[if_pos hf] at h
   have:=a9w ok d ih fs xs ys r h E xs' ys' hx hy D hD w
   simp only[List.forIn_cons,if_pos hf,pure_bind]
   exact this
  ·rw[if_neg hf] at h
   split at h
   ·rename_i a b ha hb
    obtain⟨a',pa,qa⟩:=a5v ok ha hx w
    obtain⟨b',pb,qb⟩:=a5v ok hb hy w
    split at h
    ·rename_i he
     have h1:=ih _ _ _ _ he E a' b' qa qb D hD w
     have:=a9w ok d ih fs xs ys r h E xs' ys' hx hy D hD w
     simp only[List.forIn_cons,if_neg hf,Sem.run_bind,pa,pb,Result.andThen_ok,h1]
     simpa using this
    ·rename_i he
     have h1:=ih _ _ _ _ he E a' b' qa qb D hD w
     simp at h
     subst h
     simp only[List.forIn_cons,if_neg hf,Sem.run_bind,pa,pb,Result.andThen_ok,h1]
     simp
    ·simp at h
   ·simp at h
theorem b5s (ok:a0v P T) (d:Nat) (ih:∀ (t:TypeId) (x y:AV) (r:Bool),eqv T d t x y=some r→∀ (E:En) (x' y':Value),VR E x x'→VR E y y'→EqAt P d t x' y' r) (elem:TypeId) (n:Nat) :
  ∀ (len i:Nat) (xs ys:List AV) (r:Bool),b7s T (eqv T d) elem n xs ys len i=some r→∀ (E:En) (xs' ys':List Value),VRs E xs xs'→VRs E ys ys'→∀ (D:Nat),d≤D→∀ w,
   (forIn (m:=Sem) (List.range' i len) ((none,()):Option Bool×Unit) fun j __s=>do
           let a ← Go.part elem xs'.toArray (j*n)
           let b ← Go.part elem ys'.toArray (j*n)
           let c ← Op.equalIn D elem a b
           if c=false then pure (ForInStep.done (some false,())) else pure (ForInStep.yield (none,()))).run P w=.ok (if r then(none,()) else(some false,())) w
 |0,i,xs,ys,r,h,E,xs',ys',hx,hy,D,hD,w=>by
  simp[b7s] at h
  subst h
  simp
 |len+1,i,xs,ys,r,h,E,xs',ys',hx,hy,D,hD,w=>by
  unfold b7s at h
  split at h
  ·rename_i a b ha hb
   obtain⟨a',pa,qa⟩:=a5v ok ha hx w
   obtain⟨b',pb,qb⟩:=a5v ok hb hy w
   split at h
   ·rename_i he
    have h1:=ih _ _ _ _ he E a' b' qa qb D hD w
    have:=b5s ok d ih elem n len (i+1) xs ys r h E xs' ys' hx hy D hD w
    simp only[List.range'_succ,List.forIn_cons,Sem.run_bind,pa,pb,Result.andThen_ok,h1]
    simpa using this
   ·rename_i he
    have h1:=ih _ _ _ _ he E a' b' qa qb D hD w
    simp at h
    subst h
    simp only[List.range'_succ,List.forIn_cons,Sem.run_bind,pa,pb,Result.andThen_ok,h1]
    simp
   ·simp at h
  ·simp at h
set_option maxHeartbeats 2000000 in
theorem b4z (ok:a0v P T):∀ (d:Nat) (t:TypeId) (x y:AV) (r:Bool),eqv T d t x y=some r→∀ (E:En) (x' y':Value),VR E x x'→VR E y y'→EqAt P d t x' y' r
 |0,t,x,y,r,h=>by simp[eqv] at h
 |d+1,t,x,y,r,h=>by
  intro E x' y' hx hy D hD w
  obtain⟨D,rfl⟩:∃ k,D=k+1:=⟨D-1,by omega⟩
  unfold eqv at h
  split at h
  case h_23 =>
   rename_i fields xs ys hu
   split at h
   ·simp at h
   ·rename_i hst
    cases hx with|agg l xs' hx =>
    cases hy with|agg l ys' hy =>
    have:=a9w ok d (b4z ok d) fields.toList xs ys r h E xs' ys' hx hy D (by omega) w
    simp only[Op.equalIn,Sem.run_bind,a0i ok hu,Result.andThen_ok,run_program]
    simp only[ok.stood t (by simpa using hst)]
    rw[Array.forIn_toList] at this
    simp
    rw[this]
    cases r<;>simp
  case h_24 =>
   rename_i len elem xs ys hu
   split at h
   ·rename_i n hn
    cases hx with|agg l xs' hx =>
    cases hy with|agg l ys' hy =>
    have:=b5s ok d (b4z ok d) elem n len 0 xs ys r h E xs' ys' hx hy D (by omega) w
    simp only[Op.equalIn,Sem.run_bind,a0i ok hu,Result.andThen_ok,a1o ok hn]
    rw[Std.Legacy.Range.forIn_eq_forIn_range']
    simp
    rw[this]
    cases r<;>simp
   ·simp at h
  case h_2 =>
   rename_i hu
   cases hx; cases hy
   split at h
   ·rename_i hk
    simp at h
    subst h; subst hk
    simp[Op.equalIn,a0i ok hu]
   ·simp at h
  case h_3 =>
   rename_i hu
   cases hx; cases hy
   simp at h
   subst h
   simp only[Op.equalIn,Sem.run_bind,a0i ok hu,Result.andThen_ok,Sem.run_pure,a6b]
   rename_i x y
   congr 1
   exact c8m x y
  all_goals first
   |(simp at h; done)
   |(rename_i hu; cases hx; cases hy; simp at h; subst h; simp[Op.equalIn,a0i ok hu]; done)
end Ev
end
section
namespace Ev
open Go Go.RowKit
variable {P:Program}{T:a0k}{base:Nat}{w0:World}
def Out (P:Program) (base:Nat) (w0:World) (E:En) (h:a0a) (w:World) (r:OR) (res:Result Next):Prop :=
 match r with
 |.val v h'=>∃ E' w' v',res=.ok (.value v') w'∧VR E' v v'∧HR P base w0 E' h' w'∧Ste E h w E' h' w'
 |.skip h'=>∃ E' w',res=.ok .skip w'∧HR P base w0 E' h' w'∧Ste E h w E' h' w'
 |.enter f args h'=>h'=h∧∃ args':List Value,res=.ok (.enter f args'.toArray) w∧VRs E args args'
 |.round l fn tm nt as bd h'=>h'=h∧E.dom l∧∃ tmps:Array Value,res=.ok (.round (E.blk l) fn tmps as bd) w∧tmps.size=nt∧TR E tm tmps
 |.defer d=>∃ d',res=.ok (.defer d') w∧DR E d d'
 |.recover=>res=.ok .recover w
 |.panic v h'=>h'=h∧∃ v',res=.halt (.panic v') w∧VR E v v'
 |.choice l=>∃ p,p∈l∧∃ E' w' v',res=.ok (.value v') w'∧VR E' p.1 v'∧HR P base w0 E' p.2 w'∧Ste E h w E' p.2 w'
 |.no _=>True
def d1s (E:En) (ρ:Operand→Option AV) (f:Operand→Value):Prop:=∀ x v,ρ x=some v→VR E v (f x)
theorem a7e {E:En}{h:a0a}{w:World}(H:HR P base w0 E h w) (why:String) (r:Option AV) (s:Sem Value) (hs:∀ v,r=some v→∃ v',s.run P w=.ok v' w∧VR E v v') :
  Out P base w0 E h w (rv why h r) ((do pure (Next.value (← s)):Sem Next).run P w):=by
 cases r with
 |none=>trivial
 |some v =>
  obtain⟨v',h1,h2⟩:=hs v rfl
  exact⟨E,w,v',by simp[h1],h2,H,.refl E h w⟩
theorem a6e {E:En}{h:a0a}{w:World}{v:AV}{h':a0a}(s:Sem Value) (hs:∃ E' w' v',s.run P w=.ok v' w'∧VR E' v v'∧HR P base w0 E' h' w'∧Ste E h w E' h' w') :
  Out P base w0 E h w (.val v h') ((do pure (Next.value (← s)):Sem Next).run P w):=by
 obtain⟨E',w',v',h1,h2,h3,h4⟩:=hs
 exact⟨E',w',v',by simp[h1],h2,h3,h4⟩
theorem a2r {E:En}{h:a0a}{w:World}(H:HR P base w0 E h w){v:AV}(s:Sem Value) (hs:∃ v',s.run P w=.ok v' w∧VR E v v') :
  Out P base w0 E h w (.val v h) ((do pure (Next.value (← s)):Sem Next).run P w):=by
 obtain⟨v',h1,h2⟩:=hs
 exact⟨E,w,v',by simp[h1],h2,H,.refl E h w⟩
theorem a6l {E:En}{ρ:Operand→Option AV}{f:Operand→Value}(hρ:d1s E ρ f):∀ (l:List (Nat×Operand)) (r:List (Nat×AV)),a5e ρ l=some r →
  r.map (·.1)=l.map (·.1)∧VRs E (r.map (·.2)) (l.map fun p=>f p.2)
 |[],r,h=>by simp[a5e] at h; subst h; exact⟨rfl,.nil⟩
 |(i,x)::l,r,h=>by
  unfold a5e at h
  split at h<;>simp at h
  rename_i v r' hv hr
  subst h
  obtain⟨h1,h2⟩:=a6l hρ l r' hr
  exact⟨by simp[h1],.cons _ _ _ _ (hρ x v hv) h2⟩
theorem a3s {E:En}{ρ:Operand→Option AV}{f:Operand→Value}(hρ:d1s E ρ f):∀ (l:List Operand) (r:List AV),a4d ρ l=some r→VRs E r (l.map f)
 |[],r,h=>by simp[a4d] at h; subst h; exact .nil
 |x::l,r,h=>by
  unfold a4d at h
  split at h<;>simp at h
  rename_i v r' hv hr
  subst h
  exact .cons _ _ _ _ (hρ x v hv) (a3s hρ l r' hr)
theorem c5b (ok:a0v P T){op:BinOp}{t:TypeId}{a b v:AV}(h:a1i T op t a b=some v){E:En}{a' b':Value}(ha:VR E a a') (hb:VR E b b') (w:World) :
  ∃ v',(Go.binOp op t a' b').run P w=.ok v' w∧VR E v v':=by
 unfold a1i at h
 split at h
 ·cases ha; cases hb
  split at h
  ·obtain⟨v',h1,h2⟩:=b9o h E w
   exact⟨v',by simp only[Go.binOp]; exact h1,h2⟩
  ·obtain⟨v',h1,h2⟩:=b9o h E w
   exact⟨v',by simp only[Go.binOp]; exact h1,h2⟩
  ·rename_i h1 h2
   split at h
   ·rename_i hk
    subst hk
    exact d9s h E t w h1 h2
   ·simp at h
 ·cases ha; cases hb
  obtain⟨v',h1,h2⟩:=e0c (P:=P) h E w
  refine⟨v',?_,h2⟩
  have:∀ p q:ByteArray,Go.binOp op t (.string p) (.string q)=Op.stringOp op p q:=fun p q=>by
   cases op<;>rfl
  rw[this]; exact h1
 ·rename_i hn1 hn2
  split at h
  ·split at h<;>simp at h
   rename_i r hr
   subst h
   have hq:=b4z ok 100 t a b r hr E a' b' ha hb 10000 (by omega) w
   refine⟨.bool r,?_,.bool r⟩
   have:Go.binOp .eql t a' b'=(do pure (.bool (← Op.equal t a' b')):Sem Value):=by
    cases ha<;>cases hb<;>first|rfl|(exact absurd rfl (hn1 _ _ _ _ rfl))|(exact absurd rfl (hn2 _ _ rfl))
   rw[this]
   simp[Op.equal,Op.maxDepth,hq]
  ·split at h<;>simp at h
   rename_i r hr
   subst h
   have hq:=b4z ok 100 t a b r hr E a' b' ha hb 10000 (by omega) w
   refine⟨.bool (!r),?_,.bool _⟩
   have:Go.binOp .neq t a' b'=(do pure (.bool (!(← Op.equal t a' b'))):Sem Value):=by
    cases ha<;>cases hb<;>first|rfl|(exact absurd rfl (hn1 _ _ _ _ rfl))|(exact absurd rfl (hn2 _ _ rfl))
   rw[this]
   simp[Op.equal,Op.maxDepth,hq]
  ·simp at h
theorem d2v (x:Operand):isConst x=true→∃ v,x=.const v:=by
 cases x<;>simp[isConst]
theorem c0k (ok:a0v P T){op:BinOp}{t:TypeId}{x y:Operand}{a b:AV}(h:b8o T op t x y a b=true){E:En}{a' b':Value}(ha:VR E a a') (hb:VR E b b') (w:World) :
  (Go.eqGuard op t x y a' b').run P w=.ok () w:=by
 unfold b8o at h
 cases op
 case eql|neq =>
  simp only at h
  split at h
  ·cases ha; cases hb
   rw[Bool.or_eq_true] at h
   rcases h with h|h<;>obtain⟨v,rfl⟩:=d2v _ h<;>simp[Go.eqGuard]
  ·cases ha; cases hb
   have:=ok.eqg t (by simpa using h)
   simp[Go.eqGuard,this]
  ·rename_i h1 h2
   have:∀ (p q:Value),(p≠.nilIface∨q≠.nilIface)→((∀ c,p≠.agg c)∨(∀ c,q≠.agg c))→True:=fun _ _ _ _=>trivial
   cases ha<;>cases hb<;>first|(simp[Go.eqGuard]; done)|(exact absurd rfl (h1 rfl))|(exact absurd rfl (h2 _ _ rfl))
 all_goals simp[Go.eqGuard]
theorem d1r {op:UnOp}{x v:AV}(h:unA op x=some v){E:En}{x':Value}(hx:VR E x x') (w:World):∃ v',(Op.unary op x').run P w=.ok v' w∧VR E v v':=by
 unfold unA at h
 split at h
 ·cases hx
  simp at h; subst h
  refine⟨_,?_,.int _ _⟩
  simp[Op.unary,Op.intArith]
 ·cases hx
  simp[a3f] at h; subst h
  refine⟨_,?_,.int _ _⟩
  simp[Op.unary,Op.intBits]
 ·cases hx
  simp at h; subst h
  refine⟨_,?_,.bool _⟩
  simp[Op.unary]
 ·simp at h
end Ev
end
section
namespace Ev
open Go Go.RowKit
variable {P:Program}{T:a0k}{base:Nat}{w0:World}
theorem c5j {α:Type}(l:List α) (o:Nat) (x:α) (h:o<l.length):over l o [x]=l.set o x:=by
 apply List.ext_getElem?
 intro i
 rw[b1i _ _ _ (by simp; omega)]
 by_cases e:i=o
 ·subst e; simp[h]
 ·rw[if_neg (by simp; omega),List.getElem?_set_ne (by omega)]
theorem c2z:∀ (l:List Value) (off k:Nat) (cells:Array Value),off+k+l.length≤cells.size →
  ((l.zipIdx k).foldl (fun(cs:Array Value) (p:Value×Nat)=>cs.setIfInBounds (off+p.2) p.1) cells).toList=over cells.toList (off+k) l
 |[],off,k,cells,h=>by simp[c2d]
 |x::l,off,k,cells,h=>by
  simp only[List.length_cons] at h
  rw[List.zipIdx_cons,List.foldl_cons,c2z l off (k+1) _ (by simp; omega)]
  simp only[Array.toList_setIfInBounds]
  rw[← c5j _ _ _ (by simp; omega),← Nat.add_assoc,b9l _ _ _ _ (by simp; omega)]
theorem b0i {E:En}{place place':Nat→Option (Nat×Nat)}(hp:∀ i p,place i=some p→place' i=some p) :
  ∀ (parts:List (Nat×AV)) (parts':List (Nat×Value)) (cells:List AV) (cells':Array Value) (r:List AV),c0i place cells parts=some r →
   parts.map (·.1)=parts'.map (·.1)→VRs E (parts.map (·.2)) (parts'.map (·.2))→VRs E cells cells'.toList →
   ∃ r',Instr.fill place' cells' parts'=some r'∧VRs E r r'.toList
 |[],[],cells,cells',r,h,_,_,hc=>by
  simp[c0i] at h; subst h
  exact⟨cells',rfl,hc⟩
 |[],_::_,_,_,_,_,h,_,_=>by simp at h
 |_::_,[],_,_,_,_,h,_,_=>by simp at h
 |(i,v)::parts,(j,v')::parts',cells,cells',r,h,hi,hv,hc=>by
  simp at hi
  obtain⟨rfl,hi⟩:=hi
  cases hv with|cons _ _ _ _ hv hvs =>
  unfold c0i at h
  split at h
  ·simp at h
  ·rename_i off size hpl
   split at h
   ·simp at h
   ·rename_i hn
    have hcl:=hv.cells
    have hlen:=hcl.length
    have hcl2:=hc.length
    have hsz:v'.cells.size=v.cells.length:=by rw[hlen]; simp
    have hb:off+v'.cells.size≤cells'.size:=by
     have:cells.length=cells'.size:=by rw[hcl2]; simp
     omega
    have hs:v'.cells.size=size:=by omega
    have hfold:(v'.cells.zipIdx.foldl (fun(cs:Array Value) (p:Value×Nat)=>cs.setIfInBounds (off+p.2) p.1) cells').toList=over cells'.toList off v'.cells.toList:=by
     rw[← Array.foldl_toList,Array.toList_zipIdx]
     simpa using c2z v'.cells.toList off 0 cells' (by simpa using hb)
    obtain⟨r',h1,h2⟩:=b0i hp parts parts' _ (v'.cells.zipIdx.foldl (fun(cs:Array Value) (p:Value×Nat)=>cs.setIfInBounds (off+p.2) p.1) cells') r h hi hvs (by
     rw[hfold]; exact hc.over off hcl)
    refine⟨r',?_,h2⟩
    unfold Instr.fill
    simp only[hp _ _ hpl]
    rw[if_neg]
    ·exact h1
    ·simp; omega
theorem b7m (ok:a0v P T):∀ (fs:List Field) (l:List (Nat×Nat)),a8o T fs=some l→∀ w,
  (fs.mapM (m:=Sem) fun f=>do pure (f.offset,← Go.sizeOf f.type)).run P w=.ok l w
 |[],l,h,w=>by simp[a8o] at h; subst h; simp
 |f::fs,l,h,w=>by
  unfold a8o at h
  split at h<;>simp at h
  rename_i n l' hn hl
  subst h
  have:=b7m ok fs l' hl w
  simp only[List.mapM_cons,Sem.run_bind,a1o ok hn,Result.andThen_ok,Sem.run_pure,this]
theorem b2r (l:List (Nat×Operand)) (f:Operand→Value):(l.map fun(p:Nat×Operand)=>(p.1,f p.2)).map (·.1)=l.map (·.1)∧(l.map fun(p:Nat×Operand)=>(p.1,f p.2)).map (·.2)=l.map fun p=>f p.2:=by
 constructor<;>simp[List.map_map,Function.comp_def]
theorem b9w (ok:a0v P T){t:TypeId}{ps:List (Nat×AV)}{v:AV}(h:d3z T t ps=some v){E:En}{ps':List (Nat×Value)}(h1:ps.map (·.1)=ps'.map (·.1)) (h2:VRs E (ps.map (·.2)) (ps'.map (·.2))) (w:World) :
  ∃ v',(Instr.build t ps'.toArray).run P w=.ok v' w∧VR E v v':=by
 unfold d3z at h
 split at h
 ·rename_i z fields hz hu
  obtain⟨zv,rz,vz⟩:=a4r ok hz
  split at h
  ·rename_i places hpl
   split at h<;>simp at h
   rename_i l hl
   subst h
   obtain⟨r',e1,e2⟩:=b0i (place':=fun i=>places.toArray[i]?) (fun i p hp=>by rw[a4w] at hp; simpa using hp) ps ps' z.cells zv.cells l hl h1 h2 (vz E).cells
   refine⟨.agg r',?_,?_⟩
   ·have hm:(fields.mapM (m:=Sem) fun f=>do pure (f.offset,← Go.sizeOf f.type)).run P w=.ok places.toArray w:=by
     rw[Array.mapM_eq_mapM_toList]
     simp only[Sem.run_map,b7m ok fields.toList places hpl w,Result.andThen_ok]
    simp only[Instr.build,Sem.run_bind,rz,Result.andThen_ok,a0i ok hu]
    simp only[hm,Result.andThen_ok,e1]
    rfl
   ·have:=VR.agg (E:=E) l r'.toList e2
    simpa using this
  ·simp at h
 ·rename_i z len elem hz hu
  obtain⟨zv,rz,vz⟩:=a4r ok hz
  split at h
  ·rename_i n hn
   split at h<;>simp at h
   rename_i l hl
   subst h
   obtain⟨r',e1,e2⟩:=b0i (place':=fun i=>some (i*n,n)) (fun i p hp=>hp) ps ps' z.cells zv.cells l hl h1 h2 (vz E).cells
   refine⟨.agg r',?_,?_⟩
   ·simp only[Instr.build,Sem.run_bind,rz,Result.andThen_ok,a0i ok hu,a1o ok hn]
    simp only[e1]
    rfl
   ·have:=VR.agg (E:=E) l r'.toList e2
    simpa using this
  ·simp at h
 ·simp at h
theorem a6c {α:Type}(l:List α):∀ n,(times l n).length=n*l.length
 |0=>by simp[times]
 |n+1=>by simp[times,a6c l n,Nat.succ_mul]; omega
theorem c5z {α:Type}(l:List α):∀ (n i:Nat),i<n*l.length→(times l n)[i]?=l[i % l.length]?
 |0,i,h=>by simp at h
 |n+1,i,h=>by
  have hpos:0<l.length:=by
   rcases Nat.eq_zero_or_pos l.length with h0|h0
   ·rw[h0] at h; simp at h
   ·exact h0
  simp only[times]
  by_cases hi:i<l.length
  ·rw[List.getElem?_append_left hi,Nat.mod_eq_of_lt hi]
  ·rw[List.getElem?_append_right (by omega),c5z l n (i-l.length) (by rw[Nat.succ_mul] at h; omega)]
   congr 1
   rw[← Nat.mod_eq_sub_mod (by omega)]
theorem a6y (ok:a0v P T){elem:TypeId}{n:Nat}{l:List AV}(h:a5w T elem n=some l){sz:Nat}(hl:l.length=n*sz){E:En}(w:World) :
  ∃ z:Array Value,((if n*sz=0 then pure #[] else do pure (← Go.zeroValue elem).cells:Sem (Array Value))).run P w=.ok z w ∧
   VRs E l ((Array.range (n*sz)).map fun i=>z[i % z.size]!).toList:=by
 unfold a5w at h
 split at h
 ·rename_i hn
  simp at h; subst h; subst hn
  exact⟨#[],by simp,by simp; exact .nil⟩
 ·rename_i hn
  split at h<;>simp at h
  rename_i z hz
  subst h
  obtain⟨zv,rz,vz⟩:=a4r ok hz
  rw[a6c] at hl
  have hc:=(vz E).cells
  have hcl:=hc.length
  have hzl:z.cells.length=sz:=Nat.eq_of_mul_eq_mul_left (by omega) hl
  by_cases h0:n*sz=0
  ·refine⟨#[],by simp[h0],?_⟩
   have:sz=0:=by
    rcases Nat.mul_eq_zero.1 h0 with h1|h1
    ·exact absurd h1 hn
    ·exact h1
   have hnil:times z.cells n=[]:=by
    apply List.eq_nil_of_length_eq_zero
    rw[a6c,hzl,h0]
   rw[hnil,h0]; simp; exact .nil
  ·refine⟨zv.cells,by simp[h0,rz],?_⟩
   have hsz:zv.cells.size=sz:=by rw[← hzl,hcl]; simp
   apply VRs.e3r
   ·rw[a6c,hzl]; simp
   ·intro i x hx
    have hi:i<n*sz:=by
     rcases Nat.lt_or_ge i (n*sz) with h1|h1
     ·exact h1
     ·rw[List.getElem?_eq_none (by rw[a6c,hzl]; exact h1)] at hx; simp at hx
    rw[c5z _ _ _ (by rw[hzl]; exact hi),hzl] at hx
    obtain⟨x',h1,h2⟩:=hc.get hx
    refine⟨x',?_,h2⟩
    have hm:i % sz<zv.cells.size:=by
     rw[hsz]; apply Nat.mod_lt
     rcases Nat.eq_zero_or_pos sz with h3|h3
     ·rw[h3] at h0; simp at h0
     ·exact h3
    simp only[Array.toList_map,List.getElem?_map,Array.getElem?_toList]
    rw[Array.getElem?_range,if_pos hi]
    simp only[Option.map_some,Option.some.injEq]
    rw[hsz,getElem!_pos zv.cells (i % sz) hm]
    have:zv.cells[i % sz]?=some x':=by simpa using h1
    rw[Array.getElem?_eq_getElem hm] at this
    simpa using this
end Ev
end
section
namespace Ev
open Go Go.RowKit
variable {P:Program}{T:a0k}{base:Nat}{w0:World}
inductive OVR (E:En):Option AV→Option Value→Prop
 |none:OVR E none none
 |some (a:AV) (v:Value) (h:VR E a v):OVR E (some a) (some v)
theorem a6u {y y':Nat}{a:AV}{n:Nat}(h:a5q y a=some n) (hy:y≤y'){E:En}{v:Value}(hv:VR E a v) (code:BoundsCode) (w:World) :
  (Instr.sliceBound v y' code).run P w=.ok n w∧n≤y:=by
 unfold a5q at h
 split at h
 ·cases hv
  split at h<;>simp at h
  rename_i k i hi
  subst h
  refine⟨?_,by omega⟩
  have:0≤i∧i≤(y':Int):=⟨hi.1,by omega⟩
  simp[Instr.sliceBound,asIntOf,this]
 ·simp at h
theorem c4p {len cap:Nat}{lo hi mx:Option AV}{l hh m:Nat}(h:a2y len cap lo hi mx=some (l,hh,m)):mxA cap mx=some m∧hiA len m hi mx=some hh∧loA hh lo=some l:=by
 unfold a2y at h
 split at h
 ·simp at h
 ·rename_i m0 h0
  split at h
  ·simp at h
  ·rename_i h1 e1
   split at h<;>simp at h
   rename_i l0 e2
   obtain⟨rfl,rfl,rfl⟩:=h
   exact⟨h0,e1,e2⟩
theorem a6f {len cap cap':Nat}{lo hi mx:Option AV}{l hh m:Nat}(h:a2y len cap lo hi mx=some (l,hh,m)) (hc:cap≤cap'){E:En}{lo' hi' mx':Option Value}
  (hlo:OVR E lo lo') (hhi:OVR E hi hi') (hmx:OVR E mx mx') (b:Bool) (w:World) :
  (Instr.sliceBounds b len cap' lo' hi' mx').run P w=.ok (l,hh,if mx.isSome then m else cap') w∧l≤hh∧m≤cap∧(mx=none→m=cap)∧(hi.isSome→hh≤m)∧(hi=none→hh=len):=by
 obtain⟨e1,e2,e3⟩:=c4p h
 cases hmx with
 |none =>
  simp[mxA] at e1
  subst e1
  cases hhi with
  |none =>
   simp[hiA] at e2
   subst e2
   cases hlo with
   |none =>
    simp[loA] at e3; subst e3
    simp[Instr.sliceBounds]
   |some a2 v2 hv2 =>
    have k2:=a6u (P:=P) e3 (Nat.le_refl _) hv2 .sliceB w
    simp[Instr.sliceBounds,k2.1,k2.2]
  |some a v hv =>
   have k:=a6u (P:=P) e2 hc hv (if b then .sliceAcap else .sliceAlen) w
   cases hlo with
   |none =>
    simp[loA] at e3; subst e3
    simp[Instr.sliceBounds,k.1,k.2]
   |some a2 v2 hv2 =>
    have k2:=a6u (P:=P) e3 (Nat.le_refl _) hv2 .sliceB w
    simp[Instr.sliceBounds,k.1,k.2,k2.1,k2.2]
 |some am vm hvm =>
  have k0:=a6u (P:=P) e1 hc hvm (if b then .slice3Acap else .slice3Alen) w
  cases hhi with
  |none=>simp[hiA] at e2
  |some a v hv =>
   have k:=a6u (P:=P) e2 (Nat.le_refl _) hv .slice3B w
   cases hlo with
   |none =>
    simp[loA] at e3; subst e3
    simp[Instr.sliceBounds,k0.1,k0.2,k.1,k.2]
   |some a2 v2 hv2 =>
    have k2:=a6u (P:=P) e3 (Nat.le_refl _) hv2 .slice3C w
    simp[Instr.sliceBounds,k0.1,k0.2,k.1,k.2,k2.1,k2.2]
theorem e4q {E:En}{h:a0a}{w:World}(H:HR P base w0 E h w){b o sz k:Nat}(hd:E.dom b) (hk:o+k*sz=E.ext b){e:TypeId}{cs:List AV}{rw:Bool}(hg:h.get b=some (.cells e cs rw)) :
  (cs.length-o) / sz≤k:=by
 obtain⟨c',z,_,_,p3,_⟩:=H.obj b _ hd hg
 rcases Nat.eq_zero_or_pos sz with h0|h0
 ·subst h0; simp
 ·apply Nat.le_of_lt_succ
  rw[Nat.div_lt_iff_lt_mul h0,Nat.succ_mul]
  omega
theorem c6x {E:En}{h:a0a}{w:World}(H:HR P base w0 E h w){sz:Nat}{x v:AV}{lo hi mx:Option AV}(hs:a3j sz h x lo hi mx=some v)
  {x':Value} (hx:VR E x x') {lo' hi' mx':Option Value} (hlo:OVR E lo lo') (hhi:OVR E hi hi') (hmx:OVR E mx mx') :
  ∃ a len cap l hh m,x'=.slice a len cap∧(Instr.sliceBounds true len cap lo' hi' mx').run P w=.ok (l,hh,m) w ∧
   VR E v (.slice (if m=l then a else a.map (·.add (l*sz))) (hh-l) (m-l)):=by
 unfold a3j at hs
 split at hs
 ·cases hx
  split at hs<;>simp at hs
  rename_i l hh m hb
  subst hs
  obtain⟨k1,k2,k3,k4,k5,k6⟩:=a6f (P:=P) hb (Nat.le_refl _) hlo hhi hmx true w
  refine⟨_,_,_,_,_,_,rfl,k1,?_⟩
  have hl:l=0:=by
   cases hi with
   |none=>have:=k6 rfl; omega
   |some _=>have:=k5 rfl; omega
  have hh0:hh=0:=by
   cases hi with
   |none=>exact k6 rfl
   |some _=>have:=k5 rfl; omega
  subst hl; subst hh0
  have hm:(if mx.isSome=true then m else 0)=0:=by split<;>omega
  rw[hm]
  simp
  exact .nilslice
 ·rename_i b off len cap
  cases hx with|slice _ _ _ _ hd =>
  split at hs<;>simp at hs
  rename_i l hh m hb
  subst hs
  obtain⟨k1,k2,k3,k4,k5,k6⟩:=a6f (P:=P) hb (Nat.le_refl _) hlo hhi hmx true w
  refine⟨_,_,_,_,_,_,rfl,k1,?_⟩
  have hm:(if mx.isSome=true then m else cap)=m:=by
   cases mx with
   |none=>simp[k4 rfl]
   |some _=>simp
  rw[hm]
  by_cases e:m=l
  ·rw[if_pos e,if_pos e]; exact .slice _ _ _ _ hd
  ·rw[if_neg e,if_neg e]
   simp only[Option.map_some,En.a4u]
   exact .slice _ _ _ _ hd
 ·rename_i b off len sz'
  cases hx with|oslice _ _ _ _ k hd hk =>
  split at hs
  ·simp at hs
  ·rename_i hsz
   have hsz:sz'=sz:=by simpa using hsz
   subst hsz
   split at hs
   ·rename_i e cs rw hg
    have hkn:=e4q H hd hk hg
    simp only at hs
    split at hs
    ·rename_i l hh m hb
     obtain⟨k1,k2,k3,k4,k5,k6⟩:=a6f (P:=P) hb hkn hlo hhi hmx true w
     refine⟨_,_,_,_,_,_,rfl,k1,?_⟩
     cases mx with
     |some _ =>
      simp only[Option.isSome_some,if_true]
      simp only at hs
      split at hs<;>simp at hs
      rename_i hlm
      subst hs
      rw[if_neg (by omega)]
      simp only[Option.map_some,En.a4u]
      exact .slice _ _ _ _ hd
     |none =>
      simp only[Option.isSome_none,Bool.false_eq_true,if_false]
      simp only at hs
      split at hs
      ·rename_i hl
       simp at hs; subst hs
       rw[if_neg (by omega)]
       simp only[Option.map_some,En.a4u]
       refine .oslice _ _ _ _ _ hd ?_
       rw[← hk,Nat.add_assoc,← Nat.add_mul]
       congr 2; omega
      ·split at hs
       ·rename_i hl hl0
        simp at hs; subst hs; subst hl0
        have:(if k=0 then some (E.at b off) else Option.map (fun x=>x.add (0*sz')) (some (E.at b off)))=some (E.at b off):=by
         split
         ·rfl
         ·simp[En.a4u]
        rw[this]
        exact .oslice _ _ _ _ _ hd (by simpa using hk)
       ·split at hs<;>simp at hs
        rename_i hl hl0 hhl
        subst hs; subst hhl
        rw[Nat.sub_self]
        split
        ·exact .eslice _ _
        ·exact .eslice _ _
    ·simp at hs
   ·simp at hs
 ·cases hx with|eslice a k =>
  split at hs<;>simp at hs
  rename_i l hh m hb
  subst hs
  obtain⟨k1,k2,k3,k4,k5,k6⟩:=a6f (P:=P) hb (Nat.zero_le k) hlo hhi hmx true w
  refine⟨_,_,_,_,_,_,rfl,k1,?_⟩
  have hh0:hh-l=0:=by
   cases hi with
   |none=>have:=k6 rfl; omega
   |some _=>have:=k5 rfl; omega
  rw[hh0]
  by_cases e:(if mx.isSome=true then m else k)=l
  ·rw[if_pos e]; exact .eslice _ _
  ·rw[if_neg e]; exact .eslice _ _
 ·simp at hs
theorem c0m (s:List UInt8) (l h:Nat):(⟨s.toArray⟩:ByteArray).extract l h=⟨((s.drop l).take (h-l)).toArray⟩:=by
 apply ByteArray.ext
 rw[ByteArray.data_extract]
 simp
theorem b9y (ok:a0v P T){E:En}{h:a0a}{w:World}(H:HR P base w0 E h w){t:TypeId}{x v:AV}{lo hi mx:Option AV}(hs:b4m T t h x lo hi mx=some v)
  {x':Value} (hx:VR E x x') {lo' hi' mx':Option Value} (hlo:OVR E lo lo') (hhi:OVR E hi hi') (hmx:OVR E mx mx') :
  ∃ v',(Instr.sliceAt t x' lo' hi' mx').run P w=.ok v' w∧VR E v v':=by
 unfold b4m at hs
 split at hs
 ·rename_i s hu
  cases hx
  split at hs
  ·simp at hs
  ·cases hmx
   split at hs<;>simp at hs
   rename_i l hh m hb
   subst hs
   obtain⟨k1,k2,k3,k4,k5,k6⟩:=a6f (P:=P) hb (Nat.le_refl _) hlo hhi (.none:OVR E none none) false w
   refine⟨_,?_,.str _⟩
   have hsz:(⟨s.toArray⟩:ByteArray).size=s.length:=by simp[ByteArray.size]
   simp only[Instr.sliceAt,Instr.slice,Sem.run_bind,a0i ok hu,Result.andThen_ok,hsz]
   simp[k1,c0m,cut]
 ·rename_i elem hu
  split at hs
  ·rename_i sz hsz
   obtain⟨a,len,cap,l,hh,m,rfl,k1,k2⟩:=c6x (P:=P) H hs hx hlo hhi hmx
   refine⟨_,?_,k2⟩
   simp[Instr.sliceAt,Instr.slice,a0i ok hu,k1,a1o ok hsz]
  ·simp at hs
 ·rename_i n elem b off hu
  cases hx with|ptr _ _ hd =>
  split at hs
  ·rename_i sz l hh m hsz hb
   simp at hs; subst hs
   obtain⟨k1,k2,k3,k4,k5,k6⟩:=a6f (P:=P) hb (Nat.le_refl _) hlo hhi hmx false w
   have hm:(if mx.isSome=true then m else n)=m:=by
    cases mx with
    |none=>simp[k4 rfl]
    |some _=>simp
   rw[hm] at k1
   refine⟨_,?_,.slice _ _ _ _ hd⟩
   simp only[Instr.sliceAt,Instr.sureAddr,Sem.run_bind,a0i ok hu,Result.andThen_ok,Sem.run_pure,k1,a1o ok hsz]
   by_cases e:m=l
   ·rw[if_pos e,if_pos e]
   ·rw[if_neg e,if_neg e,En.a4u]
  ·simp at hs
 ·simp at hs
theorem c3p {E:En}{x:AV}{n:Nat}(h:a5a x=some n){x':Value}(hx:VR E x x') (w:World):(Builtin.lenOf x').run P w=.ok n w:=by
 unfold a5a at h
 split at h<;>simp at h<;>subst h<;>cases hx<;>simp[Builtin.lenOf,ByteArray.size]
theorem b5a (E:En):∀ (s:List UInt8),VRs E (u8s s) (s.map fun b=>Value.int .u8 b.toNat)
 |[]=>.nil
 |_::s=>.cons _ _ _ _ (.int _ _) (b5a E s)
theorem b3z {E:En}{h:a0a}{w:World}(H:HR P base w0 E h w){sz n:Nat}{x:AV}{l:List AV}(hf:a3z sz n h x=some l){x':Value}(hx:VR E x x') :
  ∃ c:Array Value,(Builtin.firstCells sz n x').run P w=.ok c w∧VRs E l c.toList:=by
 unfold a3z at hf
 split at hf
 ·cases hx
  split at hf<;>simp at hf
  subst hf
  exact⟨#[],by simp[Builtin.firstCells],.nil⟩
 ·cases hx
  split at hf<;>simp at hf
  rename_i hn
  subst hf; subst hn
  exact⟨#[],by simp[Builtin.firstCells,loadCells,loadCellsFrom],.nil⟩
 ·cases hx with|slice _ _ _ _ hd =>
  obtain⟨l',h1,h2⟩:=a5t (P:=P) hd H hf
  exact⟨l'.toArray,by simpa [Builtin.firstCells] using h1,by simpa using h2⟩
 ·cases hx with|oslice _ _ _ _ k hd hk =>
  obtain⟨l',h1,h2⟩:=a5t (P:=P) hd H hf
  exact⟨l'.toArray,by simpa [Builtin.firstCells] using h1,by simpa using h2⟩
 ·cases hx
  rename_i s
  simp at hf; subst hf
  refine⟨((s.take n).map fun b=>Value.int .u8 b.toNat).toArray,?_,by simpa using b5a E (s.take n)⟩
  simp[Builtin.firstCells,c0m]
 ·simp at hf
end Ev
end
section
namespace Ev
open Go Go.RowKit
variable {P:Program}{T:a0k}{base:Nat}{w0:World}
theorem c2t {need bytes:Nat}(h:a2u need bytes=true):(4*need+1000)*(bytes+1)≤140737488355328:=by
 unfold a2u at h
 exact Nat.le_of_ble_eq_true h
theorem c5u (newLen:Nat):∀ (r c:Nat),c≤newLen+(newLen+768) / 4→Builtin.growBy newLen r c≤newLen+(newLen+768) / 4
 |0,c,h=>h
 |r+1,c,h=>by
  unfold Builtin.growBy
  split
  ·exact h
  ·exact c5u newLen r _ (by omega)
theorem d1y {need k:Nat}(h:k<need):Builtin.nextslicecap need k≤4*need+1000:=by
 unfold Builtin.nextslicecap
 split
 ·omega
 ·split
  ·omega
  ·have:=c5u need 4 k (by omega); omega
theorem d4h (ok:a0v P T){st:TypeId}{rest:List TypeId}{z:Bool}(h:a3x T rest=some z) (w:World) :
  ((match (st::rest).toArray[1]? with
    |some xType=>do pure ((← underlying xType) matches .int _)
    |none=>pure false:Sem Bool)).run P w=.ok z w:=by
 cases rest with
 |nil=>simp[a3x] at h; subst h; simp
 |cons xt l =>
  simp only[a3x] at h
  split at h
  ·rename_i hu; simp at h; subst h; simp[a0i ok hu]
  ·rename_i d hd hu
   simp at h; subst h
   simp[a0i ok hu]
  ·simp at h
theorem c0l {elem:TypeId}{sz:Nat}(h:a5y T elem sz=true):∃ z,T.zero elem=some z∧z.cells.length=sz:=by
 unfold a5y at h
 split at h
 ·rename_i z hz; exact⟨z,hz,Nat.eq_of_beq_eq_true h⟩
 ·simp at h
def inPlace (basea:Option Addr) (sl n sCap sz:Nat) (nc:Array Value):Sem Value:=match basea with
 |some a=>do
  storeCells (a.add (sl*sz)) nc.toList
  pure (Value.slice basea (sl+n) sCap)
 |_=>pure (Value.slice basea (sl+n) sCap)
structure Src (P:Program) (T:a0k) (E:En) (elem:TypeId) (rest:List TypeId) (x':Value) (sz n:Nat) (new:List AV) (w:World):Prop where
 kind:(a3x T rest=some false∧(∀ w',(Builtin.lenOf x').run P w'=.ok n w')∧∀ w',w'.heap=w.heap→∃ nc:Array Value,(Builtin.firstCells sz n x').run P w'=.ok nc w'∧VRs E new nc.toList) ∨
  (a3x T rest=some true∧(∃ k,x'=.int k (n:Int))∧n≤1073741824∧∃ zv:Value,(∀ w',(zeroValue elem).run P w'=.ok zv w')∧zv.cells.size=sz∧VRs E new (Builtin.zeroCells zv.cells n).toList)
theorem HR.heap {E:En}{h:a0a}{w w':World}(H:HR P base w0 E h w) (hh:w'.heap=w.heap) (ho:w'.os=w.os) (ht:w'.tape=w.tape) (hu:w'.output=w.output) (hd:w.drawn≤w'.drawn):HR P base w0 E h w' where
 dlt:=H.dlt
 obj b o hb hg:=OR'.same (by rw[hh]) (H.obj b o hb hg)
 inj:=H.inj
 wd:=⟨ho.trans H.wd.os,ht.trans H.wd.tape,hu.trans H.wd.output,by rw[hh]; exact H.wd.size,fun k hk=>by rw[hh]; exact H.wd.block k hk⟩
 drawn:=Nat.le_trans H.drawn hd
 bsz:=by rw[hh]; exact H.bsz
 blt b hb:=by rw[hh]; exact H.blt b hb
theorem a7b (z:Array Value) (n:Nat):(Builtin.zeroCells z n).size=n*z.size:=by simp[Builtin.zeroCells]
theorem f0l (ok:a0v P T){E:En}{h:a0a}{w:World}(H:HR P base w0 E h w){elem:TypeId}{rest:List TypeId}{x:AV}{x':Value}(hx:VR E x x'){sz n:Nat}{new:List AV}
  (hn:b0z T rest x=some n) (hnew:c4r T elem sz n h rest x=some new) (hzero:a5y T elem sz=true):Src P T E elem rest x' sz n new w:=by
 unfold b0z at hn
 unfold c4r at hnew
 split at hn
 ·rename_i k i hm
  rw[hm] at hnew
  simp only at hnew
  split at hn<;>simp at hn
  rename_i hi
  cases hx
  obtain⟨z,hz,hzl⟩:=c0l hzero
  obtain⟨zv,rz,vz⟩:=a4r ok hz
  have hzs:zv.cells.size=sz:=by
   have:=(vz E).cells.length
   rw[hzl] at this; simp at this; exact this.symm
  split at hnew
  ·rename_i l hl
   split at hnew<;>simp at hnew
   rename_i hlen
   subst hnew
   refine⟨.inr ⟨hm,⟨k,?_⟩,by omega,zv,rz,hzs,?_⟩⟩
   ·congr 1; omega
   ·obtain⟨z2,r2,v2⟩:=a6y ok hl hlen (E:=E) w
    have:(Builtin.zeroCells zv.cells n)=(Array.range (n*sz)).map fun i=>z2[i % z2.size]! := by
     unfold Builtin.zeroCells
     rw[hzs]
     by_cases h0:n*sz=0
     ·rw[h0]; simp
     ·simp[h0,rz] at r2
      subst r2
      rw[hzs]
    rw[this]; exact v2
  ·simp at hnew
 ·rename_i hm
  rw[hm] at hnew
  simp only at hnew
  refine⟨.inl ⟨hm,fun w'=>c3p hn hx w',fun w' hw=>?_⟩⟩
  -- the same heap: read in the world as it stands
  have H':HR P base { w0 with drawn:=0,os:=w'.os,tape:=w'.tape,output:=w'.output } E h w':=⟨H.dlt,fun b o hb hg=>OR'.same (by rw[hw]) (H.obj b o hb hg),H.inj,⟨rfl,rfl,rfl,by rw[hw]; exact H.wd.size,fun k hk=>by rw[hw]; exact H.wd.block k hk⟩,Nat.zero_le _,by rw[hw]; exact H.bsz,fun b hb=>by rw[hw]; exact H.blt b hb⟩
  exact b3z (P:=P) H' hnew hx
 ·simp at hn
set_option maxHeartbeats 1000000 in
theorem b1e (ok:a0v P T){ty st elem:TypeId}{rest:List TypeId}{x':Value}(hu:T.und st=some (.slice elem)){sz n sl sCap:Nat}{basea:Option Addr}(hsz:T.size elem=some sz)
  {ei:TypeInfo} (hei:T.ti elem=some ei) {E:En} {w:World} {new:List AV} (S:Src P T E elem rest x' sz n new w) (hroom:a2u (sl+n) ei.bytes=true) (hle:sl+n≤sCap) :
  ∃ nc:Array Value,VRs E new nc.toList∧(Builtin.append_ (st::rest).toArray ty #[.slice basea sl sCap,x']).run P w=(inPlace basea sl n sCap sz nc).run P w:=by
 rcases S.kind with ⟨hm,hlen,hnc⟩|⟨hm,⟨k,rfl⟩,hn30,zv,rz,hzs,hv⟩
 ·obtain⟨nc,r1,v1⟩:=hnc w rfl
  refine⟨nc,v1,?_⟩
  have mk:=d4h ok (st:=st) hm w
  unfold Builtin.append_ inPlace
  cases rest with
  |nil =>
   simp[a0i ok hu,a1o ok hsz,hlen,hle,r1]
   cases basea<;>simp
  |cons xt l =>
   simp[a3x] at hm
   split at hm
   ·simp at hm
   ·rename_i d hd hu2
    simp[a0i ok hu,a0i ok hu2,a1o ok hsz,hlen,hle,r1]
    cases basea<;>simp
   ·simp at hm
 ·refine⟨_,hv,?_⟩
  have hr:=c2t hroom
  unfold Builtin.append_ inPlace
  cases rest with
  |nil=>simp[a3x] at hm
  |cons xt l =>
   simp[a3x] at hm
   split at hm
   ·rename_i k2 hu2
    have hw:IntKind.i64.wrap (n:Int)=n:=by simp[IntKind.wrap,IntKind.bits,IntKind.signed]; omega
    have hb:¬ 281474976710656<(n:Int)*(ei.bytes:Int):=by
     have:n*ei.bytes≤(4*(sl+n)+1000)*(ei.bytes+1):=Nat.mul_le_mul (by omega) (by omega)
     have h2:((n*ei.bytes:Nat):Int)≤140737488355328:=by omega
     rw[Int.natCast_mul] at h2
     omega
    have h0:¬ (n:Int)<0:=by omega
    simp[a0i ok hu,a0i ok hu2,a1o ok hsz,b4i ok hei,hle,asInt,asIntOf,hw,rz,hb,h0]
    by_cases hz:n*sz=0
    ·have hnil:(Builtin.zeroCells zv.cells n).toList=[]:=by
      apply List.eq_nil_of_length_eq_zero
      have:=a7b zv.cells n
      rw[hzs,hz] at this
      simpa using this
     rw[if_pos hz,hnil]
     cases basea<;>simp
    ·rw[if_neg hz]
     cases basea<;>simp
   ·simp at hm
   ·simp at hm
set_option maxHeartbeats 2000000 in
theorem d4d (ok:a0v P T){ty st elem:TypeId}{rest:List TypeId}{x':Value}(hu:T.und st=some (.slice elem)){sz n sl sCap:Nat}{basea:Option Addr}(hsz:T.size elem=some sz)
  {ei:TypeInfo} (hei:T.ti elem=some ei) {E:En} {w:World} {new:List AV} (S:Src P T E elem rest x' sz n new w) (hroom:a2u (sl+n) ei.bytes=true) (hzero:a5y T elem sz=true) (hlt:sCap<sl+n)
  {oc:Array Value} (hoc:(Builtin.firstCells sz sl (.slice basea sl sCap)).run P w.drew=.ok oc w.drew) :
  ∃ (newCap:Nat) (nc zc:Array Value),sl+n≤newCap∧zc.size=(newCap-(sl+n))*sz∧VRs E new nc.toList ∧
   (Builtin.append_ (st::rest).toArray ty #[.slice basea sl sCap,x']).run P w=.ok (.slice (some ⟨w.heap.size,0,none⟩) (sl+n) newCap) (w.drew.alloc (.cells (oc++nc++zc) elem)):=by
 have hr:=c2t hroom
 obtain⟨z,hz,hzl⟩:=c0l hzero
 obtain⟨zv,rz,vz⟩:=a4r ok hz
 have hzs:zv.cells.size=sz:=by
  have:=(vz E).cells.length
  rw[hzl] at this; simp at this; exact this.symm
 have hle:¬ sl+n≤sCap:=by omega
 have hcap:=d1y hlt
 have hbig:¬ 281474976710656<Builtin.nextslicecap (sl+n) sCap*ei.bytes:=by
  have:Builtin.nextslicecap (sl+n) sCap*ei.bytes≤(4*(sl+n)+1000)*(ei.bytes+1):=Nat.mul_le_mul hcap (by omega)
  omega
 have hi64:¬ (9223372036854775807:Int)<(sl:Int)+(n:Int):=by
  have h1:1*(4*(sl+n)+1000)≤(4*(sl+n)+1000)*(ei.bytes+1):=by rw[Nat.mul_comm 1]; exact Nat.mul_le_mul (Nat.le_refl _) (by omega)
  omega
 have hforced:(Question.appendCap (sl+n) sCap elem).forced=false:=rfl
 generalize hcut:(Question.appendCap (sl+n) sCap elem).cut (w.tape w.drawn (Question.appendCap (sl+n) sCap elem))=newCap
 have hnc:sl+n≤newCap:=by rw[← hcut]; simp[Question.cut]
 rcases S.kind with ⟨hm,hlen,hnc0⟩|⟨hm,⟨k,rfl⟩,hn30,zv2,rz2,hzs2,hv⟩
 ·obtain⟨nc,r1,v1⟩:=hnc0 w.drew rfl
  refine⟨newCap,nc,Builtin.zeroCells zv.cells (newCap-(sl+n)),hnc,by rw[a7b,hzs],v1,?_⟩
  unfold Builtin.append_
  cases rest with
  |nil =>
   simp[a0i ok hu,a1o ok hsz,b4i ok hei,hlen,hle,hi64,hbig,hforced,hcut,hoc,r1,rz,newRow]
  |cons xt l =>
   simp[a3x] at hm
   split at hm
   ·simp at hm
   ·rename_i d hd hu2
    simp[a0i ok hu,a0i ok hu2,a1o ok hsz,b4i ok hei,hlen,hle,hi64,hbig,hforced,hcut,hoc,r1,rz,newRow]
   ·simp at hm
 ·refine⟨newCap,_,Builtin.zeroCells zv.cells (newCap-(sl+n)),hnc,by rw[a7b,hzs],hv,?_⟩
  unfold Builtin.append_
  cases rest with
  |nil=>simp[a3x] at hm
  |cons xt l =>
   simp[a3x] at hm
   split at hm
   ·rename_i k2 hu2
    have hw:IntKind.i64.wrap (n:Int)=n:=by simp[IntKind.wrap,IntKind.bits,IntKind.signed]; omega
    have hb:¬ 281474976710656<(n:Int)*(ei.bytes:Int):=by
     have:n*ei.bytes≤(4*(sl+n)+1000)*(ei.bytes+1):=Nat.mul_le_mul (by omega) (by omega)
     have h2:((n*ei.bytes:Nat):Int)≤140737488355328:=by omega
     rw[Int.natCast_mul] at h2
     omega
    have h0:¬ (n:Int)<0:=by omega
    have hzv:zv2=zv:=by
     have e1:=rz w; have e2:=rz2 w
     rw[e1] at e2; simpa using e2.symm
    subst hzv
    simp[a0i ok hu,a0i ok hu2,a1o ok hsz,b4i ok hei,asInt,asIntOf,hw,hb,h0,hle,hi64,hbig,hforced,hcut,hoc,rz,newRow]
    intro hz
    have hnil:(Builtin.zeroCells zv2.cells n) = #[]:=by
     apply Array.eq_empty_of_size_eq_zero
     rw[a7b,hzs,hz]
    rw[hnil]
    simp
   ·simp at hm
   ·simp at hm
end Ev
end
