/- A part of an evaluator of the program's form in Lean, of the proof that what it says of a call is what the machine does, and of the rules by which proofs walk over it. Conditions: those that each theorem states. -/
import Derived.Test.YtejfbaecadbdiaaGreatGaa
import Derived.Below
set_option linter.unusedVariables false
set_option linter.unusedSimpArgs false
section
namespace Ev
open Go Go.RowKit
namespace Tr
variable {α:Type}
theorem get_nil (n:Nat):(nil:Tr α).get n=none:=by cases n<;>rfl
theorem a4y (v:Option α) (l r:Tr α) (n:Nat):(node v l r).get n=match n with
  |0=>v
  |k+1=>match k % 2 with
   |0=>l.get (k / 2)
   |_+1=>r.get (k / 2):=by cases n<;>rfl
theorem f0j (v:Option α) (l r:Tr α):bl v l r=node v l r:=by cases l<;>rfl
theorem e9q (v:Option α) (l r:Tr α):br v l r=node v l r:=by cases r<;>rfl
theorem c2n:∀ (f:Nat) (t:Tr α) (n:Nat) (x:α) (m:Nat),n<f→(setAux f t n x).get m=if m=n then some x else t.get m
 |0,_,_,_,_,h=>by omega
 |f+1,t,n,x,m,h=>by
  have key:∀ (v:Option α) (l r:Tr α),(match n with
    |0=>node (some x) l r
    |k+1=>match k % 2 with
     |0=>node v (setAux f l (k / 2) x) r
     |_+1=>node v l (setAux f r (k / 2) x)).get m=if m=n then some x else(node v l r).get m:=by
   intro v l r
   cases n with
   |zero =>
    simp only[]
    rw[a4y,a4y]
    cases m<;>simp
   |succ k =>
    have ih:=fun t' m'=>c2n f t' (k / 2) x m' (by omega)
    simp only[]
    split
    ·rename_i hk
     rw[a4y,a4y]
     cases m with
     |zero=>simp
     |succ j =>
      simp only[]
      rw[ih]
      by_cases hj:j % 2=0
      ·simp only[hj]
       by_cases e:j / 2=k / 2
       ·have:j=k:=by omega
        simp[this]
       ·have:¬ j=k:=by omega
        simp[e,this]
      ·obtain⟨q,hq⟩:∃ q,j % 2=q+1:=⟨j % 2-1,by omega⟩
       have:¬ j=k:=by omega
       simp[hq,this]
    ·rename_i q hk
     rw[a4y,a4y]
     cases m with
     |zero=>simp
     |succ j =>
      simp only[]
      rw[ih]
      by_cases hj:j % 2=0
      ·have:¬ j=k:=by omega
       simp[hj,this]
      ·obtain⟨q',hq⟩:∃ q,j % 2=q+1:=⟨j % 2-1,by omega⟩
       simp only[hq]
       by_cases e:j / 2=k / 2
       ·have:j=k:=by omega
        simp[this]
       ·have:¬ j=k:=by omega
        simp[e,this]
  cases t with
  |nil =>
   have h0:(node none nil nil:Tr α).get m=(nil:Tr α).get m:=by
    rw[a4y,get_nil]
    cases m with
    |zero=>rfl
    |succ j=>simp only[get_nil]; split<;>rfl
   rw[← h0,← key none nil nil]
   simp only[setAux,f0j,e9q]
   cases n with
   |zero=>rfl
   |succ k =>
    simp only[]
    cases k % 2<;>rfl
  |node v l r =>
   rw[← key v l r]
   simp only[setAux,f0j,e9q]
   cases n with
   |zero=>rfl
   |succ k =>
    simp only[]
    cases k % 2<;>rfl
theorem a1d (t:Tr α) (n:Nat) (x:α) (m:Nat):(t.set n x).get m=if m=n then some x else t.get m :=
 c2n (n+1) t n x m (by omega)
theorem b5e:∀ (t:Tr α) (n m:Nat),(t.c2u n).get m=if m=n then none else t.get m
 |nil,n,m=>by simp[c2u,get_nil]
 |node v l r,n,m=>by
  cases n with
  |zero =>
   simp only[c2u]
   rw[a4y,a4y]
   cases m<;>simp
  |succ k =>
   simp only[c2u]
   have ihl:=fun m'=>b5e l (k / 2) m'
   have ihr:=fun m'=>b5e r (k / 2) m'
   split
   ·rename_i hk
    rw[a4y,a4y]
    cases m with
    |zero=>simp
    |succ j =>
     simp only[]
     rw[ihl]
     by_cases hj:j % 2=0
     ·simp only[hj]
      by_cases e:j / 2=k / 2
      ·have:j=k:=by omega
       simp[this]
      ·have:¬ j=k:=by omega
       simp[e,this]
     ·obtain⟨q,hq⟩:∃ q,j % 2=q+1:=⟨j % 2-1,by omega⟩
      have:¬ j=k:=by omega
      simp[hq,this]
   ·rename_i q hk
    rw[a4y,a4y]
    cases m with
    |zero=>simp
    |succ j =>
     simp only[]
     rw[ihr]
     by_cases hj:j % 2=0
     ·have:¬ j=k:=by omega
      simp[hj,this]
     ·obtain⟨q',hq⟩:∃ q,j % 2=q+1:=⟨j % 2-1,by omega⟩
      simp only[hq]
      by_cases e:j / 2=k / 2
      ·have:j=k:=by omega
       simp[this]
      ·have:¬ j=k:=by omega
       simp[e,this]
end Tr
theorem a4w {α:Type}:∀ (l:List α) (n:Nat),nth l n=l[n]?
 |[],n=>by simp[nth]
 |x::l,n=>by cases n with
  |zero=>simp[nth]
  |succ k=>simp[nth,a4w l k]
theorem b1s {α:Type}{l r:List α}{off n:Nat}(h:c4b l off n=some r):off+n≤l.length∧r=(l.drop off).take n:=by
 unfold c4b at h
 split at h
 ·exact⟨by assumption,by simpa [cut] using h.symm⟩
 ·simp at h
theorem b1i {α:Type}(l:List α) (off:Nat) (vs:List α) (h:off+vs.length≤l.length) (i:Nat) :
  (over l off vs)[i]?=if off≤i∧i<off+vs.length then vs[i-off]? else l[i]?:=by
 unfold over
 have hl:(l.take off).length=off:=by simp; omega
 by_cases h1:i<off
 ·rw[List.getElem?_append_left (by simp; omega),List.getElem?_append_left (by omega),if_neg (by omega),List.getElem?_take,if_pos h1]
 ·by_cases h2:i<off+vs.length
  ·rw[List.getElem?_append_left (by simp; omega),List.getElem?_append_right (by omega),if_pos (by omega),hl]
  ·rw[List.getElem?_append_right (by simp; omega),if_neg (by omega),List.getElem?_drop]
   congr 1; simp; omega
theorem a3v {α:Type}(l:List α) (off:Nat) (vs:List α) (h:off+vs.length≤l.length):(over l off vs).length=l.length:=by
 unfold over
 simp; omega
structure En where
 blk:Nat→Nat
 off:Nat→Nat
 ext:Nat→Nat
 dom:Nat→Prop
def En.at (E:En) (b o:Nat):Addr:=⟨E.blk b,E.off b+o,none⟩
structure En.Le (E E':En):Prop where
 dom:∀ b,E.dom b→E'.dom b
 blk:∀ b,E.dom b→E'.blk b=E.blk b
 off:∀ b,E.dom b→E'.off b=E.off b
 ext:∀ b,E.dom b→E'.ext b=E.ext b
theorem En.Le.refl (E:En):E.Le E:=⟨fun _ h=>h,fun _ _=>rfl,fun _ _=>rfl,fun _ _=>rfl⟩
theorem En.Le.trans {A B C:En}(h:A.Le B) (k:B.Le C):A.Le C :=
 ⟨fun b d=>k.dom b (h.dom b d),fun b d=>(k.blk b (h.dom b d)).trans (h.blk b d),fun b d=>(k.off b (h.dom b d)).trans (h.off b d),fun b d=>(k.ext b (h.dom b d)).trans (h.ext b d)⟩
theorem En.Le.at_ {E E':En}(h:E.Le E'){b:Nat}(d:E.dom b) (o:Nat):E'.at b o=E.at b o:=by
 simp[En.at,h.blk b d,h.off b d]
inductive FnR (E:En):Fn→Fn→Prop
 |yield (l:Nat) (h:E.dom l):FnR E (.yield l) (.yield (E.blk l))
 |same (f:Fn) (h:∀ l,f≠.yield l):FnR E f f
theorem FnR.mono {E E':En}(le:E.Le E'){f g:Fn}(h:FnR E f g):FnR E' f g:=by
 cases h with
 |yield l d=>rw[← le.blk l d]; exact .yield l (le.dom l d)
 |same _ hn=>exact .same _ hn
mutual
inductive VR (E:En):AV→Value→Prop
 |bool (b:Bool):VR E (.bool b) (.bool b)
 |int (k:IntKind) (n:Int):VR E (.int k n) (.int k n)
 |str (s:List UInt8):VR E (.str s) (.string ⟨s.toArray⟩)
 |ptr (b o:Nat) (h:E.dom b):VR E (.ptr b o) (.pointer (some (E.at b o)))
 |nilptr:VR E .nilptr (.pointer none)
 |slice (b o n c:Nat) (h:E.dom b):VR E (.slice b o n c) (.slice (some (E.at b o)) n c)
 |oslice (b o n sz k:Nat) (h:E.dom b) (hk:o+k*sz=E.ext b):VR E (.oslice b o n sz) (.slice (some (E.at b o)) n k)
 |eslice (a:Addr) (k:Nat):VR E .eslice (.slice (some a) 0 k)
 |nilslice:VR E .nilslice (.slice none 0 0)
 |map (b:Nat) (h:E.dom b):VR E (.map b) (.map (some (E.blk b)))
 |nilmap:VR E .nilmap (.map none)
 |func (f f':Fn) (hf:FnR E f f') (l m:List AV) (l' m':List Value) (hl:VRs E l l') (hm:VRs E m m'):VR E (.func f l m) (.func f' l'.toArray m'.toArray)
 |nilfunc:VR E .nilfunc .nilFunc
 |iface (t:TypeId) (v:AV) (v':Value) (h:VR E v v'):VR E (.iface t v) (.iface t v')
 |niliface:VR E .niliface .nilIface
 |agg (l:List AV) (l':List Value) (h:VRs E l l'):VR E (.agg l) (.agg l'.toArray)
 |tuple (l:List AV) (l':List Value) (h:VRs E l l'):VR E (.tuple l) (.tuple l'.toArray)
 |raw (b o:Nat):VR E (.raw b o) (.pointer (some ⟨b,o,none⟩))
 |own (b n:Nat) (h:E.dom b) (h0:E.off b=0) (hk:E.ext b=n):VR E (.own b n) (.pointer (some (E.at b 0)))
inductive VRs (E:En):List AV→List Value→Prop
 |nil:VRs E [] []
 |cons (v:AV) (v':Value) (l:List AV) (l':List Value) (h:VR E v v') (hl:VRs E l l'):VRs E (v::l) (v'::l')
end
mutual
theorem VR.mono {E E':En}(le:E.Le E'):∀ {a:AV}{v:Value},VR E a v→VR E' a v
 |_,_,.bool b=>.bool b
 |_,_,.int k n=>.int k n
 |_,_,.str s=>.str s
 |_,_,.ptr b o h=>by rw[← le.at_ h]; exact .ptr b o (le.dom b h)
 |_,_,.nilptr=>.nilptr
 |_,_,.slice b o n c h=>by rw[← le.at_ h]; exact .slice b o n c (le.dom b h)
 |_,_,.oslice b o n sz k h hk=>by rw[← le.at_ h]; exact .oslice b o n sz k (le.dom b h) (by rw[le.ext b h]; exact hk)
 |_,_,.eslice a k=>.eslice a k
 |_,_,.nilslice=>.nilslice
 |_,_,.map b h=>by rw[← le.blk b h]; exact .map b (le.dom b h)
 |_,_,.nilmap=>.nilmap
 |_,_,.func f f' hf l m l' m' hl hm=>.func f f' (hf.mono le) l m l' m' (VRs.mono le hl) (VRs.mono le hm)
 |_,_,.nilfunc=>.nilfunc
 |_,_,.iface t v v' h=>.iface t v v' (VR.mono le h)
 |_,_,.niliface=>.niliface
 |_,_,.agg l l' h=>.agg l l' (VRs.mono le h)
 |_,_,.tuple l l' h=>.tuple l l' (VRs.mono le h)
 |_,_,.raw b o=>.raw b o
 |_,_,.own b n h h0 hk=>by rw[← le.at_ h]; exact .own b n (le.dom b h) (by rw[le.off b h]; exact h0) (by rw[le.ext b h]; exact hk)
theorem VRs.mono {E E':En}(le:E.Le E'):∀ {a:List AV}{v:List Value},VRs E a v→VRs E' a v
 |_,_,.nil=>.nil
 |_,_,.cons v v' l l' h hl=>.cons v v' l l' (VR.mono le h) (VRs.mono le hl)
end
theorem VRs.length {E:En}:∀ {a:List AV}{v:List Value},VRs E a v→a.length=v.length
 |_,_,.nil=>rfl
 |_,_,.cons _ _ _ _ _ h=>by simp[h.length]
theorem VRs.get {E:En}:∀ {a:List AV}{v:List Value},VRs E a v→∀ {i:Nat}{x:AV},a[i]?=some x→∃ x',v[i]?=some x'∧VR E x x'
 |_,_,.nil,i,x,h=>by simp at h
 |_,_,.cons v v' l l' hv hl,i,x,h=>by
  cases i with
  |zero=>simp at h; subst h; exact⟨v',by simp,hv⟩
  |succ k=>simp at h; obtain⟨x',h1,h2⟩:=hl.get h; exact⟨x',by simpa using h1,h2⟩
theorem VRs.append {E:En}:∀ {a:List AV}{v:List Value}{b:List AV}{u:List Value},VRs E a v→VRs E b u→VRs E (a++b) (v++u)
 |_,_,_,_,.nil,h=>h
 |_,_,_,_,.cons x x' l l' hx hl,h=>.cons x x' _ _ hx (hl.append h)
theorem VRs.take {E:En}:∀ {a:List AV}{v:List Value}(n:Nat),VRs E a v→VRs E (a.take n) (v.take n)
 |_,_,0,_=>by simp; exact .nil
 |_,_,n+1,.nil=>by simp; exact .nil
 |_,_,n+1,.cons x x' l l' hx hl=>by simp only[List.take_succ_cons]; exact .cons x x' _ _ hx (hl.take n)
theorem VRs.drop {E:En}:∀ {a:List AV}{v:List Value}(n:Nat),VRs E a v→VRs E (a.drop n) (v.drop n)
 |_,_,0,h=>by simpa using h
 |_,_,n+1,.nil=>by simp; exact .nil
 |_,_,n+1,.cons x x' l l' hx hl=>by simp only[List.drop_succ_cons]; exact hl.drop n
theorem VRs.over {E:En}{a b:List AV}{v u:List Value}(off:Nat) (h:VRs E a v) (k:VRs E b u):VRs E (over a off b) (over v off u):=by
 unfold Ev.over
 rw[k.length]
 exact((h.take off).append k).append (h.drop _)
theorem VRs.e3r {E:En}:∀ (a:List AV) (v:List Value),a.length=v.length→(∀ (i:Nat) (x:AV),a[i]?=some x→∃ x',v[i]?=some x'∧VR E x x')→VRs E a v
 |[],[],_,_=>.nil
 |[],_::_,h,_=>by simp at h
 |_::_,[],h,_=>by simp at h
 |x::a,y::v,h,k=>by
  obtain⟨x',h1,h2⟩:=k 0 x (by simp)
  simp at h1; subst h1
  exact .cons x y a v h2 (VRs.e3r a v (by simpa using h) fun i z hz=>by
   obtain⟨z',h3,h4⟩:=k (i+1) z (by simpa using hz)
   exact⟨z',by simpa using h3,h4⟩)
theorem VR.cells {E:En}{a:AV}{v:Value}(h:VR E a v):VRs E a.cells v.cells.toList:=by
 cases h with
 |agg l l' hl=>simpa [AV.cells,Value.cells] using hl
 |_=>all_goals (simp only[AV.cells,Value.cells]; exact .cons _ _ _ _ (by constructor<;>assumption) .nil)
theorem VR.one {E:En}{a:AV}{v:Value}(h:VR E a v) (ho:a.one=true):v.oneCell'=true:=by
 cases h<;>simp_all [AV.one,Value.oneCell']
theorem b9t {E:En}{v:Value}{a:AV}(h:b7i v=some a):VR E a v:=by
 unfold b7i at h
 split at h<;>simp at h<;>subst h
 ·exact .bool _
 ·exact .int _ _
 ·rename_i s
  have:=VR.str (E:=E) s.data.toList
  simpa using this
 ·exact .nilptr
 ·exact .nilslice
 ·exact .nilmap
 ·exact .nilfunc
 ·exact .niliface
theorem b5w {E:En}:∀ {l:List Value}{a:List AV},b1h l=some a→VRs E a l
 |[],a,h=>by simp[b1h] at h; subst h; exact .nil
 |v::l,a,h=>by
  unfold b1h at h
  split at h<;>simp at h
  subst h
  rename_i x y hx hy
  exact .cons _ _ _ _ (b9t hx) (b5w hy)
theorem c3w {E:En}{v:Value}{a:AV}(h:ofValue v=some a):VR E a v:=by
 unfold ofValue at h
 split at h
 ·rename_i cs
  split at h<;>simp at h
  subst h
  rename_i l hl
  have:=VR.agg (E:=E) l cs.toList (b5w hl)
  simpa using this
 ·rename_i vs
  split at h<;>simp at h
  subst h
  rename_i hl
  have:vs = #[]:=by simpa using hl
  subst this
  exact .tuple [] [] .nil
 ·exact b9t h
def e3o (P : Program) (f : FuncId) (k : ExtK) : Prop := ∃ F, P.funcs[f]? = some F ∧ (F.name == "runtime.NumGoroutine") = false ∧ F.body.isNone = true ∧ Extern.findNext F = none ∧ (match k with
  |.valueOf=>Extern.find F=some (fun args=>Extern.ReflectliteValue.unpack (args.getD 0 (.tuple #[])))
  | .valueLen => Extern.find F = some (Extern.ReflectliteValue.method (Extern.ReflectliteValue.valueError "reflectlite.Value.Len" 0) Extern.ReflectliteValue.len)
  |.overlaps sz=>∃ t e,F.params[0]?=some t∧P.underlying t=some (.slice e)∧((P.info? e).map (·.size))=some sz∧Extern.find F=some (Extern.SlicesOverlaps.overlaps F.params F.resultTypes)
  |.same=>Extern.find F=some Extern.AbiNoEscape.same
  |.mapsClone=>Extern.find F=some Extern.MapsClone.clone)
structure a0v (P:Program) (T:a0k):Prop where
 ti:∀ t i,T.ti t=some i→P.info? t=some i
 und:∀ t d,T.und t=some d→P.underlying t=some d
 fn : ∀ f F, T.fn f = some F → P.funcs[f]? = some F ∧ (F.name == "runtime.NumGoroutine") = false
 eqg:∀ t,T.eqg t=false→P.eqGuardType P.depth t=false
 stood:∀ t,T.stood t=false→P.stoodInHeld t=false
 mix:P.follows .mixedOrders=true
 ext:∀ f k,T.ext f=some k→e3o P f k
 rt:T.rt=P.globals.size
 kd:∀ t,T.kd t=true→P.packed t=false∧∃ e,P.underlying t=some (.slice e)
section
variable {P:Program}{T:a0k}(ok:a0v P T)
include ok
theorem b4i {t:TypeId}{i:TypeInfo}(h:T.ti t=some i) (w:World):(typeInfo t).run P w=.ok i w:=by
 simp[typeInfo,ok.ti t i h]
theorem a0i {t:TypeId}{d:TypeDesc}(h:T.und t=some d) (w:World):(underlying t).run P w=.ok d w:=by
 simp[underlying,ok.und t d h]
theorem a1o {t:TypeId}{n:Nat}(h:T.size t=some n) (w:World):(Go.sizeOf t).run P w=.ok n w:=by
 unfold a0k.size at h
 split at h<;>simp at h
 rename_i i hi
 simp[Go.sizeOf,b4i ok hi,h]
theorem a4r {t:TypeId}{z:AV}(h:T.zero t=some z):∃ zv,(∀ w,(zeroValue t).run P w=.ok zv w)∧∀ E,VR E z zv:=by
 unfold a0k.zero at h
 split at h
 ·rename_i i hi
  split at h
  ·rename_i zv hz
   refine⟨zv,fun w=>?_,fun E=>c3w h⟩
   simp[zeroValue,b4i ok hi,hz]
  ·simp at h
 ·simp at h
theorem c1c {t:TypeId}{b:Bool}(h:T.agg t=some b) (w:World):(isAgg t).run P w=.ok b w:=by
 unfold a0k.agg at h
 split at h
 ·rename_i hu; simp at h; subst h; simp[isAgg,a0i ok hu]
 ·rename_i hu; simp at h; subst h; simp[isAgg,a0i ok hu]
 ·rename_i d h1 h2 hu
  simp at h; subst h
  simp only[isAgg,Sem.run_bind,a0i ok hu,Result.andThen_ok]
  cases d<;>simp_all
 ·simp at h
end
def TR (E:En) (tm:Tr AV) (tmps:Array Value):Prop:=∀ t v,tm.get t=some v→∃ v',tmps[t]?=some v'∧VR E v v'
theorem TR.mono {E E':En}(le:E.Le E'){tm:Tr AV}{tmps:Array Value}(h:TR E tm tmps):TR E' tm tmps:=fun t v hv =>
 let ⟨v',a,b⟩:=h t v hv; ⟨v',a,b.mono le⟩
inductive DR (E:En):ADef→Deferred→Prop
 |fn (f f':Fn) (hf:FnR E f f') (l m:List AV) (l' m':List Value) (hl:VRs E l l') (hm:VRs E m m'):DR E (.fn f l m) { target:=.fn f' l'.toArray,args:=m'.toArray }
 |collected (b:Nat) (h:E.dom b):DR E (.collected b) { target:=.collected (E.blk b),args := #[] }
inductive DRs (E:En):List ADef→List Deferred→Prop
 |nil:DRs E [] []
 |cons (d:ADef) (d':Deferred) (l:List ADef) (l':List Deferred) (h:DR E d d') (hl:DRs E l l'):DRs E (d::l) (d'::l')
theorem DR.mono {E E':En}(le:E.Le E'){d:ADef}{d':Deferred}(h:DR E d d'):DR E' d d':=by
 cases h with
 |fn f f' hf l m l' m' hl hm=>exact .fn f f' (hf.mono le) l m l' m' (hl.mono le) (hm.mono le)
 |collected b h=>rw[← le.blk b h]; exact .collected b (le.dom b h)
theorem DRs.mono {E E':En}(le:E.Le E'):∀ {d:List ADef}{d':List Deferred},DRs E d d'→DRs E' d d'
 |_,_,.nil=>.nil
 |_,_,.cons d d' l l' h hl=>.cons d d' l l' (h.mono le) (hl.mono le)
theorem DRs.append {E:En}:∀ {a:List ADef}{v:List Deferred}{b:List ADef}{u:List Deferred},DRs E a v→DRs E b u→DRs E (a++b) (v++u)
 |_,_,_,_,.nil,h=>h
 |_,_,_,_,.cons x x' l l' hx hl,h=>.cons x x' _ _ hx (hl.append h)
inductive ER (E:En):List (AV×AV×Nat)→List MapEntry→Prop
 |nil:ER E [] []
 |cons (k v:AV) (k' v':Value) (n:Nat) (l:List (AV×AV×Nat)) (l':List MapEntry) (hk:VR E k k') (hv:VR E v v') (hl:ER E l l') :
   ER E ((k,v,n)::l) ({ key:=k',val:=v',born:=n }::l')
theorem ER.mono {E E':En}(le:E.Le E'):∀ {d:List (AV×AV×Nat)}{d':List MapEntry},ER E d d'→ER E' d d'
 |_,_,.nil=>.nil
 |_,_,.cons k v k' v' n l l' hk hv hl=>.cons k v k' v' n l l' (hk.mono le) (hv.mono le) (hl.mono le)
theorem ER.length {E:En}:∀ {d:List (AV×AV×Nat)}{d':List MapEntry},ER E d d'→d.length=d'.length
 |_,_,.nil=>rfl
 |_,_,.cons _ _ _ _ _ _ _ _ _ h=>by simp[h.length]
def a1t.own:a1t→Prop
 |.cells _ _ rw=>rw=true
 |.dead=>False
 |_=>True
def OR' (P:Program) (base:Nat) (E:En) (b:Nat) (w:World):a1t→Prop
 |.cells e cs rw=>∃ (c':Array Value) (z:Nat×Nat),w.heap[E.blk b]?=some (.cells c' e z)∧c'.size=E.off b+E.ext b∧cs.length≤E.ext b ∧
   (∀ (i:Nat) (v:AV),cs[i]?=some v→∃ v',c'[E.off b+i]?=some v'∧VR E v v') ∧
   (rw=true→base≤E.blk b∧(z.1=z.2∨(c'.size≤z.1∧P.underlying e=some (.int .u8))))∧(rw=false→E.blk b<base)
 |.map es clock=>base≤E.blk b∧∃ es':Array MapEntry,w.heap[E.blk b]?=some (.map es' clock)∧ER E es es'.toList
 |.loop st pend fn tm nt ps as bd d=>base≤E.blk b∧E.dom d∧∃ tmps:Array Value,
   w.heap[E.blk b]?=some (.loop { state:=st,pending:=pend,fn:=fn,tmps:=tmps,params:=ps.toArray,assign:=as,body:=bd,defers:=E.blk d })∧tmps.size=nt∧TR E tm tmps
 |.dfr ds=>base≤E.blk b∧∃ ds',w.heap[E.blk b]?=some (.deferred ds')∧(match ds with
   |none=>ds'=none
   |some l=>∃ l',ds'=some l'∧DRs E l l')
 |.iter m since seen last=>base≤E.blk b∧E.off b=0∧(∀ x,m=some x→E.dom x)∧w.heap[E.blk b]?=some (.mapIter (m.map E.blk) since seen.toArray last)
 |.dead=>True
theorem OR'.mono {P:Program}{base:Nat}{E E':En}(le:E.Le E'){b:Nat}(d:E.dom b){w:World}{o:a1t}(h:OR' P base E b w o):OR' P base E' b w o:=by
 cases o with
 |cells e cs rw =>
  obtain⟨c',z,h1,h2,h3,h4,h5,h6⟩:=h
  refine⟨c',z,?_,?_,?_,?_,?_,?_⟩
  ·rw[le.blk b d]; exact h1
  ·rw[le.off b d,le.ext b d]; exact h2
  ·rw[le.ext b d]; exact h3
  ·intro i v hv
   obtain⟨v',a,k⟩:=h4 i v hv
   exact⟨v',by rw[le.off b d]; exact a,k.mono le⟩
  ·rw[le.blk b d]; exact h5
  ·rw[le.blk b d]; exact h6
 |map es clock =>
  obtain⟨h0,es',h1,h2⟩:=h
  exact⟨by rw[le.blk b d]; exact h0,es',by rw[le.blk b d]; exact h1,h2.mono le⟩
 |loop st pend fn tm nt ps as bd dd =>
  obtain⟨h0,hd,tmps,h1,h2,h3⟩:=h
  exact⟨by rw[le.blk b d]; exact h0,le.dom dd hd,tmps,by rw[le.blk b d,le.blk dd hd]; exact h1,h2,h3.mono le⟩
 |dfr ds =>
  obtain⟨h0,ds',h1,h2⟩:=h
  refine⟨by rw[le.blk b d]; exact h0,ds',by rw[le.blk b d]; exact h1,?_⟩
  cases ds with
  |none=>exact h2
  |some l=>obtain⟨l',a,k⟩:=h2; exact⟨l',a,k.mono le⟩
 |iter m since seen last =>
  obtain⟨h0,ho,hd,h1⟩:=h
  refine⟨by rw[le.blk b d]; exact h0,by rw[le.off b d]; exact ho,fun x hx=>le.dom x (hd x hx),?_⟩
  have:m.map E'.blk=m.map E.blk:=by
   cases m with
   |none=>rfl
   |some x=>simp[le.blk x (hd x rfl)]
  rw[le.blk b d,this]; exact h1
 |dead=>trivial
theorem OR'.same {P:Program}{base:Nat}{E:En}{b:Nat}{w w':World}(e:w'.heap[E.blk b]?=w.heap[E.blk b]?){o:a1t}(h:OR' P base E b w o):OR' P base E b w' o:=by
 cases o<;>simp only[OR'] at h ⊢ <;> first|(rw[e]; exact h)|trivial
theorem OR'.base {P:Program}{base:Nat}{E:En}{b:Nat}{w:World}{o:a1t}(h:OR' P base E b w o) (ho:o.own):base≤E.blk b:=by
 cases o with
 |cells e cs rw=>obtain⟨_,_,_,_,_,_,h5,_⟩:=h; exact(h5 ho).1
 |map=>exact h.1
 |loop=>exact h.1
 |dfr=>exact h.1
 |iter=>exact h.1
 |dead=>exact ho.elim
theorem OR'.lt {P:Program}{base:Nat}{E:En}{b:Nat}{w:World}{o:a1t}(h:OR' P base E b w o) (ho:o≠.dead):E.blk b<w.heap.size:=by
 have:∀ x:Obj,w.heap[E.blk b]?=some x→E.blk b<w.heap.size:=fun x hx=>(Array.getElem?_eq_some_iff.1 hx).1
 cases o with
 |cells e cs rw=>obtain⟨_,_,h1,_⟩:=h; exact this _ h1
 |map=>obtain⟨_,_,h1,_⟩:=h; exact this _ h1
 |loop=>obtain⟨_,_,_,h1,_⟩:=h; exact this _ h1
 |dfr=>obtain⟨_,_,h1,_⟩:=h; exact this _ h1
 |iter=>obtain⟨_,_,_,h1⟩:=h; exact this _ h1
 |dead=>exact absurd rfl ho
structure HR (P:Program) (base:Nat) (w0:World) (E:En) (h:a0a) (w:World):Prop where
 dlt:∀ b,E.dom b→b<h.next
 obj:∀ b o,E.dom b→h.get b=some o→OR' P base E b w o
 inj:∀ b b' o o',E.dom b→E.dom b'→h.get b=some o→h.get b'=some o'→o.own→o'.own→E.blk b=E.blk b'→b=b'
 wd:Below base w0 w
 drawn:w0.drawn≤w.drawn
 bsz:base≤w.heap.size
 blt:∀ b,E.dom b→E.blk b<w.heap.size
structure Ste (E:En) (h:a0a) (w:World) (E':En) (h':a0a) (w':World):Prop where
 le:E.Le E'
 newd:∀ b,E'.dom b→E.dom b∨h.next≤b
 nx:h.next≤h'.next
 loc:∀ b,b<h.next→¬ E.dom b→h'.get b=h.get b
 sz:w.heap.size≤w'.heap.size
 fr:∀ k,k<w.heap.size→(∀ b,E.dom b→E.blk b≠k)→w'.heap[k]?=w.heap[k]?
 img:∀ b,E'.dom b→E.dom b∨w.heap.size≤E'.blk b∨∃ b0,E.dom b0∧E.blk b0=E'.blk b
theorem Ste.refl (E:En) (h:a0a) (w:World):Ste E h w E h w :=
 ⟨.refl E,fun _ h=>.inl h,Nat.le_refl _,fun _ _ _=>rfl,Nat.le_refl _,fun _ _ _=>rfl,fun _ h=>.inl h⟩
theorem Ste.trans {E E' E'':En}{h h' h'':a0a}{w w' w'':World}(a:Ste E h w E' h' w') (b:Ste E' h' w' E'' h'' w''):Ste E h w E'' h'' w'' where
 le:=a.le.trans b.le
 newd x hx:=by
  rcases b.newd x hx with h1|h1
  ·exact a.newd x h1
  ·exact .inr (Nat.le_trans a.nx h1)
 nx:=Nat.le_trans a.nx b.nx
 loc x hx hd:=by
  rw[b.loc x (Nat.lt_of_lt_of_le hx a.nx) (fun hd'=>(a.newd x hd').elim hd (fun h1=>by omega)),a.loc x hx hd]
 sz:=Nat.le_trans a.sz b.sz
 fr k hk hn:=by
  rw[b.fr k (Nat.lt_of_lt_of_le hk a.sz) (fun x hx e=>by
   rcases a.img x hx with h1|h1|⟨b0,h1,h2⟩
   ·rw[a.le.blk x h1] at e; exact hn x h1 e
   ·omega
   ·exact hn b0 h1 (h2.trans e)),a.fr k hk hn]
 img x hx:=by
  rcases b.img x hx with h1|h1|⟨b0,h1,h2⟩
  ·rcases a.img x h1 with h3|h3|⟨b1,h3,h4⟩
   ·exact .inl h3
   ·exact .inr (.inl (by rw[b.le.blk x h1]; exact h3))
   ·exact .inr (.inr ⟨b1,h3,by rw[b.le.blk x h1]; exact h4⟩)
  ·exact .inr (.inl (Nat.le_trans a.sz h1))
  ·rcases a.img b0 h1 with h3|h3|⟨b1,h3,h4⟩
   ·exact .inr (.inr ⟨b0,h3,by rw[← h2,a.le.blk b0 h3]⟩)
   ·exact .inr (.inl (by rw[← h2]; exact h3))
   ·exact .inr (.inr ⟨b1,h3,h4.trans h2⟩)
end Ev
end
section
namespace Ev
open Go Go.RowKit
variable {P:Program}{T:a0k}{base:Nat}{w0:World}
theorem En.a4u (E:En) (b o n:Nat):(E.at b o).add n=E.at b (o+n):=by
 unfold Addr.add En.at
 split
 ·rename_i h; subst h; rfl
 ·simp[Nat.add_assoc]
theorem cell_of {E:En}{b:Nat}{w:World}{e:TypeId}{cs:List AV}{rw:Bool}(h:OR' P base E b w (.cells e cs rw)){o:Nat}{v:AV}(hv:cs[o]?=some v) :
  ∃ v',w.cell? (E.at b o)=some v'∧VR E v v':=by
 obtain⟨c',z,h1,_,_,h4,_,_⟩:=h
 obtain⟨v',h5,h6⟩:=h4 o v hv
 refine⟨v',?_,h6⟩
 unfold World.cell? En.at
 simp only[h1]
 simpa using h5
theorem d3u {E:En}{h:a0a}{w:World}{b:Nat}(hd:E.dom b) (H:HR P base w0 E h w) (n:Nat) :
  ∀ (o i:Nat) (l:List AV) (acc:Array Value),a2j h b (o+i) n=some l →
   ∃ l',(loadCellsFrom (E.at b o) i n acc).run P w=.ok (acc++l'.toArray) w∧VRs E l l':=by
 induction n with
 |zero =>
  intro o i l acc hr
  refine⟨[],by simp[loadCellsFrom],?_⟩
  unfold a2j at hr
  split at hr
  ·obtain⟨_,rfl⟩:=b1s hr; simp; exact .nil
  ·simp at hr
 |succ n ih =>
  intro o i l acc hr
  unfold a2j at hr
  split at hr
  ·rename_i e cs rw hg
   obtain⟨hlen,rfl⟩:=b1s hr
   have hi:o+i<cs.length:=by omega
   obtain⟨v',hc,hv⟩:=cell_of (H.obj b _ hd hg) (List.getElem?_eq_getElem hi)
   obtain⟨l',h1,h2⟩:=ih o (i+1) ((cs.drop (o+(i+1))).take n) (acc.push v') (by
    unfold a2j c4b cut
    simp only[hg]
    rw[if_pos (by omega)])
   refine⟨v'::l',?_,?_⟩
   ·simp only[loadCellsFrom,Sem.run_bind,run_load,En.a4u,hc,Result.andThen_ok,h1]
    simp
   ·rw[List.drop_eq_getElem_cons hi,List.take_succ_cons]
    exact .cons _ _ _ _ hv (by simpa [Nat.add_assoc] using h2)
  ·simp at hr
theorem a5t {E:En}{h:a0a}{w:World}{b:Nat}(hd:E.dom b) (H:HR P base w0 E h w){n o:Nat}{l:List AV}(hr:a2j h b o n=some l) :
  ∃ l',(loadCells (E.at b o) n).run P w=.ok l'.toArray w∧VRs E l l':=by
 obtain⟨l',h1,h2⟩:=d3u (P:=P) hd H n o 0 l #[] (by simpa using hr)
 exact⟨l',by simpa [loadCells] using h1,h2⟩
theorem b7u (ok:a0v P T){E:En}{h:a0a}{w:World}{b o:Nat}(hd:E.dom b) (H:HR P base w0 E h w){t:TypeId}{v:AV}(hv:a3y T t h b o=some v) :
  ∃ v',(loadVar t (E.at b o)).run P w=.ok v' w∧VR E v v':=by
 unfold a3y at hv
 split at hv
 ·rename_i n ha hs
  split at hv<;>simp at hv
  rename_i l hr
  subst hv
  obtain⟨l',h1,h2⟩:=a5t (P:=P) hd H hr
  refine⟨.agg l'.toArray,?_,.agg l l' h2⟩
  simp[loadVar,c1c ok ha,a1o ok hs,h1]
 ·rename_i n ha hs
  split at hv
  ·rename_i l hr
   unfold a2j at hr
   split at hr
   ·rename_i e cs rw hg
    obtain⟨hlen,rfl⟩:=b1s hr
    have hi:o<cs.length:=by omega
    rw[a4w] at hv
    have hv':cs[o]?=some v:=by
     simpa using hv
    obtain⟨v',hc,hvr⟩:=cell_of (H.obj b _ hd hg) hv'
    exact⟨v',by simp[loadVar,c1c ok ha,hc],hvr⟩
   ·simp at hr
  ·simp at hv
 ·simp at hv
def En.push (E:En) (b k o n:Nat):En where
 blk:=fun x=>if x=b then k else E.blk x
 off:=fun x=>if x=b then o else E.off x
 ext:=fun x=>if x=b then n else E.ext x
 dom:=fun x=>x=b∨E.dom x
theorem En.b0w (E:En) (b k o n:Nat) (h:¬ E.dom b):E.Le (E.push b k o n) where
 dom x hx:=.inr hx
 blk x hx:=by have:x≠b:=fun e=>h (e ▸ hx); simp[En.push,this]
 off x hx:=by have:x≠b:=fun e=>h (e ▸ hx); simp[En.push,this]
 ext x hx:=by have:x≠b:=fun e=>h (e ▸ hx); simp[En.push,this]
theorem a0a.a4f (h:a0a) (o:a1t) (b:Nat):(h.alloc o).get b=if b=h.next then some o else h.get b:=by
 simp[a0a.alloc,a0a.get,Tr.a1d]
theorem a0a.a1d (h:a0a) (x:Nat) (o:a1t) (b:Nat):(h.set x o).get b=if b=x then some o else h.get b:=by
 simp[a0a.set,a0a.get,Tr.a1d]
@[simp] theorem a0a.c1w (h:a0a) (x:Nat) (o:a1t):(h.set x o).next=h.next:=rfl
@[simp] theorem a0a.next_alloc (h:a0a) (o:a1t):(h.alloc o).next=h.next+1:=rfl
theorem heap_alloc_old {w:World}{o:Obj}{k:Nat}(h:k<w.heap.size):(w.alloc o).heap[k]?=w.heap[k]?:=Below.heap_alloc w o k h
theorem heap_alloc_new {w:World}{o:Obj}:(w.alloc o).heap[w.heap.size]?=some o:=by
 show(w.heap.push o)[w.heap.size]?=_
 simp
theorem b2z {E:En}{h:a0a}{w:World}(H:HR P base w0 E h w) (a:a1t) (o:Obj) (n:Nat)
  (hor:OR' P base (E.push h.next w.heap.size 0 n) h.next (w.alloc o) a) :
  HR P base w0 (E.push h.next w.heap.size 0 n) (h.alloc a) (w.alloc o)∧Ste E h w (E.push h.next w.heap.size 0 n) (h.alloc a) (w.alloc o):=by
 have hnd:¬ E.dom h.next:=fun hd=>by have:=H.dlt _ hd; omega
 have le:=E.b0w h.next w.heap.size 0 n hnd
 have blk0:(E.push h.next w.heap.size 0 n).blk h.next=w.heap.size:=by simp[En.push]
 have ne:∀ b,E.dom b→b≠h.next:=fun b hb e=>hnd (e ▸ hb)
 refine⟨⟨?_,?_,?_,?_,?_,?_,?_⟩,⟨le,?_,by simp,?_,by simp,?_,?_⟩⟩
 ·intro b hb
  rcases hb with rfl|hb
  ·simp
  ·have:=H.dlt b hb; simp; omega
 ·intro b o' hb ho
  rw[a0a.a4f] at ho
  rcases hb with rfl|hb
  ·simp at ho; subst ho; exact hor
  ·rw[if_neg (ne b hb)] at ho
   by_cases hdead:o'=.dead
   ·subst hdead; trivial
   ·have h1:=H.obj b o' hb ho
    have h2:=OR'.mono le hb h1
    refine OR'.same ?_ h2
    have:=h1.lt hdead
    rw[le.blk b hb,heap_alloc_old this]
 ·intro b b' o1 o2 hb hb' ho1 ho2 w1 w2 e
  rw[a0a.a4f] at ho1 ho2
  have dead1:∀ o:a1t,o.own→o≠.dead:=fun o ho e=>by subst e; exact ho
  rcases hb with rfl|hb<;>rcases hb' with rfl|hb'
  ·rfl
  ·rw[if_neg (ne b' hb')] at ho2
   rw[blk0,le.blk b' hb'] at e
   have:=(H.obj b' o2 hb' ho2).lt (dead1 _ w2)
   omega
  ·rw[if_neg (ne b hb)] at ho1
   rw[blk0,le.blk b hb] at e
   have:=(H.obj b o1 hb ho1).lt (dead1 _ w1)
   omega
  ·rw[if_neg (ne b hb)] at ho1
   rw[if_neg (ne b' hb')] at ho2
   rw[le.blk b hb,le.blk b' hb'] at e
   exact H.inj b b' o1 o2 hb hb' ho1 ho2 w1 w2 e
 ·exact H.wd.alloc H.bsz o
 ·exact H.drawn
 ·have:=H.bsz; simp; omega
 ·intro b hb
  rcases hb with rfl|hb
  ·rw[blk0]; simp
  ·rw[le.blk b hb]; have:=H.blt b hb; simp; omega
 ·intro b hb
  rcases hb with rfl|hb
  ·exact .inr (Nat.le_refl _)
  ·exact .inl hb
 ·intro b hb _
  rw[a0a.a4f,if_neg (by omega)]
 ·intro k hk _; exact heap_alloc_old hk
 ·intro b hb
  rcases hb with rfl|hb
  ·exact .inr (.inl (by rw[blk0]; exact Nat.le_refl _))
  ·exact .inl hb
theorem c5s {E:En}{h:a0a}{w:World}(H:HR P base w0 E h w) (e:TypeId) (cs:List AV) (c':Array Value) (hcs:cs.length≤c'.size)
  (hv:∀ (i:Nat) (v:AV),cs[i]?=some v→∃ v',c'[i]?=some v'∧VR E v v') :
  let E':=E.push h.next w.heap.size 0 c'.size
  HR P base w0 E' (h.alloc (.cells e cs true)) (w.alloc (.cells c' e))∧Ste E h w E' (h.alloc (.cells e cs true)) (w.alloc (.cells c' e))∧E'.dom h.next∧E'.at h.next 0=⟨w.heap.size,0,none⟩∧E'.ext h.next=c'.size:=by
 have hnd:¬ E.dom h.next:=fun hd=>by have:=H.dlt _ hd; omega
 have le:=E.b0w h.next w.heap.size 0 c'.size hnd
 have:=b2z H (.cells e cs true) (.cells c' e) c'.size (by
  refine⟨c',(0,0),?_,?_,?_,?_,?_,by simp⟩
  ·simp only[En.push,if_true]; exact heap_alloc_new
  ·simp[En.push]
  ·simpa [En.push] using hcs
  ·intro i v hi
   obtain⟨v',h1,h2⟩:=hv i v hi
   exact⟨v',by simpa [En.push] using h1,h2.mono le⟩
  ·intro _
   exact⟨by simpa [En.push] using H.bsz,.inl rfl⟩)
 exact⟨this.1,this.2,.inl rfl,by simp[En.at,En.push],by simp[En.push]⟩
theorem c8s {E:En}{h:a0a}{w w':World}(H:HR P base w0 E h w){b:Nat}(hd:E.dom b){a a':a1t}(hg:h.get b=some a) (hown:a.own)
  (hw:Below base w w') (hdr:w.drawn≤w'.drawn) (hsz:w'.heap.size=w.heap.size) (hoth:∀ k,k≠E.blk b→w'.heap[k]?=w.heap[k]?) (hor:OR' P base E b w' a') :
  HR P base w0 E (h.set b a') w'∧Ste E h w E (h.set b a') w':=by
 have hdead:a≠.dead:=fun e=>by subst e; exact hown
 refine⟨⟨?_,?_,?_,?_,?_,?_,?_⟩,⟨.refl E,fun _ h=>.inl h,Nat.le_refl _,?_,by omega,?_,fun _ h=>.inl h⟩⟩
 ·exact fun x hx=>H.dlt x hx
 ·intro x o hx ho
  rw[a0a.a1d] at ho
  by_cases e:x=b
  ·subst e; simp at ho; subst ho; exact hor
  ·rw[if_neg e] at ho
   have h1:=H.obj x o hx ho
   by_cases hb:E.blk x=E.blk b
   ·-- the other object is a row that came in, or dead
    cases o with
    |cells e' cs rw =>
     cases rw with
     |true=>exact absurd (H.inj x b _ _ hx hd ho hg rfl hown hb) e
     |false =>
      obtain⟨c',z,p1,p2,p3,p4,p5,p6⟩:=h1
      have q1:=p6 rfl
      have q2:=(H.obj b a hd hg).base hown
      omega
    |dead=>trivial
    |map=>exact absurd (H.inj x b _ _ hx hd ho hg trivial hown hb) e
    |loop=>exact absurd (H.inj x b _ _ hx hd ho hg trivial hown hb) e
    |dfr=>exact absurd (H.inj x b _ _ hx hd ho hg trivial hown hb) e
    |iter=>exact absurd (H.inj x b _ _ hx hd ho hg trivial hown hb) e
   ·exact OR'.same (hoth _ hb) h1
 ·intro x x' o1 o2 hx hx' ho1 ho2 w1 w2 e
  rw[a0a.a1d] at ho1 ho2
  have key:∀ (y:Nat) (o:a1t),E.dom y→(if y=b then some a' else h.get y)=some o→o.own→∃ o',h.get y=some o'∧o'.own:=by
   intro y o hy hyo hyw
   by_cases e:y=b
   ·subst e; exact⟨a,hg,hown⟩
   ·rw[if_neg e] at hyo; exact⟨o,hyo,hyw⟩
  obtain⟨p1,q1,r1⟩:=key x o1 hx ho1 w1
  obtain⟨p2,q2,r2⟩:=key x' o2 hx' ho2 w2
  exact H.inj x x' p1 p2 hx hx' q1 q2 r1 r2 e
 ·exact H.wd.trans hw
 ·exact Nat.le_trans H.drawn hdr
 ·rw[hsz]; exact H.bsz
 ·intro x hx; rw[hsz]; exact H.blt x hx
 ·intro x hx hn
  rw[a0a.a1d,if_neg (fun e:x=b=>hn (e ▸ hd))]
 ·intro k hk hn
  exact hoth k (fun e=>hn b hd e.symm)
theorem HR.ext {E:En}{h h':a0a}{w:World}(H:HR P base w0 E h w) (hn:h'.next=h.next) (hg:∀ b,h'.get b=h.get b):HR P base w0 E h' w where
 dlt b hb:=by rw[hn]; exact H.dlt b hb
 obj b o hb ho:=H.obj b o hb (by rw[← hg]; exact ho)
 inj b b' o o' d d' g g':=H.inj b b' o o' d d' (by rw[← hg]; exact g) (by rw[← hg]; exact g')
 wd:=H.wd
 drawn:=H.drawn
 bsz:=H.bsz
 blt:=H.blt
theorem Ste.ext {E E':En}{h h' h'':a0a}{w w':World}(S:Ste E h w E' h' w') (hn:h''.next=h'.next) (hg:∀ b,h''.get b=h'.get b):Ste E h w E' h'' w' where
 le:=S.le
 newd:=S.newd
 nx:=by rw[hn]; exact S.nx
 loc b hb hd:=by rw[hg]; exact S.loc b hb hd
 sz:=S.sz
 fr:=S.fr
 img:=S.img
theorem d9x {E:En}{h:a0a}{w:World}(H:HR P base w0 E h w){b:Nat}(hd:E.dom b){e:TypeId}{cs:List AV}(hg:h.get b=some (.cells e cs true))
  {o:Nat} (ho:o<cs.length) {v:AV} {v':Value} (hv:VR E v v') (h1:v.one=true) :
  (store (E.at b o) v').run P w=.ok () (w.setCell (E.at b o) v')∧HR P base w0 E (h.set b (.cells e (over cs o [v]) true)) (w.setCell (E.at b o) v') ∧
   Ste E h w E (h.set b (.cells e (over cs o [v]) true)) (w.setCell (E.at b o) v'):=by
 have hor:=H.obj b _ hd hg
 obtain⟨v0,hc,_⟩:=cell_of hor (List.getElem?_eq_getElem ho)
 obtain⟨c',z,p1,p2,p3,p4,p5,p6⟩:=hor
 obtain⟨q1,q2⟩:=p5 rfl
 have hfz:w.frozen? (E.at b o)=false:=by
  unfold World.frozen? En.at
  simp only[p1]
  simp only[Bool.and_eq_false_iff,decide_eq_false_iff_not]
  omega
 have hblk:(E.at b o).block=E.blk b:=rfl
 have hheap:(w.setCell (E.at b o) v').heap[E.blk b]?=some (.cells (c'.setIfInBounds (E.off b+o) v') e z):=by
  simp only[World.setCell,hblk,Array.getElem?_modify,if_true,p1,Option.map_some]
  simp[En.at]
 refine⟨?_,?_⟩
 ·rw[run_store P w _ v' _ (hv.one h1)]
  simp[hc,hfz]
 ·refine c8s H hd hg rfl ((Below.refl base w).setCell (by rw[hblk]; exact q1) v') (Nat.le_refl _) (by simp) (fun k hk=>Below.heap_setCell w _ v' k (by rw[hblk]; exact hk)) ?_
  refine⟨_,z,hheap,by simpa using p2,?_,?_,?_,by simp⟩
  ·rw[a3v _ _ _ (by simp; omega)]; exact p3
  ·intro i x hx
   rw[b1i _ _ _ (by simp; omega)] at hx
   by_cases hi:i=o
   ·subst hi
    simp at hx
    subst hx
    refine⟨v',?_,hv⟩
    rw[Array.getElem?_setIfInBounds_self_of_lt (by omega)]
   ·rw[if_neg (by simp; omega)] at hx
    obtain⟨x',r1,r2⟩:=p4 i x hx
    refine⟨x',?_,r2⟩
    rw[Array.getElem?_setIfInBounds_ne (by omega)]
    exact r1
  ·intro _
   exact⟨q1,by simpa using q2⟩
theorem c2d {α:Type}(l:List α) (off:Nat):over l off []=l:=by
 unfold over; simp
theorem b9l {α:Type}(l:List α) (off:Nat) (v:α) (vs:List α) (h:off+(v::vs).length≤l.length):over (over l off [v]) (off+1) vs=over l off (v::vs):=by
 have hl:(over l off [v]).length=l.length:=a3v _ _ _ (by simp at h ⊢; omega)
 apply List.ext_getElem?
 intro i
 simp at h
 rw[b1i _ _ _ (by rw[hl]; omega),b1i _ _ _ (by simp; omega),b1i _ _ _ (by simp; omega)]
 by_cases h1:i<off
 ·rw[if_neg (by omega),if_neg (by omega),if_neg (by omega)]
 ·by_cases h2:i=off
  ·subst h2
   rw[if_neg (by omega),if_pos (by simp),if_pos (by simp)]
   simp
  ·by_cases h3:i<off+1+vs.length
   ·rw[if_pos (by omega),if_pos (by simp; omega)]
    obtain⟨q,rfl⟩:∃ q,i=off+1+q:=⟨i-(off+1),by omega⟩
    simp[show off+1+q-off=q+1 by omega]
   ·rw[if_neg (by omega),if_neg (by simp; omega),if_neg (by simp; omega)]
theorem b9r {E:En}{b:Nat}(hd:E.dom b){e:TypeId}:∀ (vs:List AV) (vs':List Value) (h:a0a) (w:World) (cs:List AV) (o i:Nat),
  HR P base w0 E h w→h.get b=some (.cells e cs true)→VRs E vs vs'→vs.all AV.one=true→o+i+vs.length≤cs.length →
  ∃ w',(storeCells (E.at b o) vs' i).run P w=.ok () w'∧HR P base w0 E (h.set b (.cells e (over cs (o+i) vs) true)) w'∧Ste E h w E (h.set b (.cells e (over cs (o+i) vs) true)) w'
 |[],_,h,w,cs,o,i,H,hg,.nil,_,hl=>by
  have hs:∀ x,(h.set b (.cells e (over cs (o+i) []) true)).get x=h.get x:=by
   intro x
   rw[a0a.a1d,c2d]
   split
   ·rename_i e; subst e; exact hg.symm
   ·rfl
  exact⟨w,by simp[storeCells],H.ext rfl hs,(Ste.refl E h w).ext rfl hs⟩
 |v::vs,_,h,w,cs,o,i,H,hg,.cons _ v' _ vs' hv hvs,hone,hl=>by
  simp only[List.all_cons,Bool.and_eq_true] at hone
  simp only[List.length_cons] at hl
  obtain⟨r1,r2,r3⟩:=d9x (P:=P) H hd hg (o:=o+i) (by omega) hv hone.1
  obtain⟨w',s1,s2,s3⟩:=b9r hd vs vs' _ _ (over cs (o+i) [v]) o (i+1) r2 (by rw[a0a.a1d,if_pos rfl]) hvs hone.2 (by rw[a3v _ _ _ (by simp; omega)]; omega)
  have hs:∀ x,(h.set b (.cells e (over cs (o+i) (v::vs)) true)).get x=((h.set b (.cells e (over cs (o+i) [v]) true)).set b (.cells e (over (over cs (o+i) [v]) (o+(i+1)) vs) true)).get x:=by
   intro x
   rw[a0a.a1d,a0a.a1d,a0a.a1d,← Nat.add_assoc,b9l _ _ _ _ (by simp; omega)]
   split<;>rfl
  refine⟨w',?_,s2.ext rfl hs,(r3.trans s3).ext rfl hs⟩
  simp only[storeCells,Sem.run_bind,En.a4u,r1,Result.andThen_ok,s1]
theorem a6w {E:En}{h h':a0a}{w:World}(H:HR P base w0 E h w){b o:Nat}(hd:E.dom b){vs:List AV}{vs':List Value}(hw:a1m h b o vs=some h') (hv:VRs E vs vs') :
  ∃ w',(storeCells (E.at b o) vs').run P w=.ok () w'∧HR P base w0 E h' w'∧Ste E h w E h' w':=by
 unfold a1m at hw
 split at hw
 ·rename_i e cs hg
  split at hw<;>simp at hw
  rename_i hc
  subst hw
  have:=b9r (P:=P) hd vs vs' h w cs o 0 H hg hv hc.2 (by omega)
  simpa using this
 ·simp at hw
end Ev
end
