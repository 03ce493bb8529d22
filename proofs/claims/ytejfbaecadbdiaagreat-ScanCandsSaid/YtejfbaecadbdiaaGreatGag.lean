/- A part of an evaluator of the program's form in Lean, of the proof that what it says of a call is what the machine does, and of the rules by which proofs walk over it. Conditions: those that each theorem states. -/
import Derived.Test.YtejfbaecadbdiaaGreatGae
set_option linter.unusedVariables false
set_option linter.unusedSimpArgs false
section
namespace Ev
open Go Go.RowKit
variable {P:Program}{T:a0k}{base:Nat}{w0:World}
def quiet:Kd→Bool
 |.pure=>true
 |.read=>true
 |_=>false
def e5x (E:En) (h:a0a) (w:World) (r:OR) (res:Result Next):Prop:=match r with
 |.val v h'=>h'=h∧∃ v',res=.ok (.value v') w∧VR E v v'
 |_=>True
theorem a6q {E:En}{h:a0a}{w:World}(why:String) (r:Option AV) (s:Sem Value) (hs:∀ v,r=some v→∃ v',s.run P w=.ok v' w∧VR E v v') :
  e5x E h w (rv why h r) ((do pure (Next.value (← s)):Sem Next).run P w):=by
 cases r with
 |none=>trivial
 |some v =>
  obtain⟨v',h1,h2⟩:=hs v rfl
  exact⟨rfl,v',by simp[h1],h2⟩
theorem a3g {E:En}{h:a0a}{w:World}{v:AV}(s:Sem Value) (hs:∃ v',s.run P w=.ok v' w∧VR E v v') :
  e5x E h w (.val v h) ((do pure (Next.value (← s)):Sem Next).run P w):=by
 obtain⟨v',h1,h2⟩:=hs
 exact⟨rfl,v',by simp[h1],h2⟩
set_option maxRecDepth 8000 in
theorem d3c (ok:a0v P T){E:En}{h:a0a}{w:World}(H:HR P base w0 E h w) (src dst:TypeId){x:AV}{x':Value}(hx:VR E x x') (x0:Operand) (hk:quiet (a1l T (.convert src dst x0))=true) :
  e5x E h w (b4q T src dst h x) ((do pure (Next.value (← convert src dst x')):Sem Next).run P w):=by
 simp only[a1l] at hk
 unfold b4q
 split
 ·rename_i d k k2 n hs hd
  cases hx
  apply a3g
  exact⟨_,by simp[convert,a0i ok hs,a0i ok hd,Conv.intToInt],.int _ _⟩
 ·rename_i d s hs hd
  cases hx
  apply a3g
  exact⟨_,by simp[convert,a0i ok hs,a0i ok hd],.str _⟩
 ·rename_i d e s hs hd
  rw[hs,hd] at hk
  cases d<;>simp[quiet] at hk
 ·rename_i e e2 x hs hd hno1
  rw[hs,hd] at hk
  simp[quiet] at hk
 ·rename_i e x hs hd hno
  split
  ·rename_i n he hn
   split
   ·rename_i cs hf
    split
    ·rename_i s hb
     apply a3g
     unfold a3z at hf
     cases hx with
     |str s=>simp[a5a] at hn; exact absurd rfl (hno _)
     |nilslice =>
      simp at hf
      obtain⟨_,rfl⟩:=hf
      simp[a7k] at hb; subst hb
      exact⟨_,by simp[convert,a0i ok hs,a0i ok hd,a0i ok he,Conv.bytesToString]; rfl,.str []⟩
     |eslice a k =>
      simp at hf
      obtain⟨_,rfl⟩:=hf
      simp[a7k] at hb; subst hb
      refine⟨.string ⟨#[]⟩,?_,.str []⟩
      have:=a6g (P:=P) (a:=a) (n:=0) (k:=k) (ns:=[]) (w:=w) (by simp[loadCells,loadCellsFrom])
      simp[convert,a0i ok hs,a0i ok hd,a0i ok he]
      simpa using this
     |slice b off n2 c hdd =>
      simp[a5a] at hn; subst hn
      simp at hf
      obtain⟨l',r1,v1⟩:=a5t (P:=P) hdd H hf
      obtain⟨ns,rfl,rfl⟩:=a6k _ _ hb _ v1
      have:=a6g (P:=P) (k:=c) r1
      refine⟨_,?_,.str _⟩
      simp[convert,a0i ok hs,a0i ok hd,a0i ok he]
      exact this
     |oslice b off n2 sz k hdd hk =>
      simp[a5a] at hn; subst hn
      simp at hf
      obtain⟨l',r1,v1⟩:=a5t (P:=P) hdd H hf
      obtain⟨ns,rfl,rfl⟩:=a6k _ _ hb _ v1
      have:=a6g (P:=P) (k:=k) r1
      refine⟨_,?_,.str _⟩
      simp[convert,a0i ok hs,a0i ok hd,a0i ok he]
      exact this
     |_=>simp[a5a] at hn
    ·trivial
   ·trivial
  ·trivial
 ·trivial
set_option maxHeartbeats 1000000 in
theorem e4c (ok:a0v P T){E:En}{h:a0a}{w:World}(H:HR P base w0 E h w){ρ:Operand→Option AV}{f:Operand→Value}(hρ:d1s E ρ f) (o:Oper) (hk:quiet (a1l T o.op)=true) :
  e5x E h w (opA T ρ o h) ((execOp f o).run P w):=by
 unfold opA
 split
 -- move, assign
 ·rename_i x hop
  simp only[execOp,hop]
  cases hx:ρ x with
  |none=>trivial
  |some v=>exact⟨rfl,f x,by simp,hρ x v hx⟩
 ·rename_i x hop
  simp only[execOp,hop]
  cases hx:ρ x with
  |none=>trivial
  |some v=>exact⟨rfl,f x,by simp,hρ x v hx⟩
 -- pick
 ·rename_i c a b hop
  simp only[execOp,hop]
  split
  ·rename_i hc
   have h1:=hρ c _ hc
   generalize f c=fc at h1
   cases h1
   cases hx:ρ a with
   |none=>trivial
   |some v=>exact⟨rfl,f a,by simp[asBool],hρ a v hx⟩
  ·rename_i hc
   have h1:=hρ c _ hc
   generalize f c=fc at h1
   cases h1
   cases hx:ρ b with
   |none=>trivial
   |some v=>exact⟨rfl,f b,by simp[asBool],hρ b v hx⟩
  ·trivial
 ·rename_i elem hop
  simp[a1l,hop,quiet] at hk
 ·rename_i elem x hop
  simp[a1l,hop,quiet] at hk
 -- build
 ·rename_i t parts hop
  simp only[execOp,hop]
  split
  ·rename_i ps hps
   obtain⟨p1,p2⟩:=a6l hρ _ _ hps
   obtain⟨q1,q2⟩:=b2r parts.toList f
   refine a6q _ _ _ fun v hv=>?_
   have:=b9w (P:=P) ok hv (ps':=parts.toList.map fun p=>(p.1,f p.2)) (p1.trans q1.symm) (by rw[q2]; exact p2) w
   have e:(parts.map fun(p:Nat×Operand)=>(p.1,f p.2))=(parts.toList.map fun p=>(p.1,f p.2)).toArray:=by rw[← Array.toList_map,Array.toArray_toList]
   rw[show(parts.map fun x=>match x with|(i,x)=>(i,f x))=(parts.map fun(p:Nat×Operand)=>(p.1,f p.2)) from rfl,e]
   exact this
  ·trivial
 ·rename_i t len parts hop
  simp[a1l,hop,quiet] at hk
 -- load
 ·rename_i t a hop
  simp only[execOp,hop]
  split
  ·rename_i b off ha
   have h1:=hρ a _ ha
   generalize f a=fa at h1
   cases h1 with|ptr _ _ hd =>
   refine a6q _ _ _ fun v hv=>?_
   obtain⟨v',r1,r2⟩:=b7u (P:=P) ok hd H hv
   exact⟨v',by simp[Instr.loadAt,Instr.sureAddr,r1],r2⟩
  ·trivial
 ·rename_i t a x hop
  simp[a1l,hop,quiet] at hk
 -- nilCheck
 ·rename_i x hop
  simp only[execOp,hop]
  split
  all_goals first|trivial|skip
  all_goals
   rename_i hx
   have h1:=hρ x _ hx
   generalize f x=fx at h1
  ·cases h1 with|ptr _ _ hd=>exact⟨rfl,_,by simp,.ptr _ _ hd⟩
  ·cases h1 with|own _ _ hd h0 hk=>exact⟨rfl,_,by simp,.own _ _ hd h0 hk⟩
  ·cases h1 with|slice _ _ _ _ hd=>exact⟨rfl,_,by simp,.slice _ _ _ _ hd⟩
  ·cases h1 with|iface _ _ v' hv=>exact⟨rfl,_,by simp,.iface _ _ _ hv⟩
  ·cases h1 with|func _ f' hf _ _ l' m' hl hm=>cases hf; exact⟨rfl,_,by simp,.func _ _ (.same _ (by simp)) _ _ _ _ hl hm⟩
  ·cases h1 with|func _ f' hf _ _ l' m' hl hm =>
   cases hf with
   |yield _ hd=>exact⟨rfl,_,by simp,.func _ _ (.yield _ hd) _ _ _ _ hl hm⟩
   |same _ hn=>exact absurd rfl (hn _)
 -- binOp
 ·rename_i op t x y u hop
  simp only[execOp,hop]
  split
  ·rename_i a b ha hb
   split
   ·rename_i hg
    refine a6q _ _ _ fun v hv=>?_
    have g:=c0k (P:=P) ok hg (hρ x a ha) (hρ y b hb) w
    obtain⟨v',r1,r2⟩:=c5b (P:=P) ok hv (hρ x a ha) (hρ y b hb) w
    exact⟨v',by simp[g,r1],r2⟩
   ·trivial
  ·trivial
 -- unOp
 ·rename_i op t x hop
  simp only[execOp,hop]
  split
  ·rename_i a ha
   refine a6q _ _ _ fun v hv=>?_
   exact d1r (P:=P) hv (hρ x a ha) w
  ·trivial
 -- convert
 ·rename_i src dst x hop
  simp only[execOp,hop]
  split
  ·rename_i a ha
   exact d3c ok H src dst (hρ x a ha) x (by rw[hop] at hk; exact hk)
  ·trivial
 -- makeInterface
 ·rename_i t x hop
  simp only[execOp,hop]
  split
  ·trivial
  ·rename_i v d hni hx hu
   apply a3g
   refine⟨.iface t (f x),?_,.iface _ _ _ (hρ x v hx)⟩
   cases d<;>first|(simp[Instr.makeInterface,a0i ok hu]; done)|exact(hni _ rfl).elim
  ·trivial
 -- makeFunc
 ·rename_i fn first cap hop
  simp only[execOp,hop]
  split
  ·trivial
  ·rename_i fn _ _ _ a b hny ha hb
   have p1:=a3s hρ _ _ ha
   have p2:=a3s hρ _ _ hb
   apply a3g
   refine⟨.func fn (first.map f) (cap.map f),by simp[Instr.makeFunc],?_⟩
   have:=VR.func (E:=E) fn fn (.same fn (fun l e=>by subst e; simp at hny)) a b _ _ p1 p2
   have e1:(first.toList.map f).toArray=first.map f:=by rw[← Array.toList_map,Array.toArray_toList]
   have e2:(cap.toList.map f).toArray=cap.map f:=by rw[← Array.toList_map,Array.toArray_toList]
   rw[e1,e2] at this
   exact this
  ·trivial
 ·rename_i t r hop
  simp[a1l,hop,quiet] at hk
 ·rename_i t l c hop
  simp[a1l,hop,quiet] at hk
 -- slice
 ·rename_i t x lo hi mx hop
  simp only[execOp,hop]
  split
  ·rename_i a l hh m ha hl hh' hm
   refine a6q _ _ _ fun v hv=>?_
   exact b9y (P:=P) ok H hv (hρ x a ha) (a6s hρ hl) (a6s hρ hh') (a6s hρ hm)
  ·trivial
 -- fieldAddr
 ·rename_i s x fi hop
  simp only[execOp,hop]
  split
  ·rename_i b off fields hx hu
   have h1:=hρ x _ hx
   generalize f x=fx at h1
   cases h1 with|ptr _ _ hd =>
   split
   ·rename_i fd hf
    rw[a4w] at hf
    have hf':fields[fi]?=some fd:=by simpa using hf
    split
    ·trivial
    ·rename_i n hn0 hn
     apply a3g
     refine⟨_,?_,.ptr _ _ hd⟩
     have hn0:n≠0:=fun e=>by subst e; simp at hn0
     simp[Instr.fieldAt,a0i ok hu,hf',Instr.sureAddr,fieldPlace,a1o ok hn,hn0,En.a4u]
    ·trivial
   ·trivial
  ·rename_i b n0 fields hx hu
   have h1:=hρ x _ hx
   generalize f x=fx at h1
   cases h1 with|own _ _ hd h0 hk =>
   split
   ·rename_i fd hf
    rw[a4w] at hf
    have hf':fields[fi]?=some fd:=by simpa using hf
    split
    ·trivial
    ·rename_i n hn0 hn
     apply a3g
     refine⟨_,?_,.ptr _ _ hd⟩
     have hn0:n≠0:=fun e=>by subst e; simp at hn0
     simp[Instr.fieldAt,a0i ok hu,hf',Instr.sureAddr,fieldPlace,a1o ok hn,hn0,En.a4u]
    ·trivial
   ·trivial
  ·trivial
 -- field
 ·rename_i t x fi hop
  simp only[execOp,hop]
  split
  ·rename_i cs fields hx hu
   have h1:=hρ x _ hx
   generalize f x=fx at h1
   cases h1 with|agg _ l' hl =>
   split
   ·rename_i fd hf
    rw[a4w] at hf
    have hf':fields[fi]?=some fd:=by simpa using hf
    refine a6q _ _ _ fun v hv=>?_
    obtain⟨v',r1,r2⟩:=a5v (P:=P) ok hv hl w
    exact⟨v',by simp[Instr.field,a0i ok hu,hf',asAgg,r1],r2⟩
   ·trivial
  ·trivial
 -- indexAddr
 ·rename_i t x ix hop
  simp only[execOp,hop]
  split
  ·rename_i len elem b off k i hu hx hi
   have h1:=hρ x _ hx
   generalize f x=fx at h1
   have h2:=hρ ix _ hi
   generalize f ix=fi at h2
   cases h1 with|ptr _ _ hd =>
   cases h2
   split
   ·rename_i sz hsz
    split
    ·rename_i hb
     apply a3g
     refine⟨_,?_,.ptr _ _ hd⟩
     simp[Instr.indexAt,asIntOf,a0i ok hu,Instr.sureAddr,hb.1,hb.2,a1o ok hsz,En.a4u]
    ·trivial
   ·trivial
  ·rename_i elem b off len cap k i hu hx hi
   have h1:=hρ x _ hx
   generalize f x=fx at h1
   have h2:=hρ ix _ hi
   generalize f ix=fi at h2
   cases h1 with|slice _ _ _ _ hd =>
   cases h2
   split
   ·rename_i sz hsz
    split
    ·rename_i hb
     apply a3g
     refine⟨_,?_,.ptr _ _ hd⟩
     simp[Instr.indexAt,asIntOf,a0i ok hu,hb.1,hb.2,a1o ok hsz,En.a4u]
    ·trivial
   ·trivial
  ·rename_i elem b off len ssz k i hu hx hi
   have h1:=hρ x _ hx
   generalize f x=fx at h1
   have h2:=hρ ix _ hi
   generalize f ix=fi at h2
   cases h1 with|oslice _ _ _ _ kk hd hk =>
   cases h2
   split
   ·rename_i sz hsz
    split
    ·rename_i hb
     apply a3g
     refine⟨_,?_,.ptr _ _ hd⟩
     simp[Instr.indexAt,asIntOf,a0i ok hu,hb.1,hb.2,a1o ok hsz,En.a4u]
    ·trivial
   ·trivial
  ·trivial
 -- index
 ·rename_i t x ix hop
  simp only[execOp,hop]
  split
  ·rename_i len elem cs k i hu hx hi
   have h1:=hρ x _ hx
   generalize f x=fx at h1
   have h2:=hρ ix _ hi
   generalize f ix=fi at h2
   cases h1 with|agg _ l' hl =>
   cases h2
   split
   ·rename_i sz hsz
    split
    ·rename_i hb
     refine a6q _ _ _ fun v hv=>?_
     obtain⟨v',r1,r2⟩:=a5v (P:=P) ok hv hl w
     exact⟨v',by simp[Instr.index,asIntOf,a0i ok hu,hb.1,hb.2,a1o ok hsz,r1],r2⟩
    ·trivial
   ·trivial
  ·rename_i s k i hu hx hi
   have h1:=hρ x _ hx
   generalize f x=fx at h1
   have h2:=hρ ix _ hi
   generalize f ix=fi at h2
   cases h1
   cases h2
   split
   ·rename_i hb
    split
    ·rename_i bt hn
     rw[a4w] at hn
     apply a3g
     refine⟨_,?_,.int _ _⟩
     have hs:(⟨s.toArray⟩:ByteArray)[i.toNat]?=some bt:=by
      have hlt:i.toNat<s.length:=(List.getElem?_eq_some_iff.1 hn).1
      have:=(List.getElem?_eq_some_iff.1 hn).2
      have hsz:i.toNat<(⟨s.toArray⟩:ByteArray).size:=by simpa [ByteArray.size] using hlt
      rw[getElem?_pos (⟨s.toArray⟩:ByteArray) i.toNat hsz,← this]
      rfl
     simp[Instr.index,asIntOf,a0i ok hu,hb,hs]
    ·trivial
   ·trivial
  ·trivial
 -- lookup
 ·rename_i t x ix cok hop
  simp only[execOp,hop]
  split
  ·rename_i m k hm hk
   refine a6q _ _ _ fun v hv=>?_
   exact b8b (P:=P) ok H hv (hρ x m hm) (hρ ix k hk)
  ·trivial
 ·rename_i t m k x hop
  simp[a1l,hop,quiet] at hk
 ·rename_i t m k x hop
  simp[a1l,hop,quiet] at hk
 -- typeAssert
 ·rename_i x xt asserted cok hop
  simp only[execOp,hop]
  split
  ·trivial
  ·rename_i d t v hni hu hx
   have h1:=hρ x _ hx
   generalize f x=fx at h1
   cases h1 with|iface _ _ v' hv =>
   split
   ·rename_i hta
    subst hta
    apply a3g
    refine⟨if cok then .tuple #[v',.bool true] else v',?_,?_⟩
    ·cases d<;>first|(simp[Instr.typeAssert,a0i ok hu]; done)|exact(hni _ rfl).elim
    ·cases cok
     ·exact hv
     ·exact .tuple _ _ (.cons _ _ _ _ hv (.cons _ _ _ _ (.bool _) .nil))
   ·rename_i hta
    split
    ·rename_i hok
     subst hok
     split
     ·rename_i z hz
      obtain⟨zv,rz,vz⟩:=a4r ok hz
      apply a3g
      refine⟨.tuple #[zv,.bool false],?_,.tuple _ _ (.cons _ _ _ _ (vz E) (.cons _ _ _ _ (.bool _) .nil))⟩
      cases d<;>first|(simp[Instr.typeAssert,a0i ok hu,hta,rz]; done)|exact(hni _ rfl).elim
     ·trivial
    ·trivial
  ·rename_i d hni hu hx
   have h1:=hρ x _ hx
   generalize f x=fx at h1
   cases h1
   split
   ·rename_i hok
    subst hok
    split
    ·rename_i z hz
     obtain⟨zv,rz,vz⟩:=a4r ok hz
     apply a3g
     refine⟨.tuple #[zv,.bool false],?_,.tuple _ _ (.cons _ _ _ _ (vz E) (.cons _ _ _ _ (.bool _) .nil))⟩
     cases d<;>first|(simp[Instr.typeAssert,a0i ok hu,rz]; done)|exact(hni _ rfl).elim
    ·trivial
   ·trivial
  ·trivial
 ·rename_i t x hop
  simp[a1l,hop,quiet] at hk
 ·rename_i it isS hop
  simp[a1l,hop,quiet] at hk
 ·rename_i it hop
  simp[a1l,hop,quiet] at hk
 -- extract
 ·rename_i t ix hop
  simp only[execOp,hop]
  split
  ·rename_i vs ht
   have h1:=hρ t _ ht
   generalize f t=ft at h1
   cases h1 with|tuple _ l' hl =>
   refine a6q _ _ _ fun v hv=>?_
   rw[a4w] at hv
   obtain⟨v',r1,r2⟩:=hl.get hv
   exact⟨v',by simp[Instr.extract,r1],r2⟩
  ·trivial
 -- call
 ·rename_i c hop
  simp only[execOp,hop]
  have eargs:c.args.map f=(c.args.toList.map f).toArray:=by rw[← Array.toList_map,Array.toArray_toList]
  split
  ·rename_i b hcal
   split
   ·trivial
   ·rename_i args hargs
    have ha:=a3s hρ _ _ hargs
    have hres:∀ ty,(resolve f c ty).run P w=.ok { target:=.builtin b c.argTypes ty (c.args.map fun|.const _=>true|_=>false),args:=c.args.map f } w:=by
     intro ty
     simp[resolve,hcal]
     intro a _
     cases a<;>rfl
    have hrun:((do let d ← resolve f c o.type; invoke d.target d.args):Sem Next).run P w=(builtin b c.argTypes o.type (c.args.map fun|.const _=>true|_=>false) (c.args.map f)).run P w:=by
     rw[Sem.run_bind,hres]
     rfl
    rw[hrun,eargs]
    generalize (c.args.map fun|.const _=>true|_=>false)=consts
    generalize c.args.toList.map f=args' at ha
    have et:c.argTypes=c.argTypes.toList.toArray:=by simp
    rw[et]
    generalize c.argTypes.toList=tys
    cases b
    case len =>
     simp only[Go.builtin]
     split
     ·rename_i x l t ts
      cases ha with|cons _ x' _ l' hx hl =>
      refine a6q _ _ _ fun v hv=>?_
      exact b8p (P:=P) ok H hv hx ts l' o.type
     ·trivial
    case max =>
     simp only[Go.builtin]
     split
     ·rename_i x l
      cases ha with|cons _ x' _ l' hx hl =>
      refine a6q _ _ _ fun v hv=>?_
      have:=a7j (P:=P) (w:=w) true l x v l' x' hv hx hl
      simpa [Builtin.max_] using this
     ·trivial
    case min =>
     simp only[Go.builtin]
     split
     ·rename_i x l
      cases ha with|cons _ x' _ l' hx hl =>
      refine a6q _ _ _ fun v hv=>?_
      have:=a7j (P:=P) (w:=w) false l x v l' x' hv hx hl
      simpa [Builtin.min_] using this
     ·trivial
    all_goals simp[a1l,hop,hcal,quiet] at hk
  ·rename_i hnb
   simp only[a1l,hop] at hk
   cases hcal:c.callee with
   |builtin b=>exact absurd hcal (hnb b)
   |value v=>simp[quiet] at hk
   |invoke v n=>simp[quiet] at hk
 ·rename_i c hop
  simp[a1l,hop,quiet] at hk
 ·rename_i x hop
  simp[a1l,hop,quiet] at hk
 ·trivial
end Ev
end
section
namespace Ev
open Go Go.RowKit
variable {P:Program}{T:a0k}{base:Nat}{w0:World}
def f0a (P:Program) (base:Nat) (E:En) (w:World) (r:Nat) (v:AV) (a:a1t) (res:Result Next):Prop :=
 a.own∧∃ (ob:Obj) (ext:Nat) (d:Bool) (v':Value),res=.ok (.value v') ((if d then w.drew else w).alloc ob) ∧
  ∀ E2:En,E.Le E2→E2.dom r→E2.blk r=w.heap.size→E2.off r=0→E2.ext r=ext →
   VR E2 v v'∧∀ w2:World,w2.heap[w.heap.size]?=some ob→base≤w.heap.size→OR' P base E2 r w2 a
theorem c8f {E E2:En}{r:Nat}{e:TypeId}{cs:List AV}{c:Array Value}{z:Nat×Nat}{n:Nat}(hv:VRs E cs c.toList) (hz:z.1=z.2∨(c.size≤z.1∧P.underlying e=some (.int .u8))) (le:E.Le E2) (hb:E2.blk r=n) (ho:E2.off r=0) (he:E2.ext r=c.size)
  {w2:World} (hw:w2.heap[n]?=some (.cells c e z)) (hbase:base≤n):OR' P base E2 r w2 (.cells e cs true):=by
 have hl:=hv.length
 simp at hl
 refine⟨c,z,by rw[hb]; exact hw,by rw[ho,he]; omega,by rw[he]; omega,?_,fun _=>⟨by rw[hb]; exact hbase,hz⟩,by simp⟩
 intro i v hi
 obtain⟨v',h1,h2⟩:=hv.get hi
 exact⟨v',by rw[ho,Nat.zero_add,← Array.getElem?_toList]; exact h1,h2.mono le⟩
theorem at0 {E2:En}{r n:Nat}(hb:E2.blk r=n) (ho:E2.off r=0):E2.at r 0=⟨n,0,none⟩:=by simp[En.at,hb,ho]
theorem c9d (ok:a0v P T){E:En}{h:a0a}{w:World}(H:HR P base w0 E h w){ρ:Operand→Option AV}{f:Operand→Value}(hρ:d1s E ρ f) (o:Oper){r:Nat}{v:AV}{a:a1t}(hn:a8m T ρ o r=some (v,a)) :
  f0a P base E w r v a ((execOp f o).run P w):=by
 unfold a8m at hn
 split at hn
 ·-- alloc
  rename_i elem hop
  simp only[execOp,hop]
  split at hn<;>simp at hn
  rename_i z hz
  obtain⟨rfl,rfl⟩:=hn
  obtain⟨zv,rz,vz⟩:=a4r ok hz
  refine⟨rfl,.cells zv.cells elem,zv.cells.size,false,.pointer (some ⟨w.heap.size,0,none⟩),by simp[Instr.alloc,rz,newVar,newRow],?_⟩
  intro E2 le hd hb ho he
  refine⟨?_,fun w2 hw hbase=>c8f (vz E).cells (.inl rfl) le hb ho he hw hbase⟩
  rw[← at0 hb ho]; exact .ptr _ _ hd
 ·-- box
  rename_i elem x hop
  simp only[execOp,hop]
  split at hn<;>simp at hn
  rename_i v1 hx
  obtain⟨rfl,rfl⟩:=hn
  refine⟨rfl,.cells (f x).cells elem,(f x).cells.size,false,.pointer (some ⟨w.heap.size,0,none⟩),by simp[Instr.box,newVar,newRow],?_⟩
  intro E2 le hd hb ho he
  refine⟨?_,fun w2 hw hbase=>c8f (hρ x v1 hx).cells (.inl rfl) le hb ho he hw hbase⟩
  rw[← at0 hb ho]; exact .ptr _ _ hd
 ·-- buildSlice
  rename_i t len parts hop
  simp only[execOp,hop]
  split at hn
  ·rename_i elem ps hu hps
   obtain⟨p1,p2⟩:=a6l hρ _ _ hps
   obtain⟨q1,q2⟩:=b2r parts.toList f
   split at hn
   ·rename_i sz z hsz hz
    split at hn
    ·simp at hn
    ·rename_i hbig
     split at hn
     ·simp at hn
     ·rename_i hzl
      have hzl:z.length=len*sz:=by simpa using hzl
      split at hn<;>simp at hn
      rename_i l hl
      obtain⟨rfl,rfl⟩:=hn
      obtain⟨zz,r1,v1⟩:=a6y ok hz hzl (E:=E) w
      obtain⟨r',g1,g2⟩:=b0i (place':=fun i=>some (i*sz,sz)) (fun i p hp=>hp) ps (parts.toList.map fun p=>(p.1,f p.2)) z _ l hl (p1.trans q1.symm) (by rw[q2]; exact p2) v1
      refine⟨rfl,.cells r' elem,r'.size,false,.slice (some ⟨w.heap.size,0,none⟩) len len,?_,?_⟩
      ·have e:(parts.map fun(p:Nat×Operand)=>(p.1,f p.2)).toList=(parts.toList.map fun p=>(p.1,f p.2)):=by simp
       unfold Instr.buildSlice
       rw[show(parts.map fun x=>match x with|(i,x)=>(i,f x))=(parts.map fun(p:Nat×Operand)=>(p.1,f p.2)) from rfl,e]
       have hb:¬ (16777216<len*sz):=by omega
       simp only[Sem.run_bind,a0i ok hu,Result.andThen_ok,a1o ok hsz]
       simp[hb]
       by_cases h0:len*sz=0
       ·rw[if_pos h0] at r1
        simp at r1
        subst r1
        simp[h0] at g1 ⊢
        simp[g1,newRow]
       ·rw[if_neg h0] at r1
        simp at r1
        generalize hq:(zeroValue elem).run P w=q at r1
        cases q with
        |ok z2 ww =>
         simp at r1
         obtain⟨rfl,rfl⟩:=r1
         simp[hq,g1,newRow,h0]
        |halt _ _=>simp at r1
      ·intro E2 le hd hb ho he
       refine⟨?_,fun w2 hw hbase=>c8f g2 (.inl rfl) le hb ho he hw hbase⟩
       rw[← at0 hb ho]; exact .slice _ _ _ _ hd
   ·simp at hn
  ·simp at hn
 ·-- makeMap
  rename_i t r' hop
  simp only[execOp,hop]
  have fin:∀ r':Option Value,(∀ v,r'=some v→∃ k n,v=.int k n)→(∃ a b,T.und t=some (.map a b))→f0a P base E w r (.map r) (.map [] 0) ((do pure (Next.value (← Instr.makeMap t r')):Sem Next).run P w):=by
   rintro r' hr ⟨a,b,hu⟩
   refine⟨trivial,.map #[] 0,0,false,.map (some w.heap.size),?_,?_⟩
   ·cases r' with
    |none=>simp[Instr.makeMap]
    |some v =>
     obtain⟨k,n,rfl⟩:=hr v rfl
     simp[Instr.makeMap,a0i ok hu,asInt,asIntOf]
   ·intro E2 le hd hb ho he
    refine⟨by rw[← hb]; exact .map _ hd,fun w2 hw hbase=>⟨by rw[hb]; exact hbase,#[],by rw[hb]; exact hw,.nil⟩⟩
  split at hn
  ·rename_i a b hu hr
   simp at hn
   obtain⟨rfl,rfl⟩:=hn
   unfold a5b at hr
   split at hr
   ·exact fin _ (by simp) ⟨a,b,hu⟩
   ·split at hr<;>simp at hr
  ·rename_i a b k n hu hr
   simp at hn
   obtain⟨rfl,rfl⟩:=hn
   have h1:=a6s hρ hr
   exact fin _ (fun v hv=>by rw[hv] at h1; cases h1 with|some _ _ h2=>cases h2; exact⟨_,_,rfl⟩) ⟨a,b,hu⟩
  ·simp at hn
 ·-- makeSlice
  rename_i t l c hop
  simp only[execOp,hop]
  split at hn
  ·rename_i elem k l' k2 c' hu hl hc
   have h1:=hρ l _ hl
   have h2:=hρ c _ hc
   generalize f l=fl at h1
   generalize f c=fc at h2
   cases h1; cases h2
   split at hn
   ·rename_i sz ei hsz hei
    split at hn
    ·rename_i hb
     split at hn
     ·rename_i cs hz
      split at hn<;>simp at hn
      rename_i hlen
      obtain⟨rfl,rfl⟩:=hn
      obtain⟨zz,r1,v1⟩:=a6y ok hz hlen (E:=E) w
      have m1:=b5t (P:=P) ok hu hsz hei hb r1 (k:=k) (k2:=k2)
      refine⟨rfl,.cells ((Array.range (c'.toNat*sz)).map fun i=>zz[i % zz.size]!) elem,((Array.range (c'.toNat*sz)).map fun i=>zz[i % zz.size]!).size,false,_,by simp only[Sem.run_bind,m1]; rfl,?_⟩
      intro E2 le hd hb' ho he
      refine⟨?_,fun w2 hw hbase=>c8f v1 (.inl rfl) le hb' ho he hw hbase⟩
      rw[← at0 hb' ho]; exact .slice _ _ _ _ hd
     ·simp at hn
    ·simp at hn
   ·simp at hn
  ·simp at hn
 ·-- []byte(s)
  rename_i src dst x hop
  simp only[execOp,hop]
  split at hn
  ·rename_i e s hs hd hx
   have h1:=hρ x _ hx
   generalize f x=fx at h1
   cases h1
   split at hn
   ·rename_i he
    split at hn<;>simp at hn
    obtain⟨rfl,rfl⟩:=hn
    have r1:=Lib.run_convert_string_bytes (P:=P) w src dst e ⟨s.toArray⟩ (ok.und _ _ hs) (ok.und _ _ hd) (ok.und _ _ he)
    rw[b5y] at r1
    generalize hC:Lib.bytesCells w e ⟨s.toArray⟩=C at r1
    have hsz:(⟨s.toArray⟩:ByteArray).size=s.length:=by simp[ByteArray.size]
    have hCs:C.size=grownCap w s.length 0 e:=by
     rw[← hC]
     have:s.length≤grownCap w s.length 0 e:=grownCap_ge w s.length 0 e
     simp[Lib.bytesCells]
     rw[hsz]; omega
    have hCv:∀ (i:Nat) (v:AV),(u8s s)[i]?=some v→∃ v',C[i]?=some v'∧VR E v v':=by
     intro i v hi
     obtain⟨v',h1,h2⟩:=(b5a E s).get hi
     refine⟨v',?_,h2⟩
     have hil:i<s.length:=by simpa using (List.getElem?_eq_some_iff.1 h1).1
     rw[← hC]
     simp only[Lib.bytesCells]
     rw[Array.getElem?_append_left (by simpa using hil)]
     rw[← h1]
     simp
    rw[hsz] at r1
    refine⟨rfl,.cells C e (C.size,C.size+1),C.size,true,.slice (some ⟨w.heap.size,0,none⟩) s.length (grownCap w s.length 0 e),by simp[r1],?_⟩
    intro E2 le hdd hb ho he2
    refine⟨?_,fun w2 hw hbase=>?_⟩
    ·rw[← at0 hb ho]
     exact .oslice _ _ _ _ _ hdd (by rw[he2,hCs]; omega)
    ·refine⟨C,_,by rw[hb]; exact hw,by rw[ho,he2]; omega,?_,?_,fun _=>⟨by rw[hb]; exact hbase,.inr ⟨Nat.le_refl _,ok.und _ _ (by assumption)⟩⟩,by simp⟩
     ·rw[he2,hCs]; simp[u8s]; exact grownCap_ge w s.length 0 e
     ·intro i v hi
      obtain⟨v',h1,h2⟩:=hCv i v hi
      exact⟨v',by rw[ho,Nat.zero_add]; exact h1,h2.mono le⟩
   ·simp at hn
  ·simp at hn
 ·simp at hn
end Ev
end
