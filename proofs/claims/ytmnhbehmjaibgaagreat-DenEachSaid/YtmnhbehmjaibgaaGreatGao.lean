/- A part of an evaluator of the program's form in Lean, of the proof that what it says of a call is what the machine does, and of the rules by which proofs walk over it. Conditions: those that each theorem states. -/
import Derived.Test.YtmnhbehmjaibgaaGreatGan
set_option linter.unusedVariables false
set_option linter.unusedSimpArgs false
section
namespace Ev
open Go
variable {T:Tabs}{ρ:Operand→Option AV}{h h':Heap}{t:TypeId}{x y ix a:Operand}{o:Oper}
def AV.isStr:AV→Bool
 |.str _=>true
 |_=>false
structure Keep (lo:Nat) (h h':Heap):Prop where
 nx:h.next≤h'.next
 old:∀ b,b<lo→h'.get b=h.get b
 ok:h.ok→h'.ok
theorem Keep.refl (lo:Nat) (h:Heap):Keep lo h h:=⟨Nat.le_refl _,fun _ _=>rfl,id⟩
theorem Keep.trans {lo:Nat}{a b c:Heap}(x:Keep lo a b) (y:Keep lo b c):Keep lo a c:=⟨Nat.le_trans x.nx y.nx,fun n hn=>by rw[y.old n hn,x.old n hn],fun k=>y.ok (x.ok k)⟩
theorem Ext.keep {h h':Heap}(e:Ext h h'){lo:Nat}(hl:lo≤h.next):Keep lo h h':=⟨e.nx,fun b hb=>e.old b (Nat.lt_of_lt_of_le hb hl),e.ok⟩
theorem Keep.ext {h h':Heap}(k:Keep h.next h h'):Ext h h':=⟨k.nx,k.old,k.ok⟩
theorem Ext.kp {a h h':Heap}(e:Ext a h){lo:Nat}(k:Keep lo h h') (hl:a.next≤lo):Ext a h':=⟨Nat.le_trans e.nx k.nx,fun b hb=>by rw[k.old b (Nat.lt_of_lt_of_le hb hl),e.old b hb],fun q=>k.ok (e.ok q)⟩
theorem Keep.mono {lo lo':Nat}(k:Keep lo h h') (hl:lo'≤lo):Keep lo' h h':=⟨k.nx,fun b hb=>k.old b (Nat.lt_of_lt_of_le hb hl),k.ok⟩
theorem Keep.al {lo:Nat}{a h:Heap}(k:Keep lo a h) (hl:lo≤h.next) (o:AObj):Keep lo a (h.alloc o):=k.trans ((Ext.alloc h o).keep hl)
theorem Keep.st {lo:Nat}{a h:Heap}(k:Keep lo a h) (b:Nat) (o:AObj) (hb:lo≤b) (hl:b<h.next):Keep lo a (h.set b o) :=
 k.trans ⟨Nat.le_refl _,fun c hc=>by rw[Heap.gn _ _ _ _ (by omega)],fun q c hc=>by have hc:h.next≤c:=hc; rw[Heap.gn _ _ _ _ (by omega)]; exact q c hc⟩
theorem Keep.mr {lo:Nat}{a h:Heap}(k:Keep lo a h) (q:h.ok) (n:Nat):Keep lo a (Heap.mk h.t (h.next+n)):=k.trans ⟨by show h.next≤h.next+n; omega,fun _ _=>rfl,fun _=>Heap.ok_more q n⟩
structure Upd (b:Nat) (o:AObj) (h h':Heap):Prop where
 got:h'.get b=some o
 old:∀ c,c≠b→h'.get c=h.get c
 nx:h'.next=h.next
 ok:h.ok→h'.ok
theorem Upd.set (h:Heap) (b:Nat) (o:AObj) (hb:b<h.next):Upd b o h (h.set b o) :=
 ⟨Heap.gs _ _ _,fun c hc=>Heap.gn _ _ _ _ hc,rfl,fun k c hc=>by have hc:h.next≤c:=hc; rw[Heap.gn _ _ _ _ (by omega)]; exact k c hc⟩
theorem Upd.same {h:Heap}{b:Nat}{o:AObj}(g:h.get b=some o):Upd b o h h:=⟨g,fun _ _=>rfl,rfl,id⟩
inductive Own (e:TypeId) (sz lo:Nat) (h:Heap):AV→Nat→List AV→Prop
 |nil:Own e sz lo h .nilslice 0 []
 |sl {B cap n:Nat} {all cs:List AV} (hb:lo≤B) (hl:B<h.next) (hg:h.get B=some (.cells e all true)) (hn:n≤cap) (ha:all.length=cap*sz) (hc:all.take (n*sz)=cs):Own e sz lo h (.slice B 0 n cap) n cs
 |os {B n:Nat} {cs:List AV} (hb:lo≤B) (hl:B<h.next) (hg:h.get B=some (.cells e cs true)) (hc:cs.length=n*sz) (hn:0<n):Own e sz lo h (.oslice B 0 n sz) n cs
theorem Own.sl' {e:TypeId}{sz lo n:Nat}{v:AV}{cs:List AV}(w:Own e sz lo h v n cs):Sl h sz v n cs:=by
 cases w with
 |nil=>exact⟨rfl,rfl⟩
 |sl hb hl hg hn ha hc=>exact⟨rfl,hl,e,_,true,hg,by rw[Nat.zero_add,ha]; exact Nat.mul_le_mul_right _ hn,by simpa using hc⟩
 |os hb hl hg hc hn=>exact⟨rfl,rfl,hl,e,_,true,hg,by omega,by simp[← hc]⟩
theorem Own.length {e:TypeId}{sz lo n:Nat}{v:AV}{cs:List AV}(w:Own e sz lo h v n cs):cs.length=n*sz:=w.sl'.length
theorem Own.keep {e:TypeId}{sz lo n:Nat}{v:AV}{cs:List AV}(w:Own e sz lo h v n cs) (k:∀ b,lo≤b→b<h.next→h'.get b=h.get b) (hn:h.next≤h'.next):Own e sz lo h' v n cs:=by
 cases w with
 |nil=>exact .nil
 |sl hb hl hg hn' ha hc=>exact .sl hb (Nat.lt_of_lt_of_le hl hn) ((k _ hb hl).trans hg) hn' ha hc
 |os hb hl hg hc hn'=>exact .os hb (Nat.lt_of_lt_of_le hl hn) ((k _ hb hl).trans hg) hc hn'
theorem Own.ext {e:TypeId}{sz lo n:Nat}{v:AV}{cs:List AV}(w:Own e sz lo h v n cs) (x:Ext h h'):Own e sz lo h' v n cs:=w.keep (fun b _ hl=>x.old b hl) x.nx
theorem over_take {α:Type}(l vs:List α) (k:Nat) (hk:k+vs.length≤l.length):(over l k vs).take (k+vs.length)=l.take k++vs:=by
 unfold over
 rw[List.take_append_of_le_length (by simp; omega)]
 rw[List.take_of_length_le (by simp; omega)]
theorem count_sl {rest:List TypeId}{sz m:Nat}{w:AV}{new:List AV}(hm:isMake T rest=some false) (s:Sl h sz w m new):countA T rest w=some m:=by
 unfold countA
 rw[hm]
 cases w<;>first|exact s.len|(simp only[Sl] at s)
theorem new_sl {rest:List TypeId}{elem:TypeId}{sz m:Nat}{w:AV}{new:List AV}(hm:isMake T rest=some false) (s:Sl h sz w m new):newA T elem sz m h rest w=some new:=by
 unfold newA; rw[hm]; exact s.first
theorem Sl.ns {sz n:Nat}{v:AV}{cs:List AV}(s:Sl h sz v n cs):v.isStr=false:=by
 cases v<;>first|rfl|(exact s.elim)
theorem Sl.any {sz n:Nat}{v:AV}{cs:List AV}(s:Sl h sz v n cs) (hp:v.plain=true):Sl h' sz v n cs:=by
 cases v<;>first|exact s|(simp[AV.plain] at hp; done)
def By (h:Heap) (v:AV) (s:List UInt8):Prop:=Sl h 1 v s.length (u8s s)
def OwnB (e:TypeId) (lo:Nat) (h:Heap) (v:AV) (s:List UInt8):Prop:=Own e 1 lo h v s.length (u8s s)
theorem OwnB.ext {e:TypeId}{lo:Nat}{v:AV}{s:List UInt8}(w:OwnB e lo h v s) (x:Ext h h'):OwnB e lo h' v s:=Own.ext w x
theorem By.ext {v:AV}{s:List UInt8}(w:By h v s) (x:Ext h h'):By h' v s:=Sl.ext w x
theorem By.nil:By h .nilslice []:=⟨rfl,rfl⟩
theorem OwnB.nil {e:TypeId}{lo:Nat}:OwnB e lo h .nilslice []:=Own.nil
variable {α:Type}{enc:α→List AV}{sz:Nat}
def Ls (enc:α→List AV) (sz:Nat) (h:Heap) (v:AV) (l:List α):Prop:=Sl h sz v l.length (l.flatMap enc)
def OwnL (enc:α→List AV) (e:TypeId) (sz lo:Nat) (h:Heap) (v:AV) (l:List α):Prop:=Own e sz lo h v l.length (l.flatMap enc)
theorem OwnL.ls {e:TypeId}{lo:Nat}{v:AV}{l:List α}(w:OwnL enc e sz lo h v l):Ls enc sz h v l:=w.sl'
theorem OwnL.ext {e:TypeId}{lo:Nat}{v:AV}{l:List α}(w:OwnL enc e sz lo h v l) (x:Ext h h'):OwnL enc e sz lo h' v l:=Own.ext w x
theorem Ls.ext {v:AV}{l:List α}(w:Ls enc sz h v l) (x:Ext h h'):Ls enc sz h' v l:=Sl.ext w x
theorem OwnL.nil {e:TypeId}{lo:Nat}:OwnL enc e sz lo h .nilslice []:=Own.nil
theorem Ls.nil:Ls enc sz h .nilslice []:=⟨rfl,rfl⟩
theorem Ls.ns {v:AV}{l:List α}(w:Ls enc sz h v l):v.isStr=false:=Sl.ns w
theorem By.ns {v:AV}{s:List UInt8}(w:By h v s):v.isStr=false:=Sl.ns w
theorem Ls.len {v:AV}{l:List α}(w:Ls enc sz h v l):lenS v=some l.length:=Sl.len w
theorem By.len {v:AV}{s:List UInt8}(w:By h v s):lenS v=some s.length:=Sl.len w
theorem flat_at (hs:∀ x,(enc x).length=sz):∀ (l:List α) (j:Nat) (x:α),l[j]?=some x→((l.flatMap enc).drop (j*sz)).take sz=enc x
 |[],j,x,h=>by simp at h
 |y::l,0,x,h=>by
  simp at h; subst h
  simp only[Nat.zero_mul,List.drop_zero,List.flatMap_cons]
  rw[List.take_append_of_le_length (by rw[hs]; exact Nat.le_refl _),List.take_of_length_le (by rw[hs]; exact Nat.le_refl _)]
 |y::l,j+1,x,h=>by
  simp only[List.flatMap_cons]
  have:(j+1)*sz=(enc y).length+j*sz:=by rw[hs,Nat.add_mul]; omega
  rw[this,← List.drop_drop,List.drop_left]
  exact flat_at hs l j x (by simpa using h)
theorem Ls.at {v:AV}{l:List α}(w:Ls enc sz h v l) (hs:∀ x,(enc x).length=sz){j:Nat}{y:α}(hy:l[j]?=some y):∃ b p e all rw,b<h.next∧h.get b=some (.cells e all rw)∧p+sz≤all.length∧(all.drop p).take sz=enc y ∧
  ∀ {hh:Heap} {T:Tabs} {ρ:Operand→Option AV} {o:Oper} {t elem:TypeId} {x ix:Operand} {k:IntKind} {i:Int},o.op=.indexAddr t x ix→T.und t=some (.slice elem)→T.size elem=some sz→ρ x=some v→ρ ix=some (.int k i)→i=(j:Int)→opA T ρ o hh=.val (.ptr b p) hh:=by
 have hj:j<l.length:=by
  rcases Nat.lt_or_ge j l.length with h1|h1
  ·exact h1
  ·rw[List.getElem?_eq_none h1] at hy; cases hy
 obtain⟨b,p,⟨hb,e,all,rw,hg,hl,hc⟩,ad⟩:=Sl.at w j hj
 refine⟨b,p,e,all,rw,hb,hg,hl,by rw[hc]; exact flat_at hs l j y hy,?_⟩
 intro hh T ρ o t elem x ix k i ho ht hsz hx hi hij
 cases o; cases ho
 exact ad ht hsz hx hi hij
theorem k_row {b p n:Nat}{e:TypeId}{all cs:List AV}{rw:Bool}(ho:o.op=.load t a) (ha:T.agg t=some true) (hsz:T.size t=some n) (hx:ρ a=some (.ptr b p)) (hg:h.get b=some (.cells e all rw)) (he:(all.drop p).take n=cs) (hl:p+n≤all.length):opA T ρ o h=.val (.agg cs) h:=by
 cases o; cases ho
 rw[← he]
 exact o_loadN hx ha hsz hg hl
theorem k_row1 {b p n:Nat}{e:TypeId}{all:List AV}{v:AV}{rw:Bool}(ho:o.op=.load t a) (ha:T.agg t=some false) (hsz:T.size t=some n) (hx:ρ a=some (.ptr b p)) (hg:h.get b=some (.cells e all rw)) (he:(all.drop p).take 1=[v]):opA T ρ o h=.val v h:=by
 cases o; cases ho
 refine o_load hx ha hsz hg ?_
 have:=congrArg (fun l=>l[0]?) he
 simpa using this
theorem k_fld {b p k n sz:Nat}{e:TypeId}{all cs:List AV}{v:AV}{rw:Bool}(ho:o.op=.load t a) (ha:T.agg t=some false) (hsz:T.size t=some n) (hx:ρ a=some (.ptr b (p+k))) (hg:h.get b=some (.cells e all rw)) (he:(all.drop p).take sz=cs) (hv:cs[k]?=some v):opA T ρ o h=.val v h:=by
 cases o; cases ho
 refine o_load hx ha hsz hg ?_
 rw[← he] at hv
 rw[List.getElem?_take] at hv
 split at hv
 ·rw[List.getElem?_drop] at hv; exact hv
 ·cases hv
theorem k_len {v:AV}{n:Nat}{ats:Array TypeId}{st elem:TypeId}{rest:List TypeId}(hl:lenS v=some n) (ho:o.op=.call { callee:=.builtin .len,args := #[x],argTypes:=ats }) (hx:ρ x=some v) (hat:ats.toList=st::rest) (ht:T.und st=some (.slice elem)) (hv:v.isStr=false):opA T ρ o h=.val (.int .i64 n) h:=by
 cases o; cases ho
 have:lenA T st h v=some (.int .i64 n):=by
  unfold lenA
  rw[ht]
  cases v<;>first|(simp only[hl]; done)|(cases hv)
 simp[opA,argMap,hx,hat,this,rv]
theorem k_app {u w:AV}{ats:Array TypeId}{st:TypeId}{rest:List TypeId}{v:AV}(e:appendA T [u,w] (st::rest) h=.val v h') (ho:o.op=.call { callee:=.builtin .append,args := #[x,y],argTypes:=ats }) (hat:ats.toList=st::rest) (hx:ρ x=some u) (hy:ρ y=some w):opA T ρ o h=.val v h':=by
 cases o; cases ho
 rw[o_append hx hy,hat]; exact e
end Ev
end
section
namespace Ev
open Go
variable {T:Tabs}{ρ:Operand→Option AV}{h h':Heap}{t:TypeId}{x ix a y z:Operand}{kd:IntKind}{i j:Int}{o:Oper}{op:BinOp}{v:AV}
theorem Heap.na (h:Heap) (o:AObj):(h.alloc o).next=h.next+1:=rfl
theorem Heap.ns (h:Heap) (b:Nat) (o:AObj):(h.set b o).next=h.next:=rfl
theorem Heap.nm (t:Tr AObj) (n:Nat):(Heap.mk t n).next=n:=rfl
theorem Heap.ga (h:Heap) (b:Nat) (o:AObj) (n:b≠h.next):(h.alloc o).get b=h.get b:=by rw[Heap.get_alloc,if_neg n]
theorem Heap.gm (h:Heap) (n b:Nat) (_:Nat.ble 1 n=true):(Heap.mk h.t (h.next+n)).get b=h.get b:=rfl
theorem Ext.al {a h:Heap}(e:Ext a h) (o:AObj):Ext a (h.alloc o):=e.trans (Ext.alloc h o)
theorem Ext.st {a h:Heap}(e:Ext a h) (b:Nat) (o:AObj) (hb:a.next≤b) (hl:b<h.next):Ext a (h.set b o):=e.setL hb hl o
theorem Ext.mr {a h:Heap}{n:Nat}(_:Nat.ble 1 n=true) (e:Ext a h) (k:h.ok):Ext a (Heap.mk h.t (h.next+n)):=e.more k n
theorem ok_al {h:Heap}(k:h.ok) (o:AObj):(h.alloc o).ok:=(Ext.alloc h o).ok k
theorem ok_st {h:Heap}(k:h.ok) (b:Nat) (o:AObj) (hb:b<h.next):(h.set b o).ok:=fun c hc=>by
 have hc:h.next≤c:=hc
 rw[Heap.gn _ _ _ _ (by omega)]; exact k c hc
theorem ok_mr {h:Heap}{n:Nat}(_:Nat.ble 1 n=true) (k:h.ok):(Heap.mk h.t (h.next+n)).ok:=Heap.ok_more k n
theorem ok_nil:(⟨.nil,0⟩:Heap).ok:=fun b _=>Tr.get_nil b
theorem hne {a b:Nat}(w:a≠b:=by(first|omega|(simp only[Heap.na,Heap.ns,Heap.nm]; omega)|(have nxq:=Ext.nx (by assumption); (try simp only[Heap.na,Heap.ns,Heap.nm] at nxq ⊢); omega))):a≠b:=w
theorem hlt {a b:Nat}(w:a<b:=by(first|omega|(simp only[Heap.na,Heap.ns,Heap.nm]; omega)|(have nxq:=Ext.nx (by assumption); (try simp only[Heap.na,Heap.ns,Heap.nm] at nxq ⊢); omega))):a<b:=w
theorem hle {a b:Nat}(w:a≤b:=by(first|omega|(simp only[Heap.na,Heap.ns,Heap.nm]; omega)|(have nxq:=Ext.nx (by assumption); (try simp only[Heap.na,Heap.ns,Heap.nm] at nxq ⊢); omega))):a≤b:=w
theorem hget {h:Heap}{b:Nat}{r:Option AObj}(w:h.get b=r:=by((repeat (first|assumption|exact get_new _ _|exact Heap.gs _ _ _|refine(Heap.gn _ _ _ _ hne).trans ?_|refine(Heap.ga _ _ _ hne).trans ?_|refine(Heap.gm _ _ _ rfl).trans ?_|refine(Ext.old (by assumption) _ hlt).trans ?_|refine(Keep.old (by assumption) _ hlt).trans ?_|exact Upd.got (by assumption)|refine(Upd.old (by assumption) _ hne).trans ?_)); done)):h.get b=r:=w
theorem hext {a h:Heap}(w:Ext a h:=by((repeat (first|exact Ext.refl _|assumption|refine Ext.al ?_ _|refine Ext.st ?_ _ _ hle hlt|refine Ext.mr rfl ?_ ?_|refine ok_al ?_ _|refine ok_st ?_ _ _ hlt|refine ok_mr rfl ?_|refine Ext.kp ?_ (by assumption) hle|refine Ext.trans ?_ (by assumption)|refine Ext.ok (by assumption) ?_|refine Keep.ok (by assumption) ?_)); done)):Ext a h:=w
theorem hok {h:Heap}(w:h.ok:=by((repeat (first|exact ok_nil|assumption|refine ok_al ?_ _|refine ok_st ?_ _ _ hlt|refine ok_mr rfl ?_|refine Ext.ok (by assumption) ?_|refine Keep.ok (by assumption) ?_|refine Upd.ok (by assumption) ?_)); done)):h.ok:=w
theorem hsub {A B:List (Nat×AV)}(w:Sub A B:=by((repeat (first|exact Sub.nil _|refine Sub.cons rfl ?_)); done)):Sub A B:=w
def opC:Op→Nat
 |.binOp .lss .. => 1
 |.binOp .leq .. => 1
 |.binOp .gtr .. => 1
 |.binOp .geq .. => 1
 |.binOp .eql .. => 1
 |.binOp .neq .. => 1
 |.binOp .add .. => 2
 |.binOp .sub .. => 2
 |.binOp .mul .. => 2
 |.binOp .quo .. => 2
 |.binOp .rem .. => 2
 |.binOp .. => 12
 |.load .. => 3
 |.convert .. => 4
 |.index .. => 5
 |.slice .. => 6
 |.store .. => 7
 |.call c=>match c.callee with
  |.builtin .append=>14
  |.builtin .copy=>15
  |.builtin .clear=>15
  |_=>8
 |.indexAddr .. => 9
 |.unOp .. => 10
 |.pick .. => 11
 |.makeSlice .. => 13
 |_=>0
theorem opa_c {r:OR}(n:Nat) (_:Nat.beq (opC o.op) n=true) (e:opA T ρ o h=r):opA T ρ o h=r:=e
theorem k_notd {p:Prop} [Decidable p] {t:TypeId}(ho:o.op=.unOp .not t x) (hx:ρ x=some (.bool (decide p))):opA T ρ o h=.val (.bool (decide (¬ p))) h:=by
 cases o; cases ho
 simp[opA,hx,unA,rv]
theorem k_pickt {c a b:Operand}{p:Prop} [Decidable p] (ho:o.op=.pick c a b) (hc:ρ c=some (.bool (decide p))) (hp:p) (ha:ρ a=some v):opA T ρ o h=.val v h:=by
 cases o; cases ho
 simp[opA,hc,hp,ha,rv]
theorem k_pickf {c a b:Operand}{p:Prop} [Decidable p] (ho:o.op=.pick c a b) (hc:ρ c=some (.bool (decide p))) (hp:¬ p) (hb:ρ b=some v):opA T ρ o h=.val v h:=by
 cases o; cases ho
 simp[opA,hc,hp,hb,rv]
theorem k_addrO {len:Nat}{elem:TypeId}{sz b off:Nat}{n:Nat}{kk:IntKind}(ho:o.op=.indexAddr t x ix) (ht:T.und t=some (.slice elem)) (hsz:T.size elem=some sz) (hx:ρ x=some (.oslice b off len sz)) (hi:ρ ix=some (.int kk (n:Int))) (hn:n<len):opA T ρ o h=.val (.ptr b (off+n*sz)) h:=by
 cases o; cases ho
 exact o_addr_oslice ht hsz hx hi n rfl hn
theorem k_addrS {len cap:Nat}{elem:TypeId}{sz b off:Nat}{n:Nat}{kk:IntKind}(ho:o.op=.indexAddr t x ix) (ht:T.und t=some (.slice elem)) (hsz:T.size elem=some sz) (hx:ρ x=some (.slice b off len cap)) (hi:ρ ix=some (.int kk (n:Int))) (hn:n<len):opA T ρ o h=.val (.ptr b (off+n*sz)) h:=by
 cases o; cases ho
 exact o_addr_slice ht hsz hx hi n rfl hn
theorem k_subI {s:List UInt8}{i:Int}(ho:o.op=.slice t x (some y) none none) (ht:T.und t=some .string) (hx:ρ x=some (.str s)) (hy:ρ y=some (.int .i64 i)) (h0:0≤i) (hk:i≤s.length):opA T ρ o h=.val (.str (s.drop i.toNat)) h:=by
 obtain⟨n,rfl⟩:=Int.eq_ofNat_of_zero_le h0
 exact k_sub_from ho ht hx hy (by omega)
theorem k_subI2 {s:List UInt8}{i:Int}(ho:o.op=.slice t x none (some y) none) (ht:T.und t=some .string) (hx:ρ x=some (.str s)) (hy:ρ y=some (.int .i64 i)) (h0:0≤i) (hk:i≤s.length):opA T ρ o h=.val (.str (s.take i.toNat)) h:=by
 obtain⟨n,rfl⟩:=Int.eq_ofNat_of_zero_le h0
 exact k_sub_to ho ht hx hy (by omega)
theorem k_dyn {f:Operand}{args:Array Operand}{ats:Array TypeId}{g:FuncId}{first cap as w:List AV}{F:Func}{c:Code}(hF:T.fn g=some F) (hb:F.body=some c) (ho:o.op=.call { callee:=.value f,args:=args,argTypes:=ats }) (hf:ρ f=some (.func (.func g) first cap)) (ha:argMap ρ args.toList=some as) (he:first++as++cap=w):opA T ρ o h=.enter g w h:=by
 cases o; cases ho
 subst he
 simp only[opA,resolveA,hf,ha,invokeA,hF,hb]
theorem wr_id {k:IntKind}{i z:Int}(w:k.wrap i=z:=by(first|exact wr_i64 rfl (by omega) (by omega)|exact wr_u32 rfl (by omega) (by omega)|exact wr_u8 rfl (by omega) (by omega)|exact wr_u64 rfl (by omega) (by omega))):k.wrap i=z:=w
theorem cmpa {r:Option AV}{av bv:AV}(w:binA T op t av bv=r:=by(first|exact c_t (by simp only[cmpP]; omega)|exact c_f rfl (by simp only[cmpP]; omega)|exact c_eqs_t rfl (by assumption)|exact c_eqs_f rfl (by assumption)|exact c_nes_t rfl (by assumption)|exact c_nes_f rfl (by assumption)|exact c_lss_d rfl|exact c_leq_d rfl|exact c_gtr_d rfl|exact c_geq_d rfl|exact c_eql_d rfl|exact c_neq_d rfl|exact c_lss_s rfl|exact c_leq_s rfl|exact c_gtr_s rfl|exact c_geq_s rfl|exact c_eql_s rfl|exact c_neq_s rfl|exact rfl)):binA T op t av bv=r:=w
theorem aria {r:Option AV}{av bv:AV}(w:binA T op t av bv=r:=by(first|exact c_add rfl rfl rfl (by omega) (by omega)|exact c_sub rfl rfl rfl (by omega) (by omega)|exact c_mul rfl rfl rfl (by omega) (by omega)|exact c_quo rfl rfl (by omega) rfl (by omega) (by omega)|exact c_rem rfl (by omega)|exact c_add32 rfl rfl rfl (by omega) (by omega)|exact c_sub32 rfl rfl rfl (by omega) (by omega)|exact c_add64 rfl rfl rfl (by omega) (by omega)|exact c_cat rfl (by omega)|exact rfl)):binA T op t av bv=r:=w
theorem opa {r:OR}(w:opA T ρ o h=r:=by(first|(refine opa_c 0 rfl ?_; exact rfl)|(refine opa_c 1 rfl ?_; exact k_bin rfl rfl rfl cmpa rfl)|(refine opa_c 2 rfl ?_; exact k_bin rfl rfl rfl aria rfl)|(refine opa_c 3 rfl ?_; first|exact k_row rfl rfl rfl rfl hget (by assumption) (by assumption)|exact k_row1 rfl rfl rfl rfl hget (by assumption)|exact k_fld rfl rfl rfl rfl hget (by assumption) rfl|exact k_load rfl rfl rfl rfl hget rfl|exact k_loadN rfl rfl rfl rfl hget (by first|exact Nat.le_of_ble_eq_true rfl|omega))|(refine opa_c 4 rfl ?_; first|exact k_conv rfl rfl rfl rfl wr_id|exact rfl)|(refine opa_c 5 rfl ?_; first|exact k_ix rfl rfl rfl rfl (by omega)|exact rfl)|(refine opa_c 6 rfl ?_; first|exact k_sub_both rfl rfl rfl rfl rfl (by omega) (by omega)|exact k_sub_to rfl rfl rfl rfl (by omega)|exact k_sub_from rfl rfl rfl rfl (by omega)|exact k_subI rfl rfl rfl rfl (by omega) (by omega)|exact k_subI2 rfl rfl rfl rfl (by omega) (by omega)|exact rfl)|(refine opa_c 7 rfl ?_; first|exact k_store1 rfl rfl rfl rfl (by first|exact rfl|assumption) (by first|exact rfl|assumption) hget (by first|exact Nat.le_of_ble_eq_true rfl|omega)|exact k_storeN rfl rfl rfl rfl rfl rfl hget (by first|exact Nat.le_of_ble_eq_true rfl|omega))|(refine opa_c 8 rfl ?_; first|exact rfl|exact k_len (by assumption) rfl rfl rfl rfl (by first|rfl|assumption|exact Ls.ns (by assumption)|exact By.ns (by assumption)))|(refine opa_c 14 rfl ?_; exact k_app (by assumption) rfl rfl rfl rfl)|(refine opa_c 9 rfl ?_; first|exact a1 rfl rfl rfl rfl rfl (by omega)|exact a2 rfl rfl rfl rfl rfl (by omega)|exact k_addrO rfl rfl rfl rfl rfl (by omega)|exact k_addrS rfl rfl rfl rfl rfl (by omega)|exact rfl)|(refine opa_c 10 rfl ?_; first|exact k_notd rfl rfl|exact rfl)|(refine opa_c 11 rfl ?_; first|exact rfl|exact k_pickt rfl rfl (by assumption) rfl|exact k_pickf rfl rfl (by assumption) rfl))):opA T ρ o h=r:=w
variable {cx:Cx}{k:List K}{Q:Res→Prop}{all rest:List Oper}{df:List ADef}{pan:Option (AV×Bool)}{L:List (Nat×AV)}
theorem hres {rs:List ResultVar}{vs:Option (List AV)}(w:resultsL T L h rs=vs:=by(first|exact rfl|((repeat (first|exact rfl|refine results_cell rfl (cell_agg rfl rfl hget rfl) ?_|refine results_cell rfl (cell_one rfl rfl hget) ?_|refine results_tmp rfl ?_)); done))):resultsL T L h rs=vs:=w
theorem av_t {p:Prop} [Decidable p] (h:p):AV.bool true=AV.bool (decide p):=by rw[decide_eq_true h]
theorem av_f {p:Prop} [Decidable p] (h:¬ p):AV.bool false=AV.bool (decide p):=by rw[decide_eq_false h]
theorem if_t {α:Type}{c:Prop} [Decidable c] {x a b:α}(hc:c) (e:x=a):x=if c then a else b:=by rw[if_pos hc]; exact e
theorem if_f {α:Type}{c:Prop} [Decidable c] {x a b:α}(hc:¬ c) (e:x=b):x=if c then a else b:=by rw[if_neg hc]; exact e
theorem cl {p:Prop}(w:p:=by(first|assumption|omega|(simp_all; done)|grind)):p:=w
theorem av_d {p q:Prop} [Decidable p] [Decidable q] (h:p↔q):AV.bool (decide p)=AV.bool (decide q):=by simp only[h]
theorem nope {p:Prop}(w:False:=by(first|contradiction|omega)):p:=w.elim
theorem hval {a b:AV}(w:a=b:=by((repeat (first|exact rfl|exact av_t cl|exact av_f cl|exact av_d cl|refine if_t cl ?_|refine if_f cl ?_|refine congrArg (AV.int _) ?_|omega|exact nope)); done)):a=b:=w
theorem jg_ret1 {rs:List ResultVar}{P:AV→Heap→Prop}{v:AV}(hr:resultsL T L h rs=some [v]) (p:P v h):GJ T cx (.code .ret::k) L [] none h (Ends T rs P):=jg_ret hr p
end Ev
end
section
namespace Ev
open Go
theorem hms {ms:List Nat}{l:List EJ}{n:Nat}(w:MsJ ms l n:=by((repeat (first|exact trivial|refine And.intro rfl ?_)); done)):MsJ ms l n:=w
theorem hall {T:Tabs}{l:List (EJ×Heap)}(w:AllJ T l:=by((repeat (first|exact trivial|refine And.intro ⟨_,opa⟩ ?_)); done)):AllJ T l:=w
theorem isO {T:Tabs}{cx:Cx}{all rest:List Oper}{k:List K}{L:List (Nat×AV)}{df:List ADef}{pan:Option (AV×Bool)}{h:Heap}{Q:Res→Prop}(g:OJ T cx all rest k L df pan h Q):OJ T cx all rest k L df pan h Q:=g
theorem isG {T:Tabs}{cx:Cx}{k:List K}{L:List (Nat×AV)}{df:List ADef}{pan:Option (AV×Bool)}{h:Heap}{Q:Res→Prop}(g:GJ T cx k L df pan h Q):GJ T cx k L df pan h Q:=g
theorem isD {T:Tabs}{cx:Cx}{k:List K}{df:List ADef}{pan:Option (AV×Bool)}{Q:Res→Prop}{all rest:List Oper}{ms mr:List Nat}{N i:Nat}{hl:List (List Tmp)}{L:List (Nat×AV)}{h:Heap}{acc:List EJ}(g:DJ T cx k df pan Q all ms N rest mr hl i L h acc):DJ T cx k df pan Q all ms N rest mr hl i L h acc:=g
structure Box (R:Prop):Prop where
 out:R
theorem walk {G R:Prop}(kk:R) (w:Box R→G:=by(intro kk; (repeat (first|(refine isO ?_; first|refine jo_nil ?_|(refine jo_want rfl ?_; first|(refine jo_c rfl ?_; first|refine jo_wf (w1 _) rfl rfl rfl rfl rfl ?_|refine jo_wf (w2 _) rfl rfl rfl rfl rfl ?_|refine jo_wf (w3 _) rfl rfl rfl rfl rfl ?_|refine jo_wf (w4 _) rfl rfl rfl rfl rfl ?_|refine jo_wf (w5 _) rfl rfl rfl rfl rfl ?_|refine jo_wf (w6 _) rfl rfl rfl rfl rfl ?_|refine jo_val rfl rfl rfl opa ?_)|refine jo_val rfl rfl rfl opa ?_|refine jo_skip rfl rfl opa ?_|refine jo_val0 rfl rfl opa ?_)|(refine jo_g rfl ?_; first|refine jo_no rfl rfl rfl ?_|refine jo_no0 rfl rfl ?_|((fail_if_success refine jo_want rfl ?_); first|refine jo_dect rfl rfl rfl (by assumption) ?_|refine jo_decf rfl rfl rfl (by assumption) ?_|refine jo_decn rfl rfl rfl (by assumption) ?_|refine jo_boolt rfl rfl rfl (by assumption) ?_|refine jo_boolf rfl rfl rfl (by assumption) ?_)))|(refine isG ?_; first|refine jg_seq ?_|refine jg_region ?_|refine jg_ift rfl ?_|refine jg_iff rfl ?_|refine jg_skip ?_|refine jg_blk ?_|refine jg_end ?_|refine jg_block ?_|refine jg_scope ?_|refine jg_label ?_|refine jg_exit rfl ?_|refine jg_dect rfl (by assumption) ?_|refine jg_decf rfl (by assumption) ?_|refine jg_decn rfl (by assumption) ?_|refine jg_boolt rfl (by assumption) ?_|refine jg_boolf rfl (by assumption) ?_)|(refine isD ?_; first|refine jd_nil hms rfl hall ?_|(refine jd_want rfl ?_; first|(refine jd_c rfl ?_; first|refine jd_wf (w1 _) rfl rfl rfl rfl rfl rfl rfl ?_|refine jd_wf (w2 _) rfl rfl rfl rfl rfl rfl rfl ?_|refine jd_wf (w3 _) rfl rfl rfl rfl rfl rfl rfl ?_|refine jd_wf (w4 _) rfl rfl rfl rfl rfl rfl rfl ?_|refine jd_wf (w5 _) rfl rfl rfl rfl rfl rfl rfl ?_|refine jd_wf (w6 _) rfl rfl rfl rfl rfl rfl rfl ?_|refine jd_act rfl rfl rfl rfl opa ?_)|refine jd_val rfl rfl rfl rfl opa ?_|refine jd_skip rfl rfl rfl opa ?_|refine jd_alloc rfl rfl rfl rfl rfl ?_|refine jd_act rfl rfl rfl rfl opa ?_)|(refine jd_g rfl ?_; first|refine jd_no rfl rfl rfl ?_|((fail_if_success refine jd_want rfl ?_); first|refine jd_dect rfl rfl rfl (by assumption) ?_|refine jd_decf rfl rfl rfl (by assumption) ?_|refine jd_decn rfl rfl rfl (by assumption) ?_))))); exact kk.out)):G:=w ⟨kk⟩
theorem both {G R1 R2:Prop}(k1:R1) (k2:R2) (w:Box R1→Box R2→G:=by(intro k1 k2; (repeat' (first|(refine isO ?_; first|refine jo_nil ?_|(refine jo_want rfl ?_; first|(refine jo_c rfl ?_; first|refine jo_wf (w1 _) rfl rfl rfl rfl rfl ?_|refine jo_wf (w2 _) rfl rfl rfl rfl rfl ?_|refine jo_wf (w3 _) rfl rfl rfl rfl rfl ?_|refine jo_wf (w4 _) rfl rfl rfl rfl rfl ?_|refine jo_wf (w5 _) rfl rfl rfl rfl rfl ?_|refine jo_wf (w6 _) rfl rfl rfl rfl rfl ?_|refine jo_val rfl rfl rfl opa ?_)|refine jo_val rfl rfl rfl opa ?_|refine jo_skip rfl rfl opa ?_|refine jo_val0 rfl rfl opa ?_)|(refine jo_g rfl ?_; first|refine jo_no rfl rfl rfl ?_|refine jo_no0 rfl rfl ?_|((fail_if_success refine jo_want rfl ?_); first|refine jo_dect rfl rfl rfl (by assumption) ?_|refine jo_decf rfl rfl rfl (by assumption) ?_|refine jo_decn rfl rfl rfl (by assumption) ?_|refine jo_boolt rfl rfl rfl (by assumption) ?_|refine jo_boolf rfl rfl rfl (by assumption) ?_|(refine jo_dec rfl rfl rfl ?_ ?_; exact k1.out; exact k2.out)|(refine jo_bool rfl rfl rfl ?_ ?_; exact k1.out; exact k2.out))))|(refine isG ?_; first|refine jg_seq ?_|refine jg_region ?_|refine jg_ift rfl ?_|refine jg_iff rfl ?_|refine jg_skip ?_|refine jg_blk ?_|refine jg_end ?_|refine jg_block ?_|refine jg_scope ?_|refine jg_label ?_|refine jg_exit rfl ?_|refine jg_dect rfl (by assumption) ?_|refine jg_decf rfl (by assumption) ?_|refine jg_decn rfl (by assumption) ?_|refine jg_boolt rfl (by assumption) ?_|refine jg_boolf rfl (by assumption) ?_|(refine jg_dec rfl ?_ ?_; exact k1.out; exact k2.out)|(refine jg_bool rfl ?_ ?_; exact k1.out; exact k2.out))|(refine isD ?_; first|refine jd_nil hms rfl hall ?_|(refine jd_want rfl ?_; first|(refine jd_c rfl ?_; first|refine jd_wf (w1 _) rfl rfl rfl rfl rfl rfl rfl ?_|refine jd_wf (w2 _) rfl rfl rfl rfl rfl rfl rfl ?_|refine jd_wf (w3 _) rfl rfl rfl rfl rfl rfl rfl ?_|refine jd_wf (w4 _) rfl rfl rfl rfl rfl rfl rfl ?_|refine jd_wf (w5 _) rfl rfl rfl rfl rfl rfl rfl ?_|refine jd_wf (w6 _) rfl rfl rfl rfl rfl rfl rfl ?_|refine jd_act rfl rfl rfl rfl opa ?_)|refine jd_val rfl rfl rfl rfl opa ?_|refine jd_skip rfl rfl rfl opa ?_|refine jd_alloc rfl rfl rfl rfl rfl ?_|refine jd_act rfl rfl rfl rfl opa ?_)|(refine jd_g rfl ?_; first|refine jd_no rfl rfl rfl ?_|((fail_if_success refine jd_want rfl ?_); first|refine jd_dect rfl rfl rfl (by assumption) ?_|refine jd_decf rfl rfl rfl (by assumption) ?_|refine jd_decn rfl rfl rfl (by assumption) ?_|(refine jd_dec rfl rfl rfl ?_ ?_; exact k1.out; exact k2.out)|(refine jd_bool rfl rfl rfl ?_ ?_; exact k1.out; exact k2.out)))))))):G:=w ⟨k1⟩ ⟨k2⟩
end Ev
end
