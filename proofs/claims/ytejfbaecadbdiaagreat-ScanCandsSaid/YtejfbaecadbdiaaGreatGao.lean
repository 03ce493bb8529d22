/- A part of an evaluator of the program's form in Lean, of the proof that what it says of a call is what the machine does, and of the rules by which proofs walk over it. Conditions: those that each theorem states. -/
import Derived.Test.YtejfbaecadbdiaaGreatGan
set_option linter.unusedVariables false
set_option linter.unusedSimpArgs false
section
namespace Ev
open Go
variable {T:a0k}{ρ:Operand→Option AV}{h h':a0a}{t:TypeId}{x y ix a:Operand}{o:Oper}
def AV.isStr:AV→Bool
 |.str _=>true
 |_=>false
structure a4g (lo:Nat) (h h':a0a):Prop where
 nx:h.next≤h'.next
 old:∀ b,b<lo→h'.get b=h.get b
 ok:h.ok→h'.ok
theorem a4g.refl (lo:Nat) (h:a0a):a4g lo h h:=⟨Nat.le_refl _,fun _ _=>rfl,id⟩
theorem a4g.trans {lo:Nat}{a b c:a0a}(x:a4g lo a b) (y:a4g lo b c):a4g lo a c:=⟨Nat.le_trans x.nx y.nx,fun n hn=>by rw[y.old n hn,x.old n hn],fun k=>y.ok (x.ok k)⟩
theorem Ext.keep {h h':a0a}(e:Ext h h'){lo:Nat}(hl:lo≤h.next):a4g lo h h':=⟨e.nx,fun b hb=>e.old b (Nat.lt_of_lt_of_le hb hl),e.ok⟩
theorem a4g.ext {h h':a0a}(k:a4g h.next h h'):Ext h h':=⟨k.nx,k.old,k.ok⟩
theorem Ext.kp {a h h':a0a}(e:Ext a h){lo:Nat}(k:a4g lo h h') (hl:a.next≤lo):Ext a h':=⟨Nat.le_trans e.nx k.nx,fun b hb=>by rw[k.old b (Nat.lt_of_lt_of_le hb hl),e.old b hb],fun q=>k.ok (e.ok q)⟩
theorem a4g.mono {lo lo':Nat}(k:a4g lo h h') (hl:lo'≤lo):a4g lo' h h':=⟨k.nx,fun b hb=>k.old b (Nat.lt_of_lt_of_le hb hl),k.ok⟩
theorem a4g.al {lo:Nat}{a h:a0a}(k:a4g lo a h) (hl:lo≤h.next) (o:a1t):a4g lo a (h.alloc o):=k.trans ((Ext.alloc h o).keep hl)
theorem a4g.st {lo:Nat}{a h:a0a}(k:a4g lo a h) (b:Nat) (o:a1t) (hb:lo≤b) (hl:b<h.next):a4g lo a (h.set b o) :=
 k.trans ⟨Nat.le_refl _,fun c hc=>by rw[a0a.gn _ _ _ _ (by omega)],fun q c hc=>by have hc:h.next≤c:=hc; rw[a0a.gn _ _ _ _ (by omega)]; exact q c hc⟩
theorem a4g.mr {lo:Nat}{a h:a0a}(k:a4g lo a h) (q:h.ok) (n:Nat):a4g lo a (a0a.mk h.t (h.next+n)):=k.trans ⟨by show h.next≤h.next+n; omega,fun _ _=>rfl,fun _=>a0a.a2o q n⟩
structure Upd (b:Nat) (o:a1t) (h h':a0a):Prop where
 got:h'.get b=some o
 old:∀ c,c≠b→h'.get c=h.get c
 nx:h'.next=h.next
 ok:h.ok→h'.ok
theorem Upd.set (h:a0a) (b:Nat) (o:a1t) (hb:b<h.next):Upd b o h (h.set b o) :=
 ⟨a0a.gs _ _ _,fun c hc=>a0a.gn _ _ _ _ hc,rfl,fun k c hc=>by have hc:h.next≤c:=hc; rw[a0a.gn _ _ _ _ (by omega)]; exact k c hc⟩
theorem Upd.same {h:a0a}{b:Nat}{o:a1t}(g:h.get b=some o):Upd b o h h:=⟨g,fun _ _=>rfl,rfl,id⟩
inductive Own (e:TypeId) (sz lo:Nat) (h:a0a):AV→Nat→List AV→Prop
 |nil:Own e sz lo h .nilslice 0 []
 |sl {B cap n:Nat} {all cs:List AV} (hb:lo≤B) (hl:B<h.next) (hg:h.get B=some (.cells e all true)) (hn:n≤cap) (ha:all.length=cap*sz) (hc:all.take (n*sz)=cs):Own e sz lo h (.slice B 0 n cap) n cs
 |os {B n:Nat} {cs:List AV} (hb:lo≤B) (hl:B<h.next) (hg:h.get B=some (.cells e cs true)) (hc:cs.length=n*sz) (hn:0<n):Own e sz lo h (.oslice B 0 n sz) n cs
theorem Own.sl' {e:TypeId}{sz lo n:Nat}{v:AV}{cs:List AV}(w:Own e sz lo h v n cs):Sl h sz v n cs:=by
 cases w with
 |nil=>exact⟨rfl,rfl⟩
 |sl hb hl hg hn ha hc=>exact⟨rfl,hl,e,_,true,hg,by rw[Nat.zero_add,ha]; exact Nat.mul_le_mul_right _ hn,by simpa using hc⟩
 |os hb hl hg hc hn=>exact⟨rfl,rfl,hl,e,_,true,hg,by omega,by simp[← hc]⟩
theorem Own.length {e:TypeId}{sz lo n:Nat}{v:AV}{cs:List AV}(w:Own e sz lo h v n cs):cs.length=n*sz:=w.sl'.length
theorem Own.keep {e:TypeId}{sz lo n:Nat}{v:AV}{cs:List AV}(w:Own e sz lo h v n cs) (k:∀ b,lo≤b→b<h.next→h'.get b=h.get b) (hn:h.next≤h'.next):Own e sz lo h' v n cs:=by
 cases w with
 |nil=>exact .nil
 |sl hb hl hg hn' ha hc=>exact .sl hb (Nat.lt_of_lt_of_le hl hn) ((k _ hb hl).trans hg) hn' ha hc
 |os hb hl hg hc hn'=>exact .os hb (Nat.lt_of_lt_of_le hl hn) ((k _ hb hl).trans hg) hc hn'
theorem Own.ext {e:TypeId}{sz lo n:Nat}{v:AV}{cs:List AV}(w:Own e sz lo h v n cs) (x:Ext h h'):Own e sz lo h' v n cs:=w.keep (fun b _ hl=>x.old b hl) x.nx
theorem Own.lo {e:TypeId}{sz lo lo' n:Nat}{v:AV}{cs:List AV}(w:Own e sz lo h v n cs) (hl:lo'≤lo):Own e sz lo' h v n cs:=by
 cases w with
 |nil=>exact .nil
 |sl hb hl' hg hn ha hc=>exact .sl (by omega) hl' hg hn ha hc
 |os hb hl' hg hc hn=>exact .os (by omega) hl' hg hc hn
theorem b5d {α:Type}(l vs:List α) (k:Nat) (hk:k+vs.length≤l.length):(over l k vs).take (k+vs.length)=l.take k++vs:=by
 unfold over
 rw[List.take_append_of_le_length (by simp; omega)]
 rw[List.take_of_length_le (by simp; omega)]
theorem b2j {st elem:TypeId}{rest:List TypeId}{sz lo n m:Nat}{ei:TypeInfo}{u w:AV}{cs new:List AV}(hu:T.und st=some (.slice elem)) (hsz:T.size elem=some sz) (hti:T.ti elem=some ei) (hz:a5y T elem sz=true) (hs0:0<sz)
  (own:Own elem sz lo h u n cs) (hlo:lo≤h.next) (hcount:b0z T rest w=some m) (hnew:c4r T elem sz m h rest w=some new) (hlen:new.length=m*sz) (hone:new.all AV.one=true) (hr:a2u (n+m) ei.bytes=true) :
  ∃ v' h',a1h T [u,w] (st::rest) h=.val v' h'∧Own elem sz lo h' v' (n+m) (cs++new)∧a4g lo h h':=by
 have hf:a3z sz n h u=some cs:=own.sl'.first
 have hl:a5a u=some n:=own.sl'.len
 have hcl:=own.length
 have hb1:Nat.beq new.length (m*sz)=true:=by rw[hlen]; simp
 have hb2:Nat.beq cs.length (n*sz)=true:=by rw[hcl]; simp
 have fresh:Own elem sz lo (h.alloc (.cells elem (cs++new) true)) (.oslice h.next 0 (n+m) sz) (n+m) (cs++new)∨n+m=0:=by
  by_cases h0:n+m=0
  ·exact .inr h0
  ·exact .inl (.os hlo (by show h.next<h.next+1; omega) (a0t _ _) (by simp[hcl,hlen,Nat.add_mul]) (by omega))
 cases own with
 |nil =>
  by_cases h0:m=0
  ·subst h0
   have:new=[]:=by simpa using hlen
   subst this
   exact⟨.nilslice,h,by unfold a1h; simp only[hu,hsz,hl,hcount,hti,hnew,hf]; simp[hr,hz],.nil,.refl _ _⟩
  ·refine⟨.oslice h.next 0 m sz,h.alloc (.cells elem ([]++new) true),?_,?_,(a4g.refl lo h).al hlo _⟩
   ·unfold a1h; simp only[hu,hsz,hl,hcount,hti,hnew,hf]; simp only[Nat.zero_add] at hr ⊢; simp[hr,hz,hlen,h0]
   ·rcases fresh with f|f
    ·simpa using f
    ·omega
 |@sl B cap n all cs hb hlt hg hn ha hc =>
  by_cases hin:n+m≤cap
  ·have hfit:n*sz+new.length≤all.length:=by rw[hlen,ha,← Nat.add_mul]; exact Nat.mul_le_mul_right _ hin
   have hw:a1m h B (0+n*sz) new=some (h.set B (.cells elem (over all (n*sz) new) true)):=by
    simp only[a1m,hg,Nat.zero_add]
    rw[if_pos ⟨hfit,hone⟩]
   refine⟨.slice B 0 (n+m) cap,h.set B (.cells elem (over all (n*sz) new) true),?_,?_,(a4g.refl lo h).st _ _ hb hlt⟩
   ·unfold a1h; simp only[hu,hsz,hl,hcount,hti,hnew,hf]; simp[hr,hz,hb1,hb2,hin]; simp only[Nat.zero_add] at hw; rw[hw]
   ·refine .sl hb (by simpa using hlt) (a0a.gs _ _ _) hin (by rw[a3v _ _ _ hfit,ha]) ?_
    have:=b5d all new (n*sz) hfit
    rw[hlen,← Nat.add_mul] at this
    rw[this,hc]
  ·refine⟨.oslice h.next 0 (n+m) sz,h.alloc (.cells elem (cs++new) true),?_,?_,(a4g.refl lo h).al hlo _⟩
   ·unfold a1h; simp only[hu,hsz,hl,hcount,hti,hnew,hf]; simp[hr,hz,hb1,hb2,hin]
   ·rcases fresh with f|f
    ·exact f
    ·omega
 |@os B n cs hb hlt hg hc hn =>
  have hs:¬ (sz≠sz∨sz=0∨elem≠elem∨new.all AV.one=false):=by
   rintro(e|e|e|e)
   ·exact e rfl
   ·omega
   ·exact e rfl
   ·rw[hone] at e; cases e
  by_cases hin:0+(n+m)*sz≤cs.length
  ·have hm:m=0:=by
    rw[hc,Nat.zero_add] at hin
    have:=Nat.le_of_mul_le_mul_right hin hs0
    omega
   subst hm
   have:new=[]:=by simpa using hlen
   subst this
   have hw:a1m h B (0+n*sz) []=some (h.set B (.cells elem cs true)):=by
    simp[a1m,hg,hc,over]
   refine⟨.oslice B 0 (n+0) sz,h.set B (.cells elem cs true),?_,?_,(a4g.refl lo h).st _ _ hb hlt⟩
   ·unfold a1h; simp only[hu,hsz,hl,hcount,hti,hnew,hf]; simp only[Nat.add_zero,Nat.zero_add] at hr hw hin hb1 hb2 ⊢; simp[hr,hz,hb1,hb2,hg,hs,hin,hw]; omega
   ·simp only[Nat.add_zero,List.append_nil]
    exact .os hb (by simpa using hlt) (a0a.gs _ _ _) hc hn
  ·have hin':¬ ((n+m)*sz≤cs.length):=by rw[Nat.zero_add] at hin; exact hin
   refine⟨.oslice h.next 0 (n+m) sz,(h.set B .dead).alloc (.cells elem (cs++new) true),?_,?_,((a4g.refl lo h).st _ _ hb hlt).al (by simpa using hlo) _⟩
   ·unfold a1h; simp only[hu,hsz,hl,hcount,hti,hnew,hf]; simp only[Nat.zero_add] at hr hb1 hb2 ⊢; simp[hr,hz,hb1,hb2,hg,hone,hin']; omega
   ·refine .os hlo (by show h.next<h.next+1; omega) (a0t (h.set B .dead) _) (by simp[hc,hlen,Nat.add_mul]) (by omega)
theorem b0e {rest:List TypeId}{sz m:Nat}{w:AV}{new:List AV}(hm:a3x T rest=some false) (s:Sl h sz w m new):b0z T rest w=some m:=by
 unfold b0z
 rw[hm]
 cases w<;>first|exact s.len|(simp only[Sl] at s)
theorem b6e {rest:List TypeId}{elem:TypeId}{sz m:Nat}{w:AV}{new:List AV}(hm:a3x T rest=some false) (s:Sl h sz w m new):c4r T elem sz m h rest w=some new:=by
 unfold c4r; rw[hm]; exact s.first
theorem c7k (l:List UInt8):(u8s l).all AV.one=true:=by
 simp[u8s,List.all_eq_true,AV.one]
theorem c6y (l:List UInt8):(u8s l).length=l.length:=by simp[u8s]
theorem d5q (a b:List UInt8):u8s (a++b)=u8s a++u8s b:=by simp[u8s]
theorem c9t (l:List UInt8):a7k (u8s l)=some l:=by
 induction l with
 |nil=>rfl
 |cons a l ih =>
  show(match a7k (u8s l) with|some r=>some (UInt8.ofNat (a.toNat:Int).toNat::r)|none=>none)=_
  rw[ih]
  simp
theorem Sl.ns {sz n:Nat}{v:AV}{cs:List AV}(s:Sl h sz v n cs):v.isStr=false:=by
 cases v<;>first|rfl|(exact s.elim)
theorem Sl.any {sz n:Nat}{v:AV}{cs:List AV}(s:Sl h sz v n cs) (hp:v.plain=true):Sl h' sz v n cs:=by
 cases v<;>first|exact s|(simp[AV.plain] at hp; done)
def By (h:a0a) (v:AV) (s:List UInt8):Prop:=Sl h 1 v s.length (u8s s)
def a2t (e:TypeId) (lo:Nat) (h:a0a) (v:AV) (s:List UInt8):Prop:=Own e 1 lo h v s.length (u8s s)
theorem a2t.by {e:TypeId}{lo:Nat}{v:AV}{s:List UInt8}(w:a2t e lo h v s):By h v s:=w.sl'
theorem a2t.ext {e:TypeId}{lo:Nat}{v:AV}{s:List UInt8}(w:a2t e lo h v s) (x:Ext h h'):a2t e lo h' v s:=Own.ext w x
theorem By.ext {v:AV}{s:List UInt8}(w:By h v s) (x:Ext h h'):By h' v s:=Sl.ext w x
theorem By.nil:By h .nilslice []:=⟨rfl,rfl⟩
theorem a2t.nil {e:TypeId}{lo:Nat}:a2t e lo h .nilslice []:=Own.nil
theorem f1p {st elem:TypeId}{rest:List TypeId}{lo:Nat}{ei:TypeInfo}{u w:AV}{s r:List UInt8}(own:a2t elem lo h u s) (bw:By h w r) (hlo:lo≤h.next) (hr:s.length+r.length≤100000000)
  (hu:T.und st=some (.slice elem)) (hsz:T.size elem=some 1) (hti:T.ti elem=some ei) (hb:ei.bytes=1) (hz:a5y T elem 1=true) (hm:a3x T rest=some false) :
  ∃ v' h',a1h T [u,w] (st::rest) h=.val v' h'∧a2t elem lo h' v' (s++r)∧a4g lo h h':=by
 obtain⟨v',h',e1,e2,e3⟩:=b2j hu hsz hti hz (by omega) own hlo (b0e hm bw) (b6e hm bw) (by simp[c6y]) (c7k _) (by
  unfold a2u; rw[hb]; exact Nat.ble_eq.mpr (by omega))
 exact⟨v',h',e1,by unfold a2t; rw[d5q,List.length_append]; exact e2,e3⟩
theorem e8p {st elem:TypeId}{rest:List TypeId}{lo:Nat}{ei:TypeInfo}{u:AV}{s r:List UInt8}(own:a2t elem lo h u s) (hlo:lo≤h.next) (hr:s.length+r.length≤100000000)
  (hu:T.und st=some (.slice elem)) (hsz:T.size elem=some 1) (hti:T.ti elem=some ei) (hb:ei.bytes=1) (hz:a5y T elem 1=true) (hm:a3x T rest=some false) :
  ∃ v' h',a1h T [u,.str r] (st::rest) h=.val v' h'∧a2t elem lo h' v' (s++r)∧a4g lo h h':=by
 obtain⟨v',h',e1,e2,e3⟩:=b2j (w:=.str r) (m:=r.length) (new:=u8s r) hu hsz hti hz (by omega) own hlo (by unfold b0z; rw[hm]; rfl) (by unfold c4r; rw[hm]; simp[a3z]) (by simp[c6y]) (c7k _) (by
  unfold a2u; rw[hb]; exact Nat.ble_eq.mpr (by omega))
 exact⟨v',h',e1,by unfold a2t; rw[d5q,List.length_append]; exact e2,e3⟩
variable {α:Type}{enc:α→List AV}{sz:Nat}
def Ls (enc:α→List AV) (sz:Nat) (h:a0a) (v:AV) (l:List α):Prop:=Sl h sz v l.length (l.flatMap enc)
def a9g (enc:α→List AV) (e:TypeId) (sz lo:Nat) (h:a0a) (v:AV) (l:List α):Prop:=Own e sz lo h v l.length (l.flatMap enc)
theorem a9g.ls {e:TypeId}{lo:Nat}{v:AV}{l:List α}(w:a9g enc e sz lo h v l):Ls enc sz h v l:=w.sl'
theorem a9g.ext {e:TypeId}{lo:Nat}{v:AV}{l:List α}(w:a9g enc e sz lo h v l) (x:Ext h h'):a9g enc e sz lo h' v l:=Own.ext w x
theorem Ls.ext {v:AV}{l:List α}(w:Ls enc sz h v l) (x:Ext h h'):Ls enc sz h' v l:=Sl.ext w x
theorem a9g.nil {e:TypeId}{lo:Nat}:a9g enc e sz lo h .nilslice []:=Own.nil
theorem Ls.nil:Ls enc sz h .nilslice []:=⟨rfl,rfl⟩
theorem Ls.ns {v:AV}{l:List α}(w:Ls enc sz h v l):v.isStr=false:=Sl.ns w
theorem By.ns {v:AV}{s:List UInt8}(w:By h v s):v.isStr=false:=Sl.ns w
theorem Ls.len {v:AV}{l:List α}(w:Ls enc sz h v l):a5a v=some l.length:=Sl.len w
theorem By.len {v:AV}{s:List UInt8}(w:By h v s):a5a v=some s.length:=Sl.len w
theorem c6t (hs:∀ x,(enc x).length=sz):∀ (l:List α) (j:Nat) (x:α),l[j]?=some x→((l.flatMap enc).drop (j*sz)).take sz=enc x
 |[],j,x,h=>by simp at h
 |y::l,0,x,h=>by
  simp at h; subst h
  simp only[Nat.zero_mul,List.drop_zero,List.flatMap_cons]
  rw[List.take_append_of_le_length (by rw[hs]; exact Nat.le_refl _),List.take_of_length_le (by rw[hs]; exact Nat.le_refl _)]
 |y::l,j+1,x,h=>by
  simp only[List.flatMap_cons]
  have:(j+1)*sz=(enc y).length+j*sz:=by rw[hs,Nat.add_mul]; omega
  rw[this,← List.drop_drop,List.drop_left]
  exact c6t hs l j x (by simpa using h)
theorem a8g {st elem:TypeId}{rest:List TypeId}{lo c:Nat}{ei:TypeInfo}{u:AV}{l:List α}{x:α}{rw:Bool}(own:a9g enc elem sz lo h u l) (hc:h.get c=some (.cells elem (enc x) rw)) (hcl:c<h.next) (hlo:lo≤h.next) (hr:l.length≤1000000)
  (hs:(enc x).length=sz) (hone:(enc x).all AV.one=true)
  (hu:T.und st=some (.slice elem)) (hsz:T.size elem=some sz) (hti:T.ti elem=some ei) (hb:ei.bytes≤10000) (hz:a5y T elem sz=true) (hs0:0<sz) (hm:a3x T rest=some false) :
  ∃ v' h',a1h T [u,.slice c 0 1 1] (st::rest) h=.val v' h'∧a9g enc elem sz lo h' v' (l++[x])∧a4g lo h h':=by
 have bw:Sl h sz (.slice c 0 1 1) 1 (enc x):=⟨rfl,hcl,elem,enc x,rw,hc,by omega,by simp[← hs]⟩
 obtain⟨v',h',e1,e2,e3⟩:=b2j hu hsz hti hz hs0 own hlo (b0e hm bw) (b6e hm bw) (by simp[hs]) hone (by
  unfold a2u
  refine Nat.ble_eq.mpr (Nat.le_trans (Nat.mul_le_mul (show 4*(l.length+1)+1000≤4001004 by omega) (show ei.bytes+1≤10001 by omega)) (by decide)))
 exact⟨v',h',e1,by unfold a9g; simpa using e2,e3⟩
theorem Ls.at {v:AV}{l:List α}(w:Ls enc sz h v l) (hs:∀ x,(enc x).length=sz){j:Nat}{y:α}(hy:l[j]?=some y):∃ b p e all rw,b<h.next∧h.get b=some (.cells e all rw)∧p+sz≤all.length∧(all.drop p).take sz=enc y ∧
  ∀ {hh:a0a} {T:a0k} {ρ:Operand→Option AV} {o:Oper} {t elem:TypeId} {x ix:Operand} {k:IntKind} {i:Int},o.op=.indexAddr t x ix→T.und t=some (.slice elem)→T.size elem=some sz→ρ x=some v→ρ ix=some (.int k i)→i=(j:Int)→opA T ρ o hh=.val (.ptr b p) hh:=by
 have hj:j<l.length:=by
  rcases Nat.lt_or_ge j l.length with h1|h1
  ·exact h1
  ·rw[List.getElem?_eq_none h1] at hy; cases hy
 obtain⟨b,p,⟨hb,e,all,rw,hg,hl,hc⟩,ad⟩:=Sl.at w j hj
 refine⟨b,p,e,all,rw,hb,hg,hl,by rw[hc]; exact c6t hs l j y hy,?_⟩
 intro hh T ρ o t elem x ix k i ho ht hsz hx hi hij
 cases o; cases ho
 exact ad ht hsz hx hi hij
theorem f3d {b p n:Nat}{e:TypeId}{all cs:List AV}{rw:Bool}(ho:o.op=.load t a) (ha:T.agg t=some true) (hsz:T.size t=some n) (hx:ρ a=some (.ptr b p)) (hg:h.get b=some (.cells e all rw)) (he:(all.drop p).take n=cs) (hl:p+n≤all.length):opA T ρ o h=.val (.agg cs) h:=by
 cases o; cases ho
 rw[← he]
 exact c1f hx ha hsz hg hl
theorem f1v {b p n:Nat}{e:TypeId}{all:List AV}{v:AV}{rw:Bool}(ho:o.op=.load t a) (ha:T.agg t=some false) (hsz:T.size t=some n) (hx:ρ a=some (.ptr b p)) (hg:h.get b=some (.cells e all rw)) (he:(all.drop p).take 1=[v]):opA T ρ o h=.val v h:=by
 cases o; cases ho
 refine c2b hx ha hsz hg ?_
 have:=congrArg (fun l=>l[0]?) he
 simpa using this
theorem f2z {b p k n sz:Nat}{e:TypeId}{all cs:List AV}{v:AV}{rw:Bool}(ho:o.op=.load t a) (ha:T.agg t=some false) (hsz:T.size t=some n) (hx:ρ a=some (.ptr b (p+k))) (hg:h.get b=some (.cells e all rw)) (he:(all.drop p).take sz=cs) (hv:cs[k]?=some v):opA T ρ o h=.val v h:=by
 cases o; cases ho
 refine c2b hx ha hsz hg ?_
 rw[← he] at hv
 rw[List.getElem?_take] at hv
 split at hv
 ·rw[List.getElem?_drop] at hv; exact hv
 ·cases hv
theorem f3l {v:AV}{n:Nat}{ats:Array TypeId}{st elem:TypeId}{rest:List TypeId}(hl:a5a v=some n) (ho:o.op=.call { callee:=.builtin .len,args := #[x],argTypes:=ats }) (hx:ρ x=some v) (hat:ats.toList=st::rest) (ht:T.und st=some (.slice elem)) (hv:v.isStr=false):opA T ρ o h=.val (.int .i64 n) h:=by
 cases o; cases ho
 have:d4o T st h v=some (.int .i64 n):=by
  unfold d4o
  rw[ht]
  cases v<;>first|(simp only[hl]; done)|(cases hv)
 simp[opA,a4d,hx,hat,this,rv]
theorem f3n {u w:AV}{ats:Array TypeId}{st:TypeId}{rest:List TypeId}{v:AV}(e:a1h T [u,w] (st::rest) h=.val v h') (ho:o.op=.call { callee:=.builtin .append,args := #[x,y],argTypes:=ats }) (hat:ats.toList=st::rest) (hx:ρ x=some u) (hy:ρ y=some w):opA T ρ o h=.val v h':=by
 cases o; cases ho
 rw[e0j hx hy,hat]; exact e
theorem f0x {u w:AV}{ats:Array TypeId}{st:TypeId}{rest:List TypeId}{v:AV}(e:c0d T [u,w] (st::rest) h=.val v h') (ho:o.op=.call { callee:=.builtin .copy,args := #[x,y],argTypes:=ats }) (hat:ats.toList=st::rest) (hx:ρ x=some u) (hy:ρ y=some w):opA T ρ o h=.val v h':=by
 cases o; cases ho
 simp only[opA,a4d,hx,hy,hat]
 exact e
theorem c4f {src:TypeId}{e:TypeId}{v:AV}{s:List UInt8}(w:By h v s) (hv:v.isStr=false) (ho:o.op=.convert src t x) (hs:T.und src=some (.slice e)) (he:T.und e=some (.int .u8)) (hd:T.und t=some .string) (hx:ρ x=some v):opA T ρ o h=.val (.str s) h:=by
 cases o; cases ho
 have h1:=Sl.len w
 have h2:=Sl.first w
 have hn:∀ k n,v≠.int k n:=fun k n e=>by subst e; simp[a5a] at h1
 have hstr:∀ q,v≠.str q:=fun q e=>by subst e; cases hv
 simp only[opA,hx]
 unfold b4q
 rw[hs,hd]
 cases v<;>first|(exact absurd rfl (hn _ _))|(exact absurd rfl (hstr _))|(simp only[he,h1,h2,c9t])
theorem b7f (z:UInt8):∀ n,times [AV.int .u8 z.toNat] n=u8s (List.replicate n z)
 |0=>rfl
 |n+1=>by rw[times,b7f z n]; rfl
theorem e1o {elem:TypeId}{z:AV}{l c:Operand}{n m:Nat}{ei:TypeInfo}{k k':IntKind}(ho:o.op=.makeSlice t l c) (ht:T.und t=some (.slice elem)) (hl:ρ l=some (.int k (n:Int))) (hc:ρ c=some (.int k' (m:Int))) (hsz:T.size elem=some 1) (hti:T.ti elem=some ei) (hb:ei.bytes≤16) (hz:T.zero elem=some z) (hz1:z.cells.length=1) (hn:n≤m) (hm:m≤100000000) :
  opA T ρ o h=.val (.slice h.next 0 n m) (h.alloc (.cells elem (times z.cells m) true)):=by
 cases o; cases ho
 have hr:a2u m ei.bytes=true:=by
  unfold a2u
  exact Nat.ble_eq.mpr (Nat.le_trans (Nat.mul_le_mul (show 4*m+1000≤400001000 by omega) (show ei.bytes+1≤17 by omega)) (by decide))
 have hlen:(times z.cells m).length=m:=by
  have:∀ k,(times z.cells k).length=k:=fun k=>by
   induction k with
   |zero=>rfl
   |succ k ih=>simp[times,hz1,ih]; omega
  exact this m
 have hcond:(0:Int)≤n∧(n:Int)≤m∧(m:Int)≤1073741824∧a2u (m:Int).toNat ei.bytes=true:=⟨by omega,by omega,by omega,by simpa using hr⟩
 simp only[opA,ht,hl,hc,hsz,hti]
 rw[if_pos hcond]
 by_cases h0:m=0
 ·subst h0
  have:n=0:=by omega
  subst this
  simp[a5w,times]
 ·simp[a5w,h0,hz,hlen]
theorem c2e {e:TypeId}{n:Nat}{cs:List AV}{lo:Nat}(hlo:lo≤h.next) (hl:cs.length=n):Own e 1 lo (h.alloc (.cells e cs true)) (.slice h.next 0 0 n) 0 [] :=
 .sl hlo (by show h.next<h.next+1; omega) (a0t _ _) (by omega) (by omega) (by simp)
theorem e0w (a b:List UInt8) (k:Nat):over (u8s a) k (u8s b)=u8s (over a k b):=by
 simp[over,u8s,List.map_take,List.map_drop]
theorem e9d {dt e:TypeId}{ts:List TypeId}{B n cap:Nat}{w:AV}{a s:List UInt8}(hg:h.get B=some (.cells e (u8s a) true)) (bw:By h w s) (hn:n≤a.length) (hs:s.length≤n) (hd:T.und dt=some (.slice e)) (hsz:T.size e=some 1) :
  c0d T [.slice B 0 n cap,w] (dt::ts) h=.val (.int .i64 s.length) (h.set B (.cells e (u8s (s++a.drop s.length)) true)):=by
 have h1:=Sl.len bw
 have h2:=Sl.first bw
 have hm:Nat.min s.length n=s.length:=Nat.min_eq_left hs
 have hw:a1m h B 0 (u8s s)=some (h.set B (.cells e (u8s (s++a.drop s.length)) true)):=by
  simp only[a1m,hg]
  rw[if_pos ⟨by simp[c6y]; omega,c7k s⟩,e0w]
  simp[over]
 unfold c0d
 have hl:a5a (.slice B 0 n cap)=some n:=rfl
 simp only[hd,hsz,hl,h1,hm,h2,hw]
theorem d3x {h:a0a}{B n sz lo hi:Nat}{e:TypeId}{cs:List AV}(hg:h.get B=some (.cells e cs true)) (hc:cs.length=n*sz) (hs:0<sz) (hlh:lo≤hi) (hhn:hi≤n) (len:Nat) (x:Option AV) (y:Option AV) (hx:x=none∧lo=0∨∃ k,x=some (.int k lo)) (hy:y=none∧hi=len∨∃ k,y=some (.int k hi)) (hl:lo<n) :
  a3j sz h (.oslice B 0 len sz) x y none=some (.oslice B (lo*sz) (hi-lo) sz):=by
 have hk:(cs.length-0) / sz=n:=by rw[hc,Nat.sub_zero,Nat.mul_div_cancel _ hs]
 have b1:hiA len n y none=some hi:=by
  rcases hy with ⟨rfl,rfl⟩|⟨k,rfl⟩
  ·rfl
  ·simp only[hiA,a5q]; rw[if_pos ⟨by omega,by omega⟩]; simp
 have b2:loA hi x=some lo:=by
  rcases hx with ⟨rfl,rfl⟩|⟨k,rfl⟩
  ·rfl
  ·simp only[loA,a5q]; rw[if_pos ⟨by omega,by omega⟩]; simp
 simp only[a3j,hg,hk,a2y,mxA,b1,b2]
 simp[hl]
theorem f1n {h:a0a}{B n sz:Nat}{e:TypeId}{cs:List AV}(hg:h.get B=some (.cells e cs true)) (hc:cs.length=n*sz) (hs:0<sz) (h0:0<n) (k:IntKind):a3j sz h (.oslice B 0 n sz) (some (.int k n)) none none=some .eslice:=by
 have hk:(cs.length-0) / sz=n:=by rw[hc,Nat.sub_zero,Nat.mul_div_cancel _ hs]
 have b2:loA n (some (.int k n))=some n:=by simp[loA,a5q]
 have b1:hiA n n none none=some n:=rfl
 simp only[a3j,hg,hk,a2y,mxA,b1,b2]
 simp; omega
end Ev
end
section
namespace Ev
open Go
variable {T:a0k}{ρ:Operand→Option AV}{h h':a0a}{t:TypeId}{x ix a y z:Operand}{kd:IntKind}{i j:Int}{o:Oper}{op:BinOp}{v:AV}
theorem a0a.na (h:a0a) (o:a1t):(h.alloc o).next=h.next+1:=rfl
theorem a0a.ns (h:a0a) (b:Nat) (o:a1t):(h.set b o).next=h.next:=rfl
theorem a0a.nm (t:Tr a1t) (n:Nat):(a0a.mk t n).next=n:=rfl
theorem a0a.ga (h:a0a) (b:Nat) (o:a1t) (n:b≠h.next):(h.alloc o).get b=h.get b:=by rw[a0a.a4f,if_neg n]
theorem a0a.gm (h:a0a) (n b:Nat) (_:Nat.ble 1 n=true):(a0a.mk h.t (h.next+n)).get b=h.get b:=rfl
theorem Ext.al {a h:a0a}(e:Ext a h) (o:a1t):Ext a (h.alloc o):=e.trans (Ext.alloc h o)
theorem Ext.st {a h:a0a}(e:Ext a h) (b:Nat) (o:a1t) (hb:a.next≤b) (hl:b<h.next):Ext a (h.set b o):=e.f5n hb hl o
theorem Ext.mr {a h:a0a}{n:Nat}(_:Nat.ble 1 n=true) (e:Ext a h) (k:h.ok):Ext a (a0a.mk h.t (h.next+n)):=e.more k n
theorem a4n {h:a0a}(k:h.ok) (o:a1t):(h.alloc o).ok:=(Ext.alloc h o).ok k
theorem a0w {h:a0a}(k:h.ok) (b:Nat) (o:a1t) (hb:b<h.next):(h.set b o).ok:=fun c hc=>by
 have hc:h.next≤c:=hc
 rw[a0a.gn _ _ _ _ (by omega)]; exact k c hc
theorem f0g {h:a0a}{n:Nat}(_:Nat.ble 1 n=true) (k:h.ok):(a0a.mk h.t (h.next+n)).ok:=a0a.a2o k n
theorem a2f:(⟨.nil,0⟩:a0a).ok:=fun b _=>Tr.get_nil b
theorem hne {a b:Nat}(w:a≠b:=by(first|omega|(simp only[a0a.na,a0a.ns,a0a.nm]; omega)|(have nxq:=Ext.nx (by assumption); (try simp only[a0a.na,a0a.ns,a0a.nm] at nxq ⊢); omega))):a≠b:=w
theorem hlt {a b:Nat}(w:a<b:=by(first|omega|(simp only[a0a.na,a0a.ns,a0a.nm]; omega)|(have nxq:=Ext.nx (by assumption); (try simp only[a0a.na,a0a.ns,a0a.nm] at nxq ⊢); omega))):a<b:=w
theorem hle {a b:Nat}(w:a≤b:=by(first|omega|(simp only[a0a.na,a0a.ns,a0a.nm]; omega)|(have nxq:=Ext.nx (by assumption); (try simp only[a0a.na,a0a.ns,a0a.nm] at nxq ⊢); omega))):a≤b:=w
theorem a0g {h:a0a}{b:Nat}{r:Option a1t}(w:h.get b=r:=by((repeat (first|assumption|exact a0t _ _|exact a0a.gs _ _ _|refine(a0a.gn _ _ _ _ hne).trans ?_|refine(a0a.ga _ _ _ hne).trans ?_|refine(a0a.gm _ _ _ rfl).trans ?_|refine(Ext.old (by assumption) _ hlt).trans ?_|refine(a4g.old (by assumption) _ hlt).trans ?_|exact Upd.got (by assumption)|refine(Upd.old (by assumption) _ hne).trans ?_)); done)):h.get b=r:=w
theorem a0j {a h:a0a}(w:Ext a h:=by((repeat (first|exact Ext.refl _|assumption|refine Ext.al ?_ _|refine Ext.st ?_ _ _ hle hlt|refine Ext.mr rfl ?_ ?_|refine a4n ?_ _|refine a0w ?_ _ _ hlt|refine f0g rfl ?_|refine Ext.kp ?_ (by assumption) hle|refine Ext.trans ?_ (by assumption)|refine Ext.ok (by assumption) ?_|refine a4g.ok (by assumption) ?_)); done)):Ext a h:=w
theorem hok {h:a0a}(w:h.ok:=by((repeat (first|exact a2f|assumption|refine a4n ?_ _|refine a0w ?_ _ _ hlt|refine f0g rfl ?_|refine Ext.ok (by assumption) ?_|refine a4g.ok (by assumption) ?_|refine Upd.ok (by assumption) ?_)); done)):h.ok:=w
theorem hsub {A B:List (Nat×AV)}(w:Sub A B:=by((repeat (first|exact Sub.nil _|refine Sub.cons rfl ?_)); done)):Sub A B:=w
def opC:Op→Nat
 |.binOp .lss .. => 1
 |.binOp .leq .. => 1
 |.binOp .gtr .. => 1
 |.binOp .geq .. => 1
 |.binOp .eql .. => 1
 |.binOp .neq .. => 1
 |.binOp .add .. => 2
 |.binOp .sub .. => 2
 |.binOp .mul .. => 2
 |.binOp .quo .. => 2
 |.binOp .rem .. => 2
 |.binOp .. => 12
 |.load .. => 3
 |.convert .. => 4
 |.index .. => 5
 |.slice .. => 6
 |.store .. => 7
 |.call c=>match c.callee with
  |.builtin .append=>14
  |.builtin .copy=>15
  |.builtin .clear=>15
  |_=>8
 |.indexAddr .. => 9
 |.unOp .. => 10
 |.pick .. => 11
 |.makeSlice .. => 13
 |_=>0
theorem b1y {r:OR}(n:Nat) (_:Nat.beq (opC o.op) n=true) (e:opA T ρ o h=r):opA T ρ o h=r:=e
theorem f1e {p:Prop} [Decidable p] {t:TypeId}(ho:o.op=.unOp .not t x) (hx:ρ x=some (.bool (decide p))):opA T ρ o h=.val (.bool (decide (¬ p))) h:=by
 cases o; cases ho
 simp[opA,hx,unA,rv]
theorem e6b {c a b:Operand}{p:Prop} [Decidable p] (ho:o.op=.pick c a b) (hc:ρ c=some (.bool (decide p))) (hp:p) (ha:ρ a=some v):opA T ρ o h=.val v h:=by
 cases o; cases ho
 simp[opA,hc,hp,ha,rv]
theorem e7n {c a b:Operand}{p:Prop} [Decidable p] (ho:o.op=.pick c a b) (hc:ρ c=some (.bool (decide p))) (hp:¬ p) (hb:ρ b=some v):opA T ρ o h=.val v h:=by
 cases o; cases ho
 simp[opA,hc,hp,hb,rv]
theorem d6e {len:Nat}{elem:TypeId}{sz b off:Nat}{n:Nat}{kk:IntKind}(ho:o.op=.indexAddr t x ix) (ht:T.und t=some (.slice elem)) (hsz:T.size elem=some sz) (hx:ρ x=some (.oslice b off len sz)) (hi:ρ ix=some (.int kk (n:Int))) (hn:n<len):opA T ρ o h=.val (.ptr b (off+n*sz)) h:=by
 cases o; cases ho
 exact b6b ht hsz hx hi n rfl hn
theorem d6n {len cap:Nat}{elem:TypeId}{sz b off:Nat}{n:Nat}{kk:IntKind}(ho:o.op=.indexAddr t x ix) (ht:T.und t=some (.slice elem)) (hsz:T.size elem=some sz) (hx:ρ x=some (.slice b off len cap)) (hi:ρ ix=some (.int kk (n:Int))) (hn:n<len):opA T ρ o h=.val (.ptr b (off+n*sz)) h:=by
 cases o; cases ho
 exact b7r ht hsz hx hi n rfl hn
theorem f0o {s:List UInt8}{i:Int}(ho:o.op=.slice t x (some y) none none) (ht:T.und t=some .string) (hx:ρ x=some (.str s)) (hy:ρ y=some (.int .i64 i)) (h0:0≤i) (hk:i≤s.length):opA T ρ o h=.val (.str (s.drop i.toNat)) h:=by
 obtain⟨n,rfl⟩:=Int.eq_ofNat_of_zero_le h0
 exact c4c ho ht hx hy (by omega)
theorem e9b {s:List UInt8}{i:Int}(ho:o.op=.slice t x none (some y) none) (ht:T.und t=some .string) (hx:ρ x=some (.str s)) (hy:ρ y=some (.int .i64 i)) (h0:0≤i) (hk:i≤s.length):opA T ρ o h=.val (.str (s.take i.toNat)) h:=by
 obtain⟨n,rfl⟩:=Int.eq_ofNat_of_zero_le h0
 exact d0e ho ht hx hy (by omega)
theorem d6b {f:Operand}{args:Array Operand}{ats:Array TypeId}{g:FuncId}{first cap as w:List AV}{F:Func}{c:Code}(hF:T.fn g=some F) (hb:F.body=some c) (ho:o.op=.call { callee:=.value f,args:=args,argTypes:=ats }) (hf:ρ f=some (.func (.func g) first cap)) (ha:a4d ρ args.toList=some as) (he:first++as++cap=w):opA T ρ o h=.enter g w h:=by
 cases o; cases ho
 subst he
 simp only[opA,a3m,hf,ha,a3d,hF,hb]
theorem f3z {k:IntKind}{i z:Int}(w:k.wrap i=z:=by(first|exact f0k rfl (by omega) (by omega)|exact f1o rfl (by omega) (by omega)|exact f5e rfl (by omega) (by omega)|exact f1y rfl (by omega) (by omega))):k.wrap i=z:=w
theorem f6c {r:Option AV}{av bv:AV}(w:a1i T op t av bv=r:=by(first|exact c_t (by simp only[e8s]; omega)|exact c_f rfl (by simp only[e8s]; omega)|exact e8n rfl (by assumption)|exact e6r rfl (by assumption)|exact e6i rfl (by assumption)|exact e6u rfl (by assumption)|exact e9h rfl|exact e5a rfl|exact e7w rfl|exact e7y rfl|exact e8d rfl|exact e7m rfl|exact e8o rfl|exact e5d rfl|exact e5u rfl|exact e6v rfl|exact e8v rfl|exact e8b rfl|exact rfl)):a1i T op t av bv=r:=w
theorem f5i {r:Option AV}{av bv:AV}(w:a1i T op t av bv=r:=by(first|exact f5d rfl rfl rfl (by omega) (by omega)|exact f3t rfl rfl rfl (by omega) (by omega)|exact f4q rfl rfl rfl (by omega) (by omega)|exact f4j rfl rfl (by omega) rfl (by omega) (by omega)|exact f4p rfl (by omega)|exact e4w rfl rfl rfl (by omega) (by omega)|exact e4x rfl rfl rfl (by omega) (by omega)|exact e9g rfl rfl rfl (by omega) (by omega)|exact f4o rfl (by omega)|exact rfl)):a1i T op t av bv=r:=w
theorem opa {r:OR}(w:opA T ρ o h=r:=by(first|(refine b1y 0 rfl ?_; exact rfl)|(refine b1y 1 rfl ?_; exact a3n rfl rfl rfl f6c rfl)|(refine b1y 2 rfl ?_; exact a3n rfl rfl rfl f5i rfl)|(refine b1y 3 rfl ?_; first|exact f3d rfl rfl rfl rfl a0g (by assumption) (by assumption)|exact f1v rfl rfl rfl rfl a0g (by assumption)|exact f2z rfl rfl rfl rfl a0g (by assumption) rfl|exact f0z rfl rfl rfl rfl a0g rfl|exact e5f rfl rfl rfl rfl a0g (by first|exact Nat.le_of_ble_eq_true rfl|omega))|(refine b1y 4 rfl ?_; first|exact d2i rfl rfl rfl rfl f3z|exact rfl)|(refine b1y 5 rfl ?_; first|exact f5u rfl rfl rfl rfl (by omega)|exact rfl)|(refine b1y 6 rfl ?_; first|exact d4i rfl rfl rfl rfl rfl (by omega) (by omega)|exact d0e rfl rfl rfl rfl (by omega)|exact c4c rfl rfl rfl rfl (by omega)|exact f0o rfl rfl rfl rfl (by omega) (by omega)|exact e9b rfl rfl rfl rfl (by omega) (by omega)|exact rfl)|(refine b1y 7 rfl ?_; first|exact e0n rfl rfl rfl rfl (by first|exact rfl|assumption) (by first|exact rfl|assumption) a0g (by first|exact Nat.le_of_ble_eq_true rfl|omega)|exact b1v rfl rfl rfl rfl rfl rfl a0g (by first|exact Nat.le_of_ble_eq_true rfl|omega))|(refine b1y 8 rfl ?_; first|exact rfl|exact f3l (by assumption) rfl rfl rfl rfl (by first|rfl|assumption|exact Ls.ns (by assumption)|exact By.ns (by assumption)))|(refine b1y 14 rfl ?_; exact f3n (by assumption) rfl rfl rfl rfl)|(refine b1y 9 rfl ?_; first|exact a1 rfl rfl rfl rfl rfl (by omega)|exact a2 rfl rfl rfl rfl rfl (by omega)|exact d6e rfl rfl rfl rfl rfl (by omega)|exact d6n rfl rfl rfl rfl rfl (by omega)|exact rfl)|(refine b1y 10 rfl ?_; first|exact f1e rfl rfl|exact rfl)|(refine b1y 11 rfl ?_; first|exact rfl|exact e6b rfl rfl (by assumption) rfl|exact e7n rfl rfl (by assumption) rfl))):opA T ρ o h=r:=w
variable {cx:Cx}{k:List K}{Q:Res→Prop}{all rest:List Oper}{df:List ADef}{pan:Option (AV×Bool)}{L:List (Nat×AV)}
theorem hres {rs:List ResultVar}{vs:Option (List AV)}(w:a2c T L h rs=vs:=by(first|exact rfl|((repeat (first|exact rfl|refine a0x rfl (b0c rfl rfl a0g rfl) ?_|refine a0x rfl (a2p rfl rfl a0g) ?_|refine results_tmp rfl ?_)); done))):a2c T L h rs=vs:=w
theorem b5l {p:Prop} [Decidable p] (h:p):AV.bool true=AV.bool (decide p):=by rw[decide_eq_true h]
theorem a3w {p:Prop} [Decidable p] (h:¬ p):AV.bool false=AV.bool (decide p):=by rw[decide_eq_false h]
theorem f5v {α:Type}{c:Prop} [Decidable c] {x a b:α}(hc:c) (e:x=a):x=if c then a else b:=by rw[if_pos hc]; exact e
theorem f5r {α:Type}{c:Prop} [Decidable c] {x a b:α}(hc:¬ c) (e:x=b):x=if c then a else b:=by rw[if_neg hc]; exact e
theorem cl {p:Prop}(w:p:=by(first|assumption|omega|(simp_all; done)|grind)):p:=w
theorem d1n {p q:Prop} [Decidable p] [Decidable q] (h:p↔q):AV.bool (decide p)=AV.bool (decide q):=by simp only[h]
theorem f5x {p:Prop}(w:False:=by(first|contradiction|omega)):p:=w.elim
theorem hval {a b:AV}(w:a=b:=by((repeat (first|exact rfl|exact b5l cl|exact a3w cl|exact d1n cl|refine f5v cl ?_|refine f5r cl ?_|refine congrArg (AV.int _) ?_|omega|exact f5x)); done)):a=b:=w
theorem e9x {rs:List ResultVar}{P:AV→a0a→Prop}{v:AV}(_:Nat.beq rs.length 1=true) (hr:a2c T L h rs=some [v]) (p:P v h):GJ T cx (.code .ret::k) L [] none h (Ends T rs P):=b2c hr p
theorem f0f {rs:List ResultVar}{P:AV→a0a→Prop}{v u:AV}{l:List AV}(_:Nat.blt 1 rs.length=true) (hr:a2c T L h rs=some (v::u::l)) (p:P (.tuple (v::u::l)) h):GJ T cx (.code .ret::k) L [] none h (Ends T rs P):=b2c hr p
theorem a0e {rs:List ResultVar}{P:AV→a0a→Prop}{v:AV}(hr:a2c T L h rs=some [v]) (p:P v h):GJ T cx (.code .ret::k) L [] none h (Ends T rs P):=b2c hr p
theorem a0d {rs:List ResultVar}{P:AV→a0a→Prop}{v u:AV}{l:List AV}(hr:a2c T L h rs=some (v::u::l)) (p:P (.tuple (v::u::l)) h):GJ T cx (.code .ret::k) L [] none h (Ends T rs P):=b2c hr p
theorem so {j:Nat}{w:Bool}{c:Prop} [Decidable c] {d:Nat}(ht:c→OJ T cx all (o::rest) k ((d,.bool true)::L) df pan h Q) (hf:¬ c→OJ T cx all (o::rest) k ((d,.bool false)::L) df pan h Q) (hg:o.guard=some (j,w):=by exact rfl) (hd:a8n all j=some d:=by exact rfl) (hl:look L d=some (.bool (decide c)):=by exact rfl):OJ T cx all (o::rest) k L df pan h Q:=d3j hg hd hl ht hf
theorem sg {x:Operand}{a b:Code}{c:Prop} [Decidable c] (ht:c→GJ T cx (.code a::k) L df pan h Q) (hf:¬ c→GJ T cx (.code b::k) L df pan h Q) (hx:a1y L x=some (.bool (decide c)):=by exact rfl):GJ T cx (.code (.cond x a b)::k) L df pan h Q:=d4w hx ht hf
end Ev
end
section
namespace Ev
open Go
theorem hms {ms:List Nat}{l:List EJ}{n:Nat}(w:MsJ ms l n:=by((repeat (first|exact trivial|refine And.intro rfl ?_)); done)):MsJ ms l n:=w
theorem hall {T:a0k}{l:List (EJ×a0a)}(w:c0u T l:=by((repeat (first|exact trivial|refine And.intro ⟨_,opa⟩ ?_)); done)):c0u T l:=w
theorem isO {T:a0k}{cx:Cx}{all rest:List Oper}{k:List K}{L:List (Nat×AV)}{df:List ADef}{pan:Option (AV×Bool)}{h:a0a}{Q:Res→Prop}(g:OJ T cx all rest k L df pan h Q):OJ T cx all rest k L df pan h Q:=g
theorem isG {T:a0k}{cx:Cx}{k:List K}{L:List (Nat×AV)}{df:List ADef}{pan:Option (AV×Bool)}{h:a0a}{Q:Res→Prop}(g:GJ T cx k L df pan h Q):GJ T cx k L df pan h Q:=g
theorem isD {T:a0k}{cx:Cx}{k:List K}{df:List ADef}{pan:Option (AV×Bool)}{Q:Res→Prop}{all rest:List Oper}{ms mr:List Nat}{N i:Nat}{hl:List (List Tmp)}{L:List (Nat×AV)}{h:a0a}{acc:List EJ}(g:DJ T cx k df pan Q all ms N rest mr hl i L h acc):DJ T cx k df pan Q all ms N rest mr hl i L h acc:=g
structure Box (R:Prop):Prop where
 out:R
theorem walk {G R:Prop}(kk:R) (w:Box R→G:=by(intro kk; (repeat (first|(refine isO ?_; first|refine d1w ?_|(refine b5i rfl ?_; first|(refine f1s rfl ?_; first|refine a7u (w1 _) rfl rfl rfl rfl rfl ?_|refine a7u (w2 _) rfl rfl rfl rfl rfl ?_|refine a7u (w3 _) rfl rfl rfl rfl rfl ?_|refine a7u (w4 _) rfl rfl rfl rfl rfl ?_|refine a7u (w5 _) rfl rfl rfl rfl rfl ?_|refine a7u (w6 _) rfl rfl rfl rfl rfl ?_|refine a1k rfl rfl rfl opa ?_)|refine a1k rfl rfl rfl opa ?_|refine b0q rfl rfl opa ?_|refine c1d rfl rfl opa ?_)|(refine f1k rfl ?_; first|refine e3y rfl rfl rfl ?_|refine d4x rfl rfl ?_|((fail_if_success refine b5i rfl ?_); first|refine c7q rfl rfl rfl (by assumption) ?_|refine c8h rfl rfl rfl (by assumption) ?_|refine c7g rfl rfl rfl (by assumption) ?_|refine c2k rfl rfl rfl (by assumption) ?_|refine c1n rfl rfl rfl (by assumption) ?_)))|(refine isG ?_; first|refine b0d ?_|refine a7z ?_|refine c4d rfl ?_|refine b8r rfl ?_|refine c6p ?_|refine d2h ?_|refine d3w ?_|refine c3r ?_|refine c1t ?_|refine c3u ?_|refine c7s rfl ?_|refine c7l rfl (by assumption) ?_|refine c7c rfl (by assumption) ?_|refine c6q rfl (by assumption) ?_|refine c3a rfl (by assumption) ?_|refine c2c rfl (by assumption) ?_)|(refine isD ?_; first|refine c2q hms rfl hall ?_|(refine b4v rfl ?_; first|(refine f1m rfl ?_; first|refine a7s (w1 _) rfl rfl rfl rfl rfl rfl rfl ?_|refine a7s (w2 _) rfl rfl rfl rfl rfl rfl rfl ?_|refine a7s (w3 _) rfl rfl rfl rfl rfl rfl rfl ?_|refine a7s (w4 _) rfl rfl rfl rfl rfl rfl rfl ?_|refine a7s (w5 _) rfl rfl rfl rfl rfl rfl rfl ?_|refine a7s (w6 _) rfl rfl rfl rfl rfl rfl rfl ?_|refine b6o rfl rfl rfl rfl opa ?_)|refine a4l rfl rfl rfl rfl opa ?_|refine b8k rfl rfl rfl opa ?_|refine b4o rfl rfl rfl rfl rfl ?_|refine b6o rfl rfl rfl rfl opa ?_)|(refine f2a rfl ?_; first|refine e3b rfl rfl rfl ?_|((fail_if_success refine b4v rfl ?_); first|refine c8a rfl rfl rfl (by assumption) ?_|refine c8k rfl rfl rfl (by assumption) ?_|refine c7v rfl rfl rfl (by assumption) ?_))))); exact kk.out)):G:=w ⟨kk⟩
theorem auto {G:Prop}(w:G:=by((repeat' (first|(refine isO ?_; first|refine d1w ?_|(refine b5i rfl ?_; first|(refine f1s rfl ?_; first|refine a7u (w1 _) rfl rfl rfl rfl rfl ?_|refine a7u (w2 _) rfl rfl rfl rfl rfl ?_|refine a7u (w3 _) rfl rfl rfl rfl rfl ?_|refine a7u (w4 _) rfl rfl rfl rfl rfl ?_|refine a7u (w5 _) rfl rfl rfl rfl rfl ?_|refine a7u (w6 _) rfl rfl rfl rfl rfl ?_|refine a1k rfl rfl rfl opa ?_)|refine a1k rfl rfl rfl opa ?_|refine b0q rfl rfl opa ?_|refine c1d rfl rfl opa ?_)|(refine f1k rfl ?_; first|refine e3y rfl rfl rfl ?_|refine d4x rfl rfl ?_|((fail_if_success refine b5i rfl ?_); first|refine c7q rfl rfl rfl (by assumption) ?_|refine c8h rfl rfl rfl (by assumption) ?_|refine c7g rfl rfl rfl (by assumption) ?_|refine c2k rfl rfl rfl (by assumption) ?_|refine c1n rfl rfl rfl (by assumption) ?_|refine d3j rfl rfl rfl (fun c=>?_) (fun c=>?_)|refine c6z rfl rfl rfl (fun c=>?_) (fun c=>?_))))|(refine isG ?_; first|refine b0d ?_|refine a7z ?_|refine c4d rfl ?_|refine b8r rfl ?_|refine c6p ?_|refine d2h ?_|refine d3w ?_|refine c3r ?_|refine c1t ?_|refine c3u ?_|refine c7s rfl ?_|refine c7l rfl (by assumption) ?_|refine c7c rfl (by assumption) ?_|refine c6q rfl (by assumption) ?_|refine c3a rfl (by assumption) ?_|refine c2c rfl (by assumption) ?_|refine d4w rfl (fun c=>?_) (fun c=>?_)|refine b5h rfl (fun c=>?_) (fun c=>?_)|exact e9x rfl hres ⟨hval,a0j⟩|exact f0f rfl hres ⟨hval,a0j⟩|exact e9x rfl hres hval|exact f0f rfl hres hval)|(refine isD ?_; first|refine c2q hms rfl hall ?_|(refine b4v rfl ?_; first|(refine f1m rfl ?_; first|refine a7s (w1 _) rfl rfl rfl rfl rfl rfl rfl ?_|refine a7s (w2 _) rfl rfl rfl rfl rfl rfl rfl ?_|refine a7s (w3 _) rfl rfl rfl rfl rfl rfl rfl ?_|refine a7s (w4 _) rfl rfl rfl rfl rfl rfl rfl ?_|refine a7s (w5 _) rfl rfl rfl rfl rfl rfl rfl ?_|refine a7s (w6 _) rfl rfl rfl rfl rfl rfl rfl ?_|refine b6o rfl rfl rfl rfl opa ?_)|refine a4l rfl rfl rfl rfl opa ?_|refine b8k rfl rfl rfl opa ?_|refine b4o rfl rfl rfl rfl rfl ?_|refine b6o rfl rfl rfl rfl opa ?_)|(refine f2a rfl ?_; first|refine e3b rfl rfl rfl ?_|((fail_if_success refine b4v rfl ?_); first|refine c8a rfl rfl rfl (by assumption) ?_|refine c8k rfl rfl rfl (by assumption) ?_|refine c7v rfl rfl rfl (by assumption) ?_|refine e0s rfl rfl rfl (fun c=>?_) (fun c=>?_)|refine c7p rfl rfl rfl (fun c=>?_) (fun c=>?_)))))); done)):G:=w
theorem both {G R1 R2:Prop}(k1:R1) (k2:R2) (w:Box R1→Box R2→G:=by(intro k1 k2; (repeat' (first|(refine isO ?_; first|refine d1w ?_|(refine b5i rfl ?_; first|(refine f1s rfl ?_; first|refine a7u (w1 _) rfl rfl rfl rfl rfl ?_|refine a7u (w2 _) rfl rfl rfl rfl rfl ?_|refine a7u (w3 _) rfl rfl rfl rfl rfl ?_|refine a7u (w4 _) rfl rfl rfl rfl rfl ?_|refine a7u (w5 _) rfl rfl rfl rfl rfl ?_|refine a7u (w6 _) rfl rfl rfl rfl rfl ?_|refine a1k rfl rfl rfl opa ?_)|refine a1k rfl rfl rfl opa ?_|refine b0q rfl rfl opa ?_|refine c1d rfl rfl opa ?_)|(refine f1k rfl ?_; first|refine e3y rfl rfl rfl ?_|refine d4x rfl rfl ?_|((fail_if_success refine b5i rfl ?_); first|refine c7q rfl rfl rfl (by assumption) ?_|refine c8h rfl rfl rfl (by assumption) ?_|refine c7g rfl rfl rfl (by assumption) ?_|refine c2k rfl rfl rfl (by assumption) ?_|refine c1n rfl rfl rfl (by assumption) ?_|(refine d3j rfl rfl rfl ?_ ?_; exact k1.out; exact k2.out)|(refine c6z rfl rfl rfl ?_ ?_; exact k1.out; exact k2.out))))|(refine isG ?_; first|refine b0d ?_|refine a7z ?_|refine c4d rfl ?_|refine b8r rfl ?_|refine c6p ?_|refine d2h ?_|refine d3w ?_|refine c3r ?_|refine c1t ?_|refine c3u ?_|refine c7s rfl ?_|refine c7l rfl (by assumption) ?_|refine c7c rfl (by assumption) ?_|refine c6q rfl (by assumption) ?_|refine c3a rfl (by assumption) ?_|refine c2c rfl (by assumption) ?_|(refine d4w rfl ?_ ?_; exact k1.out; exact k2.out)|(refine b5h rfl ?_ ?_; exact k1.out; exact k2.out))|(refine isD ?_; first|refine c2q hms rfl hall ?_|(refine b4v rfl ?_; first|(refine f1m rfl ?_; first|refine a7s (w1 _) rfl rfl rfl rfl rfl rfl rfl ?_|refine a7s (w2 _) rfl rfl rfl rfl rfl rfl rfl ?_|refine a7s (w3 _) rfl rfl rfl rfl rfl rfl rfl ?_|refine a7s (w4 _) rfl rfl rfl rfl rfl rfl rfl ?_|refine a7s (w5 _) rfl rfl rfl rfl rfl rfl rfl ?_|refine a7s (w6 _) rfl rfl rfl rfl rfl rfl rfl ?_|refine b6o rfl rfl rfl rfl opa ?_)|refine a4l rfl rfl rfl rfl opa ?_|refine b8k rfl rfl rfl opa ?_|refine b4o rfl rfl rfl rfl rfl ?_|refine b6o rfl rfl rfl rfl opa ?_)|(refine f2a rfl ?_; first|refine e3b rfl rfl rfl ?_|((fail_if_success refine b4v rfl ?_); first|refine c8a rfl rfl rfl (by assumption) ?_|refine c8k rfl rfl rfl (by assumption) ?_|refine c7v rfl rfl rfl (by assumption) ?_|(refine e0s rfl rfl rfl ?_ ?_; exact k1.out; exact k2.out)|(refine c7p rfl rfl rfl ?_ ?_; exact k1.out; exact k2.out)))))))):G:=w ⟨k1⟩ ⟨k2⟩
end Ev
end
