/- A part of an evaluator of the program's form in Lean, of the proof that what it says of a call is what the machine does, and of the rules by which proofs walk over it. Conditions: those that each theorem states. -/
import Derived.Test.YtmnhbehmjaibgaaGreatGao
set_option linter.unusedVariables false
set_option linter.unusedSimpArgs false
section
namespace Ev
open Go
variable {T:Tabs}{ρ:Operand→Option AV}{h h':Heap}{t:TypeId}{x y ix a:Operand}{o:Oper}
theorem Sl.shape {sz n:Nat}{v:AV}{cs:List AV}(s:Sl h sz v n cs):(v=.nilslice∧n=0∧cs=[])∨(v=.eslice∧n=0∧cs=[])∨(∃ b p c,v=.slice b p n c)∨∃ b p,v=.oslice b p n sz:=by
 cases v<;>first|exact s.elim|exact .inl ⟨rfl,s⟩|exact .inr (.inl ⟨rfl,s⟩)|(obtain⟨rfl,_⟩:=s; exact .inr (.inr (.inl ⟨_,_,_,rfl⟩)))|(obtain⟨rfl,rfl,_⟩:=s; exact .inr (.inr (.inr ⟨_,_,rfl⟩)))
theorem Sl.cells {sz n:Nat}{v:AV}{cs:List AV}(s:Sl h sz v n cs):v.cells=[v]:=by
 cases v<;>first|exact s.elim|rfl
theorem Sl.one {sz n:Nat}{v:AV}{cs:List AV}(s:Sl h sz v n cs):v.one=true:=by
 cases v<;>first|exact s.elim|rfl
theorem flat_len {α:Type}{enc:α→List AV}{sz:Nat}(hs:∀ x,(enc x).length=sz) (l:List α):(l.flatMap enc).length=l.length*sz:=by
 induction l with
 |nil=>simp
 |cons a l ih=>simp[hs,ih,Nat.add_mul]; omega
theorem eqv_str {t:TypeId}{x y:List UInt8}{d:Nat}(hu:T.und t=some .string):eqv T (d+1) t (.str x) (.str y)=some (decide (x=y)):=by
 unfold eqv
 rw[hu]
 show some (bytesEq x y)=_
 rw[bytesEq_eq]
 by_cases e:x=y<;>simp[e]
theorem eqv_agg {t:TypeId}{xs ys:List AV}{fs:Array Field}{d:Nat}{r:Option Bool}(hu:T.und t=some (.struct fs)) (hs:T.stood t=false) (e:eqFields T (eqv T d) fs.toList xs ys=r):eqv T (d+1) t (.agg xs) (.agg ys)=r:=by
 rw[← e]
 conv=>lhs; unfold eqv
 rw[hu]
 simp[hs]
theorem eqF_cons {e : TypeId → AV → AV → Option Bool} {f : Field} {fs : List Field} {xs ys : List AV} {a b : AV} {p q : Prop} [Decidable p] [Decidable q] (hn : (f.name == "_") = false) (ha : part T f.type xs f.offset = some a) (hb : part T f.type ys f.offset = some b) (he : e f.type a b = some (decide p)) (r : eqFields T e fs xs ys = some (decide q)) : eqFields T e (f :: fs) xs ys = some (decide (p ∧ q)) := by
 have hn' : ¬ f.name = "_" := by simpa using hn
 unfold eqFields
 rw[if_neg hn']
 simp only[ha,hb,he]
 by_cases hp:p
 ·simp only[decide_eq_true hp]
  rw[r]
  simp[hp]
 ·simp[hp]
theorem eqF_nil {e:TypeId→AV→AV→Option Bool}{xs ys:List AV}:eqFields T e [] xs ys=some (decide True):=rfl
theorem bin_ne {op:BinOp}{t:TypeId}{xs ys:List AV}{p:Prop} [Decidable p] (e:eqv T 100 t (.agg xs) (.agg ys)=some (decide p)) (ho:op=.neq):binA T op t (.agg xs) (.agg ys)=some (.bool (decide (¬ p))):=by
 subst ho
 show(match eqv T 100 t (.agg xs) (.agg ys) with|some r=>some (AV.bool (!r))|none=>none)=_
 rw[e]
 simp
end Ev
end
section
namespace Ev
open Go
variable {T:Tabs}{cx:Cx}{k:List K}{Q:Res→Prop}{all rest:List Oper}{o:Oper}{df:List ADef}{pan:Option (AV×Bool)}{h h' h2:Heap}{L L':List (Nat×AV)}{v:AV}{d:Nat}
variable {ms:List Nat}{N m:Nat}{mr:List Nat}{n:Nat}{acc:List EJ}{sl:List Tmp}{hl:List (List Tmp)}{Lq:List (Nat×AV)}
end Ev
end
section
namespace Ev
open Go
variable {α:Type}{enc:α→List AV}{sz:Nat}
end Ev
end
section
namespace Ev
open Go
variable {T:Tabs}{h h':Heap}
inductive OwnS (e:TypeId) (sz:Nat) (S:Nat→Prop) (h:Heap):AV→Nat→List AV→Prop
 |nil:OwnS e sz S h .nilslice 0 []
 |sl {B cap n:Nat} {all cs:List AV} (hb:S B) (hl:B<h.next) (hg:h.get B=some (.cells e all true)) (hn:n≤cap) (ha:all.length=cap*sz) (hc:all.take (n*sz)=cs):OwnS e sz S h (.slice B 0 n cap) n cs
 |os {B cap n:Nat} {all cs:List AV} (hb:S B) (hl:B<h.next) (hg:h.get B=some (.cells e all true)) (hn:n≤cap) (ha:all.length=cap*sz) (hc:all.take (n*sz)=cs):OwnS e sz S h (.oslice B 0 n sz) n cs
theorem OwnS.sl' {e:TypeId}{sz n:Nat}{S:Nat→Prop}{v:AV}{cs:List AV}(w:OwnS e sz S h v n cs):Sl h sz v n cs:=by
 cases w with
 |nil=>exact⟨rfl,rfl⟩
 |sl hb hl hg hn ha hc=>exact⟨rfl,hl,e,_,true,hg,by rw[Nat.zero_add,ha]; exact Nat.mul_le_mul_right _ hn,by simpa using hc⟩
 |os hb hl hg hn ha hc=>exact⟨rfl,rfl,hl,e,_,true,hg,by rw[Nat.zero_add,ha]; exact Nat.mul_le_mul_right _ hn,by simpa using hc⟩
theorem OwnS.length {e:TypeId}{sz n:Nat}{S:Nat→Prop}{v:AV}{cs:List AV}(w:OwnS e sz S h v n cs):cs.length=n*sz:=w.sl'.length
theorem OwnS.keep {e:TypeId}{sz n:Nat}{S:Nat→Prop}{v:AV}{cs:List AV}(w:OwnS e sz S h v n cs) (k:∀ b,S b→b<h.next→h'.get b=h.get b) (hn:h.next≤h'.next):OwnS e sz S h' v n cs:=by
 cases w with
 |nil=>exact .nil
 |sl hb hl hg hn' ha hc=>exact .sl hb (Nat.lt_of_lt_of_le hl hn) ((k _ hb hl).trans hg) hn' ha hc
 |os hb hl hg hn' ha hc=>exact .os hb (Nat.lt_of_lt_of_le hl hn) ((k _ hb hl).trans hg) hn' ha hc
theorem OwnS.mono {e:TypeId}{sz n:Nat}{S S':Nat→Prop}{v:AV}{cs:List AV}(w:OwnS e sz S h v n cs) (k:∀ b,S b→b<h.next→S' b):OwnS e sz S' h v n cs:=by
 cases w with
 |nil=>exact .nil
 |sl hb hl hg hn' ha hc=>exact .sl (k _ hb hl) hl hg hn' ha hc
 |os hb hl hg hn' ha hc=>exact .os (k _ hb hl) hl hg hn' ha hc
structure Touch (S:Nat→Prop) (h h':Heap):Prop where
 nx:h.next≤h'.next
 old:∀ c,c<h.next→¬ S c→h'.get c=h.get c
 ok:h.ok→h'.ok
theorem Touch.refl (S:Nat→Prop) (h:Heap):Touch S h h:=⟨Nat.le_refl _,fun _ _ _=>rfl,id⟩
theorem Touch.trans {S:Nat→Prop}{a b c:Heap}(x:Touch S a b) (y:Touch S b c):Touch S a c:=⟨Nat.le_trans x.nx y.nx,fun n hn hs=>(y.old n (Nat.lt_of_lt_of_le hn x.nx) hs).trans (x.old n hn hs),fun k=>y.ok (x.ok k)⟩
theorem Touch.set {S:Nat→Prop}{h:Heap}{b:Nat}(o:AObj) (hb:S b) (hl:b<h.next):Touch S h (h.set b o):=⟨Nat.le_refl _,fun c hc hs=>Heap.gn _ _ _ _ (fun e=>hs (e ▸ hb)),fun k=>ok_st k _ _ hl⟩
theorem Touch.al {S:Nat→Prop}{h:Heap}(o:AObj):Touch S h (h.alloc o):=⟨Nat.le_succ _,fun c hc hs=>Heap.ga _ _ _ (by omega),fun k=>ok_al k _⟩
theorem append_s {st elem:TypeId}{rest:List TypeId}{sz n m:Nat}{S:Nat→Prop}{ei:TypeInfo}{u w:AV}{cs new:List AV}(hu:T.und st=some (.slice elem)) (hsz:T.size elem=some sz) (hti:T.ti elem=some ei) (hz:zeroOk T elem sz=true) (hs0:0<sz)
  (own:OwnS elem sz S h u n cs) (hcount:countA T rest w=some m) (hnew:newA T elem sz m h rest w=some new) (hlen:new.length=m*sz) (hone:new.all AV.one=true) (hr:roomA (n+m) ei.bytes=true) :
  ∃ v' h',appendA T [u,w] (st::rest) h=.val v' h'∧OwnS elem sz (fun b=>S b∨h.next≤b) h' v' (n+m) (cs++new)∧Touch S h h':=by
 have hf:firstA sz n h u=some cs:=own.sl'.first
 have hl:lenS u=some n:=own.sl'.len
 have hcl:=own.length
 have hb1:Nat.beq new.length (m*sz)=true:=by rw[hlen]; simp
 have hb2:Nat.beq cs.length (n*sz)=true:=by rw[hcl]; simp
 have fresh:∀ hh:Heap,hh.next=h.next→OwnS elem sz (fun b=>S b∨h.next≤b) (hh.alloc (.cells elem (cs++new) true)) (.oslice h.next 0 (n+m) sz) (n+m) (cs++new):=fun hh e =>
  .os (.inr (Nat.le_refl _)) (by show h.next<hh.next+1; omega) (by rw[← e]; exact get_new _ _) (Nat.le_refl _) (by simp[hcl,hlen,Nat.add_mul]) (List.take_of_length_le (by simp[hcl,hlen,Nat.add_mul]))
 cases own with
 |nil =>
  by_cases h0:m=0
  ·subst h0
   have:new=[]:=by simpa using hlen
   subst this
   exact⟨.nilslice,h,by unfold appendA; simp only[hu,hsz,hl,hcount,hti,hnew,hf]; simp[hr,hz],.nil,.refl _ _⟩
  ·refine⟨.oslice h.next 0 m sz,h.alloc (.cells elem ([]++new) true),?_,?_,.al _⟩
   ·unfold appendA; simp only[hu,hsz,hl,hcount,hti,hnew,hf]; simp only[Nat.zero_add] at hr ⊢; simp[hr,hz,hlen,h0]
   ·simpa using fresh h rfl
 |@sl B cap n all cs hb hlt hg hn ha hc =>
  by_cases hin:n+m≤cap
  ·have hfit:n*sz+new.length≤all.length:=by rw[hlen,ha,← Nat.add_mul]; exact Nat.mul_le_mul_right _ hin
   have hw:writeCells h B (0+n*sz) new=some (h.set B (.cells elem (over all (n*sz) new) true)):=by
    simp only[writeCells,hg,Nat.zero_add]
    rw[if_pos ⟨hfit,hone⟩]
   refine⟨.slice B 0 (n+m) cap,h.set B (.cells elem (over all (n*sz) new) true),?_,?_,.set _ hb hlt⟩
   ·unfold appendA; simp only[hu,hsz,hl,hcount,hti,hnew,hf]; simp[hr,hz,hb1,hb2,hin]; simp only[Nat.zero_add] at hw; rw[hw]
   ·refine .sl (.inl hb) (by simpa using hlt) (Heap.gs _ _ _) hin (by rw[over_length _ _ _ hfit,ha]) ?_
    have:=over_take all new (n*sz) hfit
    rw[hlen,← Nat.add_mul] at this
    rw[this,hc]
  ·refine⟨.oslice h.next 0 (n+m) sz,h.alloc (.cells elem (cs++new) true),?_,?_,.al _⟩
   ·unfold appendA; simp only[hu,hsz,hl,hcount,hti,hnew,hf]; simp[hr,hz,hb1,hb2,hin]
   ·exact fresh h rfl
 |@os B cap n all cs hb hlt hg hn ha hc =>
  have hs:¬ (sz≠sz∨sz=0∨elem≠elem∨new.all AV.one=false):=by
   rintro(e|e|e|e)
   ·exact e rfl
   ·omega
   ·exact e rfl
   ·rw[hone] at e; cases e
  by_cases hin:0+(n+m)*sz≤all.length
  ·have hfit:n*sz+new.length≤all.length:=by rw[hlen,← Nat.add_mul]; omega
   have hw:writeCells h B (0+n*sz) new=some (h.set B (.cells elem (over all (n*sz) new) true)):=by
    simp only[writeCells,hg,Nat.zero_add]
    rw[if_pos ⟨hfit,hone⟩]
   refine⟨.oslice B 0 (n+m) sz,h.set B (.cells elem (over all (n*sz) new) true),?_,?_,.set _ hb hlt⟩
   ·unfold appendA; simp only[hu,hsz,hl,hcount,hti,hnew,hf]; simp only[Nat.zero_add] at hr hw hin hb1 hb2 ⊢; simp[hr,hz,hb1,hb2,hg,hs,hin,hw,hone]; omega
   ·refine .os (.inl hb) (by simpa using hlt) (Heap.gs _ _ _) (by rw[Nat.zero_add,ha] at hin; exact Nat.le_of_mul_le_mul_right hin hs0) (by rw[over_length _ _ _ hfit,ha]) ?_
    have:=over_take all new (n*sz) hfit
    rw[hlen,← Nat.add_mul] at this
    rw[this,hc]
  ·have hin':¬ ((n+m)*sz≤all.length):=by rw[Nat.zero_add] at hin; exact hin
   refine⟨.oslice h.next 0 (n+m) sz,(h.set B .dead).alloc (.cells elem (cs++new) true),?_,?_,(Touch.set _ hb hlt).trans (.al _)⟩
   ·unfold appendA; simp only[hu,hsz,hl,hcount,hti,hnew,hf]; simp only[Nat.zero_add] at hr hb1 hb2 ⊢; simp[hr,hz,hb1,hb2,hg,hone,hin']; omega
   ·exact fresh (h.set B .dead) rfl
variable {α:Type}{enc:α→List AV}{sz:Nat}
def OwnLS (enc:α→List AV) (e:TypeId) (sz:Nat) (S:Nat→Prop) (h:Heap) (v:AV) (l:List α):Prop:=OwnS e sz S h v l.length (l.flatMap enc)
theorem OwnLS.ls {e:TypeId}{S:Nat→Prop}{v:AV}{l:List α}(w:OwnLS enc e sz S h v l):Ls enc sz h v l:=w.sl'
theorem OwnLS.nil {e:TypeId}{S:Nat→Prop}:OwnLS enc e sz S h .nilslice []:=OwnS.nil
theorem app_row_s {st elem:TypeId}{rest:List TypeId}{c:Nat}{S:Nat→Prop}{ei:TypeInfo}{u:AV}{l:List α}{x:α}{rw:Bool}(own:OwnLS enc elem sz S h u l) (hc:h.get c=some (.cells elem (enc x) rw)) (hcl:c<h.next) (hr:l.length≤1000000)
  (hs:(enc x).length=sz) (hone:(enc x).all AV.one=true)
  (hu:T.und st=some (.slice elem)) (hsz:T.size elem=some sz) (hti:T.ti elem=some ei) (hb:ei.bytes≤10000) (hz:zeroOk T elem sz=true) (hs0:0<sz) (hm:isMake T rest=some false) :
  ∃ v' h',appendA T [u,.slice c 0 1 1] (st::rest) h=.val v' h'∧OwnLS enc elem sz (fun b=>S b∨h.next≤b) h' v' (l++[x])∧Touch S h h':=by
 have bw:Sl h sz (.slice c 0 1 1) 1 (enc x):=⟨rfl,hcl,elem,enc x,rw,hc,by omega,by simp[← hs]⟩
 obtain⟨v',h',e1,e2,e3⟩:=append_s hu hsz hti hz hs0 own (count_sl hm bw) (new_sl hm bw) (by simp[hs]) hone (by
  unfold roomA
  refine Nat.ble_eq.mpr (Nat.le_trans (Nat.mul_le_mul (show 4*(l.length+1)+1000≤4001004 by omega) (show ei.bytes+1≤10001 by omega)) (by decide)))
 exact⟨v',h',e1,by unfold OwnLS; simpa using e2,e3⟩
theorem app_rows_s {st elem:TypeId}{rest:List TypeId}{S:Nat→Prop}{ei:TypeInfo}{u w:AV}{l r:List α}(own:OwnLS enc elem sz S h u l) (bw:Ls enc sz h w r) (hr:l.length+r.length≤1000000)
  (hone:∀ x,(enc x).all AV.one=true)
  (hu:T.und st=some (.slice elem)) (hsz:T.size elem=some sz) (hti:T.ti elem=some ei) (hb:ei.bytes≤10000) (hz:zeroOk T elem sz=true) (hs0:0<sz) (hm:isMake T rest=some false) :
  ∃ v' h',appendA T [u,w] (st::rest) h=.val v' h'∧OwnLS enc elem sz (fun b=>S b∨h.next≤b) h' v' (l++r)∧Touch S h h':=by
 obtain⟨v',h',e1,e2,e3⟩:=append_s hu hsz hti hz hs0 own (count_sl hm bw) (new_sl hm bw) (Sl.length bw) (by
  clear bw hr
  induction r with
  |nil=>rfl
  |cons a r ih=>rw[List.flatMap_cons,List.all_append,hone,ih]; rfl) (by
  unfold roomA
  refine Nat.ble_eq.mpr (Nat.le_trans (Nat.mul_le_mul (show 4*(l.length+r.length)+1000≤4001000 by omega) (show ei.bytes+1≤10001 by omega)) (by decide)))
 exact⟨v',h',e1,by unfold OwnLS; simpa using e2,e3⟩
end Ev
end
section
namespace Ev
open Go
variable {T:Tabs}{h h':Heap}{cx:Cx}{k:List K}{Q:Res→Prop}{all rest:List Oper}{df:List ADef}{pan:Option (AV×Bool)}{L:List (Nat×AV)}{tm:Tr AV}{o:Oper}{d:Nat}
def RGives (T:Tabs) (l:Nat) (fn:FuncId) (tm0:Tr AV) (nt:Nat) (as bd:Code) (h:Heap) (P:AV→Heap→Prop):Prop:=Wp T (.round l fn tm0 nt as bd h) fun r=>∃ v h',r=.ret v h'∧P v h'
theorem ops_round {l:Nat}{fn:FuncId}{tm0:Tr AV}{nt:Nat}{as bd:Code}{P:AV→Heap→Prop}(hs:Sees tm L) (hg:wantedL all L o=some true) (hd:o.dst=some d) (ho:opA T (envL L) o h=.round l fn tm0 nt as bd h') (hn:Nat.blt d cx.nt=true)
  (hc:RGives T l fn tm0 nt as bd h' P) (c:∀ v h2,P v h2→∀ tm',Sees tm' ((d,v)::L)→Ops T cx all rest k ⟨tm',df,pan,h2⟩ Q):Ops T cx all (o::rest) k ⟨tm,df,pan,h⟩ Q:=by
 refine Wp.bind (t':=.round l fn tm0 nt as bd h') (fun rec r=>match r with
   |.ret v h''=>(match putA cx { tm:=tm,df:=df,pan:=pan,h:=h'' } o.dst v with
      |some s'=>rec (.ops cx all rest s')
      | none => .no "put" [])
   |.thrown v h''=>.pan v { tm:=tm,df:=df,pan:=pan,h:=h'' }
   |r=>no1 fn r) (fun rec=>?_) (Wp.mono hc ?_)
 ·simp only[step,wanted_of hs hg,op_of hs ho rfl]
  cases rec (.round l fn tm0 nt as bd h')<;>rfl
 ·rintro _ ⟨v,h2,rfl,p⟩
  obtain⟨r,⟨N,hr⟩,q⟩:=c v h2 p (tm.set d v) (hs.set d v)
  refine⟨r,⟨N,fun n hn'=>?_⟩,q⟩
  simp only[putA,hd,if_pos (blt_lt hn)]
  exact hr n hn'
theorem jo_round {l:Nat}{fn:FuncId}{tm0:Tr AV}{nt:Nat}{as bd:Code}{P:AV→Heap→Prop}(hc:RGives T l fn tm0 nt as bd h' P) (hg:wantedL all L o=some true) (hd:o.dst=some d) (hn:Nat.blt d cx.nt=true) (ho:opA T (envL L) o h=.round l fn tm0 nt as bd h')
  (c:∀ v h2,P v h2→OJ T cx all rest k ((d,v)::L) df pan h2 Q):OJ T cx all (o::rest) k L df pan h Q:=⟨fun tm hs=>⟨ops_round hs hg hd ho hn hc fun v h2 p tm' s'=>((c v h2 p).out tm' s').out⟩⟩
def roundB (T:Tabs) (l:Nat) (fn:FuncId) (r:Res):Res:=match r with
 |.fin e s'=>(match s'.df,s'.h.get l with
  |[],some (.loop _ _ fn'' tm'' nt'' ps'' as'' bd'' d')=>(match e with
   |.normal=>.ret (.bool true) (s'.h.set l (.loop .ready none fn'' tm'' nt'' ps'' as'' bd'' d'))
   |e=>.ret (.bool false) (s'.h.set l (.loop .done (some (goCode e)) fn'' tm'' nt'' ps'' as'' bd'' d')))
  | _, _ => .no "round: defers" [])
 |.pan v s'=>(match s'.df,T.fn fn with
  |[],some _=>.thrown v s'.h
  | _, _ => .no "round: defers" [])
 |r=>r
def roundA (T:Tabs) (l:Nat) (fn:FuncId) (nt:Nat) (bd:Code) (rec:Task→Res) (r:Res):Res:=match r with
 |.fin .normal s=>(match s.h.get l with
  |some (.loop .ready pend fn' tm' nt' ps as' bd' d)=>bindR (rec (.code { fn:=fn,nt:=nt,round:=some l } bd { s with h:=s.h.set l (.loop .busy pend fn' tm' nt' ps as' bd' d) })) (roundB T l fn)
  | _ => .no "round: not ready" [])
 | .fin _ _ => .no "round: jump in assign" []
 |.pan v s=>(match s.df,T.fn fn with
  |[],some _=>.thrown v s.h
  | _, _ => .no "round: defers" [])
 |r=>r
theorem leave_collected {f:FuncId}{ds:List ADef}{b:Nat}(hg:h.get b=some (.dfr (some []))) (w:Wp T (.leave f tm ds pan (h.set b (.dfr none))) Q):Wp T (.leave f tm (.collected b::ds) pan h) Q :=
 Wp.like (fun rec=>by simp[step,hg]) w
end Ev
end
section
namespace Ev
open Go
variable {T:Tabs}{h h':Heap}{cx:Cx}{k:List K}{Q:Res→Prop}{all rest:List Oper}{df:List ADef}{pan:Option (AV×Bool)}{L:List (Nat×AV)}{tm:Tr AV}{o:Oper}{d:Nat}
theorem k_yield {ρ:Operand→Option AV}{f:Operand}{args:Array Operand}{ats:Array TypeId}{l:Nat}{as:List AV}{r:OR}(e:invokeA T (.yield l) [] as h=r) (ho:o.op=.call { callee:=.value f,args:=args,argTypes:=ats }) (hf:ρ f=some (.func (.yield l) [] [])) (ha:argMap ρ args.toList=some as):opA T ρ o h=r:=by
 cases o; cases ho
 simp only[opA,resolveA,hf,ha,List.nil_append]
 exact e
theorem oj_cut1 {ι:Type}{a:K}{k2:List K}(Lf:ι→List (Nat×AV)) (I:ι→Heap→Prop) (now:∀ k',(∀ x {L' h'},Sub (Lf x) L'→I x h'→GJ T cx k' L' df pan h' Q)→OJ T cx all rest (a::k') L df pan h Q) (rst:∀ x h,I x h→GJ T cx k2 (Lf x) df pan h Q):OJ T cx all rest (a::k2) L df pan h Q:=now k2 fun x _ h' hs hi=>(rst x h' hi).sub hs
end Ev
end
section
namespace Ev
open Go
variable {α:Type}
structure SeqI (enc:α→List AV) (st e:TypeId) (sz box l d:Nat) (O:AObj) (S:Nat→Prop) (acc:List α) (h:Heap):Prop where
 low:∀ c,S c→c<h.next
 sb:S box
 sl:S l
 sd:S d
 n1:box≠l
 n2:l≠d
 n3:box≠d
 gl:h.get l=some O
 gd:h.get d=some (.dfr (some []))
 own:∃ u,h.get box=some (.cells st [u] true)∧OwnLS enc e sz (fun c=>S c∧c≠box∧c≠l∧c≠d) h u acc
theorem SeqI.stable {enc:α→List AV}{st e:TypeId}{sz box l d:Nat}{O:AObj}{S:Nat→Prop}{acc:List α}{h h':Heap}(i:SeqI enc st e sz box l d O S acc h) (hn:h.next≤h'.next) (k:∀ c,S c→c<h.next→h'.get c=h.get c):SeqI enc st e sz box l d O S acc h':=by
 obtain⟨u,g,o⟩:=i.own
 exact⟨fun c q=>Nat.lt_of_lt_of_le (i.low c q) hn,i.sb,i.sl,i.sd,i.n1,i.n2,i.n3,(k _ i.sl (i.low _ i.sl)).trans i.gl,(k _ i.sd (i.low _ i.sd)).trans i.gd,u,(k _ i.sb (i.low _ i.sb)).trans g,o.keep (fun c q hc=>k c q.1 hc) hn⟩
theorem OwnS.one {e:TypeId}{sz n:Nat}{S:Nat→Prop}{h:Heap}{v:AV}{cs:List AV}(w:OwnS e sz S h v n cs):v.cells=[v]∧v.one=true:=by
 cases w<;>exact⟨rfl,rfl⟩
end Ev
end
