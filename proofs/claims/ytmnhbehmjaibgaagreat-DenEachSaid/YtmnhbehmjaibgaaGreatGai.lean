/- A part of an evaluator of the program's form in Lean, of the proof that what it says of a call is what the machine does, and of the rules by which proofs walk over it. Conditions: those that each theorem states. -/
import Derived.Test.YtmnhbehmjaibgaaGreatGah
set_option linter.unusedVariables false
set_option linter.unusedSimpArgs false
section
namespace Ev
open Go
variable {T:Tabs}
def Says (T:Tabs) (t:Task) (r:Res):Prop:=∃ N,∀ n,N≤n→ev T n t=r
def Res.leaf:Res→Bool
 |.alt _ _=>false
 |_=>true
def Leaves (Q:Res→Prop):Res→Prop
 |.alt a b=>Leaves Q a∧Leaves Q b
 |r=>Q r
theorem Leaves.mono {Q Q':Res→Prop}(k:∀ r,r.leaf=true→Q r→Q' r):∀ {r:Res},Leaves Q r→Leaves Q' r
 |.alt a b,h=>⟨Leaves.mono k h.1,Leaves.mono k h.2⟩
 |.fin ..,h=>k _ rfl h
 |.pan ..,h=>k _ rfl h
 |.ret ..,h=>k _ rfl h
 |.thrown ..,h=>k _ rfl h
 |.dret ..,h=>k _ rfl h
 |.no ..,h=>k _ rfl h
theorem Leaves.get {Q:Res→Prop}:∀ {r q:Res},Leaves Q r→Lf r q→Q q
 |.alt a b,q,h,l=>l.elim (Leaves.get h.1) (Leaves.get h.2)
 |.fin ..,q,h,l=>by cases l; exact h
 |.pan ..,q,h,l=>by cases l; exact h
 |.ret ..,q,h,l=>by cases l; exact h
 |.thrown ..,q,h,l=>by cases l; exact h
 |.dret ..,q,h,l=>by cases l; exact h
 |.no ..,q,h,l=>by cases l; exact h
def Wp (T:Tabs) (t:Task) (Q:Res→Prop):Prop:=∃ r,Says T t r∧Leaves Q r
theorem Says.of_step {t:Task}{r:Res}(h:∃ N,∀ n,N≤n→step T (ev T n) t=r):Says T t r:=by
 obtain⟨N,h⟩:=h
 refine⟨N+1,fun n hn=>?_⟩
 obtain⟨m,rfl⟩:∃ m,n=m+1:=⟨n-1,by omega⟩
 exact h m (by omega)
theorem Says.now {t:Task}{r:Res}(h:∀ rec,step T rec t=r):Says T t r:=.of_step ⟨0,fun n _=>h _⟩
theorem Says.ev {t:Task}{r:Res}(h:Says T t r):∃ n,ev T n t=r:=by
 obtain⟨N,h⟩:=h
 exact⟨N,h N (Nat.le_refl _)⟩
theorem Wp.mono' {t:Task}{Q Q':Res→Prop}(h:Wp T t Q) (k:∀ r,r.leaf=true→Q r→Q' r):Wp T t Q':=by
 obtain⟨r,h,q⟩:=h
 exact⟨r,h,q.mono k⟩
theorem Wp.mono {t:Task}{Q Q':Res→Prop}(h:Wp T t Q) (k:∀ r,Q r→Q' r):Wp T t Q':=h.mono' fun r _=>k r
theorem Wp.now {t:Task}{r:Res}{Q:Res→Prop}(h:∀ rec,step T rec t=r) (q:Leaves Q r):Wp T t Q:=⟨r,.now h,q⟩
theorem Wp.like {t t':Task}{Q:Res→Prop}(h:∀ rec,step T rec t=rec t') (k:Wp T t' Q):Wp T t Q:=by
 obtain⟨r,⟨N,hr⟩,q⟩:=k
 exact⟨r,.of_step ⟨N,fun n hn=>by rw[h]; exact hr n hn⟩,q⟩
theorem bind_leaves {Q:Res→Prop}(f:Nat→Res→Res):∀ (r:Res),Leaves (fun r=>∃ r',(∃ N,∀ n,N≤n→f n r=r')∧Leaves Q r') r→∃ r',(∃ N,∀ n,N≤n→bindR r (f n)=r')∧Leaves Q r'
 |.alt a b,h=>by
  obtain⟨ra,⟨N,ha⟩,qa⟩:=bind_leaves f a h.1
  obtain⟨rb,⟨M,hb⟩,qb⟩:=bind_leaves f b h.2
  exact⟨.alt ra rb,⟨N+M,fun n hn=>by simp only[bindR,ha n (by omega),hb n (by omega)]⟩,qa,qb⟩
 |.fin ..,h=>h
 |.pan ..,h=>h
 |.ret ..,h=>h
 |.thrown ..,h=>h
 |.dret ..,h=>h
 |.no ..,h=>h
theorem Wp.bind {t t':Task}{Q:Res→Prop}(f:(Task→Res)→Res→Res) (h:∀ rec,step T rec t=bindR (rec t') (f rec)) (k:Wp T t' fun r=>∃ r',(∃ N,∀ n,N≤n→f (ev T n) r=r')∧Leaves Q r'):Wp T t Q:=by
 obtain⟨r,⟨N,hr⟩,k⟩:=k
 obtain⟨r',⟨N',hr'⟩,q⟩:=bind_leaves (fun n=>f (ev T n)) r k
 refine⟨r',.of_step ⟨N+N',fun n hn=>?_⟩,q⟩
 rw[h,hr n (by omega)]
 exact hr' n (by omega)
inductive K where
 |code (c:Code)
 |blk (id:Nat)
 |scope
def after (T:Tabs) (cx:Cx):List K→(Res→Prop)→Res→Prop
 |[],Q=>Q
 |.code c::k,Q=>fun r=>match r with
  |.fin .normal s=>Wp T (.code cx c s) (after T cx k Q)
  |r=>after T cx k Q r
 |.blk id::k,Q=>fun r=>match r with
  |.fin (.exit id') s=>if id'=id then after T cx k Q (.fin .normal s) else after T cx k Q (.fin (.exit id') s)
  |r=>after T cx k Q r
 |.scope::k,Q=>after T cx k Q
def Goes (T:Tabs) (cx:Cx) (k:List K) (s:St) (Q:Res→Prop):Prop:=after T cx k Q (.fin .normal s)
def Ops (T:Tabs) (cx:Cx) (all rest:List Oper) (k:List K) (s:St) (Q:Res→Prop):Prop:=Wp T (.ops cx all rest s) (after T cx k Q)
def unw (id:Nat):List K→Option (List K)
 |[]=>none
 |.blk id'::k=>match Nat.beq id id' with
  |true=>some k
  |false=>unw id k
 |_::k=>unw id k
section
variable {cx:Cx}{k:List K}{s:St}{Q:Res→Prop}
theorem after_ret:∀ (k:List K) (s:St),after T cx k Q (.fin .ret s)=Q (.fin .ret s)
 |[],_=>rfl
 |.code _::k,s=>after_ret k s
 |.blk _::k,s=>after_ret k s
 |.scope::k,s=>after_ret k s
theorem after_exit {id:Nat}:∀ (k k':List K) (s:St),unw id k=some k'→after T cx k' Q (.fin .normal s)→after T cx k Q (.fin (.exit id) s)
 |[],_,_,h,_=>by cases h
 |.code _::k,k',s,h,q=>after_exit k k' s h q
 |.scope::k,k',s,h,q=>after_exit k k' s h q
 |.blk id'::k,k',s,h,q=>by
  unfold unw at h
  split at h
  ·rename_i hb
   have:=Nat.eq_of_beq_eq_true hb
   subst this
   cases h
   simpa [after] using q
  ·rename_i hb
   have hne:¬ id=id':=fun e=>by subst e; simp at hb
   simp only[after,if_neg hne]
   exact after_exit k k' s h q
theorem go_nil (q:Q (.fin .normal s)):Goes T cx [] s Q:=q
theorem go_skip (h:Goes T cx k s Q):Goes T cx (.code .skip::k) s Q:=Wp.now (r:=.fin .normal s) (fun _=>rfl) h
theorem go_label {l:Nat}(h:Goes T cx k s Q):Goes T cx (.code (.label l)::k) s Q:=Wp.now (r:=.fin .normal s) (fun _=>rfl) h
theorem go_blk {id:Nat}(h:Goes T cx k s Q):Goes T cx (.blk id::k) s Q:=h
theorem go_end {id:Nat}(h:Goes T cx k s Q):Goes T cx (.scope::k) s Q:=h
theorem go_seq {a b:Code}(h:Goes T cx (.code a::.code b::k) s Q):Goes T cx (.code (.seq a b)::k) s Q:=by
 refine Wp.bind (t':=.code cx a s) (fun rec r=>match r with|.fin .normal s'=>rec (.code cx b s')|r=>r) (fun rec=>rfl) (Wp.mono' h fun r hl hr=>?_)
 cases r with
 |fin e s'=>cases e with
  |normal=>obtain⟨r',⟨N,h1⟩,q⟩:=hr; exact⟨r',⟨N,h1⟩,q⟩
  |_=>exact⟨_,⟨0,fun _ _=>rfl⟩,hr⟩
 |alt=>cases hl
 |_=>exact⟨_,⟨0,fun _ _=>rfl⟩,hr⟩
theorem go_loop1 {b:Code}(h:Goes T cx (.code b::.code (.loop b)::k) s Q):Goes T cx (.code (.loop b)::k) s Q:=by
 refine Wp.bind (t':=.code cx b s) (fun rec r=>match r with|.fin .normal s'=>rec (.code cx (.loop b) s')|r=>r) (fun rec=>rfl) (Wp.mono' h fun r hl hr=>?_)
 cases r with
 |fin e s'=>cases e with
  |normal=>obtain⟨r',⟨N,h1⟩,q⟩:=hr; exact⟨r',⟨N,h1⟩,q⟩
  |_=>exact⟨_,⟨0,fun _ _=>rfl⟩,hr⟩
 |alt=>cases hl
 |_=>exact⟨_,⟨0,fun _ _=>rfl⟩,hr⟩
theorem go_block {id:Nat}{b:Code}(h:Goes T cx (.code b::.blk id::k) s Q):Goes T cx (.code (.block id b)::k) s Q:=by
 refine Wp.bind (t':=.code cx b s) (fun rec r=>match r with|.fin (.exit id') s'=>if id'=id then .fin .normal s' else .fin (.exit id') s'|r=>r) (fun rec=>rfl) (Wp.mono' h fun r hl hr=>?_)
 cases r with
 |fin e s'=>cases e with
  |exit id' =>
   by_cases e:id'=id
   ·subst e
    refine⟨.fin .normal s',⟨0,fun _ _=>by simp⟩,?_⟩
    simpa [after,Leaves] using hr
   ·refine⟨.fin (.exit id') s',⟨0,fun _ _=>by simp[e]⟩,?_⟩
    simpa [after,e,Leaves] using hr
  |_=>exact⟨_,⟨0,fun _ _=>rfl⟩,hr⟩
 |alt=>cases hl
 |_=>exact⟨_,⟨0,fun _ _=>rfl⟩,hr⟩
theorem go_scope {b:Code}(h:Goes T cx (.code b::.scope::k) s Q):Goes T cx (.code (.scope b)::k) s Q:=by
 refine Wp.bind (t':=.code cx b s) (fun rec r=>match r with|.fin (.goto l) s'=>.fin (.goto l) s'|r=>r) (fun rec=>rfl) (Wp.mono' h fun r hl hr=>?_)
 cases r with
 |fin e s'=>cases e with
  |_=>exact⟨_,⟨0,fun _ _=>rfl⟩,hr⟩
 |alt=>cases hl
 |_=>exact⟨_,⟨0,fun _ _=>rfl⟩,hr⟩
theorem go_exit {id:Nat}{k':List K}(hu:unw id k=some k') (h:Goes T cx k' s Q):Goes T cx (.code (.exit id)::k) s Q :=
 Wp.now (r:=.fin (.exit id) s) (fun _=>rfl) (after_exit k k' s hu h)
theorem go_ret (h:Q (.fin .ret s)):Goes T cx (.code .ret::k) s Q:=Wp.now (r:=.fin .ret s) (fun _=>rfl) (by show after T cx k Q _; rw[after_ret]; exact h)
theorem go_cond {x:Operand}{a b:Code}{c:Bool}(hx:env s.tm x=some (.bool c)) (ht:c=true→Goes T cx (.code a::k) s Q) (hf:c=false→Goes T cx (.code b::k) s Q):Goes T cx (.code (.cond x a b)::k) s Q:=by
 cases c with
 |true=>exact Wp.like (fun rec=>by simp[step,hx]) (ht rfl)
 |false=>exact Wp.like (fun rec=>by simp[step,hx]) (hf rfl)
theorem go_region {i:Nat}{ops:Array Oper}(h:Ops T cx ops.toList ops.toList k s Q):Goes T cx (.code (.region i ops false)::k) s Q :=
 Wp.like (fun rec=>rfl) h
theorem go_loop {b:Code}(I:Nat→St→Prop){m:Nat}(h0:I m s) (round:∀ m s,I m s→(∀ m' s',m'<m→I m' s'→Goes T cx (.code (.loop b)::k) s' Q)→Goes T cx (.code b::.code (.loop b)::k) s Q):Goes T cx (.code (.loop b)::k) s Q:=by
 induction m using Nat.strongRecOn generalizing s with
 |_ m ih=>exact go_loop1 (round m s h0 fun m' s' hlt hi=>ih m' hlt hi)
def look:List (Nat×AV)→Nat→Option AV
 |[],_=>none
 |(j,v)::l,n=>match Nat.beq j n with
  |true=>some v
  |false=>look l n
def Sees (tm:Tr AV) (L:List (Nat×AV)):Prop:=∀ j v,look L j=some v→tm.get j=some v
theorem Sees.nil (tm:Tr AV):Sees tm []:=fun _ _ h=>by cases h
theorem Sees.set {tm:Tr AV}{L:List (Nat×AV)}(h:Sees tm L) (d:Nat) (v:AV):Sees (tm.set d v) ((d,v)::L):=by
 intro j x hx
 rw[Tr.get_set]
 unfold look at hx
 split at hx
 ·rename_i hb
  have:=Nat.eq_of_beq_eq_true hb
  subst this
  simpa using hx
 ·rename_i hb
  rw[if_neg (fun e=>by subst e; simp at hb)]
  exact h j x hx
theorem Sees.more {tm:Tr AV}{L:List (Nat×AV)}{d:Nat}{v:AV}(h:Sees tm L) (hd:tm.get d=some v):Sees tm ((d,v)::L):=by
 intro j x hx
 unfold look at hx
 split at hx
 ·rename_i hb
  have:=Nat.eq_of_beq_eq_true hb
  subst this
  rw[← hx]; exact hd
 ·exact h j x hx
theorem Sees.get {tm:Tr AV}{L:List (Nat×AV)}(h:Sees tm L){d:Nat}{v:AV}(hd:look L d=some v):tm.get d=some v:=h d v hd
def argsL:List AV→Nat→List (Nat×AV)→List (Nat×AV)
 |[],_,L=>L
 |a::l,n,L=>argsL l (n+1) ((n,a)::L)
theorem Sees.args:∀ (args:List AV) (n:Nat) (tm:Tr AV) (L:List (Nat×AV)),Sees tm L→Sees (argsTm args n tm) (argsL args n L)
 |[],_,_,_,h=>h
 |a::l,n,tm,L,h=>Sees.args l (n+1) _ _ (h.set n a)
def envL (L:List (Nat×AV)):Operand→Option AV
 |.tmp t=>look L t
 |.const v=>ofValue v
 |.global _=>none
 |.func f=>some (.func (.func f) [] [])
theorem Sees.env {tm:Tr AV}{L:List (Nat×AV)}(h:Sees tm L){x:Operand}{v:AV}(hx:envL L x=some v):env tm x=some v:=by
 cases x with
 |tmp t=>exact h t v hx
 |_=>exact hx
theorem go_if {L:List (Nat×AV)}(hs:Sees s.tm L){x:Operand}{a b:Code}{c:Bool}(hx:envL L x=some (.bool c)) (ht:c=true→Goes T cx (.code a::k) s Q) (hf:c=false→Goes T cx (.code b::k) s Q):Goes T cx (.code (.cond x a b)::k) s Q :=
 go_cond (hs.env hx) ht hf
end
end Ev
end
section
namespace Ev
open Go
variable {T:Tabs}
theorem argMap_mono {ρ ρ':Operand→Option AV}(hρ:∀ x v,ρ x=some v→ρ' x=some v):∀ (l:List Operand) (r:List AV),argMap ρ l=some r→argMap ρ' l=some r
 |[],_,h=>h
 |x::l,r,h=>by
  unfold argMap at h ⊢
  split at h<;>simp at h
  rename_i v q hv hq
  rw[hρ x v hv,argMap_mono hρ l q hq]
  simp[h]
theorem pairMap_mono {ρ ρ':Operand→Option AV}(hρ:∀ x v,ρ x=some v→ρ' x=some v):∀ (l:List (Nat×Operand)) (r:List (Nat×AV)),pairMap ρ l=some r→pairMap ρ' l=some r
 |[],_,h=>h
 |(i,x)::l,r,h=>by
  unfold pairMap at h ⊢
  split at h<;>simp at h
  rename_i v q hv hq
  rw[hρ x v hv,pairMap_mono hρ l q hq]
  simp[h]
theorem optOp_mono {ρ ρ':Operand→Option AV}(hρ:∀ x v,ρ x=some v→ρ' x=some v) (l:Option Operand) (r:Option AV) (h:optOp ρ l=some r):optOp ρ' l=some r:=by
 unfold optOp at h ⊢
 split at h
 ·exact h
 ·rename_i x
  split at h
  ·rename_i v hv
   rw[hρ x v hv]; exact h
  ·cases h
theorem resolveA_mono {ρ ρ':Operand→Option AV}(hρ:∀ x v,ρ x=some v→ρ' x=some v) (c:Call) (r:ADef) (h:resolveA ρ c=some r):resolveA ρ' c=some r:=by
 unfold resolveA at h ⊢
 split at h
 ·rename_i f hf
  split at h
  ·rename_i fn first cap args h1 h2
   rw[hρ f _ h1,argMap_mono hρ _ _ h2]
   exact h
  ·cases h
 ·cases h
def OR.isNo:OR→Bool
 |.no _=>true
 |_=>false
theorem opA_mono {ρ ρ':Operand→Option AV}(hρ:∀ x v,ρ x=some v→ρ' x=some v) (o:Oper) (h:Heap) (hno:(opA T ρ o h).isNo=false):opA T ρ' o h=opA T ρ o h:=by
 have R:∀ x,ρ x=none∨∃ v,ρ x=some v∧ρ' x=some v:=fun x=>by
  cases hx:ρ x with
  |none=>exact .inl rfl
  |some v=>exact .inr ⟨v,rfl,hρ x v hx⟩
 have RO:∀ x,optOp ρ x=none∨∃ v,optOp ρ x=some v∧optOp ρ' x=some v:=fun x=>by
  cases hx:optOp ρ x with
  |none=>exact .inl rfl
  |some v=>exact .inr ⟨v,rfl,optOp_mono hρ x v hx⟩
 have RA:∀ x,argMap ρ x=none∨∃ v,argMap ρ x=some v∧argMap ρ' x=some v:=fun x=>by
  cases hx:argMap ρ x with
  |none=>exact .inl rfl
  |some v=>exact .inr ⟨v,rfl,argMap_mono hρ x v hx⟩
 have RP:∀ x,pairMap ρ x=none∨∃ v,pairMap ρ x=some v∧pairMap ρ' x=some v:=fun x=>by
  cases hx:pairMap ρ x with
  |none=>exact .inl rfl
  |some v=>exact .inr ⟨v,rfl,pairMap_mono hρ x v hx⟩
 have RS:∀ x,resolveA ρ x=none∨∃ v,resolveA ρ x=some v∧resolveA ρ' x=some v:=fun x=>by
  cases hx:resolveA ρ x with
  |none=>exact .inl rfl
  |some v=>exact .inr ⟨v,rfl,resolveA_mono hρ x v hx⟩
 unfold opA at hno ⊢
 cases hop:o.op with
 |move x=>rcases R x with e|⟨v,e,e'⟩<;>simp_all [rv,OR.isNo]
 |assign x=>rcases R x with e|⟨v,e,e'⟩<;>simp_all [rv,OR.isNo]
 |pick c a b =>
  rcases R c with e|⟨v,e,e'⟩
  ·simp_all [OR.isNo]
  ·simp only[hop,e] at hno
   simp only[e,e']
   split at hno
   ·rename_i q; cases q
    rcases R a with e2|⟨v2,e2,e2'⟩<;>simp_all [rv,OR.isNo]
   ·rename_i q; cases q
    rcases R b with e2|⟨v2,e2,e2'⟩<;>simp_all [rv,OR.isNo]
   ·simp[OR.isNo] at hno
 |box t x=>rcases R x with e|⟨v,e,e'⟩<;>simp_all [OR.isNo]
 |build t parts=>rcases RP parts.toList with e|⟨v,e,e'⟩<;>simp_all [OR.isNo]
 |buildSlice t len parts=>rcases RP parts.toList with e|⟨v,e,e'⟩<;>simp_all [OR.isNo]
 |load t a=>rcases R a with e|⟨v,e,e'⟩<;>simp_all [OR.isNo]
 |store t a x=>rcases R a with e|⟨v,e,e'⟩<;>rcases R x with d|⟨u,d,d'⟩<;>simp_all [OR.isNo]
 |nilCheck x=>rcases R x with e|⟨v,e,e'⟩<;>simp_all [OR.isNo]
 |binOp op t x y u=>rcases R x with e|⟨v,e,e'⟩<;>rcases R y with d|⟨u,d,d'⟩<;>simp_all [OR.isNo]
 |unOp op t x=>rcases R x with e|⟨v,e,e'⟩<;>simp_all [OR.isNo]
 |convert s d x=>rcases R x with e|⟨v,e,e'⟩<;>simp_all [OR.isNo]
 |makeInterface t x=>rcases R x with e|⟨v,e,e'⟩<;>simp_all [OR.isNo]
 |makeFunc fn a b=>rcases RA a.toList with e|⟨v,e,e'⟩<;>rcases RA b.toList with d|⟨u,d,d'⟩<;>simp_all [OR.isNo]<;>cases fn<;>simp_all
 |makeMap t r=>rcases RO r with e|⟨v,e,e'⟩<;>simp_all [OR.isNo]
 |makeSlice t l c=>rcases R l with e|⟨v,e,e'⟩<;>rcases R c with d|⟨u,d,d'⟩<;>simp_all [OR.isNo]
 |slice t x lo hi mx=>rcases R x with e|⟨v,e,e'⟩<;>rcases RO lo with d|⟨u,d,d'⟩<;>rcases RO hi with c|⟨z,c,c'⟩<;>rcases RO mx with b|⟨y,b,b'⟩<;>simp_all [OR.isNo]
 |fieldAddr s x f=>rcases R x with e|⟨v,e,e'⟩<;>simp_all [OR.isNo]
 |field t x f=>rcases R x with e|⟨v,e,e'⟩<;>simp_all [OR.isNo]
 |indexAddr t x ix=>rcases R x with e|⟨v,e,e'⟩<;>rcases R ix with d|⟨u,d,d'⟩<;>simp_all [OR.isNo]
 |index t x ix=>rcases R x with e|⟨v,e,e'⟩<;>rcases R ix with d|⟨u,d,d'⟩<;>simp_all [OR.isNo]
 |lookup t x ix ok=>rcases R x with e|⟨v,e,e'⟩<;>rcases R ix with d|⟨u,d,d'⟩<;>simp_all [OR.isNo]
 |mapUpdate t m k x=>rcases R m with e|⟨v,e,e'⟩<;>rcases R k with d|⟨u,d,d'⟩<;>rcases R x with c|⟨z,c,c'⟩<;>simp_all [OR.isNo]
 |insert t m k x=>rcases R m with e|⟨v,e,e'⟩<;>rcases R k with d|⟨u,d,d'⟩<;>rcases R x with c|⟨z,c,c'⟩<;>simp_all [OR.isNo]
 |typeAssert x xt a ok =>
  rcases R x with e|⟨v,e,e'⟩
  ·simp only[hop,e] at hno
   exfalso
   revert hno
   cases T.und a with
   |none=>simp[OR.isNo]
   |some d=>cases d<;>simp[OR.isNo]
  ·simp only[e,e']
 |range t x=>rcases R x with e|⟨v,e,e'⟩<;>simp_all [OR.isNo]
 |next it s=>rcases R it with e|⟨v,e,e'⟩<;>simp_all [OR.isNo]
 |entry it=>rcases R it with e|⟨v,e,e'⟩<;>simp_all [OR.isNo]
 |extract t ix=>rcases R t with e|⟨v,e,e'⟩<;>simp_all [OR.isNo]
 |call c =>
  cases hcal:c.callee with
  |builtin b=>rcases RA c.args.toList with e|⟨v,e,e'⟩<;>rcases RS c with d|⟨u,d,d'⟩<;>simp_all [OR.isNo]
  |value f=>rcases RA c.args.toList with e|⟨v,e,e'⟩<;>rcases RS c with d|⟨u,d,d'⟩<;>simp_all [OR.isNo]
  |invoke r m =>
   have hr:∀ σ:Operand→Option AV,resolveA σ c=none:=fun σ=>by simp[resolveA,hcal]
   rcases RA c.args.toList with e|⟨v,e,e'⟩<;>rcases R r with d|⟨u,d,d'⟩<;>simp_all [OR.isNo]
 |defer c=>rcases RS c with d|⟨u,d,d'⟩<;>simp_all [OR.isNo]
 |panic x=>rcases R x with e|⟨v,e,e'⟩<;>simp_all [OR.isNo]
 |_=>rfl
end Ev
end
section
namespace Ev
open Go
variable {T:Tabs}{cx:Cx}{k:List K}{Q:Res→Prop}
def wantedL (ops:List Oper) (L:List (Nat×AV)) (o:Oper):Option Bool:=match o.guard with
 |none=>some true
 |some (j,want)=>match dstOf ops j with
  |some d=>match look L d with
   |some (.bool b)=>some (b==want)
   |some _=>some false
   |none=>none
  |none=>none
theorem wanted_of {ops:List Oper}{L:List (Nat×AV)}{tm:Tr AV}(hs:Sees tm L){o:Oper}{b:Bool}(h:wantedL ops L o=some b):wantedA ops tm o=some b:=by
 unfold wantedL at h
 unfold wantedA
 cases hg:o.guard with
 |none=>simp only[hg] at h ⊢; exact h
 |some g =>
  obtain⟨j,want⟩:=g
  simp only[hg] at h ⊢
  cases hd:dstOf ops j with
  |none=>simp only[hd] at h; cases h
  |some d =>
   simp only[hd] at h ⊢
   cases hv:look L d with
   |none=>simp only[hv] at h; cases h
   |some v =>
    simp only[hv] at h
    simp only[hs d v hv]
    exact h
theorem op_of {L:List (Nat×AV)}{tm:Tr AV}(hs:Sees tm L){o:Oper}{h:Heap}{r:OR}(ho:opA T (envL L) o h=r) (hr:r.isNo=false):opA T (env tm) o h=r:=by
 rw[opA_mono (fun x v hx=>hs.env hx) o h (by rw[ho]; exact hr)]
 exact ho
theorem blt_lt {a b:Nat}(h:Nat.blt a b=true):a<b:=by rw[blt_eq] at h; simpa using h
def Gives (T:Tabs) (f:FuncId) (args:List AV) (h:Heap) (P:AV→Heap→Prop):Prop:=Wp T (.call f args h) fun r=>∃ v h',r=.ret v h'∧P v h'
theorem Gives.mono {f:FuncId}{args:List AV}{h:Heap}{P P':AV→Heap→Prop}(c:Gives T f args h P) (m:∀ v h',P v h'→P' v h'):Gives T f args h P' :=
 Wp.mono c fun _ ⟨v,h',e,p⟩=>⟨v,h',e,m v h' p⟩
variable {all rest:List Oper}{o:Oper}{tm:Tr AV}{df:List ADef}{pan:Option (AV×Bool)}{h h':Heap}{L:List (Nat×AV)}{v:AV}{d:Nat}
theorem ops_nil {s:St}(g:Goes T cx k s Q):Ops T cx all [] k s Q:=Wp.now (r:=.fin .normal s) (fun _=>rfl) g
theorem ops_val (hs:Sees tm L) (hg:wantedL all L o=some true) (hd:o.dst=some d) (ho:opA T (envL L) o h=.val v h') (hn:Nat.blt d cx.nt=true)
  (c:∀ tm',Sees tm' ((d,v)::L)→Ops T cx all rest k ⟨tm',df,pan,h'⟩ Q):Ops T cx all (o::rest) k ⟨tm,df,pan,h⟩ Q:=by
 refine Wp.like (fun rec=>?_) (c (tm.set d v) (hs.set d v))
 simp only[step,wanted_of hs hg,op_of hs ho rfl,putA,hd,if_pos (blt_lt hn)]
theorem ops_val0 (hs:Sees tm L) (hg:wantedL all L o=some true) (hd:o.dst=none) (ho:opA T (envL L) o h=.val v h')
  (c:Ops T cx all rest k ⟨tm,df,pan,h'⟩ Q):Ops T cx all (o::rest) k ⟨tm,df,pan,h⟩ Q:=by
 refine Wp.like (fun rec=>?_) c
 simp only[step,wanted_of hs hg,op_of hs ho rfl,putA,hd]
theorem ops_skip (hs:Sees tm L) (hg:wantedL all L o=some true) (hd:o.dst=none) (ho:opA T (envL L) o h=.skip h')
  (c:Ops T cx all rest k ⟨tm,df,pan,h'⟩ Q):Ops T cx all (o::rest) k ⟨tm,df,pan,h⟩ Q:=by
 refine Wp.like (fun rec=>?_) c
 simp only[step,wanted_of hs hg,op_of hs ho rfl,putA,hd]
theorem ops_no (hs:Sees tm L) (hg:wantedL all L o=some false) (hd:o.dst=some d) (hn:Nat.blt d cx.nt=true)
  (c:∀ tm',Sees tm' ((d,undefA)::L)→Ops T cx all rest k ⟨tm',df,pan,h⟩ Q):Ops T cx all (o::rest) k ⟨tm,df,pan,h⟩ Q:=by
 refine Wp.like (fun rec=>?_) (c (tm.set d undefA) (hs.set d undefA))
 simp only[step,wanted_of hs hg,putA,hd,if_pos (blt_lt hn)]
theorem ops_no0 (hs:Sees tm L) (hg:wantedL all L o=some false) (hd:o.dst=none)
  (c:Ops T cx all rest k ⟨tm,df,pan,h⟩ Q):Ops T cx all (o::rest) k ⟨tm,df,pan,h⟩ Q:=by
 refine Wp.like (fun rec=>?_) c
 simp only[step,wanted_of hs hg,putA,hd]
theorem ops_call {f:FuncId}{args:List AV}{P:AV→Heap→Prop}(hs:Sees tm L) (hg:wantedL all L o=some true) (hd:o.dst=some d) (ho:opA T (envL L) o h=.enter f args h') (hn:Nat.blt d cx.nt=true)
  (hc:Gives T f args h' P) (c:∀ v h2,P v h2→∀ tm',Sees tm' ((d,v)::L)→Ops T cx all rest k ⟨tm',df,pan,h2⟩ Q):Ops T cx all (o::rest) k ⟨tm,df,pan,h⟩ Q:=by
 refine Wp.bind (t':=.call f args h') (fun rec r=>match r with
   |.ret v h''=>(match putA cx { tm:=tm,df:=df,pan:=pan,h:=h'' } o.dst v with
      |some s'=>rec (.ops cx all rest s')
      | none => .no "put" [])
   |.thrown v h''=>.pan v { tm:=tm,df:=df,pan:=pan,h:=h'' }
   |r=>no1 f r) (fun rec=>?_) (Wp.mono hc ?_)
 ·simp only[step,wanted_of hs hg,op_of hs ho rfl]
  cases rec (.call f args h')<;>rfl
 ·rintro _ ⟨v,h2,rfl,p⟩
  obtain⟨r,⟨N,hr⟩,q⟩:=c v h2 p (tm.set d v) (hs.set d v)
  refine⟨r,⟨N,fun n hn'=>?_⟩,q⟩
  simp only[putA,hd,if_pos (blt_lt hn)]
  exact hr n hn'
def resultsL (T:Tabs) (L:List (Nat×AV)) (h:Heap):List ResultVar→Option (List AV)
 |[]=>some []
 |.tmp t::l=>match look L t,resultsL T L h l with
  |some v,some r=>some (v::r)
  |_,_=>none
 |.cell a t::l=>match look L a with
  |some (.ptr b off)=>match loadVarA T t h b off,resultsL T L h l with
   |some v,some r=>some (v::r)
   |_,_=>none
  |_=>none
theorem results_of (hs:Sees tm L):∀ (l:List ResultVar) (vs:List AV),resultsL T L h l=some vs→resultsA T tm h l=some vs
 |[],_,e=>e
 |.tmp t::l,vs,e=>by
  unfold resultsL at e
  unfold resultsA
  split at e<;>simp at e
  rename_i v r h1 h2
  rw[hs t v h1,results_of hs l r h2]
  simp[e]
 |.cell a t::l,vs,e=>by
  unfold resultsL at e
  unfold resultsA
  split at e
  ·rename_i b off h0
   split at e<;>simp at e
   rename_i v r h1 h2
   rw[hs a _ h0]
   simp only[h1,results_of hs l r h2]
   simp[e]
  ·cases e
def Ends (T:Tabs) (rs:List ResultVar) (P:AV→Heap→Prop) (r:Res):Prop:=∃ e tm h,r=.fin e ⟨tm,[],none,h⟩∧(e=.normal∨e=.ret)∧∃ vs,resultsA T tm h rs=some vs∧P (oneOf vs) h
theorem ends_ret {rs:List ResultVar}{P:AV→Heap→Prop}{vs:List AV}(hs:Sees tm L) (hr:resultsL T L h rs=some vs) (p:P (oneOf vs) h):Ends T rs P (.fin .ret ⟨tm,[],none,h⟩) :=
 ⟨.ret,tm,h,rfl,.inr rfl,vs,results_of hs rs vs hr,p⟩
theorem ends_normal {rs:List ResultVar}{P:AV→Heap→Prop}{vs:List AV}(hs:Sees tm L) (hr:resultsL T L h rs=some vs) (p:P (oneOf vs) h):Ends T rs P (.fin .normal ⟨tm,[],none,h⟩) :=
 ⟨.normal,tm,h,rfl,.inl rfl,vs,results_of hs rs vs hr,p⟩
theorem call_of {f:FuncId}{args:List AV}{F:Func}{c:Code}{P:AV→Heap→Prop}(hsm:T.sm f args h=none) (hF:T.fn f=some F) (hb:F.body=some c)
  (g:∀ tm,Sees tm (argsL args 0 [])→Goes T { fn:=f,nt:=Nat.max F.ntmps args.length,round:=none } [.code c] ⟨tm,[],none,h⟩ (Ends T F.results.toList P)):Gives T f args h P:=by
 refine Wp.bind (t':=.code { fn:=f,nt:=Nat.max F.ntmps args.length,round:=none } c { tm:=argsTm args 0 .nil,df:=[],pan:=none,h:=h }) (fun rec r=>match r with
    |.fin .normal s=>rec (.leave f s.tm s.df none s.h)
    |.fin .ret s=>rec (.leave f s.tm s.df none s.h)
    |.pan v s=>rec (.leave f s.tm s.df (some (v,false)) s.h)
    | .fin _ _ => .no "jump out of a function" []
    |r=>r) (fun rec=>by
     simp only[step,hsm,hF,hb]
     congr 1) ?_
 have:=g (argsTm args 0 .nil) (Sees.args args 0 _ _ (Sees.nil _))
 refine Wp.mono (Q:=Ends T F.results.toList P) this ?_
 rintro r ⟨e,tm,h1,rfl,he,vs,hvs,p⟩
 have hl:∀ n,ev T (n+1) (.leave f tm [] none h1)=.ret (oneOf vs) h1:=fun n=>by simp[ev,step,hF,hvs]
 refine⟨.ret (oneOf vs) h1,⟨1,fun n hn=>?_⟩,oneOf vs,h1,rfl,p⟩
 obtain⟨m,rfl⟩:∃ m,n=m+1:=⟨n-1,by omega⟩
 rcases he with rfl|rfl<;>exact hl m
def Heap.ok (h:Heap):Prop:=∀ b,h.next≤b→h.get b=none
theorem Heap.ok.lt {h:Heap}(k:h.ok){b:Nat}{o:AObj}(hg:h.get b=some o):b<h.next :=
 Nat.lt_of_not_le fun hb=>by rw[k b hb] at hg; cases hg
structure Ext (h h':Heap):Prop where
 nx:h.next≤h'.next
 old:∀ b,b<h.next→h'.get b=h.get b
 ok:h.ok→h'.ok
theorem Ext.refl (h:Heap):Ext h h:=⟨Nat.le_refl _,fun _ _=>rfl,id⟩
theorem Ext.trans {a b c:Heap}(x:Ext a b) (y:Ext b c):Ext a c:=⟨Nat.le_trans x.nx y.nx,fun n hn=>by rw[y.old n (Nat.lt_of_lt_of_le hn x.nx),x.old n hn],fun k=>y.ok (x.ok k)⟩
theorem Ext.alloc (h:Heap) (o:AObj):Ext h (h.alloc o):=⟨by simp[Heap.alloc],fun b hb=>by rw[Heap.get_alloc,if_neg (by omega)],fun k b hb=>by
 have hn:(h.alloc o).next=h.next+1:=rfl
 rw[Heap.get_alloc,if_neg (by omega)]
 exact k b (by omega)⟩
theorem Ext.setL {a h:Heap}(x:Ext a h){b:Nat}(hb:a.next≤b) (hl:b<h.next) (o:AObj):Ext a (h.set b o):=⟨by simpa using x.nx,fun n hn=>by rw[Heap.get_set,if_neg (by omega)]; exact x.old n hn,fun k n hn=>by
 have hn:h.next≤n:=by simpa using hn
 rw[Heap.get_set,if_neg (by omega)]
 exact x.ok k n hn⟩
theorem Ext.set {a h:Heap}(x:Ext a h){b:Nat}{o0:AObj}(hb:a.next≤b) (hg:h.get b=some o0) (o:AObj):Ext a (h.set b o):=⟨by simpa using x.nx,fun n hn=>by rw[Heap.get_set,if_neg (by omega)]; exact x.old n hn,fun k n hn=>by
 have hn:h.next≤n:=by simpa using hn
 have hl:=(x.ok k).lt hg
 rw[Heap.get_set,if_neg (by omega)]
 exact x.ok k n hn⟩
theorem get_new (h:Heap) (o:AObj):(h.alloc o).get h.next=some o:=by rw[Heap.get_alloc,if_pos rfl]
end Ev
namespace Ev
theorem Sees.cons {tm:Tr AV}{L L':List (Nat×AV)}{j:Nat}{v:AV}(h:Sees tm L) (hd:look L j=some v) (t:Sees tm L'):Sees tm ((j,v)::L'):=t.more (h.get hd)
end Ev
end
