/- A part of an evaluator of the program's form in Lean, of the proof that what it says of a call is what the machine does, and of the rules by which proofs walk over it. Conditions: those that each theorem states. -/
import Derived.Test.YtejfbaecadbdiaaGreatGah
set_option linter.unusedVariables false
set_option linter.unusedSimpArgs false
section
namespace Ev
open Go
variable {T:a0k}
def Says (T:a0k) (t:Task) (r:Res):Prop:=∃ N,∀ n,N≤n→ev T n t=r
def Res.leaf:Res→Bool
 |.alt _ _=>false
 |_=>true
def Leaves (Q:Res→Prop):Res→Prop
 |.alt a b=>Leaves Q a∧Leaves Q b
 |r=>Q r
theorem Leaves.mono {Q Q':Res→Prop}(k:∀ r,r.leaf=true→Q r→Q' r):∀ {r:Res},Leaves Q r→Leaves Q' r
 |.alt a b,h=>⟨Leaves.mono k h.1,Leaves.mono k h.2⟩
 |.fin ..,h=>k _ rfl h
 |.pan ..,h=>k _ rfl h
 |.ret ..,h=>k _ rfl h
 |.thrown ..,h=>k _ rfl h
 |.dret ..,h=>k _ rfl h
 |.no ..,h=>k _ rfl h
theorem Leaves.get {Q:Res→Prop}:∀ {r q:Res},Leaves Q r→Lf r q→Q q
 |.alt a b,q,h,l=>l.elim (Leaves.get h.1) (Leaves.get h.2)
 |.fin ..,q,h,l=>by cases l; exact h
 |.pan ..,q,h,l=>by cases l; exact h
 |.ret ..,q,h,l=>by cases l; exact h
 |.thrown ..,q,h,l=>by cases l; exact h
 |.dret ..,q,h,l=>by cases l; exact h
 |.no ..,q,h,l=>by cases l; exact h
def Wp (T:a0k) (t:Task) (Q:Res→Prop):Prop:=∃ r,Says T t r∧Leaves Q r
theorem Says.b0n {t:Task}{r:Res}(h:∃ N,∀ n,N≤n→step T (ev T n) t=r):Says T t r:=by
 obtain⟨N,h⟩:=h
 refine⟨N+1,fun n hn=>?_⟩
 obtain⟨m,rfl⟩:∃ m,n=m+1:=⟨n-1,by omega⟩
 exact h m (by omega)
theorem Says.now {t:Task}{r:Res}(h:∀ rec,step T rec t=r):Says T t r:=.b0n ⟨0,fun n _=>h _⟩
theorem Says.ev {t:Task}{r:Res}(h:Says T t r):∃ n,ev T n t=r:=by
 obtain⟨N,h⟩:=h
 exact⟨N,h N (Nat.le_refl _)⟩
theorem Wp.mono' {t:Task}{Q Q':Res→Prop}(h:Wp T t Q) (k:∀ r,r.leaf=true→Q r→Q' r):Wp T t Q':=by
 obtain⟨r,h,q⟩:=h
 exact⟨r,h,q.mono k⟩
theorem Wp.mono {t:Task}{Q Q':Res→Prop}(h:Wp T t Q) (k:∀ r,Q r→Q' r):Wp T t Q':=h.mono' fun r _=>k r
theorem Wp.now {t:Task}{r:Res}{Q:Res→Prop}(h:∀ rec,step T rec t=r) (q:Leaves Q r):Wp T t Q:=⟨r,.now h,q⟩
theorem Wp.like {t t':Task}{Q:Res→Prop}(h:∀ rec,step T rec t=rec t') (k:Wp T t' Q):Wp T t Q:=by
 obtain⟨r,⟨N,hr⟩,q⟩:=k
 exact⟨r,.b0n ⟨N,fun n hn=>by rw[h]; exact hr n hn⟩,q⟩
theorem a6v {Q:Res→Prop}(f:Nat→Res→Res):∀ (r:Res),Leaves (fun r=>∃ r',(∃ N,∀ n,N≤n→f n r=r')∧Leaves Q r') r→∃ r',(∃ N,∀ n,N≤n→a5c r (f n)=r')∧Leaves Q r'
 |.alt a b,h=>by
  obtain⟨ra,⟨N,ha⟩,qa⟩:=a6v f a h.1
  obtain⟨rb,⟨M,hb⟩,qb⟩:=a6v f b h.2
  exact⟨.alt ra rb,⟨N+M,fun n hn=>by simp only[a5c,ha n (by omega),hb n (by omega)]⟩,qa,qb⟩
 |.fin ..,h=>h
 |.pan ..,h=>h
 |.ret ..,h=>h
 |.thrown ..,h=>h
 |.dret ..,h=>h
 |.no ..,h=>h
theorem Wp.bind {t t':Task}{Q:Res→Prop}(f:(Task→Res)→Res→Res) (h:∀ rec,step T rec t=a5c (rec t') (f rec)) (k:Wp T t' fun r=>∃ r',(∃ N,∀ n,N≤n→f (ev T n) r=r')∧Leaves Q r'):Wp T t Q:=by
 obtain⟨r,⟨N,hr⟩,k⟩:=k
 obtain⟨r',⟨N',hr'⟩,q⟩:=a6v (fun n=>f (ev T n)) r k
 refine⟨r',.b0n ⟨N+N',fun n hn=>?_⟩,q⟩
 rw[h,hr n (by omega)]
 exact hr' n (by omega)
inductive K where
 |code (c:Code)
 |blk (id:Nat)
 |scope
def after (T:a0k) (cx:Cx):List K→(Res→Prop)→Res→Prop
 |[],Q=>Q
 |.code c::k,Q=>fun r=>match r with
  |.fin .normal s=>Wp T (.code cx c s) (after T cx k Q)
  |r=>after T cx k Q r
 |.blk id::k,Q=>fun r=>match r with
  |.fin (.exit id') s=>if id'=id then after T cx k Q (.fin .normal s) else after T cx k Q (.fin (.exit id') s)
  |r=>after T cx k Q r
 |.scope::k,Q=>after T cx k Q
def a3r (T:a0k) (cx:Cx) (k:List K) (s:St) (Q:Res→Prop):Prop:=after T cx k Q (.fin .normal s)
def Ops (T:a0k) (cx:Cx) (all rest:List Oper) (k:List K) (s:St) (Q:Res→Prop):Prop:=Wp T (.ops cx all rest s) (after T cx k Q)
def unw (id:Nat):List K→Option (List K)
 |[]=>none
 |.blk id'::k=>match Nat.beq id id' with
  |true=>some k
  |false=>unw id k
 |_::k=>unw id k
section
variable {cx:Cx}{k:List K}{s:St}{Q:Res→Prop}
theorem b4u:∀ (k:List K) (s:St),after T cx k Q (.fin .ret s)=Q (.fin .ret s)
 |[],_=>rfl
 |.code _::k,s=>b4u k s
 |.blk _::k,s=>b4u k s
 |.scope::k,s=>b4u k s
theorem a9l:∀ (k:List K) (v:AV) (s:St),after T cx k Q (.pan v s)=Q (.pan v s)
 |[],_,_=>rfl
 |.code _::k,v,s=>a9l k v s
 |.blk _::k,v,s=>a9l k v s
 |.scope::k,v,s=>a9l k v s
theorem b2w {id:Nat}:∀ (k k':List K) (s:St),unw id k=some k'→after T cx k' Q (.fin .normal s)→after T cx k Q (.fin (.exit id) s)
 |[],_,_,h,_=>by cases h
 |.code _::k,k',s,h,q=>b2w k k' s h q
 |.scope::k,k',s,h,q=>b2w k k' s h q
 |.blk id'::k,k',s,h,q=>by
  unfold unw at h
  split at h
  ·rename_i hb
   have:=Nat.eq_of_beq_eq_true hb
   subst this
   cases h
   simpa [after] using q
  ·rename_i hb
   have hne:¬ id=id':=fun e=>by subst e; simp at hb
   simp only[after,if_neg hne]
   exact b2w k k' s h q
theorem f0r (q:Q (.fin .normal s)):a3r T cx [] s Q:=q
theorem b2u (h:a3r T cx k s Q):a3r T cx (.code .skip::k) s Q:=Wp.now (r:=.fin .normal s) (fun _=>rfl) h
theorem e0e {l:Nat}(h:a3r T cx k s Q):a3r T cx (.code (.label l)::k) s Q:=Wp.now (r:=.fin .normal s) (fun _=>rfl) h
theorem b6s {id:Nat}(h:a3r T cx k s Q):a3r T cx (.blk id::k) s Q:=h
theorem f1a {id:Nat}(h:a3r T cx k s Q):a3r T cx (.scope::k) s Q:=h
theorem a1f {a b:Code}(h:a3r T cx (.code a::.code b::k) s Q):a3r T cx (.code (.seq a b)::k) s Q:=by
 refine Wp.bind (t':=.code cx a s) (fun rec r=>match r with|.fin .normal s'=>rec (.code cx b s')|r=>r) (fun rec=>rfl) (Wp.mono' h fun r hl hr=>?_)
 cases r with
 |fin e s'=>cases e with
  |normal=>obtain⟨r',⟨N,h1⟩,q⟩:=hr; exact⟨r',⟨N,h1⟩,q⟩
  |_=>exact⟨_,⟨0,fun _ _=>rfl⟩,hr⟩
 |alt=>cases hl
 |_=>exact⟨_,⟨0,fun _ _=>rfl⟩,hr⟩
theorem d1u {b:Code}(h:a3r T cx (.code b::.code (.loop b)::k) s Q):a3r T cx (.code (.loop b)::k) s Q:=by
 refine Wp.bind (t':=.code cx b s) (fun rec r=>match r with|.fin .normal s'=>rec (.code cx (.loop b) s')|r=>r) (fun rec=>rfl) (Wp.mono' h fun r hl hr=>?_)
 cases r with
 |fin e s'=>cases e with
  |normal=>obtain⟨r',⟨N,h1⟩,q⟩:=hr; exact⟨r',⟨N,h1⟩,q⟩
  |_=>exact⟨_,⟨0,fun _ _=>rfl⟩,hr⟩
 |alt=>cases hl
 |_=>exact⟨_,⟨0,fun _ _=>rfl⟩,hr⟩
theorem a4p {id:Nat}{b:Code}(h:a3r T cx (.code b::.blk id::k) s Q):a3r T cx (.code (.block id b)::k) s Q:=by
 refine Wp.bind (t':=.code cx b s) (fun rec r=>match r with|.fin (.exit id') s'=>if id'=id then .fin .normal s' else .fin (.exit id') s'|r=>r) (fun rec=>rfl) (Wp.mono' h fun r hl hr=>?_)
 cases r with
 |fin e s'=>cases e with
  |exit id' =>
   by_cases e:id'=id
   ·subst e
    refine⟨.fin .normal s',⟨0,fun _ _=>by simp⟩,?_⟩
    simpa [after,Leaves] using hr
   ·refine⟨.fin (.exit id') s',⟨0,fun _ _=>by simp[e]⟩,?_⟩
    simpa [after,e,Leaves] using hr
  |_=>exact⟨_,⟨0,fun _ _=>rfl⟩,hr⟩
 |alt=>cases hl
 |_=>exact⟨_,⟨0,fun _ _=>rfl⟩,hr⟩
theorem e1g {b:Code}(h:a3r T cx (.code b::.scope::k) s Q):a3r T cx (.code (.scope b)::k) s Q:=by
 refine Wp.bind (t':=.code cx b s) (fun rec r=>match r with|.fin (.goto l) s'=>.fin (.goto l) s'|r=>r) (fun rec=>rfl) (Wp.mono' h fun r hl hr=>?_)
 cases r with
 |fin e s'=>cases e with
  |_=>exact⟨_,⟨0,fun _ _=>rfl⟩,hr⟩
 |alt=>cases hl
 |_=>exact⟨_,⟨0,fun _ _=>rfl⟩,hr⟩
theorem b2l {id:Nat}{k':List K}(hu:unw id k=some k') (h:a3r T cx k' s Q):a3r T cx (.code (.exit id)::k) s Q :=
 Wp.now (r:=.fin (.exit id) s) (fun _=>rfl) (b2w k k' s hu h)
theorem b3a (h:Q (.fin .ret s)):a3r T cx (.code .ret::k) s Q:=Wp.now (r:=.fin .ret s) (fun _=>rfl) (by show after T cx k Q _; rw[b4u]; exact h)
theorem e5p {x:Operand}{a b:Code}{c:Bool}(hx:env s.tm x=some (.bool c)) (ht:c=true→a3r T cx (.code a::k) s Q) (hf:c=false→a3r T cx (.code b::k) s Q):a3r T cx (.code (.cond x a b)::k) s Q:=by
 cases c with
 |true=>exact Wp.like (fun rec=>by simp[step,hx]) (ht rfl)
 |false=>exact Wp.like (fun rec=>by simp[step,hx]) (hf rfl)
theorem a0q {i:Nat}{ops:Array Oper}(h:Ops T cx ops.toList ops.toList k s Q):a3r T cx (.code (.region i ops false)::k) s Q :=
 Wp.like (fun rec=>rfl) h
theorem b2d {b:Code}(I:Nat→St→Prop){m:Nat}(h0:I m s) (round:∀ m s,I m s→(∀ m' s',m'<m→I m' s'→a3r T cx (.code (.loop b)::k) s' Q)→a3r T cx (.code b::.code (.loop b)::k) s Q):a3r T cx (.code (.loop b)::k) s Q:=by
 induction m using Nat.strongRecOn generalizing s with
 |_ m ih=>exact d1u (round m s h0 fun m' s' hlt hi=>ih m' hlt hi)
def look:List (Nat×AV)→Nat→Option AV
 |[],_=>none
 |(j,v)::l,n=>match Nat.beq j n with
  |true=>some v
  |false=>look l n
def a0m (tm:Tr AV) (L:List (Nat×AV)):Prop:=∀ j v,look L j=some v→tm.get j=some v
theorem a0m.nil (tm:Tr AV):a0m tm []:=fun _ _ h=>by cases h
theorem a0m.set {tm:Tr AV}{L:List (Nat×AV)}(h:a0m tm L) (d:Nat) (v:AV):a0m (tm.set d v) ((d,v)::L):=by
 intro j x hx
 rw[Tr.a1d]
 unfold look at hx
 split at hx
 ·rename_i hb
  have:=Nat.eq_of_beq_eq_true hb
  subst this
  simpa using hx
 ·rename_i hb
  rw[if_neg (fun e=>by subst e; simp at hb)]
  exact h j x hx
theorem a0m.more {tm:Tr AV}{L:List (Nat×AV)}{d:Nat}{v:AV}(h:a0m tm L) (hd:tm.get d=some v):a0m tm ((d,v)::L):=by
 intro j x hx
 unfold look at hx
 split at hx
 ·rename_i hb
  have:=Nat.eq_of_beq_eq_true hb
  subst this
  rw[← hx]; exact hd
 ·exact h j x hx
theorem a0m.get {tm:Tr AV}{L:List (Nat×AV)}(h:a0m tm L){d:Nat}{v:AV}(hd:look L d=some v):tm.get d=some v:=h d v hd
def b3g:List AV→Nat→List (Nat×AV)→List (Nat×AV)
 |[],_,L=>L
 |a::l,n,L=>b3g l (n+1) ((n,a)::L)
theorem a0m.args:∀ (args:List AV) (n:Nat) (tm:Tr AV) (L:List (Nat×AV)),a0m tm L→a0m (a5u args n tm) (b3g args n L)
 |[],_,_,_,h=>h
 |a::l,n,tm,L,h=>a0m.args l (n+1) _ _ (h.set n a)
def a1y (L:List (Nat×AV)):Operand→Option AV
 |.tmp t=>look L t
 |.const v=>ofValue v
 |.global _=>none
 |.func f=>some (.func (.func f) [] [])
theorem a0m.env {tm:Tr AV}{L:List (Nat×AV)}(h:a0m tm L){x:Operand}{v:AV}(hx:a1y L x=some v):env tm x=some v:=by
 cases x with
 |tmp t=>exact h t v hx
 |_=>exact hx
theorem b5o {L:List (Nat×AV)}(hs:a0m s.tm L){x:Operand}{a b:Code}{c:Bool}(hx:a1y L x=some (.bool c)) (ht:c=true→a3r T cx (.code a::k) s Q) (hf:c=false→a3r T cx (.code b::k) s Q):a3r T cx (.code (.cond x a b)::k) s Q :=
 e5p (hs.env hx) ht hf
end
end Ev
end
section
namespace Ev
open Go
variable {T:a0k}
theorem b3w {ρ ρ':Operand→Option AV}(hρ:∀ x v,ρ x=some v→ρ' x=some v):∀ (l:List Operand) (r:List AV),a4d ρ l=some r→a4d ρ' l=some r
 |[],_,h=>h
 |x::l,r,h=>by
  unfold a4d at h ⊢
  split at h<;>simp at h
  rename_i v q hv hq
  rw[hρ x v hv,b3w hρ l q hq]
  simp[h]
theorem b2s {ρ ρ':Operand→Option AV}(hρ:∀ x v,ρ x=some v→ρ' x=some v):∀ (l:List (Nat×Operand)) (r:List (Nat×AV)),a5e ρ l=some r→a5e ρ' l=some r
 |[],_,h=>h
 |(i,x)::l,r,h=>by
  unfold a5e at h ⊢
  split at h<;>simp at h
  rename_i v q hv hq
  rw[hρ x v hv,b2s hρ l q hq]
  simp[h]
theorem c1l {ρ ρ':Operand→Option AV}(hρ:∀ x v,ρ x=some v→ρ' x=some v) (l:Option Operand) (r:Option AV) (h:a5b ρ l=some r):a5b ρ' l=some r:=by
 unfold a5b at h ⊢
 split at h
 ·exact h
 ·rename_i x
  split at h
  ·rename_i v hv
   rw[hρ x v hv]; exact h
  ·cases h
theorem c4o {ρ ρ':Operand→Option AV}(hρ:∀ x v,ρ x=some v→ρ' x=some v) (c:Call) (r:ADef) (h:a3m ρ c=some r):a3m ρ' c=some r:=by
 unfold a3m at h ⊢
 split at h
 ·rename_i f hf
  split at h
  ·rename_i fn first cap args h1 h2
   rw[hρ f _ h1,b3w hρ _ _ h2]
   exact h
  ·cases h
 ·cases h
def OR.a4z:OR→Bool
 |.no _=>true
 |_=>false
theorem e0o {ρ ρ':Operand→Option AV}(hρ:∀ x v,ρ x=some v→ρ' x=some v) (o:Oper) (h:a0a) (hno:(opA T ρ o h).a4z=false):opA T ρ' o h=opA T ρ o h:=by
 have R:∀ x,ρ x=none∨∃ v,ρ x=some v∧ρ' x=some v:=fun x=>by
  cases hx:ρ x with
  |none=>exact .inl rfl
  |some v=>exact .inr ⟨v,rfl,hρ x v hx⟩
 have RO:∀ x,a5b ρ x=none∨∃ v,a5b ρ x=some v∧a5b ρ' x=some v:=fun x=>by
  cases hx:a5b ρ x with
  |none=>exact .inl rfl
  |some v=>exact .inr ⟨v,rfl,c1l hρ x v hx⟩
 have RA:∀ x,a4d ρ x=none∨∃ v,a4d ρ x=some v∧a4d ρ' x=some v:=fun x=>by
  cases hx:a4d ρ x with
  |none=>exact .inl rfl
  |some v=>exact .inr ⟨v,rfl,b3w hρ x v hx⟩
 have RP:∀ x,a5e ρ x=none∨∃ v,a5e ρ x=some v∧a5e ρ' x=some v:=fun x=>by
  cases hx:a5e ρ x with
  |none=>exact .inl rfl
  |some v=>exact .inr ⟨v,rfl,b2s hρ x v hx⟩
 have RS:∀ x,a3m ρ x=none∨∃ v,a3m ρ x=some v∧a3m ρ' x=some v:=fun x=>by
  cases hx:a3m ρ x with
  |none=>exact .inl rfl
  |some v=>exact .inr ⟨v,rfl,c4o hρ x v hx⟩
 unfold opA at hno ⊢
 cases hop:o.op with
 |move x=>rcases R x with e|⟨v,e,e'⟩<;>simp_all [rv,OR.a4z]
 |assign x=>rcases R x with e|⟨v,e,e'⟩<;>simp_all [rv,OR.a4z]
 |pick c a b =>
  rcases R c with e|⟨v,e,e'⟩
  ·simp_all [OR.a4z]
  ·simp only[hop,e] at hno
   simp only[e,e']
   split at hno
   ·rename_i q; cases q
    rcases R a with e2|⟨v2,e2,e2'⟩<;>simp_all [rv,OR.a4z]
   ·rename_i q; cases q
    rcases R b with e2|⟨v2,e2,e2'⟩<;>simp_all [rv,OR.a4z]
   ·simp[OR.a4z] at hno
 |box t x=>rcases R x with e|⟨v,e,e'⟩<;>simp_all [OR.a4z]
 |build t parts=>rcases RP parts.toList with e|⟨v,e,e'⟩<;>simp_all [OR.a4z]
 |buildSlice t len parts=>rcases RP parts.toList with e|⟨v,e,e'⟩<;>simp_all [OR.a4z]
 |load t a=>rcases R a with e|⟨v,e,e'⟩<;>simp_all [OR.a4z]
 |store t a x=>rcases R a with e|⟨v,e,e'⟩<;>rcases R x with d|⟨u,d,d'⟩<;>simp_all [OR.a4z]
 |nilCheck x=>rcases R x with e|⟨v,e,e'⟩<;>simp_all [OR.a4z]
 |binOp op t x y u=>rcases R x with e|⟨v,e,e'⟩<;>rcases R y with d|⟨u,d,d'⟩<;>simp_all [OR.a4z]
 |unOp op t x=>rcases R x with e|⟨v,e,e'⟩<;>simp_all [OR.a4z]
 |convert s d x=>rcases R x with e|⟨v,e,e'⟩<;>simp_all [OR.a4z]
 |makeInterface t x=>rcases R x with e|⟨v,e,e'⟩<;>simp_all [OR.a4z]
 |makeFunc fn a b=>rcases RA a.toList with e|⟨v,e,e'⟩<;>rcases RA b.toList with d|⟨u,d,d'⟩<;>simp_all [OR.a4z]<;>cases fn<;>simp_all
 |makeMap t r=>rcases RO r with e|⟨v,e,e'⟩<;>simp_all [OR.a4z]
 |makeSlice t l c=>rcases R l with e|⟨v,e,e'⟩<;>rcases R c with d|⟨u,d,d'⟩<;>simp_all [OR.a4z]
 |slice t x lo hi mx=>rcases R x with e|⟨v,e,e'⟩<;>rcases RO lo with d|⟨u,d,d'⟩<;>rcases RO hi with c|⟨z,c,c'⟩<;>rcases RO mx with b|⟨y,b,b'⟩<;>simp_all [OR.a4z]
 |fieldAddr s x f=>rcases R x with e|⟨v,e,e'⟩<;>simp_all [OR.a4z]
 |field t x f=>rcases R x with e|⟨v,e,e'⟩<;>simp_all [OR.a4z]
 |indexAddr t x ix=>rcases R x with e|⟨v,e,e'⟩<;>rcases R ix with d|⟨u,d,d'⟩<;>simp_all [OR.a4z]
 |index t x ix=>rcases R x with e|⟨v,e,e'⟩<;>rcases R ix with d|⟨u,d,d'⟩<;>simp_all [OR.a4z]
 |lookup t x ix ok=>rcases R x with e|⟨v,e,e'⟩<;>rcases R ix with d|⟨u,d,d'⟩<;>simp_all [OR.a4z]
 |mapUpdate t m k x=>rcases R m with e|⟨v,e,e'⟩<;>rcases R k with d|⟨u,d,d'⟩<;>rcases R x with c|⟨z,c,c'⟩<;>simp_all [OR.a4z]
 |insert t m k x=>rcases R m with e|⟨v,e,e'⟩<;>rcases R k with d|⟨u,d,d'⟩<;>rcases R x with c|⟨z,c,c'⟩<;>simp_all [OR.a4z]
 |typeAssert x xt a ok =>
  rcases R x with e|⟨v,e,e'⟩
  ·simp only[hop,e] at hno
   exfalso
   revert hno
   cases T.und a with
   |none=>simp[OR.a4z]
   |some d=>cases d<;>simp[OR.a4z]
  ·simp only[e,e']
 |range t x=>rcases R x with e|⟨v,e,e'⟩<;>simp_all [OR.a4z]
 |next it s=>rcases R it with e|⟨v,e,e'⟩<;>simp_all [OR.a4z]
 |entry it=>rcases R it with e|⟨v,e,e'⟩<;>simp_all [OR.a4z]
 |extract t ix=>rcases R t with e|⟨v,e,e'⟩<;>simp_all [OR.a4z]
 |call c =>
  cases hcal:c.callee with
  |builtin b=>rcases RA c.args.toList with e|⟨v,e,e'⟩<;>rcases RS c with d|⟨u,d,d'⟩<;>simp_all [OR.a4z]
  |value f=>rcases RA c.args.toList with e|⟨v,e,e'⟩<;>rcases RS c with d|⟨u,d,d'⟩<;>simp_all [OR.a4z]
  |invoke r m =>
   have hr:∀ σ:Operand→Option AV,a3m σ c=none:=fun σ=>by simp[a3m,hcal]
   rcases RA c.args.toList with e|⟨v,e,e'⟩<;>rcases R r with d|⟨u,d,d'⟩<;>simp_all [OR.a4z]
 |defer c=>rcases RS c with d|⟨u,d,d'⟩<;>simp_all [OR.a4z]
 |panic x=>rcases R x with e|⟨v,e,e'⟩<;>simp_all [OR.a4z]
 |_=>rfl
end Ev
end
section
namespace Ev
open Go
variable {T:a0k}{cx:Cx}{k:List K}{Q:Res→Prop}
def a0p (ops:List Oper) (L:List (Nat×AV)) (o:Oper):Option Bool:=match o.guard with
 |none=>some true
 |some (j,want)=>match a8n ops j with
  |some d=>match look L d with
   |some (.bool b)=>some (b==want)
   |some _=>some false
   |none=>none
  |none=>none
theorem a2a {ops:List Oper}{L:List (Nat×AV)}{tm:Tr AV}(hs:a0m tm L){o:Oper}{b:Bool}(h:a0p ops L o=some b):a8e ops tm o=some b:=by
 unfold a0p at h
 unfold a8e
 cases hg:o.guard with
 |none=>simp only[hg] at h ⊢; exact h
 |some g =>
  obtain⟨j,want⟩:=g
  simp only[hg] at h ⊢
  cases hd:a8n ops j with
  |none=>simp only[hd] at h; cases h
  |some d =>
   simp only[hd] at h ⊢
   cases hv:look L d with
   |none=>simp only[hv] at h; cases h
   |some v =>
    simp only[hv] at h
    simp only[hs d v hv]
    exact h
theorem a7r {L:List (Nat×AV)}{tm:Tr AV}(hs:a0m tm L){o:Oper}{h:a0a}{r:OR}(ho:opA T (a1y L) o h=r) (hr:r.a4z=false):opA T (env tm) o h=r:=by
 rw[e0o (fun x v hx=>hs.env hx) o h (by rw[ho]; exact hr)]
 exact ho
theorem a6h {a b:Nat}(h:Nat.blt a b=true):a<b:=by rw[blt_eq] at h; simpa using h
def a0l (T:a0k) (f:FuncId) (args:List AV) (h:a0a) (P:AV→a0a→Prop):Prop:=Wp T (.call f args h) fun r=>∃ v h',r=.ret v h'∧P v h'
theorem a0l.mono {f:FuncId}{args:List AV}{h:a0a}{P P':AV→a0a→Prop}(c:a0l T f args h P) (m:∀ v h',P v h'→P' v h'):a0l T f args h P' :=
 Wp.mono c fun _ ⟨v,h',e,p⟩=>⟨v,h',e,m v h' p⟩
variable {all rest:List Oper}{o:Oper}{tm:Tr AV}{df:List ADef}{pan:Option (AV×Bool)}{h h':a0a}{L:List (Nat×AV)}{v:AV}{d:Nat}
theorem a0z {s:St}(g:a3r T cx k s Q):Ops T cx all [] k s Q:=Wp.now (r:=.fin .normal s) (fun _=>rfl) g
theorem a0f (hs:a0m tm L) (hg:a0p all L o=some true) (hd:o.dst=some d) (ho:opA T (a1y L) o h=.val v h') (hn:Nat.blt d cx.nt=true)
  (c:∀ tm',a0m tm' ((d,v)::L)→Ops T cx all rest k ⟨tm',df,pan,h'⟩ Q):Ops T cx all (o::rest) k ⟨tm,df,pan,h⟩ Q:=by
 refine Wp.like (fun rec=>?_) (c (tm.set d v) (hs.set d v))
 simp only[step,a2a hs hg,a7r hs ho rfl,a7q,hd,if_pos (a6h hn)]
theorem e2w (hs:a0m tm L) (hg:a0p all L o=some true) (hd:o.dst=none) (ho:opA T (a1y L) o h=.val v h')
  (c:Ops T cx all rest k ⟨tm,df,pan,h'⟩ Q):Ops T cx all (o::rest) k ⟨tm,df,pan,h⟩ Q:=by
 refine Wp.like (fun rec=>?_) c
 simp only[step,a2a hs hg,a7r hs ho rfl,a7q,hd]
theorem b1m (hs:a0m tm L) (hg:a0p all L o=some true) (hd:o.dst=none) (ho:opA T (a1y L) o h=.skip h')
  (c:Ops T cx all rest k ⟨tm,df,pan,h'⟩ Q):Ops T cx all (o::rest) k ⟨tm,df,pan,h⟩ Q:=by
 refine Wp.like (fun rec=>?_) c
 simp only[step,a2a hs hg,a7r hs ho rfl,a7q,hd]
theorem f2v (hs:a0m tm L) (hg:a0p all L o=some false) (hd:o.dst=some d) (hn:Nat.blt d cx.nt=true)
  (c:∀ tm',a0m tm' ((d,a2w)::L)→Ops T cx all rest k ⟨tm',df,pan,h⟩ Q):Ops T cx all (o::rest) k ⟨tm,df,pan,h⟩ Q:=by
 refine Wp.like (fun rec=>?_) (c (tm.set d a2w) (hs.set d a2w))
 simp only[step,a2a hs hg,a7q,hd,if_pos (a6h hn)]
theorem e8u (hs:a0m tm L) (hg:a0p all L o=some false) (hd:o.dst=none)
  (c:Ops T cx all rest k ⟨tm,df,pan,h⟩ Q):Ops T cx all (o::rest) k ⟨tm,df,pan,h⟩ Q:=by
 refine Wp.like (fun rec=>?_) c
 simp only[step,a2a hs hg,a7q,hd]
theorem a9z {f:FuncId}{args:List AV}{P:AV→a0a→Prop}(hs:a0m tm L) (hg:a0p all L o=some true) (hd:o.dst=some d) (ho:opA T (a1y L) o h=.enter f args h') (hn:Nat.blt d cx.nt=true)
  (hc:a0l T f args h' P) (c:∀ v h2,P v h2→∀ tm',a0m tm' ((d,v)::L)→Ops T cx all rest k ⟨tm',df,pan,h2⟩ Q):Ops T cx all (o::rest) k ⟨tm,df,pan,h⟩ Q:=by
 refine Wp.bind (t':=.call f args h') (fun rec r=>match r with
   |.ret v h''=>(match a7q cx { tm:=tm,df:=df,pan:=pan,h:=h'' } o.dst v with
      |some s'=>rec (.ops cx all rest s')
      | none => .no "put" [])
   |.thrown v h''=>.pan v { tm:=tm,df:=df,pan:=pan,h:=h'' }
   |r=>no1 f r) (fun rec=>?_) (Wp.mono hc ?_)
 ·simp only[step,a2a hs hg,a7r hs ho rfl]
  cases rec (.call f args h')<;>rfl
 ·rintro _ ⟨v,h2,rfl,p⟩
  obtain⟨r,⟨N,hr⟩,q⟩:=c v h2 p (tm.set d v) (hs.set d v)
  refine⟨r,⟨N,fun n hn'=>?_⟩,q⟩
  simp only[a7q,hd,if_pos (a6h hn)]
  exact hr n hn'
theorem d2z {l:List (AV×a0a)}(hs:a0m tm L) (hg:a0p all L o=some true) (hd:o.dst=some d) (ho:opA T (a1y L) o h=.choice l) (hn:Nat.blt d cx.nt=true) (hl:l≠[])
  (c:∀ p,p∈l→∀ tm',a0m tm' ((d,p.1)::L)→Ops T cx all rest k ⟨tm',df,pan,p.2⟩ Q):Ops T cx all (o::rest) k ⟨tm,df,pan,h⟩ Q:=by
 have key:∀ l:List (AV×a0a),l≠[]→(∀ p,p∈l→∀ tm',a0m tm' ((d,p.1)::L)→Ops T cx all rest k ⟨tm',df,pan,p.2⟩ Q) →
   ∃ r,(∃ N,∀ n,N≤n→d1x (b2k (ev T n) cx all rest ⟨tm,df,pan,h⟩ o.dst l)=r)∧Leaves (after T cx k Q) r:=by
  intro l
  induction l with
  |nil=>intro h; exact absurd rfl h
  |cons p l ih =>
   intro _ c
   obtain⟨r,⟨N,hr⟩,q⟩:=c p (List.mem_cons_self ..) (tm.set d p.1) (hs.set d p.1)
   cases l with
   |nil =>
    refine⟨r,⟨N,fun n hn'=>?_⟩,q⟩
    simp only[b2k,d1x,a7q,hd,if_pos (a6h hn)]
    exact hr n hn'
   |cons p2 l =>
    obtain⟨r2,⟨M,hr2⟩,q2⟩:=ih (by simp) (fun x hx=>c x (List.mem_cons_of_mem _ hx))
    refine⟨.alt r r2,⟨N+M,fun n hn'=>?_⟩,q,q2⟩
    have h2:=hr2 n (by omega)
    have h1:=hr n (by omega)
    show Res.alt _ (d1x (b2k (ev T n) cx all rest ⟨tm,df,pan,h⟩ o.dst (p2::l)))=_
    rw[h2]
    simp only[a7q,hd,if_pos (a6h hn),h1]
 obtain⟨r,⟨N,hr⟩,q⟩:=key l hl c
 refine⟨r,.b0n ⟨N,fun n hn'=>?_⟩,q⟩
 have:step T (ev T n) (.ops cx all (o::rest) ⟨tm,df,pan,h⟩)=d1x (b2k (ev T n) cx all rest ⟨tm,df,pan,h⟩ o.dst l):=by
  simp only[step,a2a hs hg,a7r hs ho rfl]
 rw[this]; exact hr n hn'
def a2c (T:a0k) (L:List (Nat×AV)) (h:a0a):List ResultVar→Option (List AV)
 |[]=>some []
 |.tmp t::l=>match look L t,a2c T L h l with
  |some v,some r=>some (v::r)
  |_,_=>none
 |.cell a t::l=>match look L a with
  |some (.ptr b off)=>match a3y T t h b off,a2c T L h l with
   |some v,some r=>some (v::r)
   |_,_=>none
  |_=>none
theorem a9v (hs:a0m tm L):∀ (l:List ResultVar) (vs:List AV),a2c T L h l=some vs→a5i T tm h l=some vs
 |[],_,e=>e
 |.tmp t::l,vs,e=>by
  unfold a2c at e
  unfold a5i
  split at e<;>simp at e
  rename_i v r h1 h2
  rw[hs t v h1,a9v hs l r h2]
  simp[e]
 |.cell a t::l,vs,e=>by
  unfold a2c at e
  unfold a5i
  split at e
  ·rename_i b off h0
   split at e<;>simp at e
   rename_i v r h1 h2
   rw[hs a _ h0]
   simp only[h1,a9v hs l r h2]
   simp[e]
  ·cases e
def Ends (T:a0k) (rs:List ResultVar) (P:AV→a0a→Prop) (r:Res):Prop:=∃ e tm h,r=.fin e ⟨tm,[],none,h⟩∧(e=.normal∨e=.ret)∧∃ vs,a5i T tm h rs=some vs∧P (oneOf vs) h
theorem a3o {rs:List ResultVar}{P:AV→a0a→Prop}{vs:List AV}(hs:a0m tm L) (hr:a2c T L h rs=some vs) (p:P (oneOf vs) h):Ends T rs P (.fin .ret ⟨tm,[],none,h⟩) :=
 ⟨.ret,tm,h,rfl,.inr rfl,vs,a9v hs rs vs hr,p⟩
theorem a2b {rs:List ResultVar}{P:AV→a0a→Prop}{vs:List AV}(hs:a0m tm L) (hr:a2c T L h rs=some vs) (p:P (oneOf vs) h):Ends T rs P (.fin .normal ⟨tm,[],none,h⟩) :=
 ⟨.normal,tm,h,rfl,.inl rfl,vs,a9v hs rs vs hr,p⟩
theorem b0t {f:FuncId}{args:List AV}{F:Func}{c:Code}{P:AV→a0a→Prop}(hsm:T.sm f args h=none) (hF:T.fn f=some F) (hb:F.body=some c)
  (g:∀ tm,a0m tm (b3g args 0 [])→a3r T { fn:=f,nt:=Nat.max F.ntmps args.length,round:=none } [.code c] ⟨tm,[],none,h⟩ (Ends T F.results.toList P)):a0l T f args h P:=by
 refine Wp.bind (t':=.code { fn:=f,nt:=Nat.max F.ntmps args.length,round:=none } c { tm:=a5u args 0 .nil,df:=[],pan:=none,h:=h }) (fun rec r=>match r with
    |.fin .normal s=>rec (.leave f s.tm s.df none s.h)
    |.fin .ret s=>rec (.leave f s.tm s.df none s.h)
    |.pan v s=>rec (.leave f s.tm s.df (some (v,false)) s.h)
    | .fin _ _ => .no "jump out of a function" []
    |r=>r) (fun rec=>by
     simp only[step,hsm,hF,hb]
     congr 1) ?_
 have:=g (a5u args 0 .nil) (a0m.args args 0 _ _ (a0m.nil _))
 refine Wp.mono (Q:=Ends T F.results.toList P) this ?_
 rintro r ⟨e,tm,h1,rfl,he,vs,hvs,p⟩
 have hl:∀ n,ev T (n+1) (.leave f tm [] none h1)=.ret (oneOf vs) h1:=fun n=>by simp[ev,step,hF,hvs]
 refine⟨.ret (oneOf vs) h1,⟨1,fun n hn=>?_⟩,oneOf vs,h1,rfl,p⟩
 obtain⟨m,rfl⟩:∃ m,n=m+1:=⟨n-1,by omega⟩
 rcases he with rfl|rfl<;>exact hl m
def a0a.ok (h:a0a):Prop:=∀ b,h.next≤b→h.get b=none
theorem a0a.ok.lt {h:a0a}(k:h.ok){b:Nat}{o:a1t}(hg:h.get b=some o):b<h.next :=
 Nat.lt_of_not_le fun hb=>by rw[k b hb] at hg; cases hg
structure Ext (h h':a0a):Prop where
 nx:h.next≤h'.next
 old:∀ b,b<h.next→h'.get b=h.get b
 ok:h.ok→h'.ok
theorem Ext.refl (h:a0a):Ext h h:=⟨Nat.le_refl _,fun _ _=>rfl,id⟩
theorem Ext.trans {a b c:a0a}(x:Ext a b) (y:Ext b c):Ext a c:=⟨Nat.le_trans x.nx y.nx,fun n hn=>by rw[y.old n (Nat.lt_of_lt_of_le hn x.nx),x.old n hn],fun k=>y.ok (x.ok k)⟩
theorem Ext.alloc (h:a0a) (o:a1t):Ext h (h.alloc o):=⟨by simp[a0a.alloc],fun b hb=>by rw[a0a.a4f,if_neg (by omega)],fun k b hb=>by
 have hn:(h.alloc o).next=h.next+1:=rfl
 rw[a0a.a4f,if_neg (by omega)]
 exact k b (by omega)⟩
theorem Ext.f5n {a h:a0a}(x:Ext a h){b:Nat}(hb:a.next≤b) (hl:b<h.next) (o:a1t):Ext a (h.set b o):=⟨by simpa using x.nx,fun n hn=>by rw[a0a.a1d,if_neg (by omega)]; exact x.old n hn,fun k n hn=>by
 have hn:h.next≤n:=by simpa using hn
 rw[a0a.a1d,if_neg (by omega)]
 exact x.ok k n hn⟩
theorem Ext.set {a h:a0a}(x:Ext a h){b:Nat}{o0:a1t}(hb:a.next≤b) (hg:h.get b=some o0) (o:a1t):Ext a (h.set b o):=⟨by simpa using x.nx,fun n hn=>by rw[a0a.a1d,if_neg (by omega)]; exact x.old n hn,fun k n hn=>by
 have hn:h.next≤n:=by simpa using hn
 have hl:=(x.ok k).lt hg
 rw[a0a.a1d,if_neg (by omega)]
 exact x.ok k n hn⟩
theorem a0t (h:a0a) (o:a1t):(h.alloc o).get h.next=some o:=by rw[a0a.a4f,if_pos rfl]
end Ev
namespace Ev
theorem a0m.cons {tm:Tr AV}{L L':List (Nat×AV)}{j:Nat}{v:AV}(h:a0m tm L) (hd:look L j=some v) (t:a0m tm L'):a0m tm ((j,v)::L'):=t.more (h.get hd)
end Ev
end
