/- A part of an evaluator of the program's form in Lean, of the proof that what it says of a call is what the machine does, and of the rules by which proofs walk over it. Conditions: those that each theorem states. -/
import Derived.Test.YtejfbaecadbdiaaGreatGai
import Derived.Carry
import Derived.Deep.Strs
set_option linter.unusedVariables false
set_option linter.unusedSimpArgs false
section
namespace Ev
open Go
variable {T:a0k}
theorem e4i (hT:T.alts=false) (h:a0a) (b:Nat) (l:List (AV×a0a)):a9b T h b≠.choice l:=by
 unfold a9b
 intro e
 split at e
 ·cases e
 ·split at e
  ·split at e
   ·cases e
   ·split at e
    ·cases e
    ·split at e<;>cases e
    ·rw[hT] at e
     simp at e
  ·cases e
 ·cases e
theorem f0b (w:String) (h:a0a) (r:Option AV) (l:List (AV×a0a)):rv w h r≠.choice l:=by cases r<;>simp[rv]
theorem d2q (args:List AV) (ts:List TypeId) (h:a0a) (l:List (AV×a0a)):a1h T args ts h≠.choice l:=by
 intro e
 unfold a1h at e
 repeat' split at e
 all_goals cases e
theorem e4a (args:List AV) (ts:List TypeId) (h:a0a) (l:List (AV×a0a)):c0d T args ts h≠.choice l:=by
 intro e
 unfold c0d at e
 simp only at e
 repeat' split at e
 all_goals cases e
theorem e0a (e:TypeId) (h:a0a) (b off n:Nat) (l:List (AV×a0a)):b6x T e h b off n≠.choice l:=by
 intro e
 unfold b6x at e
 repeat' split at e
 all_goals cases e
theorem d8p (t:TypeId) (h:a0a) (x:AV) (l:List (AV×a0a)):b4e T t h x≠.choice l:=by
 intro e
 unfold b4e at e
 repeat' split at e
 all_goals first|exact e0a _ _ _ _ _ _ e|cases e
theorem e2f (s d:TypeId) (h:a0a) (x:AV) (l:List (AV×a0a)):b4q T s d h x≠.choice l:=by
 intro e
 unfold b4q at e
 repeat' split at e
 all_goals cases e
theorem e5y (f:FuncId) (args:List AV) (h:a0a) (l:List (AV×a0a)):e4f T f args h≠.choice l:=by
 intro e
 unfold e4f at e
 repeat' split at e
 all_goals first|(exact f0b _ _ _ _ e)|cases e
theorem d3f (fn:Fn) (cap args:List AV) (h:a0a) (l:List (AV×a0a)):a3d T fn cap args h≠.choice l:=by
 intro e
 unfold a3d at e
 repeat' split at e
 all_goals first|(exact e5y _ _ _ _ e)|cases e
theorem f2j (hT:T.alts=false) (ρ:Operand→Option AV) (o:Oper) (h:a0a) (l:List (AV×a0a)):opA T ρ o h≠.choice l:=by
 intro e
 unfold opA at e
 split at e
 all_goals (repeat' split at e)
 all_goals first
  |(exact f0b _ _ _ _ e)
  |(exact d2q _ _ _ _ e)
  |(exact e4a _ _ _ _ e)
  |(exact d8p _ _ _ _ e)
  |(exact e2f _ _ _ _ _ e)
  |(exact d3f _ _ _ _ _ e)
  |(exact e4i hT _ _ _ e)
  |(cases e; done)
theorem c6o (rec:Task→Res) (cx:Cx) (all:List Oper) (s:St):(drawn T rec cx all s).leaf=true:=by
 unfold drawn
 simp only
 split
 ·rfl
 ·split
  ·rfl
  ·split<;>rfl
  ·split<;>rfl
theorem c5r (hT:T.alts=false) (rec:Task→Res) (ih:∀ t,(rec t).leaf=true) (t:Task):(step T rec t).leaf=true:=by
 have B:∀ {x:Res} {F:Res→Res},x.leaf=true→(∀ r,r.leaf=true→(F r).leaf=true)→(a5c x F).leaf=true:=fun {x F} h k=>by
  have e:a5c x F=F x:=by cases x<;>first|rfl|cases h
  rw[e]; exact k x h
 have N:∀ (f:FuncId) (r:Res),r.leaf=true→(no1 f r).leaf=true:=fun f r h=>by cases r<;>first|rfl|cases h
 cases t with
 |code cx c s =>
  simp only[step]
  cases c with
  |skip=>rfl
  |label=>rfl
  |region i ops d=>cases d with
   |false=>exact ih _
   |true=>exact c6o rec cx _ s
  |seq a b=>exact B (ih _) fun r hr=>by split<;>first|exact ih _|exact hr
  |cond x a b=>simp only; split<;>first|exact ih _|rfl
  |block id b=>exact B (ih _) fun r hr=>by split<;>first|(split<;>rfl)|exact hr
  |loop b=>exact B (ih _) fun r hr=>by split<;>first|exact ih _|exact hr
  |exit=>rfl
  |ret=>rfl
  |scope b=>exact B (ih _) fun r hr=>by split<;>first|rfl|exact hr
  |rangeFunc f ps as bd =>
   simp only
   split
   ·split
    ·rfl
    ·split
     ·refine B (ih _) fun r hr=>?_
      split
      ·split
       ·split
        ·rfl
        ·split<;>first|rfl|exact ih _
       ·rfl
      ·rfl
      ·exact hr
     ·rfl
     ·rfl
   ·rfl
  |goto=>rfl
  |refuse=>rfl
 |ops cx all rest s =>
  simp only[step]
  split
  ·rfl
  ·split
   ·rfl
   ·split<;>first|exact ih _|rfl
   ·split
    ·split<;>first|exact ih _|rfl
    ·split<;>first|exact ih _|rfl
    ·refine B (ih _) fun r hr=>?_
     split
     ·split<;>first|exact ih _|rfl
     ·rfl
     ·exact N _ _ hr
    ·refine B (ih _) fun r hr=>?_
     split
     ·split<;>first|exact ih _|rfl
     ·rfl
     ·exact N _ _ hr
    ·split
     ·rfl
     ·split<;>first|exact ih _|rfl
    ·split
     ·rfl
     ·split
      ·split<;>first|exact ih _|rfl
      ·split<;>first|exact ih _|rfl
    ·rfl
    ·rename_i l he
     exact absurd he (f2j hT _ _ _ _)
    ·rfl
 |call f args h =>
  simp only[step]
  split
  ·rfl
  ·split
   ·split
    ·refine B (ih _) fun r hr=>?_
     split
     ·exact ih _
     ·exact ih _
     ·exact ih _
     ·rfl
     ·exact hr
    ·rfl
   ·rfl
 |leave f tm ds pan h =>
  simp only[step]
  split
  ·split
   ·split
    ·split<;>rfl
    ·rfl
   ·split<;>rfl
   ·rfl
  ·split<;>first|exact ih _|rfl
  ·split
   ·refine B (ih _) fun r hr=>?_
    split
    ·split<;>exact ih _
    ·rfl
    ·exact N _ _ hr
   ·rfl
   ·rfl
 |dcall f args pan h =>
  simp only[step]
  split
  ·split
   ·rfl
   ·split
    ·refine B (ih _) fun r hr=>?_
     split
     ·split<;>rfl
     ·rfl
     ·exact hr
    ·rfl
  ·rfl
 |round l fn tm nt as bd h =>
  simp only[step]
  refine B (ih _) fun r hr=>?_
  split
  ·split
   ·refine B (ih _) fun r hr=>?_
    split
    ·split
     ·split<;>rfl
     ·rfl
    ·split<;>rfl
    ·exact hr
   ·rfl
  ·rfl
  ·split<;>rfl
  ·exact hr
theorem c0x (hT:T.alts=false):∀ (n:Nat) (t:Task),(ev T n t).leaf=true
 |0,_=>rfl
 |n+1,t=>c5r hT (ev T n) (c0x hT n) t
theorem a0l.one (hT:T.alts=false){f:FuncId}{args:List AV}{h:a0a}{P:AV→a0a→Prop}(g:a0l T f args h P):∃ v h',Says T (.call f args h) (.ret v h')∧P v h':=by
 obtain⟨r,hs,hl⟩:=g
 obtain⟨N,hN⟩:=hs
 have h1:=c0x hT N (.call f args h)
 rw[hN N (Nat.le_refl _)] at h1
 have hq:Leaves (fun r=>∃ v h',r=.ret v h'∧P v h') r:=hl
 have:∃ v h',r=.ret v h'∧P v h':=by cases r<;>first|exact hq|cases h1
 obtain⟨v,h',rfl,p⟩:=this
 exact⟨v,h',⟨N,hN⟩,p⟩
end Ev
namespace Ev
open Go
def a0k.det (T:a0k):a0k:={ T with alts:=false }
theorem a0v.det {P:Program}{T:a0k}(ok:a0v P T):a0v P T.det:=⟨ok.ti,ok.und,ok.fn,ok.eqg,ok.stood,ok.mix,ok.ext,ok.rt,ok.kd⟩
end Ev
end
section
namespace Ev
open Go
variable {T:a0k}
def a1n:List (Nat×AV)→List Tmp→List (Nat×AV)
 |[],_=>[]
 |p::L,sl=>match b0h p.1 sl with
  |true=>a1n L sl
  |false=>p::a1n L sl
theorem b9i (sl:List Tmp) (j:Nat):∀ (L:List (Nat×AV)) (v:AV),look (a1n L sl) j=some v→b0h j sl=false∧look L j=some v
 |[],v,h=>by cases h
 |(i,u)::L,v,h=>by
  unfold a1n at h
  split at h
  ·rename_i hm
   obtain⟨h1,h2⟩:=b9i sl j L v h
   refine⟨h1,?_⟩
   unfold look
   split
   ·rename_i hb
    have:=Nat.eq_of_beq_eq_true hb
    subst this
    rw[h1] at hm; cases hm
   ·exact h2
  ·rename_i hm
   unfold look at h
   split at h
   ·rename_i hb
    have:=Nat.eq_of_beq_eq_true hb
    subst this
    exact⟨hm,by unfold look; rw[hb]; exact h⟩
   ·rename_i hb
    obtain⟨h1,h2⟩:=b9i sl j L v h
    exact⟨h1,by unfold look; rw[hb]; exact h2⟩
theorem b8e (j:Nat):∀ (sl:List Tmp) (tm:Tr AV),(a1e tm sl).get j=if b0h j sl=true then none else tm.get j
 |[],tm=>by simp[a1e,b0h]
 |d::l,tm=>by
  unfold a1e
  rw[b8e j l,Tr.b5e]
  by_cases h1:b0h j l=true
  ·simp[h1,b0h]
   split<;>simp
  ·by_cases h2:j=d
   ·subst h2; simp[b0h]
   ·have hb:Nat.beq j d=false:=by
     cases hq:Nat.beq j d with
     |false=>rfl
     |true=>exact absurd (Nat.eq_of_beq_eq_true hq) h2
    simp[h1,h2,b0h,hb]
theorem a0m.a1n {tm:Tr AV}{L:List (Nat×AV)}(h:a0m tm L) (sl:List Tmp):a0m (a1e tm sl) (a1n L sl):=by
 intro j v hv
 obtain⟨h1,h2⟩:=b9i sl j L v hv
 rw[b8e,h1]
 exact h j v h2
theorem d4a {ρ ρ':Operand→Option AV}(hρ:∀ x v,ρ x=some v→ρ' x=some v) (o:Oper) (r:Nat) (q:AV×a1t) (h:a8m T ρ o r=some q):a8m T ρ' o r=some q:=by
 unfold a8m at h ⊢
 cases hop:o.op with
 |alloc t=>simpa [hop] using h
 |box t x =>
  simp only[hop] at h ⊢
  cases hx:ρ x with
  |none=>rw[hx] at h; cases h
  |some v=>rw[hx] at h; rw[hρ x v hx]; exact h
 |buildSlice t len parts =>
  simp only[hop] at h ⊢
  cases hx:a5e ρ parts.toList with
  |none=>rw[hx] at h; split at h<;>simp_all
  |some v=>rw[hx] at h; rw[b2s hρ _ v hx]; exact h
 |makeMap t r =>
  simp only[hop] at h ⊢
  cases hx:a5b ρ r with
  |none=>rw[hx] at h; split at h<;>simp_all
  |some v=>rw[hx] at h; rw[c1l hρ r v hx]; exact h
 |makeSlice t l c =>
  simp only[hop] at h ⊢
  cases hx:ρ l with
  |none=>rw[hx] at h; split at h<;>simp_all
  |some v =>
   cases hy:ρ c with
   |none=>rw[hy] at h; split at h<;>simp_all
   |some u=>rw[hx,hy] at h; rw[hρ l v hx,hρ c u hy]; exact h
 |convert s d x =>
  simp only[hop] at h ⊢
  cases hx:ρ x with
  |none=>rw[hx] at h; split at h<;>simp_all
  |some v=>rw[hx] at h; rw[hρ x v hx]; exact h
 |_=>simp only[hop] at h; cases h
def DG (T:a0k) (nt:Nat) (all:List Oper) (ms:List Nat) (N:Nat) (rest:List Oper) (mr:List Nat) (i:Nat) (tm:Tr AV) (h:a0a) (acc:List Ent) (K:Tr AV→a0a→Prop):Prop :=
 ∃ tmF hF es,(∃ n0,∀ n,n0≤n→goD T (ev T n) nt all ms N rest mr i tm h=.fin tmF hF es)∧okD T (acc.reverse++es) 0=true∧K tmF hF
def tb (m j:Nat):Bool:=Nat.beq (Nat.mod (Nat.div m (Nat.pow 2 j)) 2) 1
theorem f4w (m j:Nat):tb m j=Nat.testBit m j:=by
 rw[Nat.testBit_eq_decide_div_mod_eq]
 unfold tb
 have e:Nat.mod (Nat.div m (Nat.pow 2 j)) 2=m / 2 ^ j % 2:=rfl
 rw[e]
 cases h:Nat.beq (m / 2 ^ j % 2) 1 with
 |true=>simp[Nat.eq_of_beq_eq_true h]
 |false =>
  have:¬ m / 2 ^ j % 2=1:=fun e=>by rw[e] at h; cases h
  simp[this]
def b4r (m j:Nat) (a b:Ent):Option (List (Ent×a0a)):=match tb m j with
 |true=>some []
 |false=>match b3f a.o b.o with
  |true=>none
  |false=>match a9c a.kd,a9c b.kd with
   |true,true=>none
   |true,false=>some (match a6i b.kd&&b.want with
    |true=>[(b,a.h0)]
    |false=>[])
   |false,true=>some (match a6i a.kd&&a.want with
    |true=>[(a,b.h1)]
    |false=>[])
   |false,false=>some []
def a9k (ms:List Nat) (j:Nat) (a:Ent):List Ent→Nat→Option (List (Ent×a0a))
 |[],_=>some []
 |b::l,k=>match b4r ((nth ms k).getD 0) j a b,a9k ms j a l (k+1) with
  |some x,some y=>some (x++y)
  |_,_=>none
def todo (ms:List Nat):List Ent→Nat→Option (List (Ent×a0a))
 |[],_=>some []
 |a::l,j=>match a9k ms j a l (j+1),todo ms l (j+1) with
  |some x,some y=>some (x++y)
  |_,_=>none
def d2t (ms:List Nat):List Ent→Nat→Prop
 |[],_=>True
 |e::l,k=>e.m=(nth ms k).getD 0∧d2t ms l (k+1)
def a4a (T:a0k):List (Ent×a0a)→Prop
 |[]=>True
 |p::l=>again T p.1 p.2=true∧a4a T l
theorem a4a.append {a b:List (Ent×a0a)}(h:a4a T (a++b)):a4a T a∧a4a T b:=by
 induction a with
 |nil=>exact⟨trivial,h⟩
 |cons x a ih=>exact⟨⟨h.1,(ih h.2).1⟩,(ih h.2).2⟩
theorem c9m {m j:Nat}{a b:Ent}{l:List (Ent×a0a)}(hm:b.m=m) (e:b4r m j a b=some l) (k:a4a T l):b0f T j a b=true:=by
 subst hm
 unfold b4r at e
 rw[f4w] at e
 unfold b0f
 cases hb:Nat.testBit b.m j with
 |true=>rfl
 |false =>
  rw[hb] at e
  simp only at e
  cases hs:b3f a.o b.o with
  |true=>rw[hs] at e; cases e
  |false =>
   rw[hs] at e
   simp only at e
   cases ha:a9c a.kd<;>cases hbb:a9c b.kd<;>rw[ha,hbb] at e<;>simp only[Option.some.injEq] at e
   ·simp
   ·cases hr:a6i a.kd with
    |false=>simp
    |true =>
     cases hw:a.want with
     |false=>simp[again,hw]
     |true=>rw[hr,hw] at e; subst e; have:=k.1; simp[this]
   ·cases hr:a6i b.kd with
    |false=>simp
    |true =>
     cases hw:b.want with
     |false=>simp[again,hw]
     |true=>rw[hr,hw] at e; subst e; have:=k.1; simp[this]
   ·cases e
theorem b7t {ms:List Nat}{j:Nat}{a:Ent}:∀ {es:List Ent}{i:Nat}{l:List (Ent×a0a)},d2t ms es i→a9k ms j a es i=some l→a4a T l→b4w T j a es=true
 |[],_,_,_,_,_=>rfl
 |b::es,i,l,hm,e,k=>by
  unfold a9k at e
  split at e
  ·rename_i x y hx hy
   cases e
   obtain⟨k1,k2⟩:=k.append
   simp only[b4w,c9m hm.1 hx k1,b7t hm.2 hy k2,Bool.and_self]
  ·cases e
theorem c7f {ms:List Nat}:∀ {es:List Ent}{j:Nat}{l:List (Ent×a0a)},d2t ms es j→todo ms es j=some l→a4a T l→okD T es j=true
 |[],_,_,_,_,_=>rfl
 |a::es,j,l,hm,e,k=>by
  unfold todo at e
  split at e
  ·rename_i x y hx hy
   cases e
   obtain⟨k1,k2⟩:=k.append
   simp only[okD,b7t hm.2 hx k1,c7f hm.2 hy k2,Bool.and_self]
  ·cases e
mutual
theorem b4x:∀ (a:AV),a5d a a=true
 |.bool b=>by cases b<;>rfl
 |.int k n=>by simp[a5d]
 |.str s=>by simp[a5d,a6b]
 |.ptr a b=>by simp[a5d]
 |.nilptr=>rfl
 |.slice a b c d=>by simp[a5d]
 |.oslice a b c d=>by simp[a5d]
 |.eslice=>rfl
 |.nilslice=>rfl
 |.map a=>by simp[a5d]
 |.nilmap=>rfl
 |.func f a b=>by simp[a5d,a7y a,a7y b]
 |.nilfunc=>rfl
 |.iface t v=>by simp[a5d,b4x v]
 |.niliface=>rfl
 |.agg l=>by simp[a5d,a7y l]
 |.tuple l=>by simp[a5d,a7y l]
 |.raw a b=>by simp[a5d]
 |.own a b=>by simp[a5d]
theorem a7y:∀ (l:List AV),b3k l l=true
 |[]=>rfl
 |a::l=>by simp[b3k,b4x a,a7y l]
end
theorem c9u {e:Ent}{h h':a0a}{L:List (Nat×AV)}(hs:a0m e.tm L) (ho:opA T (a1y L) e.o h=.val e.v h'):again T e h=true:=by
 unfold again
 rw[a7r hs ho rfl]
 simp[b4x]
section
variable {nt N i d:Nat}{all rest:List Oper}{ms mr:List Nat}{o:Oper}{tm:Tr AV}{h h':a0a}{acc:List Ent}{K:Tr AV→a0a→Prop}{L:List (Nat×AV)}{v:AV}
def b8n:Kd→Bool
 |.pure=>true
 |.read=>true
 |_=>false
def seen (L:List (Nat×AV)) (mr:List Nat) (i:Nat) (all:List Oper) (ms:List Nat):List (Nat×AV):=a1n L (a0y ((nth mr 0).getD 0) i all ms 0)
theorem f1u {l:List (Ent×a0a)}(hm:d2t ms acc.reverse 0) (hl:todo ms acc.reverse 0=some l) (hk:a4a T l) (k:K tm h):DG T nt all ms N [] mr i tm h acc K :=
 ⟨tm,h,[],⟨0,fun n _=>rfl⟩,by simpa using c7f hm hl hk,k⟩
theorem b4t {e:Ent}{tm':Tr AV}{h2:a0a}(hg:∃ n0,∀ n,n0≤n→goD T (ev T n) nt all ms N (o::rest) mr i tm h=b0a e (goD T (ev T n) nt all ms N rest (mr.drop 1) (i+1) tm' h2))
  (c:DG T nt all ms N rest (mr.drop 1) (i+1) tm' h2 (e::acc) K):DG T nt all ms N (o::rest) mr i tm h acc K:=by
 obtain⟨tmF,hF,es,⟨n0,h0⟩,ok,k⟩:=c
 obtain⟨n1,h1⟩:=hg
 refine⟨tmF,hF,e::es,⟨n0+n1,fun n hn=>?_⟩,by simpa using ok,k⟩
 rw[h1 n (by omega),h0 n (by omega)]
 rfl
theorem f4v (hs:a0m tm L) (hw:a0p all (seen L mr i all ms) o=some false) (hd:o.dst=some d) (hn:Nat.blt d nt=true)
  (c:∀ tmr tm',a0m tmr (seen L mr i all ms)→a0m tm' ((d,a2w)::L)→DG T nt all ms N rest (mr.drop 1) (i+1) tm' h (⟨o,(nth mr 0).getD 0,.pure,false,tmr,h,a2w,h⟩::acc) K):DG T nt all ms N (o::rest) mr i tm h acc K:=by
 have hs':a0m (a1e tm (a0y ((nth mr 0).getD 0) i all ms 0)) (seen L mr i all ms):=hs.a1n _
 refine b4t ⟨0,fun n _=>?_⟩ (c _ (tm.set d a2w) hs' (hs.set d a2w))
 simp only[goD,a2a hs' hw,hd,if_pos (a6h hn)]
theorem f0w (hs:a0m tm L) (hw:a0p all (seen L mr i all ms) o=some true) (hd:o.dst=some d) (hn:Nat.blt d nt=true) (hk:b8n (a1l T o.op)=true) (ho:opA T (a1y (seen L mr i all ms)) o h=.val v h')
  (c:∀ tmr tm',a0m tmr (seen L mr i all ms)→a0m tm' ((d,v)::L)→DG T nt all ms N rest (mr.drop 1) (i+1) tm' h (⟨o,(nth mr 0).getD 0,.read,true,tmr,h,v,h⟩::acc) K):DG T nt all ms N (o::rest) mr i tm h acc K:=by
 have hs':a0m (a1e tm (a0y ((nth mr 0).getD 0) i all ms 0)) (seen L mr i all ms):=hs.a1n _
 refine b4t ⟨0,fun n _=>?_⟩ (c _ (tm.set d v) hs' (hs.set d v))
 cases hq:a1l T o.op<;>rw[hq] at hk<;>first|(cases hk; done)|simp only[goD,a2a hs' hw,hq,a7r hs' ho rfl,hd,if_pos (a6h hn)]
theorem e4p {a:a1t}(hs:a0m tm L) (hw:a0p all (seen L mr i all ms) o=some true) (hd:o.dst=some d) (hn:Nat.blt d nt=true) (hk:a1l T o.op=.alloc) (ho:a8m T (a1y (seen L mr i all ms)) o (N+i)=some (v,a))
  (c:∀ tmr tm',a0m tmr (seen L mr i all ms)→a0m tm' ((d,v)::L)→DG T nt all ms N rest (mr.drop 1) (i+1) tm' (h.set (N+i) a) (⟨o,(nth mr 0).getD 0,.alloc,true,tmr,h,v,h.set (N+i) a⟩::acc) K):DG T nt all ms N (o::rest) mr i tm h acc K:=by
 have hs':a0m (a1e tm (a0y ((nth mr 0).getD 0) i all ms 0)) (seen L mr i all ms):=hs.a1n _
 refine b4t ⟨0,fun n _=>?_⟩ (c _ (tm.set d v) hs' (hs.set d v))
 simp only[goD,a2a hs' hw,hk,d4a (fun x v hx=>hs'.env hx) o (N+i) _ ho,hd,if_pos (a6h hn)]
theorem f0v (hs:a0m tm L) (hw:a0p all (seen L mr i all ms) o=some true) (hd:o.dst=some d) (hn:Nat.blt d nt=true) (hk:a1l T o.op=.act) (ho:opA T (a1y (seen L mr i all ms)) o h=.val v h')
  (c:∀ tmr tm',a0m tmr (seen L mr i all ms)→a0m tm' ((d,v)::L)→DG T nt all ms N rest (mr.drop 1) (i+1) tm' h' (⟨o,(nth mr 0).getD 0,.act,true,tmr,h,v,h'⟩::acc) K):DG T nt all ms N (o::rest) mr i tm h acc K:=by
 have hs':a0m (a1e tm (a0y ((nth mr 0).getD 0) i all ms 0)) (seen L mr i all ms):=hs.a1n _
 refine b4t ⟨0,fun n _=>?_⟩ (c _ (tm.set d v) hs' (hs.set d v))
 simp only[goD,a2a hs' hw,hk,c1p,a7r hs' ho rfl,hd,if_pos (a6h hn)]
theorem e6f (hs:a0m tm L) (hw:a0p all (seen L mr i all ms) o=some true) (hd:o.dst=none) (hk:a1l T o.op=.act) (ho:opA T (a1y (seen L mr i all ms)) o h=.skip h')
  (c:∀ tmr,a0m tmr (seen L mr i all ms)→DG T nt all ms N rest (mr.drop 1) (i+1) tm h' (⟨o,(nth mr 0).getD 0,.act,true,tmr,h,a2w,h'⟩::acc) K):DG T nt all ms N (o::rest) mr i tm h acc K:=by
 have hs':a0m (a1e tm (a0y ((nth mr 0).getD 0) i all ms 0)) (seen L mr i all ms):=hs.a1n _
 refine b4t ⟨0,fun n _=>?_⟩ (c _ hs')
 simp only[goD,a2a hs' hw,hk,c1p,a7r hs' ho rfl,hd]
theorem e7r {f:FuncId}{args:List AV}{P:AV→a0a→Prop}(hs:a0m tm L) (hw:a0p all (seen L mr i all ms) o=some true) (hd:o.dst=some d) (hn:Nat.blt d nt=true) (hk:a1l T o.op=.act)
  (ho:opA T (a1y (seen L mr i all ms)) o h=.enter f args h') (g:∃ v h2,Says T (.call f args h') (.ret v h2)∧P v h2)
  (c:∀ v h2,P v h2→∀ tmr tm',a0m tmr (seen L mr i all ms)→a0m tm' ((d,v)::L)→DG T nt all ms N rest (mr.drop 1) (i+1) tm' h2 (⟨o,(nth mr 0).getD 0,.act,true,tmr,h,v,h2⟩::acc) K):DG T nt all ms N (o::rest) mr i tm h acc K:=by
 have hs':a0m (a1e tm (a0y ((nth mr 0).getD 0) i all ms 0)) (seen L mr i all ms):=hs.a1n _
 obtain⟨v,h2,⟨n0,hn0⟩,p⟩:=g
 refine b4t ⟨n0,fun n hn'=>?_⟩ (c v h2 p _ (tm.set d v) hs' (hs.set d v))
 simp only[goD,a2a hs' hw,hk,c1p,a7r hs' ho rfl,hn0 n hn',no1,hd,if_pos (a6h hn)]
end
theorem b6f {h:a0a}(hk:h.ok):∀ n,b3e h h.next n=true
 |0=>rfl
 |n+1=>by
  unfold b3e
  rw[hk (h.next+n) (by omega),b6f hk n]
  rfl
theorem e3c {cx:Cx}{k:List K}{Q:Res→Prop}{i:Nat}{ops:Array Oper}{tm:Tr AV}{df:List ADef}{pan:Option (AV×Bool)}{h:a0a}(he:a3q ops.toList 0=true) (hk:h.ok)
  (g:DG T cx.nt ops.toList (masks ops.toList) h.next ops.toList (masks ops.toList) 0 tm { h with next:=h.next+ops.toList.length } [] (fun tm' h'=>a3r T cx k ⟨tm',df,pan,h'⟩ Q)) :
  a3r T cx (.code (.region i ops true)::k) ⟨tm,df,pan,h⟩ Q:=by
 obtain⟨tmF,hF,es,⟨n0,h0⟩,ok,q⟩:=g
 refine⟨.fin .normal ⟨tmF,df,pan,hF⟩,.b0n ⟨n0,fun n hn=>?_⟩,q⟩
 simp only[step,drawn,he,b6f hk,Bool.and_self,h0 n hn]
 have ok':okD T es 0=true:=by simpa using ok
 simp only[ok']
end Ev
end
section
namespace Ev
open Go
theorem b6l {k:IntKind}(hk:k.signed=false) (n:Nat) (h:n<2 ^ k.bits):k.wrap (n:Int)=n:=by
 unfold IntKind.wrap
 have e:((n:Int) % (2 ^ k.bits:Int))=n:=by
  have:(2 ^ k.bits:Int)=((2 ^ k.bits:Nat):Int):=by push_cast; rfl
  rw[this]
  exact Int.emod_eq_of_lt (by omega) (by exact_mod_cast h)
 simp[hk,e]
theorem c1v {k:IntKind}(hk:k.signed=false) (n:Nat):k.wrap (n:Int)=((n % 2 ^ k.bits:Nat):Int):=by
 unfold IntKind.wrap
 simp[hk]
theorem a9i (b n:Nat):BitVec.ofInt b (n:Int)=BitVec.ofNat b n:=by simp
theorem e9r {k:IntKind}(hk:k.signed=false){x y:Nat}(hx:x<2 ^ k.bits) (hy:y<2 ^ k.bits):k.wrap ((BitVec.ofInt k.bits (x:Int) ^^^ BitVec.ofInt k.bits (y:Int)).toNat:Int)=((x ^^^ y:Nat):Int):=by
 rw[a9i,a9i,BitVec.toNat_xor,BitVec.toNat_ofNat,BitVec.toNat_ofNat,Nat.mod_eq_of_lt hx,Nat.mod_eq_of_lt hy]
 exact b6l hk _ (Nat.xor_lt_two_pow hx hy)
theorem f4n {k:IntKind}(hk:k.signed=false){x y:Nat}(hx:x<2 ^ k.bits) (hy:y<2 ^ k.bits):k.wrap ((BitVec.ofInt k.bits (x:Int) &&& BitVec.ofInt k.bits (y:Int)).toNat:Int)=((x &&& y:Nat):Int):=by
 rw[a9i,a9i,BitVec.toNat_and,BitVec.toNat_ofNat,BitVec.toNat_ofNat,Nat.mod_eq_of_lt hx,Nat.mod_eq_of_lt hy]
 exact b6l hk _ (Nat.and_lt_two_pow _ hy)
theorem e2m (n m:Nat):((n:Int).fdiv (m:Int))=((n / m:Nat):Int):=by
 rw[Int.fdiv_eq_ediv_of_nonneg _ (by omega)]
 rfl
end Ev
end
section
namespace Ev
open Go
variable {T:a0k}{ρ:Operand→Option AV}{h h':a0a}{dst:Option Tmp}{ty:TypeId}{pos:String}{aft:Array Edge}{gd:Option (Nat×Bool)}{t:TypeId}{x ix a:Operand}
theorem b3u {s:List UInt8}{k:IntKind}{i:Int}(ht:T.und t=some .string) (hx:ρ x=some (.str s)) (hi:ρ ix=some (.int k i)) (j:Nat) (hj:i=j){b:UInt8}(hb:s[j]?=some b) :
  opA T ρ ⟨dst,.index t x ix,ty,pos,aft,gd⟩ h=.val (.int .u8 b.toNat) h:=by
 subst hj
 simp[opA,ht,hx,hi,a4w,hb]
theorem b3d {k:IntKind}{i:Int}{len sz b off:Nat}{elem:TypeId}(ht:T.und t=some (.array len elem)) (hsz:T.size elem=some sz) (hx:ρ x=some (.ptr b off)) (hi:ρ ix=some (.int k i)) (j:Nat) (hj:i=j) (hl:j<len) :
  opA T ρ ⟨dst,.indexAddr t x ix,ty,pos,aft,gd⟩ h=.val (.ptr b (off+j*sz)) h:=by
 subst hj
 simp[opA,ht,hx,hi,hsz,hl]
theorem b9u {b off n:Nat}{e:TypeId}{cs:List AV}{rw:Bool}{v:AV}(ha:T.agg t=some false) (hsz:T.size t=some n) (hg:h.get b=some (.cells e cs rw)) (hv:cs[off]?=some v):a3y T t h b off=some v:=by
 have hl:off<cs.length:=(List.getElem?_eq_some_iff.1 hv).1
 have hd:cut cs off 1=[v]:=by
  unfold cut
  rw[List.drop_eq_getElem_cons hl]
  have:=(List.getElem?_eq_some_iff.1 hv).2
  simp[this]
 simp[a3y,ha,hsz,a2j,hg,c4b,hd,Nat.succ_le_of_lt hl,nth]
theorem c2b {b off n:Nat}{e:TypeId}{cs:List AV}{rw:Bool}{v:AV}(hx:ρ a=some (.ptr b off)) (ha:T.agg t=some false) (hsz:T.size t=some n) (hg:h.get b=some (.cells e cs rw)) (hv:cs[off]?=some v) :
  opA T ρ ⟨dst,.load t a,ty,pos,aft,gd⟩ h=.val v h:=by
 simp[opA,hx,b9u ha hsz hg hv,rv]
theorem a6n {op:BinOp}{u:TypeId}{y:Operand}{a b v:AV}(hx:ρ x=some a) (hy:ρ y=some b) (hv:a1i T op t a b=some v) (hg:b8o T op t x y a b=true) :
  opA T ρ ⟨dst,.binOp op t x y u,ty,pos,aft,gd⟩ h=.val v h:=by
 simp[opA,hx,hy,hg,hv,rv]
theorem e1a {op:UnOp}{a v:AV}(hx:ρ x=some a) (hv:unA op a=some v):opA T ρ ⟨dst,.unOp op t x,ty,pos,aft,gd⟩ h=.val v h:=by
 simp[opA,hx,hv,rv]
theorem c3n {src:TypeId}{k k':IntKind}{n:Int}{d:TypeDesc}{z:Int}(hx:ρ x=some (.int k n)) (hs:T.und src=some d) (hd:T.und t=some (.int k')) (hz:k'.wrap n=z):opA T ρ ⟨dst,.convert src t x,ty,pos,aft,gd⟩ h=.val (.int k' z) h:=by
 subst hz
 simp[opA,hx,b4q,hs,hd]
theorem b8g {k:IntKind}{x y:Nat}(hk:k.signed=false) (hx:x<2 ^ k.bits) (hy:y<2 ^ k.bits):a1i T .xor t (.int k (x:Int)) (.int k (y:Int))=some (.int k ((x ^^^ y:Nat):Int)):=by
 simp only[a1i,if_true,a3f,e9r hk hx hy]
theorem d0p {k:IntKind}{x y:Nat}(hk:k.signed=false) (hx:x<2 ^ k.bits) (hy:y<2 ^ k.bits):a1i T .and t (.int k (x:Int)) (.int k (y:Int))=some (.int k ((x &&& y:Nat):Int)):=by
 simp only[a1i,if_true,a3f,f4n hk hx hy]
theorem b9z {k k':IntKind}{x y:Nat}(hy:y≤k.bits):a1i T .shr t (.int k (x:Int)) (.int k' (y:Int))=some (.int k ((x / 2 ^ y:Nat):Int)):=by
 have h1:¬ ((y:Int)<0):=by omega
 have h2:min ((y:Int).toNat) k.bits=y:=by simp; exact Nat.min_eq_left hy
 have h3:(2 ^ y:Int)=((2 ^ y:Nat):Int):=by push_cast; rfl
 simp only[a1i,shiftOp,if_neg h1,h2]
 rw[h3,e2m]
theorem wrap_i64 {x:Int}(h1 : -9223372036854775808≤x) (h2:x<9223372036854775808):IntKind.i64.wrap x=x:=by
 unfold IntKind.wrap
 simp only[IntKind.bits,IntKind.signed]
 simp
 omega
theorem a8b {x y z:Int}(hz:x+y=z) (h1 : -9223372036854775808≤z) (h2:z<9223372036854775808):a1i T .add t (.int .i64 x) (.int .i64 y)=some (.int .i64 z):=by
 subst hz
 simp only[a1i,if_true,a3f,wrap_i64 h1 h2]
theorem d7n {x y z:Int}(hz:x-y=z) (h1 : -9223372036854775808≤z) (h2:z<9223372036854775808):a1i T .sub t (.int .i64 x) (.int .i64 y)=some (.int .i64 z):=by
 subst hz
 simp only[a1i,if_true,a3f,wrap_i64 h1 h2]
theorem d6g {k:IntKind}{x m:Nat}(hk:k.signed=false) (hm:k.max=(m:Int)) (hm2:m<2 ^ k.bits) (hx:x<2 ^ k.bits):unA .xor (.int k (x:Int))=some (.int k ((m ^^^ x:Nat):Int)):=by
 simp only[unA,hk,hm,a3f]
 rw[← e9r hk hm2 hx]
 simp
end Ev
namespace Ev
open Go
variable {T:a0k}{ρ:Operand→Option AV}{h h':a0a}{dst:Option Tmp}{ty:TypeId}{pos:String}{aft:Array Edge}{gd:Option (Nat×Bool)}{t:TypeId}{x ix a:Operand}
theorem e4u {α:Type}(l:List α) (n:Nat) (v:α) (h:n<l.length):over l n [v]=l.set n v:=by
 unfold over
 rw[List.set_eq_take_append_cons_drop,if_pos h]
 simp
theorem b1r {α:Type}(l vs:List α) (h:l.length=vs.length):over l 0 vs=vs:=by
 unfold over
 simp[h]
theorem c2f {b off:Nat}{e:TypeId}{cs:List AV}{v:AV}(hx:ρ a=some (.ptr b off)) (hv:ρ x=some v) (hsz:T.size t=some 1) (hc:v.cells=[v]) (h1:v.one=true) (hg:h.get b=some (.cells e cs true)) (hl:off<cs.length) :
  opA T ρ ⟨dst,.store t a x,ty,pos,aft,gd⟩ h=.skip (h.set b (.cells e (cs.set off v) true)):=by
 have hl':off+1≤cs.length:=hl
 simp[opA,hx,hv,hsz,hc,a1m,hg,h1,e4u _ _ _ hl,hl']
theorem b8l {b off n:Nat}{e:TypeId}{cs vs:List AV}(hx:ρ a=some (.ptr b off)) (hv:ρ x=some (.agg vs)) (hsz:T.size t=some n) (hn:vs.length=n) (h1:vs.all AV.one=true) (hg:h.get b=some (.cells e cs true)) (hl:off+n≤cs.length) :
  opA T ρ ⟨dst,.store t a x,ty,pos,aft,gd⟩ h=.skip (h.set b (.cells e (over cs off vs) true)):=by
 simp only[List.all_eq_true] at h1
 simp[opA,hx,hv,hsz,AV.cells,hn,a1m,hg,hl]
 rw[if_pos h1]
theorem b0p {b off n:Nat}{e:TypeId}{cs:List AV}{rw:Bool}(ha:T.agg t=some true) (hsz:T.size t=some n) (hg:h.get b=some (.cells e cs rw)) (hl:off+n≤cs.length):a3y T t h b off=some (.agg ((cs.drop off).take n)):=by
 simp[a3y,ha,hsz,a2j,hg,c4b,hl,cut]
theorem c1f {b off n:Nat}{e:TypeId}{cs:List AV}{rw:Bool}(hx:ρ a=some (.ptr b off)) (ha:T.agg t=some true) (hsz:T.size t=some n) (hg:h.get b=some (.cells e cs rw)) (hl:off+n≤cs.length) :
  opA T ρ ⟨dst,.load t a,ty,pos,aft,gd⟩ h=.val (.agg ((cs.drop off).take n)) h:=by
 simp[opA,hx,b0p ha hsz hg hl,rv]
theorem e8k {cx:Cx}{k:List K}{s:St}{Q:Res→Prop}{c:K}(I:St→Prop) (rest:∀ st,I st→a3r T cx k st Q) (now:(∀ st,I st→a3r T cx k st Q)→a3r T cx (c::k) s Q):a3r T cx (c::k) s Q:=now rest
end Ev
namespace Ev
open Go
theorem c4u {T:a0k}{tm:Tr AV}{L:List (Nat×AV)}{h:a0a}{a:Tmp}{t:TypeId}{b off:Nat}{v:AV}{P:AV→a0a→Prop}(hs:a0m tm L) (ha:look L a=some (.ptr b off)) (hl:a3y T t h b off=some v) (p:P v h):Ends T [.cell a t] P (.fin .ret ⟨tm,[],none,h⟩) :=
 a3o (vs:=[v]) hs (by simp[a2c,ha,hl]) p
end Ev
namespace Ev
open Go
variable {T:a0k}{ρ:Operand→Option AV}{h h':a0a}{dst:Option Tmp}{ty:TypeId}{pos:String}{aft:Array Edge}{gd:Option (Nat×Bool)}{t:TypeId}{x ix a:Operand}
theorem b7r {k:IntKind}{i:Int}{len cap sz b off:Nat}{elem:TypeId}(ht:T.und t=some (.slice elem)) (hsz:T.size elem=some sz) (hx:ρ x=some (.slice b off len cap)) (hi:ρ ix=some (.int k i)) (j:Nat) (hj:i=j) (hl:j<len) :
  opA T ρ ⟨dst,.indexAddr t x ix,ty,pos,aft,gd⟩ h=.val (.ptr b (off+j*sz)) h:=by
 subst hj
 simp[opA,ht,hx,hi,hsz,hl]
theorem b6b {k:IntKind}{i:Int}{len sz' sz b off:Nat}{elem:TypeId}(ht:T.und t=some (.slice elem)) (hsz:T.size elem=some sz) (hx:ρ x=some (.oslice b off len sz')) (hi:ρ ix=some (.int k i)) (j:Nat) (hj:i=j) (hl:j<len) :
  opA T ρ ⟨dst,.indexAddr t x ix,ty,pos,aft,gd⟩ h=.val (.ptr b (off+j*sz)) h:=by
 subst hj
 simp[opA,ht,hx,hi,hsz,hl]
end Ev
end
section
namespace Ev
open Go
variable {T:a0k}{ρ:Operand→Option AV}{h h':a0a}{dst:Option Tmp}{ty:TypeId}{pos:String}{aft:Array Edge}{gd:Option (Nat×Bool)}{t:TypeId}{x ix a:Operand}
def Row (h:a0a) (b off m:Nat) (cs:List AV):Prop:=b<h.next∧∃ e all rw,h.get b=some (.cells e all rw)∧off+m≤all.length∧(all.drop off).take m=cs
def Sl (h:a0a) (sz:Nat) (v:AV) (n:Nat) (cs:List AV):Prop:=match v with
 |.nilslice=>n=0∧cs=[]
 |.eslice=>n=0∧cs=[]
 |.slice b off len _=>len=n∧Row h b off (n*sz) cs
 |.oslice b off len sz'=>len=n∧sz'=sz∧Row h b off (n*sz) cs
 |_=>False
theorem Row.ext {b off m:Nat}{cs:List AV}(r:Row h b off m cs) (e:Ext h h'):Row h' b off m cs :=
 ⟨Nat.lt_of_lt_of_le r.1 e.nx,by rw[e.old b r.1]; exact r.2⟩
theorem Sl.ext {sz n:Nat}{v:AV}{cs:List AV}(s:Sl h sz v n cs) (e:Ext h h'):Sl h' sz v n cs:=by
 cases v<;>simp only[Sl] at s ⊢ <;> first|exact s|exact⟨s.1,s.2.ext e⟩|exact⟨s.1,s.2.1,s.2.2.ext e⟩
theorem Row.read {b off m:Nat}{cs:List AV}(r:Row h b off m cs):a2j h b off m=some cs:=by
 obtain⟨_,e,all,rw,hg,hl,hc⟩:=r
 simp[a2j,hg,c4b,hl,cut,hc]
theorem Row.length {b off m:Nat}{cs:List AV}(r:Row h b off m cs):cs.length=m:=by
 obtain⟨_,e,all,rw,hg,hl,rfl⟩:=r
 simp; omega
theorem Row.sub {b off m:Nat}{cs:List AV}(r:Row h b off m cs) (i k:Nat) (hk:i+k≤m):Row h b (off+i) k ((cs.drop i).take k):=by
 obtain⟨hb,e,all,rw,hg,hl,rfl⟩:=r
 refine⟨hb,e,all,rw,hg,by omega,?_⟩
 rw[List.drop_take,List.drop_drop,List.take_take]
 congr 1
 omega
theorem Sl.len {sz n:Nat}{v:AV}{cs:List AV}(s:Sl h sz v n cs):a5a v=some n:=by
 cases v<;>simp only[Sl] at s<;>first|exact s.elim|simp[a5a,s.1]
theorem Sl.first {sz n:Nat}{v:AV}{cs:List AV}(s:Sl h sz v n cs):a3z sz n h v=some cs:=by
 cases v<;>simp only[Sl] at s<;>first
  |exact s.elim
  |(simp[a3z,s.1,s.2]; done)
  |exact s.2.read
  |exact s.2.2.read
theorem Sl.length {sz n:Nat}{v:AV}{cs:List AV}(s:Sl h sz v n cs):cs.length=n*sz:=by
 cases v<;>simp only[Sl] at s<;>first
  |exact s.elim
  |(simp[s.1,s.2]; done)
  |exact s.2.length
  |exact s.2.2.length
theorem Sl.at {sz n:Nat}{v:AV}{cs:List AV}(s:Sl h sz v n cs) (j:Nat) (hj:j<n):∃ b o,Row h b o sz ((cs.drop (j*sz)).take sz) ∧
  ∀ {hh:a0a} {T:a0k} {ρ:Operand→Option AV} {dst:Option Tmp} {ty:TypeId} {pos:String} {aft:Array Edge} {gd:Option (Nat×Bool)} {t elem:TypeId} {x ix:Operand} {k:IntKind} {i:Int},
   T.und t=some (.slice elem)→T.size elem=some sz→ρ x=some v→ρ ix=some (.int k i)→i=j→opA T ρ ⟨dst,.indexAddr t x ix,ty,pos,aft,gd⟩ hh=.val (.ptr b o) hh:=by
 have hb:j*sz+sz≤n*sz:=by
  have:(j+1)*sz≤n*sz:=Nat.mul_le_mul_right sz hj
  rw[Nat.succ_mul] at this; exact this
 cases v<;>simp only[Sl] at s<;>first|exact s.elim|(exfalso; omega)|skip
 ·rename_i b off len cap
  obtain⟨rfl,r⟩:=s
  exact⟨b,off+j*sz,r.sub _ _ hb,fun ht hsz hx hi hji=>b7r ht hsz hx hi j hji hj⟩
 ·rename_i b off len sz'
  obtain⟨rfl,rfl,r⟩:=s
  exact⟨b,off+j*sz',r.sub _ _ hb,fun ht hsz hx hi hji=>b6b ht hsz hx hi j hji hj⟩
theorem Row.load {b o n:Nat}{cs:List AV}(r:Row h b o n cs) (ha:T.agg t=some true) (hsz:T.size t=some n) (hx:ρ a=some (.ptr b o)):opA T ρ ⟨dst,.load t a,ty,pos,aft,gd⟩ h=.val (.agg cs) h:=by
 simp[opA,hx,a3y,ha,hsz,r.read,rv]
theorem e0j {s y:Operand}{u v:AV}{ats:Array TypeId}(hs:ρ s=some u) (hy:ρ y=some v):opA T ρ ⟨dst,.call { callee:=.builtin .append,args := #[s,y],argTypes:=ats },ty,pos,aft,gd⟩ h=a1h T [u,v] ats.toList h:=by
 simp[opA,a4d,hs,hy]
end Ev
end
section
namespace Ev
open Go Go.RowKit
variable {P:Program}{T:a0k}
theorem d1a (ok:a0v P T){W:World}(hsm:∀ f args h v h',T.sm f args h=some (v,h')→a1j P W.heap.size W (.call f args h) (.ret v h')){f:FuncId}{args:List AV}{h:a0a}(g:a0l T f args h fun v h'=>v=.bool true∧Ext h h')
  {E:En} {args':List Value} (hv:VRs E args args') (H:HR P W.heap.size W E h W):Calls P f args'.toArray W fun e w'=>e=.returned (.bool true)∧Below W.heap.size W w':=by
 intro cs
 obtain⟨r,hs,hl⟩:=g
 obtain⟨n,hn⟩:=hs.ev
 have K:=a7c (base:=W.heap.size) (w0:=W) ok hsm n (.call f args h)
 rw[hn] at K
 obtain⟨q,hq,hc⟩:=K E args' W cs hv H
 obtain⟨v',h2,rfl,rfl,he⟩:=hl.get hq
 obtain⟨E',w',v'',fr,p1,p2,p3,p4,p5,p6⟩:=hc
 cases p3
 exact⟨_,w',fr,⟨rfl,p1.wd⟩,p4,p5,p6⟩
section
open Go.ChangeShapes Go.WideShapes
variable {H:Type}{enc:TypeId×Value→H}
theorem b5z (hl:laidOutB P=true){W W':World}{sp:Nat→Bool}:∀ {ts:List TypeId}{vs:List Value}{ds:List (DataW H)}{ps:List MemPlace},(∀ t∈ts,P.readableRec t=true∧t<P.types.size) →
  DataW.TrodAll enc P W 0 (fun _=>true) true ts vs ds ps→(∀ p∈ps,W.sameAt W' p)→(∀ p∈ps,sp p.block=true)→DataW.TrodAll enc P W' 0 sp true ts vs ds ps
 |[],_,_,_,_,h,_,_=>by
  obtain⟨rfl,rfl,rfl⟩:=trodAll_nil h
  rfl
 |t::ts,_,_,_,hr,h,hs,hp=>by
  obtain⟨v,vs1,d,ds1,a,b,rfl,rfl,rfl,h1,h2⟩:=trodAll_cons h
  have r:=hr t (List.mem_cons_self ..)
  exact⟨a,b,WideElems.Trod_stays hl r.1 r.2 h1 (fun p k=>hs p (List.mem_append_left _ k)) (fun p k=>hp p (List.mem_append_left _ k)),
   b5z hl (fun t k=>hr t (List.mem_cons_of_mem _ k)) h2 (fun p k=>hs p (List.mem_append_right _ k)) (fun p k=>hp p (List.mem_append_right _ k)),rfl⟩
theorem d4g (hl:laidOutB P=true){f:Func}{s:ChangeSpec}{apart fresh handsOn again:Bool}{W W':World}{args:Array Value}{v:Value}{ds:List (DataW H)}{before:List MemPlace}
  (hr:∀ t∈f.params.toList,P.readableRec t=true∧t<P.types.size) (hvs:s.vars=[]) (hW:DataW.Whole enc P f.params.toList s.vars apart W args.toList ds [] before) (hb:Below W.heap.size W W')
  (hres:∀ (b:Nat) (sp:Nat→Bool) (hd:Bool),DataW.TrodAll enc P W' b sp hd f.resultTypes.toList (v.resultList f.resultTypes.size) (s.fn H (ds++[])).results [])
  (hargs:(s.fn H (ds++[])).args=ds) (hvars:(s.fn H (ds++[])).vars=[])
  (hok:∀ (j:Nat) (t:TypeId) (r:Value),f.resultTypes[j]?=some t→(v.resultList f.resultTypes.size)[j]?=some r→Value.okWide P W' .any 0 t r) :
  s.post enc P f apart fresh handsOn again W args v W':=by
 have hW0:=hW
 have lt:=hW.lt
 have h0:∃ p,before=p∧DataW.TrodAll enc P W 0 (fun _=>true) true f.params.toList args.toList ds p∧W.noneFrozen before∧(apart=true→before.Nodup):=by
  obtain⟨p,q,hA,hV,e,hz,hn⟩:=hW
  rw[hvs] at hV
  obtain⟨_,rfl⟩:=trodVars_none hV
  rw[List.append_nil] at e
  exact⟨p,e,hA,hz,hn⟩
 obtain⟨_,rfl,hA,hz,hn⟩:=h0
 have same:∀ p∈before,W.sameAt W' p:=fun p hp=>hb.same (lt p hp)
 have A:∀ sp:Nat→Bool,(∀ p∈before,sp p.block=true)→DataW.TrodAll enc P W' 0 sp true f.params.toList args.toList (s.fn H (ds++[])).args before:=fun sp hsp=>by
  rw[hargs]
  exact b5z hl hr hA same hsp
 have V:∀ sp:Nat→Bool,DataW.TrodVars enc P W' sp s.vars (s.fn H (ds++[])).vars []:=fun sp=>by
  rw[hvs,hvars]
  rfl
 have hold:∀ p∈before,(fun b=>decide (b<W.heap.size)) p.block=true:=fun p hp=>by simpa using lt p hp
 refine⟨ds,[],before,[],before,[],hW0,hres _ _ _,A _ hold,V _,hb.frame _,fun _=>?_⟩
 refine⟨hok,_,_,([]++before)++[],⟨[]++before,[],trodAll_append (A _ (fun _ _=>rfl)) (hres _ _ _),V _,rfl,?_,?_⟩,?_⟩
 ·intro b off hp
  have hp:MemPlace.cell b off∈before:=by simpa using hp
  rw[hb.frozen (p:=⟨b,off,none⟩) (lt _ hp)]
  exact hz b off hp
 ·intro ha
  simpa using hn ha
 ·intro p hp _
  simpa using hp
end
def En.one (a:Addr) (n:Nat):En:=⟨fun _=>a.block,fun _=>a.off,fun _=>n,fun b=>b=0⟩
theorem e8x (W:World):HR P W.heap.size W En.none ⟨.nil,0⟩ W:=HR.start W
end Ev
end
