/- What the functions of this part answer at any input, told by the rules over the evaluator. Conditions: those that each theorem states. -/
import Derived.Test.YthdlebegkhnbiaaGreatGao
import Derived.Test.YthdlebegkhnbiaaGreatDns
set_option linter.unusedVariables false
set_option linter.unusedSimpArgs false
open Go Ev
namespace Go.Proofs.YthdlebegkhnbiaaGreat
set_option maxRecDepth 10000
set_option maxHeartbeats 4000000
structure RdW (z:Int) (img:List UInt8) (R:Nat) (S Su Sw:Nat→Prop) (u w:AV) (s:Rs) (bad:Bool) (h:Heap):Prop where
 g:h.get R=some (.cells 61 [.int .i64 z,.str img,u,.int .i64 s.deep,.bool bad,w] true)
 rl:R<h.next
 nR:¬ S R
 low:∀ c,S c→c<h.next
 su:∀ c,Su c→S c
 sw:∀ c,Sw c→S c
 dis:∀ c,Su c→¬ Sw c
 ou:OwnLS u32c 22 1 Su h u s.pg
 ow:OwnLS Pr.cs 136 2 Sw h w s.out
def RdI (z:Int) (img:List UInt8) (R:Nat) (S:Nat→Prop) (s:Rs) (bad:Bool) (h:Heap):Prop:=∃ Su Sw u w,RdW z img R S Su Sw u w s bad h
theorem RdW.keep {z:Int} {img:List UInt8} {R:Nat} {S Su Sw:Nat→Prop} {u w:AV} {s:Rs} {bad:Bool} {h h':Heap} (i:RdW z img R S Su Sw u w s bad h) (nx:h.next≤h'.next) (k:∀ c,c=R∨S c→h'.get c=h.get c):RdW z img R S Su Sw u w s bad h' :=
 ⟨(k _ (.inl rfl)).trans i.g,Nat.lt_of_lt_of_le i.rl nx,i.nR,fun c q=>Nat.lt_of_lt_of_le (i.low c q) nx,i.su,i.sw,i.dis,i.ou.keep (fun c q _=>k c (.inr (i.su c q))) nx,i.ow.keep (fun c q _=>k c (.inr (i.sw c q))) nx⟩
theorem RdI.ext {z:Int} {img:List UInt8} {R:Nat} {S:Nat→Prop} {s:Rs} {bad:Bool} {h h':Heap} (i:RdI z img R S s bad h) (x:Ext h h'):RdI z img R S s bad h':=by
 obtain ⟨Su,Sw,u,w,i⟩:=i
 exact ⟨Su,Sw,u,w,i.keep x.nx fun c q=>x.old c (by rcases q with rfl|q; exact i.rl; exact i.low c q)⟩
structure RdT (R:Nat) (S S':Nat→Prop) (h h':Heap):Prop where
 nx:h.next≤h'.next
 old:∀ c,c<h.next→c≠R→¬ S c→h'.get c=h.get c
 ok:h.ok→h'.ok
 grow:∀ c,S' c→S c∨h.next≤c
theorem RdT.refl {R:Nat} {S:Nat→Prop} (h:Heap):RdT R S S h h:=⟨Nat.le_refl _,fun _ _ _ _=>rfl,fun k=>k,fun c q=>.inl q⟩
theorem RdT.trans {R:Nat} {S S1 S2:Nat→Prop} {h h1 h2:Heap} (a:RdT R S S1 h h1) (b:RdT R S1 S2 h1 h2):RdT R S S2 h h2:=by
 have n1:=a.nx
 refine ⟨Nat.le_trans a.nx b.nx,fun c hc hr hs=>?_,fun k=>b.ok (a.ok k),fun c q=>?_⟩
 ·refine (b.old c (by omega) hr fun q=>?_).trans (a.old c hc hr hs)
  rcases a.grow c q with q|q
  ·exact hs q
  ·omega
 ·rcases b.grow c q with q|q
  ·exact a.grow c q
  ·exact .inr (by omega)
theorem RdT.ext {R:Nat} {S:Nat→Prop} {h h':Heap} (x:Ext h h'):RdT R S S h h':=⟨x.nx,fun c hc _ _=>x.old c hc,x.ok,fun c q=>.inl q⟩
theorem RdT.Ls {α:Type} {enc:α→List AV} {sz:Nat} {R:Nat} {S S' S0:Nat→Prop} {h h':Heap} {v:AV} {l:List α} {e:TypeId} (t:RdT R S S' h h') (o:OwnLS enc e sz S0 h v l) (d:∀ c,S0 c→c≠R∧¬ S c):OwnLS enc e sz S0 h' v l:=o.keep (fun c q hl=>t.old c hl (d c q).1 (d c q).2) t.nx
theorem RdW.put {z:Int} {img:List UInt8} {R:Nat} {S Su Sw:Nat→Prop} {u w:AV} {s:Rs} {bad:Bool} {h:Heap} (i:RdW z img R S Su Sw u w s bad h) (d:Nat) (b:Bool):RdW z img R S Su Sw u w ⟨s.pg,d,s.out⟩ b (h.set R (.cells 61 [.int .i64 z,.str img,u,.int .i64 d,.bool b,w] true)) :=
 ⟨Heap.gs _ _ _,i.rl,i.nR,i.low,i.su,i.sw,i.dis,i.ou.keep (fun c q _=>Heap.gn _ _ _ _ (fun e=>i.nR (e ▸ i.su c q))) (Nat.le_refl _),i.ow.keep (fun c q _=>Heap.gn _ _ _ _ (fun e=>i.nR (e ▸ i.sw c q))) (Nat.le_refl _)⟩
theorem RdT.put {R:Nat} {S:Nat→Prop} {h:Heap} (rl:R<h.next) (o:AObj):RdT R S S h (h.set R o):=⟨Nat.le_refl _,fun c _ hr _=>Heap.gn _ _ _ _ hr,fun k=>ok_st k _ _ rl,fun c q=>.inl q⟩
theorem rcome_g {n:Nat} {z:Int} {img:List UInt8} {R:Nat} {S:Nat→Prop} {s:Rs} {bad:Bool} {m:Nat} {h:Heap} (hk:h.ok) (i:RdI z img R S s bad h) (hl:s.pg.length≤100000):Gives (TV n) 19 [.ptr R 0,.int .u32 m] h (fun v h'=>v=.tuple []∧∃ S',RdI z img R S' ⟨s.pg++[m],s.deep,s.out⟩ (bad||decide (m∈s.pg)) h'∧RdT R S S' h h'):=by
 obtain ⟨Su,Sw,u,w,i⟩:=i
 refine call_j (no_w rfl rfl) rfl rfl ?_
 have lu:=i.ou.ls.len
 have nu:=i.ou.ls.ns
 refine walk ?_
 refine jg_loop (ι:=Nat) (fun j=>s.pg.length-j) (fun j=>[(0,.ptr R 0),(1,.int .u32 m),(4,.int .i64 (j:Nat))]) (fun j h2=>j≤s.pg.length∧h2.ok∧RdT R S S h h2∧RdW z img R S Su Sw u w s (bad||decide (m∈s.pg.take j)) h2) 0 hsub ⟨Nat.zero_le _,hk,.refl h,by simpa using i⟩ ?_
 rintro j h2 ⟨hj,k2,t2,i2⟩ next
 have g2:=i2.g
 have rl2:=i2.rl
 by_cases c:j<s.pg.length
 ·obtain ⟨y,hy⟩:∃ y,s.pg[j]?=some y:=⟨s.pg[j],List.getElem?_eq_getElem c⟩
  obtain ⟨B,q,e',all,rw',hb',hg,hpl,he,a1⟩:=i2.ou.ls.at u32c_len hy
  have he:(all.drop q).take 1=[.int .u32 y]:=he
  have et:s.pg.take (j+1)=s.pg.take j++[y]:=by rw [List.take_add_one,hy]; rfl
  by_cases d:(y:Int)=(m:Int)
  ·have e2:(bad||decide (m∈s.pg.take (j+1)))=true:=by
    rw [et,decide_eq_true (by rw [List.mem_append]; exact .inr (by simp; omega)),Bool.or_true]
   have ip:=i2.put s.deep true
   refine walk ?_
   exact next (j+1) (by omega) (by exact hsub) ⟨by omega,ok_st k2 _ _ rl2,t2.trans (.put rl2 _),by rw [e2]; exact ip⟩
  ·have e2:(bad||decide (m∈s.pg.take (j+1)))=(bad||decide (m∈s.pg.take j)):=by
    rw [et]
    congr 1
    rw [decide_eq_decide,List.mem_append]
    constructor
    ·rintro (q|q)
     ·exact q
     ·simp at q; omega
    ·exact .inl
   refine walk ?_
   exact next (j+1) (by omega) hsub ⟨by omega,k2,t2,by rw [e2]; exact i2⟩
 have ej:s.pg.take j=s.pg:=List.take_of_length_le (by omega)
 rw [ej] at i2 g2
 obtain ⟨v7,h7,e7,o7,t7⟩:=app_row_s (T:=TV n) (st:=36) (rest:=[36]) (h:=h2.alloc (.cells 22 (u32c m) true)) (x:=m) (i2.ou.keep (h':=h2.alloc (.cells 22 (u32c m) true)) (fun c _ hl=>Heap.ga _ _ _ (by omega)) (Nat.le_succ _)) (get_new _ _) (by show h2.next<h2.next+1; omega) (by omega) rfl rfl rfl rfl rfl (by exact Nat.le_of_ble_eq_true rfl) rfl (by decide) rfl
 have n7:h2.next+1≤h7.next:=t7.nx
 obtain ⟨vc7,vo7⟩:=OwnS.one o7
 have e7:appendA (TV n) [u,.slice h2.next 0 1 1] [36,36] (h2.alloc (.cells 22 [.int .u32 m] true))=.val v7 h7:=e7
 have y7:∀ c,c<h2.next→¬ Su c→h7.get c=h2.get c:=fun c hc hs=>(t7.old c (by show c<h2.next+1; omega) hs).trans (Heap.ga _ _ _ (by omega))
 have g7:h7.get R=some (.cells 61 [.int .i64 z,.str img,u,.int .i64 s.deep,.bool (bad||decide (m∈s.pg)),w] true):=(y7 R rl2 (fun q=>i2.nR (i2.su _ q))).trans g2
 have k7:h7.ok:=t7.ok (ok_al k2 _)
 have nn:(h7.set R (.cells 61 [.int .i64 z,.str img,v7,.int .i64 s.deep,.bool (bad||decide (m∈s.pg)),w] true)).next=h7.next:=rfl
 refine walk ?_
 refine jg_nil fun tm hs=>ends_normal hs rfl ⟨rfl,fun c=>S c∨(h2.next+1≤c∧c<h7.next),⟨fun c=>(Su c∨h2.next+1≤c)∧c<h7.next,Sw,v7,w,?_⟩,?_⟩
 ·refine ⟨Heap.gs _ _ _,by show R<h7.next; omega,?_,?_,?_,fun c q=>.inl (i2.sw c q),?_,?_,?_⟩
  ·rintro (q|q)
   ·exact i2.nR q
   ·omega
  ·rintro c (q|q)
   ·show c<h7.next; have:=i2.low c q; omega
   ·exact q.2
  ·rintro c ⟨q|q,r⟩
   ·exact .inl (i2.su c q)
   ·exact .inr ⟨q,r⟩
  ·rintro c ⟨q|q,r⟩ p
   ·exact i2.dis c q p
   ·have:=i2.low c (i2.sw c p); omega
  ·refine OwnS.mono (OwnS.keep o7 (fun c q hl=>Heap.gn _ _ _ _ fun e=>?_) (Nat.le_refl _)) fun c q r=>⟨q,r⟩
   subst e
   rcases q with q|q
   ·exact i2.nR (i2.su _ q)
   ·have q:h2.next+1≤c:=q; omega
  ·exact i2.ow.keep (fun c q hl=>(Heap.gn _ _ _ _ (show c≠R from fun e=>i2.nR (by rw [← e]; exact i2.sw c q))).trans (y7 c hl fun p=>i2.dis c p q)) (by show h2.next≤h7.next; omega)
 ·refine t2.trans ⟨by show h2.next≤h7.next; omega,fun c hc hr hs=>(Heap.gn _ _ _ _ hr).trans (y7 c hc fun q=>hs (i2.su c q)),fun _=>ok_st k7 _ _ (by omega),fun c q=>?_⟩
  rcases q with q|q
  ·exact .inl q
  ·exact .inr (by omega)
end Go.Proofs.YthdlebegkhnbiaaGreat
