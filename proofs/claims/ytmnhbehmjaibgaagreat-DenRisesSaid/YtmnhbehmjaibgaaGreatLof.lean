/- What the functions of this part answer at any input, told by the rules over the evaluator. Conditions: those that each theorem states. -/
import Derived.Test.YtmnhbehmjaibgaaGreatLea
set_option linter.unusedVariables false
set_option linter.unusedSimpArgs false
open Go Ev
namespace Go.Proofs.YtmnhbehmjaibgaaGreat
set_option maxRecDepth 10000
set_option maxHeartbeats 4000000
def gotI (s:List UInt8) (r:Nat) (v:AV) (e:TypeId) (h':Heap):Prop:=if okI s then v=.tuple [.agg (itOf s).cs,.int .i64 0]∧h'.get r=some (.cells e [.str (itRest s)] true) else ∃ (x:It) (k:Int),v=.tuple [.agg x.cs,.int .i64 k]∧k≠0
theorem Turned.trans {r:Nat} {h h1 h2:Heap} (a:Turned r h h1) (b:Turned r h1 h2):Turned r h h2:=⟨Nat.le_trans a.nx b.nx,fun c hc hr=>(b.old c (Nat.lt_of_lt_of_le hc a.nx) hr).trans (a.old c hc hr),fun k=>b.ok (a.ok k)⟩
theorem of1_g {q r c:Nat} {e e2:TypeId} {s:List UInt8} {h:Heap} (gc:h.get c=some (.cells e2 [.ptr r 0] true)) (g:h.get r=some (.cells e [.str s] true)) (hr:r<h.next) (hc:c<h.next) (hl:s.length<1000000):Gives (TV q) 110 [.ptr c 0] h (fun v h'=>Turned r h h'∧gotI s r v e h'):=by
 refine call_j (no_w rfl rfl) rfl rfl ?_
 refine walk ?_
 refine jo_call (item_g (s:=s) (by exact hget) (by show r<h.next+1; omega) hl) rfl rfl rfl rfl ?_
 rintro v h3 ⟨t,c3⟩
 have nx:h.next+1≤h3.next:=t.nx
 have q3:h3.get h.next=some (.cells 135 [.str [],.str [],.bool false,.int .i64 0,.int .u32 0] true):=(t.old _ (by show h.next<h.next+1; omega) (by omega)).trans (get_new _ _)
 have t4:∀ cs,Turned r h (h3.set h.next (.cells 135 cs true)):=fun cs=>⟨by show h.next≤h3.next; omega,fun c hc hcr=>by rw [Heap.gn _ _ _ _ (by omega),t.old c (by show c<h.next+1; omega) hcr,Heap.ga _ _ _ (by omega)],fun k=>ok_st (t.ok (ok_al k _)) _ _ (by omega)⟩
 by_cases oi:okI s
 ·rw [if_pos oi] at c3
  obtain ⟨rfl,gr⟩:=c3
  refine walk ?_
  refine jg_ret2 (v:=.agg (itOf s).cs) (by exact hres) ⟨t4 _,?_⟩
  unfold gotI
  rw [if_pos oi]
  exact ⟨rfl,by exact hget⟩
 ·rw [if_neg oi] at c3
  obtain ⟨x,k,rfl,hk⟩:=c3
  refine walk ?_
  refine jg_ret2 (v:=.agg x.cs) (by exact hres) ⟨t4 _,?_⟩
  unfold gotI
  rw [if_neg oi]
  exact ⟨x,k,rfl,hk⟩
def parseI:Nat→List UInt8→Option (List It)
 |0,_=>some []
 |k+1,s=>if okI s then (parseI k (itRest s)).map (itOf s :: ·) else none
theorem itRest_len {s:List UInt8} (h:okI s):(itRest s).length+3≤s.length:=by
 obtain ⟨c1,c2,c3,c4⟩:=h
 have l1:(i1 s).length+1=s.length∨1≤s.length∧(i1 s).length+1=s.length:=by
  by_cases c:1≤s.length
  ·exact .inl (restV_lt c)
  ·have:(i1 s).length≤s.length:=restV_len _ _
   omega
 have l2:(i2 s).length+1=(i1 s).length:=restV_lt c1
 have l3:(i3 s).length+numV 1 (i1 s)=(i2 s).length:=restV_lt c3
 have l4:(i4 s).length≤(i3 s).length:=restV_len _ _
 unfold itRest
 rcases c4 with ⟨c4,c5⟩|⟨c4,c5,c6⟩
 ·rw [if_pos c4]
  have:=restV_lt c5
  omega
 ·rw [if_neg c4]
  have l5:(i5 s).length+1=(i3 s).length:=restV_lt c5
  have:=restV_lt c6
  omega
theorem itOf_len (s:List UInt8):(itOf s).key.length≤255∧(itOf s).val.length≤255:=by
 have v2:=numV_lt 1 (i1 s)
 have v5:=numV_lt 1 (i3 s)
 have b2:=bytV_len (numV 1 (i1 s)) (i2 s)
 have b5:=bytV_len (numV 1 (i3 s)) (i5 s)
 unfold itOf
 split
 ·exact ⟨by show (bytV _ _).length≤255; omega,by show 0≤255; omega⟩
 ·exact ⟨by show (bytV _ _).length≤255; omega,by show (bytV _ _).length≤255; omega⟩
theorem each_g {q r c:Nat} {z:Int} {e e2:TypeId} {s:List UInt8} {h:Heap} (gc:h.get c=some (.cells e2 [.ptr r 0] true)) (g:h.get r=some (.cells e [.str s] true)) (hr:r<h.next) (hc:c<h.next) (hcr:c≠r) (hl:s.length≤100000) (hz:z<1000000000):Gives (TV q) 109 [.int .i64 z,.func (.func 110) [] [.ptr c 0]] h (fun v h'=>Turned r h h'∧match parseI z.toNat s with
  |none=>∃ k:Int,v=.tuple [.nilslice,.int .i64 k]∧k≠0
  |some l=>∃ u,v=.tuple [u,.int .i64 0]∧OwnLI h.next h' u l∧l.length≤70000∧tameI l):=by
 refine call_j (no_w rfl rfl) rfl rfl ?_
 refine walk ?_
 refine jg_loop (ι:=Nat×AV×List It×List UInt8) (fun a=>z.toNat-a.1) (fun a=>[(0,.int .i64 z),(1,.func (.func 110) [] [.ptr c 0]),(4,a.2.1),(5,.int .i64 0),(8,.int .i64 z),(9,.int .i64 (a.1:Nat))]) (fun a h2=>Turned r h h2∧h2.get r=some (.cells e [.str a.2.2.2] true)∧OwnLI h.next h2 a.2.1 a.2.2.1∧a.1=a.2.2.1.length∧3*a.1+a.2.2.2.length≤s.length∧(0<a.1→(a.1:Int)≤z)∧(∀ b∈a.2.2.1,b.key.length≤1000000∧b.val.length≤1000000)∧parseI z.toNat s=(parseI (z.toNat-a.1) a.2.2.2).map (a.2.2.1 ++ ·)) (0,.nilslice,[],s) hsub ⟨⟨Nat.le_refl _,fun _ _ _=>rfl,id⟩,by exact hget,OwnL.nil,rfl,by simp,by simp,by simp,by simp⟩ ?_
 rintro ⟨i,u,acc,s'⟩ h2 ⟨t2,g2,ow,ei,len,cnt,nms,par⟩ next
 dsimp only at g2 ow ei len cnt nms par next ⊢
 subst ei
 have n2:=t2.nx
 have gc2:h2.get c=some (.cells e2 [.ptr r 0] true):=(t2.old c hc hcr).trans gc
 by_cases hi:(acc.length:Int)<z
 ·have par':z.toNat-acc.length=(z.toNat-(acc.length+1))+1:=by omega
  rw [par'] at par
  have e0:parseI ((z.toNat-(acc.length+1))+1) s'=if okI s' then (parseI (z.toNat-(acc.length+1)) (itRest s')).map (itOf s' :: ·) else none:=rfl
  rw [e0] at par
  refine walk ?_
  refine jo_call (of1_g (s:=s') gc2 g2 (by omega) (by omega) (by omega)) rfl rfl rfl (k_dyn rfl rfl rfl rfl rfl rfl) ?_
  rintro v h3 ⟨t3,c3⟩
  have n3:=t3.nx
  have t23:=t2.trans t3
  unfold gotI at c3
  by_cases oi:okI s'
  case neg =>
   rw [if_neg oi] at c3 par
   obtain ⟨x,k,rfl,hk⟩:=c3
   rw [par]
   refine walk ?_
   exact jg_ret2 (by exact hres) ⟨⟨by show h.next≤h3.next+1; omega,fun c hc hcr=>by rw [Heap.gn _ _ _ _ (by omega),Heap.ga _ _ _ (by omega),t23.old c hc hcr],fun k'=>ok_st (ok_al (t23.ok k') _) _ _ (by show h3.next<h3.next+1; omega)⟩,k,rfl,hk⟩
  rw [if_pos oi] at c3 par
  obtain ⟨rfl,g3⟩:=c3
  have o3:OwnLI h.next h3 u acc:=Own.keep ow (fun b h1 h2'=>t3.old b h2' (by omega)) n3
  have o4:OwnLI h.next ((h3.alloc (.cells 135 [.str [],.str [],.bool false,.int .i64 0,.int .u32 0] true)).set h3.next (.cells 135 (itOf s').cs true)) u acc:=Own.keep o3 (fun b h1 h2'=>by rw [Heap.gn _ _ _ _ (by omega),Heap.ga _ _ _ (by omega)]) (by show h3.next≤h3.next+1; omega)
  obtain ⟨v7,h7,e7,o7,k7⟩:=app_row (T:=TV q) (st:=88) (rest:=[88]) (h:=((h3.alloc (.cells 135 [.str [],.str [],.bool false,.int .i64 0,.int .u32 0] true)).set h3.next (.cells 135 (itOf s').cs true)).alloc (.cells 135 (itOf s').cs true)) (x:=itOf s') (c:=h3.next+1) (o4.ext (Ext.alloc _ _)) (get_new _ _) (by show h3.next+1<h3.next+1+1; omega) (by show h.next≤h3.next+1+1; omega) (by omega) rfl rfl rfl rfl rfl (by exact Nat.le_of_ble_eq_true rfl) rfl (by decide) rfl
  have n7:h3.next+1+1≤h7.next:=k7.nx
  have rl:=itRest_len oi
  have nb:=itOf_len s'
  refine walk ?_
  have f7:∀ c,c<h.next→h7.get c=h3.get c:=fun c hc=>by rw [k7.old c hc,Heap.ga _ _ _ (by show c≠h3.next+1; omega),Heap.gn _ _ _ _ (by omega),Heap.ga _ _ _ (by omega)]
  refine next (acc.length+1,v7,acc++[itOf s'],itRest s') (by simp only; omega) (by exact hsub) ⟨⟨by omega,fun c hc hcr=>by rw [f7 c hc,t23.old c hc hcr],fun k=>k7.ok (ok_al (ok_st (ok_al (t23.ok k) _) _ _ (by show h3.next<h3.next+1; omega)) _)⟩,?_,o7,by simp,by simp only; omega,by simp only; omega,?_,?_⟩
  ·rw [f7 r hr]; exact g3
  ·simp only
   intro b' hb'
   rcases List.mem_append.1 hb' with p|p
   ·exact nms b' p
   ·obtain rfl:=List.mem_singleton.1 p
    exact ⟨by omega,by omega⟩
  ·rw [par]
   simp only [Option.map_map]
   congr 1
   funext x
   simp
 ·have e0:z.toNat-acc.length=0:=by
   rcases Nat.eq_zero_or_pos acc.length with q|q
   ·omega
   ·have:=cnt q; omega
  have e1:parseI z.toNat s=some acc:=by rw [par,e0]; simp [parseI]
  rw [e1]
  refine walk ?_
  exact jg_ret2 (by exact hres) ⟨t2,u,rfl,ow,by omega,by omega,nms⟩
noncomputable def ofI (p:Pg):Option (List It):=match parseI p.count.toNat p.body with
 |none=>none
 |some l=>if pageI (p.body.length+24) p.page p.tx l=(p,0) then some l else none
theorem leaOf_g {n:Nat} (hn:5<n) {p:Pg} {h:Heap} (hk:h.ok) (hl:p.body.length≤100000) (hc:p.count<1000000000):Gives (TV n) 70 [p.av] h (fun v h'=>Ext h h'∧match ofI p with
  |none=>v=.tuple [.nilslice,.int .i64 4]
  |some l=>∃ u,v=.tuple [u,.int .i64 0]∧OwnLI h.next h' u l∧tameI l):=by
 refine call_j (no_w rfl rfl) rfl rfl ?_
 refine walk ?_
 refine jo_call (octet_new p.body _) rfl rfl rfl rfl ?_
 rintro _ _ ⟨rfl,rfl⟩
 refine walk ?_
 refine jo_call (each_g (s:=p.body) (r:=h.next+1) (c:=h.next+2) (by exact hget) (by exact hget) (by show h.next+1<h.next+1+1+1; omega) (by show h.next+2<h.next+1+1+1; omega) (by omega) hl hc) rfl rfl rfl rfl ?_
 rintro v h3 ⟨t,c3⟩
 have n3:h.next+1+1+1≤h3.next:=t.nx
 have x3:Ext h h3:=⟨by omega,fun c hc=>by rw [t.old c (by show c<h.next+1+1+1; omega) (by omega)]; show Heap.get (Heap.set (Heap.alloc (Heap.alloc (Heap.alloc h _) _) _) _ _) c=h.get c; rw [Heap.gn _ _ _ _ (by show c≠h.next+1+1; omega),Heap.ga _ _ _ (by show c≠h.next+1+1; omega),Heap.ga _ _ _ (by show c≠h.next+1; omega),Heap.ga _ _ _ (by omega)],fun k=>t.ok (ok_st (ok_al (ok_al (ok_al k _) _) _) _ _ (by show h.next+1+1<h.next+1+1+1; omega))⟩
 have q0:h3.get h.next=some (.cells 52 p.cs true):=by
  rw [t.old h.next (by show h.next<h.next+1+1+1; omega) (by omega)]
  exact hget
 have ok3:=x3.ok hk
 clear t
 cases par:parseI p.count.toNat p.body with
 |none =>
  rw [par] at c3
  have key:ofI p=none:=by unfold ofI; rw [par]
  obtain ⟨k,rfl,hk'⟩:=c3
  rw [key]
  refine walk ?_
  exact jg_ret2 (by exact hres) ⟨by exact hext,rfl⟩
 |some l =>
  rw [par] at c3
  obtain ⟨u,rfl,ls,hl',tm⟩:=c3
  have key:ofI p=if pageI ((p.body.length:Int)+24) p.page p.tx l=(p,0) then some l else none:=by unfold ofI; rw [par]
  have w1:=leaPage_w (n:=n) (by omega) (z:=(p.body.length:Int)+24) (p:=p.page) (tx:=p.tx) (h:=h3) ls.ls ok3 tm
  refine walk ?_
  refine jo_w w1 rfl rfl rfl rfl ?_
  generalize pageI ((p.body.length:Int)+24) p.page p.tx l=r at key ⊢
  obtain ⟨r1,r2⟩:=r
  by_cases c1:r2=0
  case neg =>
   rw [key,if_neg fun e=>c1 (congrArg Prod.snd e)]
   refine walk ?_
   exact jg_ret2 (by exact hres) ⟨by exact hext,rfl⟩
  subst c1
  refine walk ?_
  refine jo_val rfl rfl rfl (k_bin rfl rfl rfl (bin_ne (page_eqv r1 p) rfl) rfl) ?_
  by_cases c2:r1=p
  ·rw [key,if_pos (by rw [c2])]
   refine walk ?_
   exact jg_ret2 (by exact hres) ⟨by exact hext,u,rfl,Own.lo (Own.ext ls (by exact hext)) (by show h.next≤h.next+1+1+1; omega),tm⟩
  ·rw [key,if_neg fun e=>c2 (congrArg Prod.fst e)]
   refine walk ?_
   exact jg_ret2 (by exact hres) ⟨by exact hext,rfl⟩
end Go.Proofs.YtmnhbehmjaibgaaGreat
