/- What the functions of this part answer at any input, told by the rules over the evaluator. Conditions: those that each theorem states. -/
import Derived.Test.YtmnhbehmjaibgaaGreatDnb
import Derived.Test.YtmnhbehmjaibgaaGreatDea
set_option linter.unusedVariables false
set_option linter.unusedSimpArgs false
open Go Ev
namespace Go.Proofs.YtmnhbehmjaibgaaGreat
set_option maxRecDepth 10000
set_option maxHeartbeats 4000000
theorem take_ext {α:Type}{l r:List α}{i:Nat}{x y:α}(hx:l[i]?=some x) (hy:r[i]?=some y) (e:l.take i=r.take i) (q:x=y):l.take (i+1)=r.take (i+1):=by
 rw[List.take_add_one,List.take_add_one,hx,hy,e,q]
theorem ne_at {α:Type}{l r:List α}{i:Nat}{x y:α}(hx:l[i]?=some x) (hy:r[i]?=some y) (q:x≠y):l≠r:=fun e=>by
 rw[e,hy] at hx
 exact q (Option.some.inj hx).symm
theorem all_take {α:Type}{l r:List α}(hl:l.length=r.length){i:Nat}(hi:l.length≤i) (e:l.take i=r.take i):l=r:=by
 rwa [List.take_of_length_le hi,List.take_of_length_le (by omega)] at e
theorem equal_g {n:Nat}{h:Heap}{u v:AV}{l r:List Pr}(hk:h.ok) (lu:Ls Pr.cs 2 h u l) (lv:Ls Pr.cs 2 h v r) (hl:l.length≤1000000) (hr:r.length≤1000000):Gives (TV n) 54 [u,v] h (fun w h'=>w=.bool (decide (l=r))∧Ext h h'):=by
 refine call_j (no_w rfl rfl) rfl rfl ?_
 have e1:=lu.len
 have e2:=lv.len
 have n1:=lu.ns
 have n2:=lv.ns
 by_cases c0:(l.length:Int)=(r.length:Int)
 case neg =>
  rw[decide_eq_false (fun e=>c0 (by rw[e]))]
  refine walk ?_
  exact jg_ret1 (by exact hres) ⟨rfl,by exact hext⟩
 refine walk ?_
 refine jg_loop (ι:=Nat) (fun i=>l.length-i) (fun i=>[(0,u),(1,v),(12,.int .i64 (l.length:Nat)),(13,.int .i64 (i:Nat))]) (fun i h2=>i≤l.length∧Ext h h2∧l.take i=r.take i) 0 (by exact hsub) ⟨Nat.zero_le _,by exact hext,rfl⟩ ?_
 rintro i h2 ⟨hi,x2,st⟩ next
 have k2:=x2.ok hk
 by_cases c:i<l.length
 case neg =>
  have e:l=r:=all_take (by omega) (by omega) st
  rw[decide_eq_true e]
  refine walk ?_
  exact jg_ret1 (by exact hres) ⟨rfl,by exact hext⟩
 obtain⟨x,hx⟩:∃ y,l[i]?=some y:=⟨_,List.getElem?_eq_getElem c⟩
 obtain⟨y,hy⟩:∃ y,r[i]?=some y:=⟨_,List.getElem?_eq_getElem (by omega)⟩
 obtain⟨B,p,e,all,rw',hb,hg,hpl,he,a1⟩:=(lu.ext x2).at Pr.csl hx
 obtain⟨B2,p2,e2',all2,rw2,hb2,hg2,hpl2,he2,a2⟩:=(lv.ext x2).at Pr.csl hy
 refine walk ?_
 refine jg_drawn (q:=9) (ms:=[0,0,3,7,0,0,48,112,255]) (hl:=[[17,20,21,22,23],[16,20,21,22,23],[20,21,22,23],[20,21,22,23],[16,17,18,19,21],[16,17,18,19,20],[16,17,18,19],[16,17,18,19],[]]) hok rfl (by kernel_rfl) (by kernel_rfl) rfl ?_
 refine walk ?_
 refine jd_val rfl rfl rfl rfl (k_bin rfl rfl rfl (bin_ne (pr_eqv x y) rfl) rfl) ?_
 by_cases d:x=y
 ·rw[show decide (¬ x=y)=false from decide_eq_false (fun c=>c d)]
  refine walk ?_
  exact next (i+1) (by omega) (by exact hsub) ⟨by omega,by exact hext,take_ext hx hy st d⟩
 ·rw[show decide (¬ x=y)=true from decide_eq_true d,decide_eq_false (ne_at hx hy d)]
  refine walk ?_
  exact jg_ret1 (by exact hres) ⟨rfl,by exact hext⟩
theorem same1_g {n:Nat}{h:Heap}{a b:List UInt8}{u v:AV}{l r:List Pr}(hk:h.ok) (lu:Ls Pr.cs 2 h u l) (lv:Ls Pr.cs 2 h v r) (hl:l.length≤1000000) (hr:r.length≤1000000):Gives (TV n) 53 [.agg [.str a,u],.agg [.str b,v]] h (fun w h'=>w=.bool (decide ((a,l)=(b,r)))∧Ext h h'):=by
 refine call_j (no_w rfl rfl) rfl rfl ?_
 have uo:=Sl.one lu
 have uc:=Sl.cells lu
 have vo:=Sl.one lv
 have vc:=Sl.cells lv
 by_cases c:a=b
 case neg =>
  rw[decide_eq_false (fun e=>c (congrArg Prod.fst e))]
  refine walk ?_
  exact jg_ret1 (by exact hres) ⟨rfl,by exact hext⟩
 have x2:Ext h ((h.alloc (.cells 35 [.str a,u] true)).alloc (.cells 35 [.str b,v] true)):=(Ext.alloc _ _).trans (.alloc _ _)
 refine walk ?_
 refine jo_call (equal_g (n:=n) (x2.ok hk) (lu.ext x2) (lv.ext x2) hl hr) rfl rfl rfl rfl ?_
 rintro _ h3 ⟨rfl,x3⟩
 rw[show decide ((a,l)=(b,r))=decide (l=r) by rw[decide_eq_decide]; simp[c]]
 refine walk ?_
 exact jg_ret1 (by exact hres) ⟨rfl,x2.trans x3⟩
theorem eqf_g {n:Nat}{h:Heap}{u v:AV}{bs cs:List (List UInt8×List Pr)}(hk:h.ok) (du:DenL h u bs) (dv:DenL h v cs) (hb:bs.length≤1000000) (hc:cs.length≤1000000) (pb:∀ b∈bs,b.2.length≤1000000) (pc:∀ b∈cs,b.2.length≤1000000):Gives (TV n) 52 [u,v,.func (.func 53) [] []] h (fun w h'=>w=.bool (decide (bs=cs))∧Ext h h'):=by
 obtain⟨lu,du1,du2,du3⟩:=du
 obtain⟨lv,dv1,dv2,dv3⟩:=dv
 refine call_j (no_w rfl rfl) rfl rfl ?_
 have e1:=du1.len
 have e2:=dv1.len
 have n1:=du1.ns
 have n2:=dv1.ns
 rw[du2] at e1
 rw[dv2] at e2
 by_cases c0:(bs.length:Int)=(cs.length:Int)
 case neg =>
  rw[decide_eq_false (fun e=>c0 (by rw[e]))]
  refine walk ?_
  exact jg_ret1 (by exact hres) ⟨rfl,by exact hext⟩
 refine walk ?_
 refine jg_loop (ι:=Nat) (fun i=>bs.length-i) (fun i=>[(1,v),(2,.func (.func 53) [] []),(15,u),(16,.int .i64 (bs.length:Nat)),(17,.int .i64 (i:Nat))]) (fun i h2=>i≤bs.length∧Ext h h2∧bs.take i=cs.take i) 0 (by exact hsub) ⟨Nat.zero_le _,by exact hext,rfl⟩ ?_
 rintro i h2 ⟨hi,x2,st⟩ next
 have k2:=x2.ok hk
 by_cases c:i<bs.length
 case neg =>
  have e:bs=cs:=all_take (by omega) (by omega) st
  rw[decide_eq_true e]
  refine walk ?_
  exact jg_ret1 (by exact hres) ⟨rfl,by exact hext⟩
 obtain⟨y,hy⟩:∃ y,lu[i]?=some y:=⟨_,List.getElem?_eq_getElem (by omega)⟩
 obtain⟨y',hy'⟩:∃ y',lv[i]?=some y':=⟨_,List.getElem?_eq_getElem (by omega)⟩
 obtain⟨b,hb0⟩:∃ b,bs[i]?=some b:=⟨_,List.getElem?_eq_getElem c⟩
 obtain⟨b',hb0'⟩:∃ b,cs[i]?=some b:=⟨_,List.getElem?_eq_getElem (by omega)⟩
 obtain⟨q1,q2⟩:=du3 i y b hy hb0
 obtain⟨q1',q2'⟩:=dv3 i y' b' hy' hb0'
 obtain⟨B,p,e,all,rw',hbB,hg,hpl,he,a1⟩:=(du1.ext x2).at Nm.len hy
 have he:(all.drop p).take 2=[.str y.1,y.2]:=he
 have yo:=Sl.one q2
 have yc:=Sl.cells q2
 have yo':=Sl.one q2'
 have yc':=Sl.cells q2'
 refine walk ?_
 refine jo_skip rfl rfl (k_storeN (n:=2) (cs:=[.str [],.nilslice]) (vs:=[.str y.1,y.2]) rfl rfl rfl rfl rfl (by simp[yo]; rfl) (get_new _ _) (by decide)) ?_
 refine OJ.gen [(1,v),(2,.func (.func 53) [] []),(7,.int .i64 (i:Nat)),(8,.ptr h2.next 0),(15,u),(16,.int .i64 (bs.length:Nat)),(17,.int .i64 (i:Nat))] (fun g=>Ext h2 g∧h2.next<g.next∧g.get h2.next=some (.cells 35 [.str y.1,y.2] true)) (by exact hsub) ⟨by exact hext,Nat.lt_succ_self _,Heap.gs _ _ _⟩ ?_
 clear a1 hbB hg hpl he
 rintro g ⟨xg,lg,gg⟩
 have x2g:=x2.trans xg
 have kg:=x2g.ok hk
 obtain⟨B2,p2,e2',all2,rw2,hb2,hg2,hpl2,he2,a2⟩:=(dv1.ext x2g).at Nm.len hy'
 have he2:(all2.drop p2).take 2=[.str y'.1,y'.2]:=he2
 refine walk ?_
 refine jo_skip rfl rfl (k_storeN (n:=2) (cs:=[.str [],.nilslice]) (vs:=[.str y'.1,y'.2]) rfl rfl rfl rfl rfl (by simp[yo']; rfl) (get_new _ _) (by decide)) ?_
 refine OJ.gen [(1,v),(2,.func (.func 53) [] []),(7,.int .i64 (i:Nat)),(8,.ptr h2.next 0),(9,.ptr g.next 0),(15,u),(16,.int .i64 (bs.length:Nat)),(17,.int .i64 (i:Nat))] (fun f=>Ext g f∧f.get g.next=some (.cells 35 [.str y'.1,y'.2] true)) (by exact hsub) ⟨by exact hext,Heap.gs _ _ _⟩ ?_
 clear a2 hb2 hg2 hpl2 he2
 rintro f ⟨xf,gf⟩
 have x2f:=x2g.trans xf
 have kf:=x2f.ok hk
 have gg2:=(xf.old _ lg).trans gg
 refine walk ?_
 refine jo_call (same1_g (n:=n) kf (q2.ext x2f) (q2'.ext x2f) (pb b (List.mem_of_getElem? hb0)) (pc b' (List.mem_of_getElem? hb0'))) rfl rfl rfl (k_dyn rfl rfl rfl rfl rfl rfl) ?_
 rintro _ h3 ⟨rfl,x3⟩
 have eb:((y.1,b.2)=(y'.1,b'.2))↔b=b':=by rw[q1,q1']
 by_cases d:b=b'
 ·rw[decide_eq_true (eb.2 d)]
  refine walk ?_
  exact next (i+1) (by omega) (by exact hsub) ⟨by omega,x2f.trans x3,take_ext hb0 hb0' st d⟩
 ·rw[decide_eq_false (fun q=>d (eb.1 q)),decide_eq_false (ne_at hb0 hb0' d)]
  refine walk ?_
  exact jg_ret1 (by exact hres) ⟨rfl,x2f.trans x3⟩
theorem dsame_w {n:Nat}(hn:0<n){h:Heap}{u v:AV}{bs cs:List (List UInt8×List Pr)}(hk:h.ok) (du:DenL h u bs) (dv:DenL h v cs) (hb:bs.length≤1000000) (hc:cs.length≤1000000) (pb:∀ b∈bs,b.2.length≤1000000) (pc:∀ b∈cs,b.2.length≤1000000):(TV n).sm 27 [.agg [u],.agg [v]] h=some (.bool (decide (bs=cs)),h):=by
 refine w_in hn (fun h=>DenL h u bs∧DenL h v cs∧h.ok) rfl rfl ⟨du,dv,hk⟩ (fun hp=>⟨du.any (by simp[AV.plains,AV.plain] at hp; exact hp.1),dv.any (by simp[AV.plains,AV.plain] at hp; exact hp.2),ok_nil⟩) ?_
 clear du dv hk h
 rintro n hn h ⟨du,dv,hk⟩
 have uc:u.cells=[u]∧u.one=true:=by
  obtain⟨l,a,_⟩:=du
  exact⟨Sl.cells a,Sl.one a⟩
 have vc:v.cells=[v]∧v.one=true:=by
  obtain⟨l,a,_⟩:=dv
  exact⟨Sl.cells a,Sl.one a⟩
 obtain⟨uc,uo⟩:=uc
 obtain⟨vc,vo⟩:=vc
 refine body_j rfl rfl ?_
 have x2:Ext h ((h.alloc (.cells 27 [u] true)).alloc (.cells 27 [v] true)):=(Ext.alloc _ _).trans (.alloc _ _)
 refine walk ?_
 refine jo_call (eqf_g (n:=n) (x2.ok hk) (du.ext x2) (dv.ext x2) hb hc pb pc) rfl rfl rfl rfl ?_
 rintro _ h3 ⟨rfl,x3⟩
 refine walk ?_
 exact jg_ret1 (by exact hres) ⟨rfl,x2.trans x3⟩
set_option maxRecDepth 10000
set_option maxHeartbeats 4000000
abbrev Dn:=List (List UInt8×List Pr)
def hitL (nm key:List UInt8) (l:List (List UInt8×Pr)):Option (List UInt8):=(l.find? (hitD nm key)).map (·.2.val)
theorem hitL_snoc {nm key:List UInt8}{l:List (List UInt8×Pr)}{x:List UInt8×Pr}:hitL nm key (l++[x])=if(hitL nm key l).isSome then hitL nm key l else if hitD nm key x then some x.2.val else none:=by
 unfold hitL
 rw[List.find?_append]
 cases e:l.find? (hitD nm key) with
 |some y=>simp
 |none =>
  by_cases c:hitD nm key x=true
  ·simp[c]
  ·simp[c]
theorem getV_eq (r:Option (List UInt8)):getV r=.tuple [.str (r.getD []),.bool r.isSome]:=by cases r<;>rfl
structure Pos (bs:Dn) (i k:Nat) (acc:List (List UInt8×Pr)):Prop where
 hi:i≤bs.length
 hk:k≤(bs.getD i ([],[])).2.length
 eq:acc=allD (bs.take i)++((bs.getD i ([],[])).2.take k).map ((bs.getD i ([],[])).1,·)
section
variable {bs:Dn}{i k:Nat}{acc:List (List UInt8×Pr)}{b:List UInt8×List Pr}{x:List UInt8×Pr}{p:Pr}
theorem getD_some (hb:bs[i]?=some b):bs.getD i ([],[])=b:=by rw[List.getD_eq_getElem?_getD,hb]; rfl
theorem Pos.le (q:Pos bs i k acc) (hb:bs[i]?=some b):k≤b.2.length:=by
 have:=q.hk
 rwa [getD_some hb] at this
theorem Pos.skip (q:Pos bs i k acc) (hb:bs[i]?=some b) (h:b.2.length≤k):Pos bs (i+1) 0 acc:=by
 have hk:=q.le hb
 have e:=q.eq
 rw[getD_some hb,List.take_of_length_le (l:=b.2) (by omega)] at e
 have hi:=(List.getElem?_eq_some_iff.1 hb).1
 refine⟨hi,Nat.zero_le _,?_⟩
 rw[List.take_add_one,hb,e,List.take_zero]
 exact(allD_snoc _ _).symm.trans (List.append_nil _).symm
theorem Pos.next (q:Pos bs i k acc) (hb:bs[i]?=some b) (hp:b.2[k]?=some p):Pos bs i (k+1) (acc++[(b.1,p)]):=by
 have e:=q.eq
 rw[getD_some hb] at e
 have hk:=(List.getElem?_eq_some_iff.1 hp).1
 refine⟨q.hi,by rw[getD_some hb]; omega,?_⟩
 rw[getD_some hb,List.take_add_one,hp,e,List.map_append,List.append_assoc]
 rfl
theorem Pos.at_ (q:Pos bs i k acc) (hb:bs[i]?=some b) (h:k<b.2.length) (pre:(acc++[x]) <+: allD bs):∃ p,b.2[k]?=some p∧x=(b.1,p):=by
 obtain⟨p,hp⟩:∃ p,b.2[k]?=some p:=⟨_,List.getElem?_eq_getElem h⟩
 refine⟨p,hp,?_⟩
 have e:=(q.next hb hp).eq
 rw[getD_some hb] at e
 have pre2:=allD_pre hb (k+1)
 rw[← e] at pre2
 have e2:=(List.prefix_of_prefix_length_le pre pre2 (by simp)).eq_of_length (by simp)
 simpa using e2
theorem Pos.full (q:Pos bs i k acc) (h:bs.length≤i):acc=allD bs:=by
 have e:=q.eq
 have:bs.getD i ([],[])=([],[]):=by rw[List.getD_eq_getElem?_getD,List.getElem?_eq_none h]; rfl
 rw[this,List.take_of_length_le h] at e
 simpa using e
theorem Pos.more (q:Pos bs i k acc) (pre:(acc++[x]) <+: allD bs):i<bs.length:=by
 apply Nat.lt_of_not_le
 intro h
 have:=pre.length_le
 rw[q.full h] at this
 simp at this
 omega
theorem Pos.done (q:Pos bs i k (allD bs)) (hb:bs[i]?=some b):b.2.length≤k:=by
 apply Nat.le_of_not_lt
 intro h
 obtain⟨p,hp⟩:∃ p,b.2[k]?=some p:=⟨_,List.getElem?_eq_getElem h⟩
 have e:=(q.next hb hp).eq
 rw[getD_some hb] at e
 have:=(allD_pre hb (k+1)).length_le
 rw[← e] at this
 simp at this
 omega
end
theorem allD_len (bs:Dn):(allD bs).length=(bs.map (·.2.length)).sum:=by
 induction bs with
 |nil=>rfl
 |cons b bs ih =>
  show(allD ([b]++bs)).length=_
  unfold allD at ih ⊢
  rw[List.flatMap_append,List.length_append,ih]
  simp
theorem allD_flt (P:List UInt8×List Pr→Bool) (bs:Dn):(allD (bs.filter P)).length≤(allD bs).length:=by
 rw[allD_len,allD_len]
 induction bs with
 |nil=>simp
 |cons b bs ih =>
  cases c:P b
  ·rw[List.filter_cons_of_neg (by simp[c])]
   simp only[List.map_cons,List.sum_cons]
   omega
  ·rw[List.filter_cons_of_pos c]
   simp only[List.map_cons,List.sum_cons]
   omega
theorem flt_at {bs:Dn}{i:Nat}{b:List UInt8×List Pr}{P:List UInt8×List Pr→Bool}(hb:bs[i]?=some b) (hp:P b=true):(bs.filter P)[((bs.take i).filter P).length]?=some b:=by
 obtain⟨hi,e⟩:=List.getElem?_eq_some_iff.1 hb
 have:bs=bs.take i++b::bs.drop (i+1):=by
  conv=>lhs; rw[← List.take_append_drop i bs,List.drop_eq_getElem_cons hi,e]
 conv=>lhs; rw[this]
 rw[List.filter_append,List.filter_cons_of_pos hp]
 have l:(List.take i (List.take i bs++b::List.drop (i+1) bs))=bs.take i:=by rw[← this]
 rw[l,List.getElem?_append_right (Nat.le_refl _),Nat.sub_self]
 rfl
theorem flt_none (bs:Dn) (nm key:List UInt8):getD (bs.filter fun b=>decide (b.1≠nm)) nm key=none:=by
 refine getD_no fun y hy=>?_
 obtain⟨b,hb,hy⟩:=List.mem_flatMap.1 hy
 obtain⟨p,-,rfl⟩:=List.mem_map.1 hy
 have:=(List.mem_filter.1 hb).2
 simp at this
 simp[hitD,this]
theorem flt_two (bs:Dn) (nm:List UInt8):(bs.filter fun b=>decide (b.1≠nm)).filter (fun b=>decide (b.1≠nm))=bs.filter fun b=>decide (b.1≠nm):=by rw[List.filter_filter]; congr 1; funext b; simp
structure EchI (bs:Dn) (nm key:List UInt8) (D E:Nat) (h0:Heap) (O:AObj) (S:Nat→Prop) (acc:List (List UInt8×Pr)) (b:Bool) (h:Heap):Prop where
 k:h.ok
 low:∀ c,S c→c<h.next
 s0:∀ c,c<E+3→c≠E→S c
 bt:b=true
 old:∀ c,c<E→(c<D+4∨D+7<c)→h.get c=h0.get c
 gd:h.get (E+1)=some (.dfr (some []))
 gl:h.get (E+2)=some O
 st:∃ i k,Pos bs i k acc∧h.get (D+4)=some (.cells 3 [.int .i64 (i:Nat)] true)∧h.get (D+5)=some (.cells 3 [.int .i64 (k:Nat)] true)∧h.get (D+6)=some (.cells 9 [.str ((hitL nm key acc).getD [])] true)∧h.get (D+7)=some (.cells 4 [.bool (hitL nm key acc).isSome] true)
theorem EchI.stable {bs:Dn}{nm key:List UInt8}{D E:Nat}{h0:Heap}{O:AObj}{S:Nat→Prop}{acc:List (List UInt8×Pr)}{b:Bool}{h h':Heap}(hE:D+8≤E) (i:EchI bs nm key D E h0 O S acc b h) (hn:h.next≤h'.next) (k:∀ c,S c→c<h.next→h'.get c=h.get c) (hk:h.ok→h'.ok):EchI bs nm key D E h0 O S acc b h':=by
 have q:∀ c,S c→h'.get c=h.get c:=fun c s=>k c s (i.low c s)
 have q2:∀ c,c<E→h'.get c=h.get c:=fun c hc=>q c (i.s0 c (by omega) (by omega))
 obtain⟨x,y,p,g1,g2,g3,g4⟩:=i.st
 exact⟨hk i.k,fun c s=>Nat.lt_of_lt_of_le (i.low c s) hn,i.s0,i.bt,fun c hc r=>(q2 c hc).trans (i.old c hc r),(q _ (i.s0 _ (by omega) (by omega))).trans i.gd,(q _ (i.s0 _ (by omega) (by omega))).trans i.gl,x,y,p,(q2 _ (by omega)).trans g1,(q2 _ (by omega)).trans g2,(q2 _ (by omega)).trans g3,(q2 _ (by omega)).trans g4⟩
theorem ech_loop {n D:Nat}{nm key:List UInt8}{nl:List (List UInt8×AV)}{dv:AV}{bs:Dn}{Sd Sp:Nat→Prop}{h0 h1:Heap}{fn:FuncId}{tm:Tr AV}{nt:Nat}{as' bd:Code}(o:OutI (D+8) h0 Sd Sp dv nl bs) (hD:D+8≤h0.next) (x1:Ext h0 h1) (k1:h1.ok) (n1:h1.next=h0.next+1) (q0:h1.get h0.next=some (.cells 27 [dv] true)) (q1:h1.get (D+4)=some (.cells 3 [.int .i64 0] true)) (q2:h1.get (D+5)=some (.cells 3 [.int .i64 0] true)) (q3:h1.get (D+6)=some (.cells 9 [.str []] true)) (q4:h1.get (D+7)=some (.cells 4 [.bool false] true)) (hl:(allD bs).length≤400000) (hb:bs.length≤1000) (hp:∀ b∈bs,b.2.length≤1000000) (hnt:(([42,43]:List Tmp).all fun p=>Nat.blt p nt)=true)
  (rnd:∀ (S:Nat→Prop) (acc:List (List UInt8×Pr)) (s:List UInt8×Pr) (h:Heap),acc.length≤500000→(acc++[s]) <+: allD bs→EchI bs nm key D h0.next h0 (.loop .ready none fn tm nt [42,43] as' bd (h0.next+1)) S acc true h→RGives (TV n) (h0.next+2) fn (setParams tm [42,43] (flD s)) nt as' bd h (fun v h'=>∃ b,v=.bool b∧Ev.Touch S h h'∧∃ S':Nat→Prop,(∀ c,S' c→S c∨h.next≤c)∧EchI bs nm key D h0.next h0 (.loop .ready none fn tm nt [42,43] as' bd (h0.next+1)) S' (acc++[s]) b h')) :
  Gives (TV n) 39 [.func (.yield (h1.next+1)) [] [],.ptr h0.next 0] ((h1.alloc (.dfr (some []))).alloc (.loop .ready none fn tm nt [42,43] as' bd h1.next)) fun _ h4=>∃ S,h4.ok∧h0.next+3≤h4.next∧EchI bs nm key D h0.next h0 (.loop .ready none fn tm nt [42,43] as' bd (h0.next+1)) S (allD bs) true h4:=by
 have nl':h1.next+1=h0.next+2:=by omega
 have x2:Ext h0 ((h1.alloc (.dfr (some []))).alloc (.loop .ready none fn tm nt [42,43] as' bd h1.next)):=(x1.trans (.alloc _ _)).trans (.alloc _ _)
 have n2:h0.next≤h1.next+1+1:=x2.nx
 refine Gives.mono (each1_g (n:=n) (nl:=nl) (dv:=dv) (bs:=bs) (l:=h1.next+1) (b:=h0.next) (A:=fun acc x=>(acc++[x]) <+: allD bs) (I:=EchI bs nm key D h0.next h0 (.loop .ready none fn tm nt [42,43] as' bd (h0.next+1))) (S0:=fun c=>c<h0.next+3∧c≠h0.next) (yldB_of (ps:=[42,43]) (fun _=>rfl) hnt (fun S acc h i=>by rw[nl']; exact i.gl) (fun S acc b h i=>i.low) (fun S acc b h h' i hn k o=>i.stable hD hn k o) (by rw[nl']; exact rnd)) (by exact hok) (by exact hget) (by show h0.next<h1.next+1+1; omega) (by omega) ?_ ?_ (fun _ _ h=>h) hl hb hp) ?_
 ·exact⟨by exact hok,fun c q=>by show c<h1.next+1+1; omega,fun c q r=>⟨q,r⟩,rfl,fun c hc _=>x2.old c hc,by rw[← n1]; exact hget,by rw[← nl',← n1]; exact get_new _ _,0,0,⟨Nat.zero_le _,Nat.zero_le _,rfl⟩,by exact hget,by exact hget,by exact hget,by exact hget⟩
 ·intro S acc h' hn hc hk' i
  have hn:h1.next+1+1≤h'.next:=hn
  have o2:=o.keep (h':=h') (by omega) (fun c q r=>i.old c r (.inr (by omega)))
  exact⟨o2.od.ls,o2.len,fun j x b e1 e2=>⟨(o2.at_ j x b e1 e2).1,(o2.at_ j x b e1 e2).2.ls⟩⟩
 ·rintro _ h4 ⟨-,S,acc,b,t,k4,i,s,f1,f2⟩
  have nx:h1.next+1+1≤h4.next:=t.nx
  have e:=f2 i.bt
  have eb:=i.bt
  subst e eb
  exact⟨S,k4,by omega,i⟩
end Go.Proofs.YtmnhbehmjaibgaaGreat
