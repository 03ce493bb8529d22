/- What the functions of this part answer at any input, told by the rules over the evaluator. Conditions: those that each theorem states. -/
import Derived.Test.YtmnhbehmjaibgaaGreatGar
import Derived.Test.YtmnhbehmjaibgaaGreatDnb
set_option linter.unusedVariables false
set_option linter.unusedSimpArgs false
open Go Ev
namespace Go.Proofs.YtmnhbehmjaibgaaGreat
set_option maxRecDepth 10000
set_option maxHeartbeats 4000000
open Go.RowKit Go.ChangeShapes Go.WideShapes
section
variable {H:Type}{enc:TypeId×Value→H}{W:World}
theorem cells_pr:Tryz.prog.cellsOf 37=2:=by kernel_rfl
theorem cells_nm:Tryz.prog.cellsOf 35=2:=by kernel_rfl
theorem cells_den:Tryz.prog.cellsOf 27=1:=by kernel_rfl
theorem two_of {l:List Value}(h:l.length=2):∃ a b,l=[a,b]:=by
 match l,h with
 |[a,b],_=>exact⟨a,b,rfl⟩
theorem one_of {l:List Value}(h:l.length=1):∃ a,l=[a]:=by
 match l,h with
 |[a],_=>exact⟨a,rfl⟩
theorem str_val {E:En}(s:ByteArray):VR E (.str s.data.toList) (.string s):=by
 have:=VR.str (E:=E) s.data.toList
 have e:(⟨s.data.toList.toArray⟩:ByteArray)=s:=by cases s; simp
 rw[e] at this
 exact this
theorem str_in {s:ByteArray}(h:s.size≤maxLen):s.data.toList.length≤maxLen:=by
 have:s.data.toList.length=s.size:=Array.length_toList
 omega
theorem add_add (a:Addr) (i j:Nat):(a.add i).add j=a.add (i+j):=by
 unfold Addr.add
 by_cases c:i=0
 ·subst c; simp
 ·by_cases d:j=0
  ·subst d; simp
  ·simp[c,d,Nat.add_assoc]
theorem flds_of {t:TypeId}{fs:Array Field}{fuel:Nat}{cs:List Value}{x:DataW H×List MemPlace}(ht:Tryz.prog.underlying t=some (.struct fs)) (h:DataW.trod enc Tryz.prog W 0 (fun _=>true) true fuel t cs=some x):cs.length=Tryz.prog.cellsOf t∧∃ n,∀ (i:Nat) (f:Field),fs[i]?=some f→∃ y,DataW.trod enc Tryz.prog W 0 (fun _=>true) true n f.type ((cs.drop f.offset).take (Tryz.prog.cellsOf f.type))=some y:=by
 obtain⟨xs,n,_,_,hl,hx,hall⟩:=DataW.trod_struct ht h
 refine⟨hl,n,fun i f hi=>?_⟩
 have lt:=(Array.getElem?_eq_some_iff.1 hi).1
 have:=hall i f hi
 rw[List.getElem?_eq_getElem (by omega)] at this
 exact⟨_,this⟩
theorem at_any {fs:Array Field}{l:List Value}{n:Nat}(hf:∀ (i:Nat) (f:Field),fs[i]?=some f→∃ y,DataW.trod enc Tryz.prog W 0 (fun _=>true) true n f.type ((l.drop f.offset).take (Tryz.prog.cellsOf f.type))=some y) (i:Nat){f:Field}(hi:fs[i]?=some f) (hc:Tryz.prog.cellsOf f.type=1){v:Value}(hd:(l.drop f.offset).take 1=[v]){t:TypeId}(ht:f.type=t):∃ y,DataW.trod enc Tryz.prog W 0 (fun _=>true) true n t [v]=some y:=by
 have h:=hf i f hi
 rw[hc,hd,ht] at h
 exact h
def Pr.fit (p:Pr):Prop:=p.key.length≤maxLen∧p.val.length≤maxLen
theorem read_pr {fuel:Nat}{cs:List Value}{x:DataW H×List MemPlace}(h:DataW.trod enc Tryz.prog W 0 (fun _=>true) true fuel 37 cs=some x):∃ p:Pr,p.fit∧∀ E,VRs E p.cs cs:=by
 obtain⟨hl,n,hf⟩:=flds_of Tryz.underlying37 h
 rw[cells_pr] at hl
 obtain⟨a,b,rfl⟩:=two_of hl
 obtain⟨s0,rfl,l0⟩:=at_str (v:=a) hf 0 rfl (by kernel_rfl) rfl Tryz.underlying9
 obtain⟨s1,rfl,l1⟩:=at_str (v:=b) hf 1 rfl (by kernel_rfl) rfl Tryz.underlying9
 exact⟨⟨s0.data.toList,s1.data.toList⟩,⟨str_in l0,str_in l1⟩,fun E=>.cons _ _ _ _ (str_val s0) (.cons _ _ _ _ (str_val s1) .nil)⟩
theorem choose_to {α:Type}{C:Nat→α→Prop}:∀ (n:Nat),(∀ i,i<n→∃ x,C i x)→∃ l:List α,l.length=n∧∀ i x,l[i]?=some x→C i x
 |0,_=>⟨[],rfl,fun i x h=>by simp at h⟩
 |n+1,h=>by
  obtain⟨l,e,k⟩:=choose_to n fun i hi=>h i (by omega)
  obtain⟨x,hx⟩:=h n (by omega)
  refine⟨l++[x],by simp[e],fun i y hy=>?_⟩
  by_cases c:i<l.length
  ·rw[List.getElem?_append_left c] at hy
   exact k i y hy
  ·rw[List.getElem?_append_right (by omega)] at hy
   obtain⟨hi,q⟩:=List.getElem?_eq_some_iff.1 hy
   simp at q hi
   have:i=n:=by omega
   subst this
   rw[← q]
   exact hx
theorem read_row {te ts:TypeId}{sz fuel:Nat}{cs:List Value}{x:DataW H×List MemPlace}(hu:Tryz.prog.underlying ts=some (.slice te)) (hc:Tryz.prog.cellsOf te=sz) (h:DataW.trod enc Tryz.prog W 0 (fun _=>true) true fuel ts cs=some x) :
  cs=[.slice none 0 0]∨∃ (a:Addr) (n cap:Nat) (vs:List (List Value)),cs=[.slice (some a) n cap]∧n≤maxLen∧vs.length=n∧∀ i v,vs[i]?=some v→(∀ r u,v[r]?=some u→W.cell? (a.add (i*sz+r))=some u)∧∃ fuel y,DataW.trod enc Tryz.prog W 0 (fun _=>true) true fuel te v=some y:=by
 rcases DataW.trod_slice hu h with ⟨e,_⟩|⟨a,len,cap,elems,rest,n,_,e,_,_,hl,hm,hle,he,_⟩
 ·exact .inl e
 right
 rw[hc] at he
 obtain⟨vs,h1,h2⟩:=choose_to (C:=fun i (v:List Value)=>(∀ r u,v[r]?=some u→W.cell? (a.add (i*sz+r))=some u)∧∃ fuel y,DataW.trod enc Tryz.prog W 0 (fun _=>true) true fuel te v=some y) len fun i hi=>by
  have q:=he i hi
  rw[List.getElem?_eq_getElem (by omega)] at q
  obtain⟨v,h1,h2⟩:=Option.bind_eq_some_iff.1 q
  obtain⟨_,hlen,hcell⟩:=World.cells?_some h1
  refine⟨v,fun r u hr=>?_,n,_,h2⟩
  have hr':=(List.getElem?_eq_some_iff.1 hr).1
  have c:=hcell r (by omega)
  rw[hr,add_add] at c
  exact c
 exact⟨a,len,cap,vs,e,by omega,h1,h2⟩
theorem read_prs {fuel:Nat}{v:Value}{x:DataW H×List MemPlace}{l:List Inr}(ok:InOK W l) (h:DataW.trod enc Tryz.prog W 0 (fun _=>true) true fuel 33 [v]=some x) :
  ∃ (m:List Inr) (a:AV) (ps:List Pr),InOK W (l++m)∧VR (enIn (l++m)) a v∧Ls Pr.cs 2 (heapIn (l++m)) a ps∧ps.length≤maxLen∧∀ p∈ps,p.fit:=by
 rcases read_row Tryz.underlying33 cells_pr h with e|⟨a,n,cap,vs,e,hn,hl,hv⟩
 ·cases e
  exact⟨[],.nilslice,[],by rwa [List.append_nil],.nilslice,Ls.nil,Nat.zero_le _,by simp⟩
 ·cases e
  by_cases z:n=0
  ·subst z
   exact⟨[],.eslice,[],by rwa [List.append_nil],.eslice _ _,⟨rfl,rfl⟩,Nat.zero_le _,by simp⟩
  ·obtain⟨ps,hp,hq⟩:=choose_to (C:=fun i (p:Pr)=>p.fit∧∃ v,vs[i]?=some v∧∀ E,VRs E p.cs v) n fun i hi=>by
    have ei:vs[i]?=some (vs[i]'(by omega)):=by simp
    obtain⟨-,f,y,t⟩:=hv i _ ei
    obtain⟨p,h1,h2⟩:=read_pr t
    exact⟨p,h1,_,ei,h2⟩
   obtain⟨x,h1,h2,h3⟩:=slice_in (sz:=2) (cap:=cap) Pr.csl (by omega) ok (a:=a) (n:=n) (xs:=ps) (vs:=fun i=>(vs[i]?).getD []) (by omega) hp (fun i hi r v q=>by
    have ei:vs[i]?=some (vs[i]'(by omega)):=by simp
    simp only[ei] at q
    exact(hv i _ ei).1 r v q) (fun i p hi=>by
    obtain⟨-,v,h1,h2⟩:=hq i p hi
    simp only[h1]
    exact h2 _)
   exact⟨[x],_,ps,h1,h2,h3,by omega,fun p hp=>by
    obtain⟨i,hi⟩:=List.mem_iff_getElem?.1 hp
    exact(hq i p hi).1⟩
def NmR (l:List Inr) (y:List UInt8×AV) (b:List UInt8×List Pr) (v:List Value):Prop:=y.1=b.1∧Ls Pr.cs 2 (heapIn l) y.2 b.2∧VRs (enIn l) (Nm.cs y) v∧b.1.length≤maxLen∧b.2.length≤maxLen∧∀ p∈b.2,p.fit
theorem NmR.more {l:List Inr}{y:List UInt8×AV}{b:List UInt8×List Pr}{v:List Value}(n:NmR l y b v) (m:List Inr):NmR (l++m) y b v:=⟨n.1,n.2.1.ext (heapIn_ext l m),n.2.2.1.mono (enIn_le l m),n.2.2.2⟩
theorem read_nm {fuel:Nat}{cs:List Value}{x:DataW H×List MemPlace}{l:List Inr}(ok:InOK W l) (h:DataW.trod enc Tryz.prog W 0 (fun _=>true) true fuel 35 cs=some x):∃ (m:List Inr) (y:List UInt8×AV) (b:List UInt8×List Pr),InOK W (l++m)∧NmR (l++m) y b cs:=by
 obtain⟨hl,n,hf⟩:=flds_of Tryz.underlying35 h
 rw[cells_nm] at hl
 obtain⟨a,b,rfl⟩:=two_of hl
 obtain⟨s0,rfl,l0⟩:=at_str (v:=a) hf 0 rfl (by kernel_rfl) rfl Tryz.underlying9
 obtain⟨y,hy⟩:=at_any (v:=b) hf 1 rfl (by kernel_rfl) rfl (t:=33) rfl
 obtain⟨m,av,ps,k1,k2,k3,k4,k5⟩:=read_prs ok hy
 exact⟨m,(s0.data.toList,av),(s0.data.toList,ps),k1,rfl,k3,.cons _ _ _ _ (str_val s0) (.cons _ _ _ _ k2 .nil),str_in l0,k4,k5⟩
theorem read_nms {vs:List (List Value)}(hv:∀ v∈vs,∃ fuel y,DataW.trod enc Tryz.prog W 0 (fun _=>true) true fuel 35 v=some y){l:List Inr}(ok:InOK W l):∃ (m:List Inr) (ys:List (List UInt8×AV)) (bs:List (List UInt8×List Pr)),InOK W (l++m)∧ys.length=vs.length∧bs.length=vs.length∧∀ (i:Nat) y b v,ys[i]?=some y→bs[i]?=some b→vs[i]?=some v→NmR (l++m) y b v:=by
 induction vs generalizing l with
 |nil=>exact⟨[],[],[],by rwa [List.append_nil],rfl,rfl,fun i y b v h=>by simp at h⟩
 |cons v vs ih =>
  obtain⟨f,y,t⟩:=hv v (List.mem_cons_self ..)
  obtain⟨m,y0,b0,k1,k2⟩:=read_nm ok t
  obtain⟨m2,ys,bs,j1,j2,j3,j4⟩:=ih (fun w hw=>hv w (List.mem_cons_of_mem _ hw)) k1
  rw[List.append_assoc] at j1 j4
  refine⟨m++m2,y0::ys,b0::bs,j1,by simp[j2],by simp[j3],fun i y b w h1 h2 h3=>?_⟩
  cases i with
  |zero =>
   simp at h1 h2 h3
   subst h1 h2 h3
   have:=k2.more m2
   rwa [List.append_assoc] at this
  |succ i=>exact j4 i y b w (by simpa using h1) (by simpa using h2) (by simpa using h3)
def DenF (bs:List (List UInt8×List Pr)):Prop:=bs.length≤maxLen∧∀ b∈bs,b.1.length≤maxLen∧b.2.length≤maxLen∧∀ p∈b.2,p.fit
theorem DenF.fit {bs:List (List UInt8×List Pr)}(f:DenF bs):bs.length<9223372036854775808∧∀ b∈bs,b.1.length<9223372036854775808∧b.2.length<9223372036854775808∧∀ p∈b.2,p.key.length<9223372036854775808∧p.val.length<9223372036854775808:=by
 have m:maxLen<9223372036854775808:=by decide +kernel
 refine⟨by have:=f.1; omega,fun b hb=>?_⟩
 obtain⟨a,c,d⟩:=f.2 b hb
 exact⟨by omega,by omega,fun p hp=>by have:=d p hp; unfold Pr.fit at this; omega⟩
theorem read_den {b0:Nat}{v:Value}{d:DataW H}{p:List MemPlace}{l:List Inr}(ok:InOK W l) (hval:Value.okWide Tryz.prog W .any b0 27 v) (h:DataW.Trod enc Tryz.prog W 0 (fun _=>true) true 27 v d p):∃ (m:List Inr) (a:AV) (bs:List (List UInt8×List Pr)),InOK W (l++m)∧VR (enIn (l++m)) (.agg [a]) v∧DenL (heapIn (l++m)) a bs∧DenF bs:=by
 obtain⟨c,rfl,hc,n,hf⟩:=open_fields Tryz.underlying27 hval h
 rw[cells_den] at hc
 obtain⟨u,rfl⟩:=one_of hc
 obtain⟨y,hy⟩:=at_any (v:=u) hf 0 rfl (by kernel_rfl) rfl (t:=25) rfl
 rcases read_row Tryz.underlying25 cells_nm hy with e|⟨a,n,cap,vs,e,hn,hl,hv⟩
 ·cases e
  exact⟨[],.nilslice,[],by rwa [List.append_nil],.agg _ _ (.cons _ _ _ _ .nilslice .nil),⟨[],Ls.nil,rfl,fun j x b h=>by simp at h⟩,Nat.zero_le _,by simp⟩
 ·cases e
  by_cases z:n=0
  ·subst z
   exact⟨[],.eslice,[],by rwa [List.append_nil],.agg _ _ (.cons _ _ _ _ (.eslice _ _) .nil),⟨[],⟨rfl,rfl⟩,rfl,fun j x b h=>by simp at h⟩,Nat.zero_le _,by simp⟩
  ·obtain⟨m,ys,bs,k1,k2,k3,k4⟩:=read_nms (vs:=vs) (fun v q=>by
    obtain⟨i,hi⟩:=List.mem_iff_getElem?.1 q
    exact(hv i v hi).2) ok
   have all:∀ i,i<n→∃ y b v,ys[i]?=some y∧bs[i]?=some b∧vs[i]?=some v∧NmR (l++m) y b v:=fun i hi=>by
    have e1:ys[i]?=some (ys[i]'(by omega)):=by simp
    have e2:bs[i]?=some (bs[i]'(by omega)):=by simp
    have e3:vs[i]?=some (vs[i]'(by omega)):=by simp
    exact⟨_,_,_,e1,e2,e3,k4 i _ _ _ e1 e2 e3⟩
   obtain⟨x,h1,h2,h3⟩:=slice_in (sz:=2) (cap:=cap) Nm.len (by omega) k1 (a:=a) (n:=n) (xs:=ys) (vs:=fun i=>(vs[i]?).getD []) (by omega) (by omega) (fun i hi r v q=>by
    have ei:vs[i]?=some (vs[i]'(by omega)):=by simp
    simp only[ei] at q
    exact(hv i _ ei).1 r v q) (fun i y hi=>by
    have hi':=(List.getElem?_eq_some_iff.1 hi).1
    obtain⟨y',b,v,e1,e2,e3,q⟩:=all i (by omega)
    rw[hi] at e1
    cases e1
    simp only[e3]
    exact q.2.2.1)
   rw[List.append_assoc] at h1 h2 h3
   refine⟨m++[x],_,bs,h1,.agg _ _ (.cons _ _ _ _ h2 .nil),⟨ys,h3,by omega,fun j y b e1 e2=>?_⟩,by omega,fun b hb=>?_⟩
   ·have hi':=(List.getElem?_eq_some_iff.1 e1).1
    obtain⟨y',b',v,f1,f2,f3,q⟩:=all j (by omega)
    rw[e1] at f1
    rw[e2] at f2
    cases f1; cases f2
    have q:=q.more [x]
    rw[List.append_assoc] at q
    exact⟨q.1,q.2.1⟩
   ·obtain⟨i,hi⟩:=List.mem_iff_getElem?.1 hb
    have hi':=(List.getElem?_eq_some_iff.1 hi).1
    obtain⟨y',b',v,f1,f2,f3,q⟩:=all i (by omega)
    rw[hi] at f2
    cases f2
    exact q.2.2.2
end
end Go.Proofs.YtmnhbehmjaibgaaGreat
