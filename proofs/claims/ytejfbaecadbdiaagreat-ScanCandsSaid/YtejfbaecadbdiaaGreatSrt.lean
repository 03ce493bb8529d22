/- What the functions of this part answer at any input, told by the rules over the evaluator. Conditions: those that each theorem states. -/
import Derived.Test.YtejfbaecadbdiaaGreatOvr
import Derived.Test.YtejfbaecadbdiaaGreatGap
import Derived.Sort.AssemblyPlain
set_option linter.unusedVariables false
set_option linter.unusedSimpArgs false
open Go Ev
namespace Go.Proofs.YtejfbaecadbdiaaGreat
set_option maxRecDepth 10000
set_option maxHeartbeats 4000000
def ltN (x y:Nat):Bool:=decide (x<y)
theorem b7n:Go.Sort.SWO ltN where
 irrefl:=fun x=>by simp[ltN]
 trans:=fun x y z h1 h2=>by simp[ltN] at *; omega
 ntrans:=fun x y z h1 h2=>by simp[ltN] at *; omega
def cel (d:Array Nat) (tl:List AV):List AV:=d.toList.flatMap a3a++tl
theorem b7p (d:Array Nat):(d.toList.flatMap a3a).length=d.size:=by rw[a7l a2k]; simp
theorem a2n (d:Array Nat) (tl:List AV):(cel d tl).length=d.size+tl.length:=by unfold cel; rw[List.length_append,b7p]
structure Dat (h:a0a) (v:AV) (B:Nat) (d:Array Nat) (tl:List AV):Prop where
 lt:B<h.next
 get:h.get B=some (.cells 29 (cel d tl) true)
 hd:(∃ cap,v=.slice B 0 d.size cap)∨v=.oslice B 0 d.size 1
theorem Dat.ix {h:a0a}{v:AV}{B j:Nat}{d:Array Nat}{tl:List AV}(D:Dat h v B d tl) (hj:j<d.size){hh:a0a}{T:Ev.a0k}{ρ:Operand→Option AV}{o:Oper}{t elem:TypeId}{x ix:Operand}{k:IntKind}{i:Int}(ho:o.op=.indexAddr t x ix) (ht:T.und t=some (.slice elem)) (hsz:T.size elem=some 1) (hx:ρ x=some v) (hi:ρ ix=some (.int k i)) (e:i=j):opA T ρ o hh=.val (.ptr B (0+j*1)) hh:=by
 subst e
 rcases D.hd with ⟨cap,rfl⟩|rfl
 ·exact d6n ho ht hsz hx hi hj
 ·exact d6e ho ht hsz hx hi hj
theorem Dat.at {h:a0a}{v:AV}{B j:Nat}{d:Array Nat}{tl:List AV}(D:Dat h v B d tl) (hj:j<d.size):((cel d tl).drop (0+j*1)).take 1=[.int .u32 ((d[j]! : Nat):Int)]:=by
 have h1:=c6t a2k d.toList j d[j]! (by rw[getElem!_pos d j hj]; simp[hj])
 unfold cel
 rw[Nat.zero_add,Nat.mul_one] at *
 rw[List.drop_append_of_le_length (by rw[b7p]; omega),List.take_append_of_le_length (by rw[List.length_drop,b7p]; omega)]
 exact h1
theorem d6w (d:Array Nat) (tl:List AV){j:Nat}(x:Nat) (hj:j<d.size):(cel d tl).set (0+j*1) (.int .u32 x)=cel (d.setIfInBounds j x) tl:=by
 have key:∀ (l:List Nat) (j:Nat),(l.flatMap a3a).set j (.int .u32 x)=(l.set j x).flatMap a3a:=by
  intro l
  induction l with
  |nil=>intro j; rfl
  |cons a l ih =>
   intro j
   cases j with
   |zero=>rfl
   |succ j =>
    show((.int .u32 a:AV)::l.flatMap a3a).set (j+1) _=(.int .u32 a:AV)::(l.set j x).flatMap a3a
    rw[List.set_cons_succ,ih]
 unfold cel
 rw[Nat.zero_add,Nat.mul_one,List.set_append_left _ _ (by rw[b7p]; exact hj),key]
 congr 1
 simp
theorem e7h (d:Array Nat) (tl:List AV){i j:Nat}(hi:i<d.size) (hj:j<d.size):((cel d tl).set (0+i*1) (.int .u32 ((d[j]! : Nat):Int))).set (0+j*1) (.int .u32 ((d[i]! : Nat):Int))=cel (Go.Sort.swp d i j) tl:=by
 rw[d6w d tl _ hi,d6w _ tl _ (by simpa using hj)]
 rfl
theorem swp_size (d:Array Nat) (i j:Nat):(Go.Sort.swp d i j).size=d.size:=Go.Sort.size_swp d i j
theorem Dat.swp {h h':a0a}{v:AV}{B i j:Nat}{d:Array Nat}{tl:List AV}(D:Dat h v B d tl) (hi:i<d.size) (hj:j<d.size) (hn:h.next≤h'.next) (o:a1t):Dat ((h'.set B o).set B (.cells 29 (((cel d tl).set (0+i*1) (.int .u32 ((d[j]! : Nat):Int))).set (0+j*1) (.int .u32 ((d[i]! : Nat):Int))) true)) v B (Go.Sort.swp d i j) tl:=by
 rw[e7h d tl hi hj]
 exact⟨Nat.lt_of_lt_of_le D.lt hn,a0a.gs _ _ _,by rw[swp_size]; exact D.hd⟩
structure a2d (B:Nat) (h h':a0a):Prop where
 nx:h.next≤h'.next
 old:∀ c,c<h.next→c≠B→h'.get c=h.get c
 ok:h.ok→h'.ok
theorem a2d.refl (B:Nat) (h:a0a):a2d B h h:=⟨Nat.le_refl _,fun _ _ _=>rfl,id⟩
theorem a2d.trans {B:Nat}{a b c:a0a}(x:a2d B a b) (y:a2d B b c):a2d B a c:=⟨Nat.le_trans x.nx y.nx,fun n hn hb=>(y.old n (Nat.lt_of_lt_of_le hn x.nx) hb).trans (x.old n hn hb),fun k=>y.ok (x.ok k)⟩
theorem a2d.two {B n:Nat}{h:a0a}(hl:B<h.next) (k:h.ok) (o p:a1t):a2d B h (((a0a.mk h.t (h.next+n)).set B o).set B p):=⟨by show h.next≤h.next+n; omega,fun c _ hb=>by rw[a0a.gn _ _ _ _ hb,a0a.gn _ _ _ _ hb]; rfl,fun _=>a0w (a0w (a0a.a2o k n) _ _ (by show B<h.next+n; omega)) _ _ (by show B<h.next+n; omega)⟩
theorem a2d.more {B n:Nat}{h:a0a}(k:h.ok):a2d B h (a0a.mk h.t (h.next+n)):=⟨by show h.next≤h.next+n; omega,fun _ _ _=>rfl,fun _=>a0a.a2o k n⟩
theorem Dat.more {h:a0a}{v:AV}{B n:Nat}{d:Array Nat}{tl:List AV}(D:Dat h v B d tl):Dat (a0a.mk h.t (h.next+n)) v B d tl:=⟨by have:=D.lt; show B<h.next+n; omega,D.get,D.hd⟩
theorem Dat.ext {h h':a0a}{v:AV}{B:Nat}{d:Array Nat}{tl:List AV}(D:Dat h v B d tl) (x:Ext h h'):Dat h' v B d tl:=⟨Nat.lt_of_lt_of_le D.lt x.nx,(x.old _ D.lt).trans D.get,D.hd⟩
theorem e9v {n:Nat}(hn:0<n) (x:Nat) (h:a0a):(TA n).sm 88 [.int .u32 x] h=some (.bool false,h):=by
 refine d1b hn rfl rfl rfl fun n hn=>a0s rfl rfl ?_
 refine walk ?_
 exact a0e (by exact hres) (show AV.bool (decide ((x:Int)≠(x:Int)))=.bool false by simp)
theorem a8t {n:Nat}(hn:1<n) (x y:Nat) (h:a0a):(TA n).sm 204 [.int .u32 x,.int .u32 y] h=some (.bool (ltN x y),h):=by
 refine d1b hn rfl rfl rfl fun n hn=>a0s rfl rfl ?_
 have w1:=e9v (n:=n) (by omega) x
 have w2:=e9v (n:=n) (by omega) y
 unfold ltN
 refine walk ?_
 exact a0e (by exact hres) (d1n (by omega))
theorem f5f {n:Nat}(hn:1<n){v:AV}{B a b:Nat}{d:Array Nat}{tl:List AV}{h:a0a}(D:Dat h v B d tl) (hk:h.ok) (hs:d.size≤1000000) (hab:a≤b) (hb:b≤d.size):a0l (TA n) 198 [v,.int .i64 a,.int .i64 b] h (fun _ h'=>Dat h' v B (Go.Sort.insertionSort ltN d a b) tl∧a2d B h h'):=by
 refine a0r (a6m rfl rfl) rfl rfl ?_
 unfold Go.Sort.insertionSort
 generalize hR:Go.Sort.insOuter ltN a b (a+1) d=R
 refine walk ?_
 refine a0n (ι:=Nat×Array Nat) (fun x=>b-x.1) (fun x=>[(0,v),(1,.int .i64 a),(2,.int .i64 b),(6,.int .i64 (x.1:Nat))]) (fun x h2=>a<x.1∧x.1≤b+1∧x.2.size=d.size∧Go.Sort.insOuter ltN a b x.1 x.2=R∧Dat h2 v B x.2 tl∧a2d B h h2) (a+1,d) hsub ⟨by simp only; omega,by simp only; omega,rfl,hR,D,.refl _ _⟩ ?_
 rintro⟨i,d1⟩ h2 ⟨h1,hi,sz,eR,D1,O1⟩ next
 dsimp only at h1 hi sz eR D1 next ⊢
 rw[Go.Sort.insOuter] at eR
 by_cases c1:(i:Int)<(b:Int)
 case neg =>
  rw[if_neg (by omega)] at eR
  subst eR
  refine walk ?_
  exact a2e fun tm hs=>a2b hs rfl ⟨D1,O1⟩
 rw[if_pos (by omega)] at eR
 refine walk ?_
 refine a0n (ι:=Nat×Array Nat) (fun x=>x.1) (fun x=>[(0,v),(1,.int .i64 a),(2,.int .i64 b),(6,.int .i64 (i:Nat)),(7,.int .i64 (x.1:Nat))]) (fun x h3=>x.1≤i∧x.2.size=d.size∧Go.Sort.insInner ltN a x.1 x.2=Go.Sort.insInner ltN a i d1∧Dat h3 v B x.2 tl∧a2d B h h3) (i,d1) hsub ⟨by simp only; omega,sz,rfl,D1,O1⟩ ?_
 rintro⟨j,d2⟩ h3 ⟨hj,sz2,eI,D2,O2⟩ next2
 dsimp only at hj sz2 eI D2 next2 ⊢
 have k3:=O2.ok hk
 have g3:=D2.get
 by_cases c2:(a:Int)<(j:Int)
 case neg =>
  have e:Go.Sort.insInner ltN a j d2=d2:=by
   cases j with
   |zero=>rfl
   |succ k=>rw[Go.Sort.insInner,if_neg (by simp; omega)]
  rw[e] at eI
  subst eI
  refine walk ?_
  refine a0c (q:=15) (ms:=[0,0,3,7,15,15,63,127,15,15,527,1807,3855,8191,16383]) (hl:=[[17],[16],[],[],[21,24,25,26,27,28],[20,24,25,26,27,28],[24,25,26,27,28],[24,25,26,27,28],[20,21,22,23,25,26],[20,21,22,23,24],[20,21,22,23,24],[20,21,22,23],[20,21,22,23],[],[]]) k3 rfl (by kernel_rfl) (by kernel_rfl) rfl ?_
  refine walk ?_
  refine next (i+1,_) (by simp only; omega) hsub ⟨by simp only; omega,by simp only; omega,sz2,eR,D2.more,O2.trans (.more k3)⟩
 obtain⟨k,rfl⟩:∃ k,j=k+1:=⟨j-1,by omega⟩
 have a1:=@Dat.ix _ _ _ (k+1) _ _ D2 (by omega)
 have a2:=@Dat.ix _ _ _ k _ _ D2 (by omega)
 have he1:=D2.at (j:=k+1) (by omega)
 have he2:=D2.at (j:=k) (by omega)
 have w1:=a8t (n:=n) hn d2[k+1]! d2[k]!
 rw[Go.Sort.insInner] at eI
 refine walk ?_
 refine a0c (q:=15) (ms:=[0,0,3,7,15,15,63,127,15,15,527,1807,3855,8191,16383]) (hl:=[[17],[16],[],[],[21,24,25,26,27,28],[20,24,25,26,27,28],[24,25,26,27,28],[24,25,26,27,28],[20,21,22,23,25,26],[20,21,22,23,24],[20,21,22,23,24],[20,21,22,23],[20,21,22,23],[],[]]) k3 rfl (by kernel_rfl) (by kernel_rfl) rfl ?_
 refine walk ?_
 have kx:a0a.ok { t:=h3.t,next:=h3.next+15 }:=a0a.a2o k3 15
 refine b5h rfl (fun c3=>?_) (fun c3=>?_)
 ·rw[if_pos (by rw[c3]; simp; omega)] at eI
  have s1:0+(k+1)*1<(cel d2 tl).length:=by rw[a2n]; omega
  have s2:0+k*1<((cel d2 tl).set (0+(k+1)*1) (.int .u32 ((d2[k]! : Nat):Int))).length:=by rw[List.length_set,a2n]; omega
  refine walk ?_
  refine a0c (q:=18) (ms:=[0,0,0,0,8,0,0,64,224,480,0,0,3072,7168,16355,32739,65535,131071]) (hl:=[[34,35,36,37,38,39,40,41,42,43,44,45,46],[33,35,36,37,38,39,40,41,42,43,44,45,46],[33,34,36,37,38,39,40,41,42,43,44,45,46,47],[33,34,35,38,39,40,41,42,43,44,45,46,47],[33,34,35,38,39,40,41,42,43,44,45,46,47],[33,34,35,36,37,39,40,43,44,45,46],[33,34,35,36,37,38,43,44,45,46],[33,34,35,36,37,38,43,44,45,46],[33,34,35,36,37,43,44,45,46],[33,34,35,36,37,43,44,45,46],[33,34,35,36,37,38,39,40,41,42,44],[33,34,35,36,37,38,39,40,41,42,43],[33,34,35,36,37,38,39,40,41,42],[33,34,35,36,37,38,39,40,41,42],[35,36,37],[35,36,37],[],[]]) kx rfl (by kernel_rfl) (by kernel_rfl) rfl ?_
  refine walk ?_
  rw[show(((k+1:Nat):Int)-1)=(k:Int) by omega]
  exact next2 (k,Go.Sort.swp d2 (k+1) k) (by simp only; omega) hsub ⟨by simp only; omega,by simp only[swp_size]; exact sz2,eI,D2.swp (h':=a0a.mk h3.t (h3.next+33)) (by omega) (by omega) (by show h3.next≤h3.next+33; omega) _,O2.trans (a2d.two (n:=33) D2.lt k3 _ _)⟩
 ·rw[if_neg (by rw[c3]; simp)] at eI
  subst eI
  refine walk ?_
  refine next (i+1,_) (by simp only; omega) hsub ⟨by simp only; omega,by simp only; omega,sz2,eR,D2.more,O2.trans (.more k3)⟩
set_option maxRecDepth 10000
set_option maxHeartbeats 4000000
theorem e0t {n:Nat}(hn:1<n){v:AV}{B lo hi first:Nat}{d:Array Nat}{tl:List AV}{h:a0a}(D:Dat h v B d tl) (hk:h.ok) (hs:d.size≤1000000) (hb:first+hi≤d.size) (hlo:lo≤1000000):a0l (TA n) 219 [v,.int .i64 lo,.int .i64 hi,.int .i64 first] h (fun _ h'=>Dat h' v B (Go.Sort.siftDown ltN hi first lo d) tl∧a2d B h h'):=by
 refine a0r (a6m rfl rfl) rfl rfl ?_
 generalize hR:Go.Sort.siftDown ltN hi first lo d=R
 refine walk ?_
 refine a0n (ι:=Nat×Array Nat) (fun x=>hi-x.1) (fun x=>[(0,v),(2,.int .i64 hi),(3,.int .i64 first),(8,.int .i64 (x.1:Nat))]) (fun x h2=>x.1≤1000000∧x.2.size=d.size∧Go.Sort.siftDown ltN hi first x.1 x.2=R∧Dat h2 v B x.2 tl∧a2d B h h2) (lo,d) hsub ⟨hlo,rfl,hR,D,.refl _ _⟩ ?_
 rintro⟨r,d2⟩ h3 ⟨hr,sz,eR,D2,O2⟩ next
 dsimp only at hr sz eR D2 next ⊢
 have k3:=O2.ok hk
 have g3:=D2.get
 rw[Go.Sort.siftDown] at eR
 by_cases c1:((2*r+1:Nat):Int) ≥ (hi:Int)
 ·rw[dif_pos (by omega)] at eR
  subst eR
  refine walk ?_
  rw[show(2*(r:Int)+1)=((2*r+1:Nat):Int) by omega]
  refine walk ?_
  exact a2e fun tm hs=>a2b hs rfl ⟨D2,O2⟩
 rw[dif_neg (by omega)] at eR
 refine walk ?_
 rw[show(2*(r:Int)+1)=((2*r+1:Nat):Int) by omega]
 refine walk ?_
 refine a8h (ι:=Nat) (fun c=>[(0,v),(2,.int .i64 hi),(3,.int .i64 first),(8,.int .i64 (r:Nat)),(9,.int .i64 (c:Nat))]) (fun c g=>c<hi∧r<c∧(if(!ltN d2[first+r]! d2[first+c]!)=true then d2 else Go.Sort.siftDown ltN hi first c (Go.Sort.swp d2 (first+r) (first+c)))=R∧Dat g v B d2 tl∧a2d B h g) ?_ ?_
 ·intro k' join
  by_cases c2:((2*r+1:Nat):Int)+1<(hi:Int)
  case neg =>
   rw[if_neg (by simp; omega)] at eR
   refine a0c (q:=20) (ms:=[0,1,0,7,15,31,31,31,223,511,1023,31,31,31,12319,28703,63519,129055,262143,524287]) (hl:=[[19],[19],[17,18],[],[],[23,24,25,28,29,30,31,32,33,34],[22,24,28,29,30,31,32,33,34],[22,23,28,29,30,31,32,33,34],[22,28,29,30,31,32,33,34],[28,29,30,31,32,33,34],[28,29,30,31,32,33,34],[22,23,24,25,26,27,29,30,31,32],[22,23,24,25,26,27,28,30],[22,23,24,25,26,27,28,29],[22,23,24,25,26,27,28],[22,23,24,25,26,27,28],[22,23,24,25,26,27],[22,23,24,25,26,27],[],[]]) k3 rfl (by kernel_rfl) (by kernel_rfl) rfl ?_
   refine walk ?_
   exact join (2*r+1) hsub ⟨by omega,by omega,eR,D2.more,O2.trans (.more k3)⟩
  have a1:=@Dat.ix _ _ _ (first+(2*r+1)) _ _ D2 (by omega)
  have a2:=@Dat.ix _ _ _ (first+(2*r+1)+1) _ _ D2 (by omega)
  have he1:=D2.at (j:=first+(2*r+1)) (by omega)
  have he2:=D2.at (j:=first+(2*r+1)+1) (by omega)
  have w1:=a8t (n:=n) hn d2[first+(2*r+1)]! d2[first+(2*r+1)+1]!
  refine a0c (q:=20) (ms:=[0,1,0,7,15,31,31,31,223,511,1023,31,31,31,12319,28703,63519,129055,262143,524287]) (hl:=[[19],[19],[17,18],[],[],[23,24,25,28,29,30,31,32,33,34],[22,24,28,29,30,31,32,33,34],[22,23,28,29,30,31,32,33,34],[22,28,29,30,31,32,33,34],[28,29,30,31,32,33,34],[28,29,30,31,32,33,34],[22,23,24,25,26,27,29,30,31,32],[22,23,24,25,26,27,28,30],[22,23,24,25,26,27,28,29],[22,23,24,25,26,27,28],[22,23,24,25,26,27,28],[22,23,24,25,26,27],[22,23,24,25,26,27],[],[]]) k3 rfl (by kernel_rfl) (by kernel_rfl) rfl ?_
  refine walk ?_
  refine b5h rfl (fun c3=>?_) (fun c3=>?_)
  ·rw[if_pos (by rw[c3]; simp; omega),dif_pos (by omega)] at eR
   refine walk ?_
   rw[show(((2*r+1:Nat):Int)+1)=((2*r+2:Nat):Int) by omega]
   exact join (2*r+2) hsub ⟨by omega,by omega,eR,D2.more,O2.trans (.more k3)⟩
  ·rw[if_neg (by rw[c3]; simp)] at eR
   refine walk ?_
   exact join (2*r+1) hsub ⟨by omega,by omega,eR,D2.more,O2.trans (.more k3)⟩
 ·rintro c g ⟨h1,h2,eR,D3,O3⟩
  have k4:=O3.ok hk
  have g4:=D3.get
  have a1:=@Dat.ix _ _ _ (first+r) _ _ D3 (by omega)
  have a2:=@Dat.ix _ _ _ (first+c) _ _ D3 (by omega)
  have he1:=D3.at (j:=first+r) (by omega)
  have he2:=D3.at (j:=first+c) (by omega)
  have w1:=a8t (n:=n) hn d2[first+r]! d2[first+c]!
  refine walk ?_
  refine a0c (q:=14) (ms:=[0,0,0,6,15,31,0,0,0,384,960,1984,4095,8191]) (hl:=[[40,41,42,45,46,47,48,49,50],[39,41,45,46,47,48,49,50],[39,40,45,46,47,48,49,50],[39,45,46,47,48,49,50],[45,46,47,48,49,50],[45,46,47,48,49,50],[39,40,41,42,43,44,46,47,48],[39,40,41,42,43,44,45,47],[39,40,41,42,43,44,45,46],[39,40,41,42,43,44,45],[39,40,41,42,43,44],[39,40,41,42,43,44],[],[]]) k4 rfl (by kernel_rfl) (by kernel_rfl) rfl ?_
  refine walk ?_
  have kx:a0a.ok { t:=g.t,next:=g.next+14 }:=a0a.a2o k4 14
  cases c4:ltN d2[first+r]! d2[first+c]! with
  |false =>
   rw[if_pos (by rw[c4]; rfl)] at eR
   subst eR
   have c5:¬ d2[first+r]! < d2[first+c]! := by simpa [ltN] using c4
   refine walk ?_
   exact a2x fun tm hs=>a3o hs rfl ⟨D3.more,O3.trans (.more k4)⟩
  |true =>
   rw[if_neg (by rw[c4]; simp)] at eR
   have c5:d2[first+r]! < d2[first+c]! := by simpa [ltN] using c4
   have s1:0+(first+r)*1<(cel d2 tl).length:=by rw[a2n]; omega
   have s2:0+(first+c)*1<((cel d2 tl).set (0+(first+r)*1) (.int .u32 ((d2[first+c]! : Nat):Int))).length:=by rw[List.length_set,a2n]; omega
   refine walk ?_
   refine a0c (q:=24) (ms:=[0,0,0,6,0,0,0,96,0,0,0,1536,3840,7936,0,0,0,98304,245760,507904,1048335,2096911,4194303,8388607]) (hl:=[[54,55,56,57,58,59,60,61,62,63,64,65,66,67,68,69,70,71,72],[53,55,57,58,59,60,61,62,63,64,65,66,67,68,69,70,71,72],[53,54,57,58,59,60,61,62,63,64,65,66,67,68,69,70,71,72],[53,57,58,59,60,61,62,63,64,65,66,67,68,69,70,71,72],[53,54,55,56,58,59,60,61,62,63,64,65,66,67,68,69,70,71,72,73],[53,54,55,56,57,59,61,62,63,64,65,66,67,68,69,70,71,72,73],[53,54,55,56,57,58,61,62,63,64,65,66,67,68,69,70,71,72,73],[53,54,55,56,57,61,62,63,64,65,66,67,68,69,70,71,72,73],[53,54,55,56,57,58,59,60,62,63,64,67,68,69,70,71,72],[53,54,55,56,57,58,59,60,61,63,67,68,69,70,71,72],[53,54,55,56,57,58,59,60,61,62,67,68,69,70,71,72],[53,54,55,56,57,58,59,60,61,67,68,69,70,71,72],[53,54,55,56,57,58,59,60,67,68,69,70,71,72],[53,54,55,56,57,58,59,60,67,68,69,70,71,72],[53,54,55,56,57,58,59,60,61,62,63,64,65,66,68,69,70],[53,54,55,56,57,58,59,60,61,62,63,64,65,66,67,69],[53,54,55,56,57,58,59,60,61,62,63,64,65,66,67,68],[53,54,55,56,57,58,59,60,61,62,63,64,65,66,67],[53,54,55,56,57,58,59,60,61,62,63,64,65,66],[53,54,55,56,57,58,59,60,61,62,63,64,65,66],[57,58,59,60],[57,58,59,60],[],[]]) kx rfl (by kernel_rfl) (by kernel_rfl) rfl ?_
   refine walk ?_
   exact next (c,Go.Sort.swp d2 (first+r) (first+c)) (by simp only; omega) hsub ⟨by simp only; omega,by simp only[swp_size]; exact sz,eR,D3.swp (h':=a0a.mk g.t (g.next+38)) (by omega) (by omega) (by show g.next≤g.next+38; omega) _,O3.trans (a2d.two (n:=38) D3.lt k4 _ _)⟩
set_option maxRecDepth 10000
set_option maxHeartbeats 4000000
theorem f3s {n:Nat}{v:AV}{B a b:Nat}{d:Array Nat}{tl:List AV}{h:a0a}(D:Dat h v B d tl) (hk:h.ok) (hs:d.size≤1000000) (hab:a<b) (hb:b≤d.size):a0l (TA n) 202 [v,.int .i64 a,.int .i64 b] h (fun _ h'=>Dat h' v B (Go.Sort.reverseRange d a b) tl∧a2d B h h'):=by
 refine a0r (a6m rfl rfl) rfl rfl ?_
 unfold Go.Sort.reverseRange
 generalize hR:Go.Sort.reverseLoop a (b-1) d=R
 refine walk ?_
 rw[show((b:Int)-1)=((b-1:Nat):Int) by omega]
 refine a0n (ι:=Nat×Nat×Array Nat) (fun x=>x.2.1+1-x.1) (fun x=>[(0,v),(6,.int .i64 (x.1:Nat)),(7,.int .i64 (x.2.1:Nat))]) (fun x h2=>a≤x.1∧x.2.1<b∧x.1≤b∧x.2.2.size=d.size∧Go.Sort.reverseLoop x.1 x.2.1 x.2.2=R∧Dat h2 v B x.2.2 tl∧a2d B h h2) (a,b-1,d) hsub ⟨by simp only; omega,by simp only; omega,by simp only; omega,rfl,hR,D,.refl _ _⟩ ?_
 rintro⟨i,j,d2⟩ h3 ⟨h1,h2,h4,sz,eR,D2,O2⟩ next
 dsimp only at h1 h2 h4 sz eR D2 next ⊢
 have k3:=O2.ok hk
 have g3:=D2.get
 rw[Go.Sort.reverseLoop] at eR
 by_cases c1:(i:Int)<(j:Int)
 case neg =>
  rw[if_neg (by omega)] at eR
  subst eR
  refine walk ?_
  exact a2e fun tm hs=>a2b hs rfl ⟨D2,O2⟩
 rw[if_pos (by omega)] at eR
 have a1:=@Dat.ix _ _ _ i _ _ D2 (by omega)
 have a2:=@Dat.ix _ _ _ j _ _ D2 (by omega)
 have he1:=D2.at (j:=i) (by omega)
 have he2:=D2.at (j:=j) (by omega)
 have s1:0+i*1<(cel d2 tl).length:=by rw[a2n]; omega
 have s2:0+j*1<((cel d2 tl).set (0+i*1) (.int .u32 ((d2[j]! : Nat):Int))).length:=by rw[List.length_set,a2n]; omega
 refine walk ?_
 refine a0c (q:=16) (ms:=[0,0,0,0,0,0,48,112,0,0,768,1792,4083,8179,16383,32767]) (hl:=[[15,16,17,18,19,20,21,22,23,24,25],[14,16,17,18,19,20,21,22,23,24,25],[14,15,17,18,19,20,21,22,23,24,25,26],[14,15,16,18,19,20,21,22,23,24,25,26],[14,15,16,17,19,22,23,24,25],[14,15,16,17,18,22,23,24,25],[14,15,16,17,22,23,24,25],[14,15,16,17,22,23,24,25],[14,15,16,17,18,19,20,21,23],[14,15,16,17,18,19,20,21,22],[14,15,16,17,18,19,20,21],[14,15,16,17,18,19,20,21],[16,17],[16,17],[],[]]) k3 rfl (by kernel_rfl) (by kernel_rfl) rfl ?_
 refine walk ?_
 rw[show((j:Int)-1)=((j-1:Nat):Int) by omega]
 exact next (i+1,j-1,Go.Sort.swp d2 i j) (by simp only; omega) hsub ⟨by simp only; omega,by simp only; omega,by simp only; omega,by simp only[swp_size]; exact sz,eR,D2.swp (h':=a0a.mk h3.t (h3.next+16)) (by omega) (by omega) (by show h3.next≤h3.next+16; omega) _,O2.trans (a2d.two (n:=16) D2.lt k3 _ _)⟩
theorem b5v (hi first:Nat):∀ (m r:Nat) (d:Array Nat),hi-r≤m→(Go.Sort.siftDown ltN hi first r d).size=d.size:=by
 intro m
 induction m with
 |zero=>intro r d h; rw[Go.Sort.siftDown,dif_pos (by omega)]
 |succ m ih =>
  intro r d h
  rw[Go.Sort.siftDown]
  split
  ·rfl
  ·split
   ·split
    ·rfl
    ·split
     ·rw[ih _ _ (by omega),swp_size]
     ·rfl
   ·split
    ·rfl
    ·rw[ih _ _ (by omega),swp_size]
theorem f0y {n:Nat}(hn:1<n){v:AV}{B a b:Nat}{d:Array Nat}{tl:List AV}{h:a0a}(D:Dat h v B d tl) (hk:h.ok) (hs:d.size≤1000000) (hab:a<b) (hb:b≤d.size):a0l (TA n) 199 [v,.int .i64 a,.int .i64 b] h (fun _ h'=>Dat h' v B (Go.Sort.heapSort ltN d a b) tl∧a2d B h h'):=by
 refine a0r (a6m rfl rfl) rfl rfl ?_
 unfold Go.Sort.heapSort
 generalize hR:Go.Sort.heapPop ltN a (b-a) (Go.Sort.heapBuild ltN (b-a) a ((b-a-1) / 2+1) d)=R
 obtain⟨H,hH⟩:∃ H,b-a=H:=⟨_,rfl⟩
 rw[hH] at hR
 refine walk ?_
 rw[show IntKind.i64.wrap (((b:Int)-a-1).tdiv 2)=(((H-1) / 2+1:Nat):Int)-1 by
  rw[show((b:Int)-a-1)=((H-1:Nat):Int) by omega,show(((H-1:Nat):Int).tdiv 2)=(((H-1) / 2:Nat):Int) from rfl,wrap_i64 (by omega) (by omega)]
  omega,show((b:Int)-a)=(H:Int) by omega]
 refine a0n (ι:=Nat×Array Nat) (fun x=>x.1) (fun x=>[(0,v),(6,.int .i64 a),(7,.int .i64 0),(8,.int .i64 (H:Nat)),(9,.int .i64 ((x.1:Nat)-1))]) (fun x h2=>x.1≤(H-1) / 2+1∧x.2.size=d.size∧Go.Sort.heapPop ltN a H (Go.Sort.heapBuild ltN H a x.1 x.2)=R∧Dat h2 v B x.2 tl∧a2d B h h2) ((H-1) / 2+1,d) hsub ⟨Nat.le_refl _,rfl,hR,D,.refl _ _⟩ ?_
 rintro⟨k,d2⟩ h3 ⟨h1,sz,eR,D2,O2⟩ next
 dsimp only at h1 sz eR D2 next ⊢
 have k3:=O2.ok hk
 by_cases c1:(k:Int)-1 ≥ 0
 ·obtain⟨k,rfl⟩:∃ m,k=m+1:=⟨k-1,by omega⟩
  rw[Go.Sort.heapBuild] at eR
  have e1:(((k+1:Nat):Int)-1)=(k:Int):=by omega
  rw[e1] at c1 ⊢
  refine walk ?_
  refine a0b (e0t (n:=n) hn D2 k3 (by omega) (lo:=k) (hi:=H) (first:=a) (by omega) (by omega)) rfl rfl rfl rfl ?_
  rintro u h4 ⟨D3,O3⟩
  refine walk ?_
  exact next (k,_) (by simp only; omega) hsub ⟨by simp only; omega,by simp only[b5v _ _ _ _ _ (Nat.le_refl _)]; exact sz,eR,D3,O2.trans O3⟩
 obtain rfl:k=0:=by omega
 rw[Go.Sort.heapBuild] at eR
 clear next
 refine walk ?_
 refine a0n (ι:=Nat×Array Nat) (fun x=>x.1) (fun x=>[(0,v),(6,.int .i64 a),(7,.int .i64 0),(8,.int .i64 (H:Nat)),(10,.int .i64 ((x.1:Nat)-1))]) (fun x h2=>x.1≤H∧x.2.size=d.size∧Go.Sort.heapPop ltN a x.1 x.2=R∧Dat h2 v B x.2 tl∧a2d B h h2) (H,d2) hsub ⟨Nat.le_refl _,sz,eR,D2,O2⟩ ?_
 clear D2 O2 eR sz k3 h3 d2 h1
 rintro⟨k,d2⟩ h3 ⟨h1,sz,eR,D2,O2⟩ next
 dsimp only at h1 sz eR D2 next ⊢
 have k3:=O2.ok hk
 have g3:=D2.get
 by_cases c2:(k:Int)-1 ≥ 0
 case neg =>
  obtain rfl:k=0:=by omega
  rw[Go.Sort.heapPop] at eR
  subst eR
  refine walk ?_
  exact a2e fun tm hs=>a2b hs rfl ⟨D2,O2⟩
 obtain⟨k,rfl⟩:∃ m,k=m+1:=⟨k-1,by omega⟩
 rw[Go.Sort.heapPop] at eR
 have e1:(((k+1:Nat):Int)-1)=(k:Int):=by omega
 rw[e1] at c2 ⊢
 have a1:=@Dat.ix _ _ _ a _ _ D2 (by omega)
 have a2:=@Dat.ix _ _ _ (a+k) _ _ D2 (by omega)
 have he1:=D2.at (j:=a) (by omega)
 have he2:=D2.at (j:=a+k) (by omega)
 have s1:0+a*1<(cel d2 tl).length:=by rw[a2n]; omega
 have s2:0+(a+k)*1<((cel d2 tl).set (0+a*1) (.int .u32 ((d2[a+k]! : Nat):Int))).length:=by rw[List.length_set,a2n]; omega
 have D3:=D2.swp (i:=a) (j:=a+k) (h':=a0a.mk h3.t (h3.next+20)) (by omega) (by omega) (by show h3.next≤h3.next+20; omega) (.cells 29 ((cel d2 tl).set (0+a*1) (.int .u32 ((d2[a+k]! : Nat):Int))) true)
 have O3:=a2d.two (n:=20) D2.lt k3 (.cells 29 ((cel d2 tl).set (0+a*1) (.int .u32 ((d2[a+k]! : Nat):Int))) true) (.cells 29 (((cel d2 tl).set (0+a*1) (.int .u32 ((d2[a+k]! : Nat):Int))).set (0+(a+k)*1) (.int .u32 ((d2[a]! : Nat):Int))) true)
 refine walk ?_
 refine a0c (q:=20) (ms:=[0,0,0,0,0,24,0,0,0,384,960,1984,0,0,12288,28672,65475,131011,262143,524287]) (hl:=[[34,35,36,37,38,39,40,41,42,43,44,45,46,47,48],[33,35,36,37,38,39,40,41,42,43,44,45,46,47,48],[33,34,36,37,38,39,40,41,42,43,44,45,46,47,48,49],[33,34,35,37,39,40,41,42,43,44,45,46,47,48,49],[33,34,35,36,39,40,41,42,43,44,45,46,47,48,49],[33,34,35,39,40,41,42,43,44,45,46,47,48,49],[33,34,35,36,37,38,40,41,42,45,46,47,48],[33,34,35,36,37,38,39,41,45,46,47,48],[33,34,35,36,37,38,39,40,45,46,47,48],[33,34,35,36,37,38,39,45,46,47,48],[33,34,35,36,37,38,45,46,47,48],[33,34,35,36,37,38,45,46,47,48],[33,34,35,36,37,38,39,40,41,42,43,44,46],[33,34,35,36,37,38,39,40,41,42,43,44,45],[33,34,35,36,37,38,39,40,41,42,43,44],[33,34,35,36,37,38,39,40,41,42,43,44],[35,36,37,38],[35,36,37,38],[],[]]) k3 rfl (by kernel_rfl) (by kernel_rfl) rfl ?_
 refine walk ?_
 refine a0b (e0t (n:=n) hn D3 (O3.ok k3) (by rw[swp_size]; omega) (lo:=0) (hi:=k) (first:=a) (by rw[swp_size]; omega) (by omega)) rfl rfl rfl rfl ?_
 rintro u h4 ⟨D4,O4⟩
 refine walk ?_
 exact next (k,_) (by simp only; omega) hsub ⟨by simp only; omega,by simp only[b5v _ _ _ _ _ (Nat.le_refl _),swp_size]; exact sz,eR,D4,(O2.trans O3).trans O4⟩
set_option maxRecDepth 10000
set_option maxHeartbeats 4000000
theorem b9c (p:Nat→Bool) (d:Array Nat) (j i:Nat) (h:i≤j+1):Go.Sort.scanUp p d j i≤j+1:=by
 induction hm:j+1-i generalizing i with
 |zero=>rw[Go.Sort.scanUp,if_neg (by simp; omega)]; exact h
 |succ m ih =>
  rw[Go.Sort.scanUp]
  split
  ·exact ih (i+1) (by omega) (by omega)
  ·exact h
theorem b0x (p:Nat→Bool) (d:Array Nat) (i:Nat):∀ j,i≤j+1→i≤Go.Sort.scanDown p d i j+1
 |0,h=>h
 |j+1,h=>by
  rw[Go.Sort.scanDown]
  split
  ·rename_i c
   simp at c
   exact b0x p d i j (by omega)
  ·exact h
theorem e0q {n:Nat}(hn:1<n){v:AV}{B a b pv:Nat}{d:Array Nat}{tl:List AV}{h:a0a}(D:Dat h v B d tl) (hk:h.ok) (hs:d.size≤1000000) (h1:a≤pv) (h2:pv<b) (hb:b≤d.size):a0l (TA n) 205 [v,.int .i64 a,.int .i64 b,.int .i64 pv] h (fun v' h'=>v'=.int .i64 ((Go.Sort.partitionEqual ltN d a b pv).1:Nat)∧Dat h' v B (Go.Sort.partitionEqual ltN d a b pv).2 tl∧a2d B h h'):=by
 refine a0r (a6m rfl rfl) rfl rfl ?_
 unfold Go.Sort.partitionEqual
 obtain⟨R,hR⟩:∃ R,Go.Sort.partEqLoop ltN a (a+1) (b-1) (Go.Sort.swp d a pv)=R:=⟨_,rfl⟩
 rw[hR]
 have gh:=D.get
 have a1:=@Dat.ix _ _ _ (a) _ _ D (by omega)
 have a2:=@Dat.ix _ _ _ (pv) _ _ D (by omega)
 have he1:=D.at (j:=a) (by omega)
 have he2:=D.at (j:=pv) (by omega)
 have s1:0+(a)*1<(cel d tl).length:=by rw[a2n]; omega
 have s2:0+(pv)*1<((cel d tl).set (0+(a)*1) (.int .u32 ((d[pv]! : Nat):Int))).length:=by rw[List.length_set,a2n]; omega
 have D0:=D.swp (i:=a) (j:=pv) (h':=a0a.mk h.t (h.next+16)) (by omega) (by omega) (by show h.next≤h.next+16; omega) (.cells 29 ((cel d tl).set (0+(a)*1) (.int .u32 ((d[pv]! : Nat):Int))) true)
 have O0:=(a2d.refl B h).trans (a2d.two (n:=16) D.lt ((a2d.refl B h).ok hk) (.cells 29 ((cel d tl).set (0+(a)*1) (.int .u32 ((d[pv]! : Nat):Int))) true) (.cells 29 (((cel d tl).set (0+(a)*1) (.int .u32 ((d[pv]! : Nat):Int))).set (0+(pv)*1) (.int .u32 ((d[a]! : Nat):Int))) true))
 refine walk ?_
 refine a0c (q:=16) (ms:=[0,0,0,0,0,0,48,112,0,0,768,1792,4083,8179,16383,32767]) (hl:=[[12,13,14,15,16,17,18,19,20,21,22],[11,13,14,15,16,17,18,19,20,21,22],[11,12,14,15,16,17,18,19,20,21,22,23],[11,12,13,15,16,17,18,19,20,21,22,23],[11,12,13,14,16,19,20,21,22],[11,12,13,14,15,19,20,21,22],[11,12,13,14,19,20,21,22],[11,12,13,14,19,20,21,22],[11,12,13,14,15,16,17,18,20],[11,12,13,14,15,16,17,18,19],[11,12,13,14,15,16,17,18],[11,12,13,14,15,16,17,18],[13,14],[13,14],[],[]]) ((a2d.refl B h).ok hk) rfl (by kernel_rfl) (by kernel_rfl) rfl ?_
 refine walk ?_
 clear a1 a2 he1 he2 s1 s2
 rw[show((b:Int)-1)=((b-1:Nat):Int) by omega]
 refine a0n (ι:=Nat×Nat×Array Nat) (fun x=>x.2.1+1-x.1) (fun x=>[(0,v),(1,.int .i64 a),(9,.int .i64 (x.1:Nat)),(10,.int .i64 (x.2.1:Nat))]) (fun x g=>a<x.1∧x.1≤x.2.1+1∧x.2.1<b∧x.2.2.size=d.size∧Go.Sort.partEqLoop ltN a x.1 x.2.1 x.2.2=R∧Dat g v B x.2.2 tl∧a2d B h g) (a+1,b-1,Go.Sort.swp d a pv) hsub ⟨by simp only; omega,by simp only; omega,by simp only; omega,by simp only[swp_size],hR,D0,O0⟩ ?_
 clear D0 O0 hR
 rintro⟨i,j,d2⟩ h3 ⟨r1,r2,r3,sz,eR,D2,O2⟩ next
 dsimp only at r1 r2 r3 sz eR D2 next ⊢
 have k3:=O2.ok hk
 rw[Go.Sort.partEqLoop_eq] at eR
 obtain⟨i2,hi2⟩:∃ u,Go.Sort.scanUp (fun x => !ltN d2[a]! x) d2 j i=u:=⟨_,rfl⟩
 have l1:i≤i2:=by rw[← hi2]; exact Go.Sort.scanUp_ge _ _ _ _
 have l2:i2≤j+1:=by rw[← hi2]; exact b9c _ _ _ _ (by omega)
 rw[hi2] at eR
 obtain⟨j2,hj2⟩:∃ u,Go.Sort.scanDown (fun x=>ltN d2[a]! x) d2 i2 j=u:=⟨_,rfl⟩
 have l3:j2≤j:=by rw[← hj2]; exact Go.Sort.scanDown_le _ _ _ _
 have l4:i2≤j2+1:=by rw[← hj2]; exact b0x _ _ _ _ (by omega)
 have l5:¬ i2>j2→i2<j2:=fun c=>by
  have e1:=(Go.Sort.scanUp_spec (fun x => !ltN d2[a]! x) d2 j _ i rfl).2.2.2
  have e2:=(Go.Sort.scanDown_spec (fun x=>ltN d2[a]! x) d2 i2 j).2.2.2
  rw[hi2] at e1
  rw[hj2] at e2
  rcases Nat.lt_or_ge i2 j2 with h|h
  ·exact h
  have e:i2=j2:=by omega
  have e1:=e1 (by omega)
  have e2:=e2 (by omega) (by omega)
  rw[e] at e1
  simp only[Bool.not_eq_false'] at e1 e2
  rw[e1] at e2
  cases e2
 rw[hj2] at eR
 refine walk ?_
 refine a8h (ι:=Unit) (fun _=>[(0,v),(1,.int .i64 a),(9,.int .i64 (i2:Nat)),(10,.int .i64 (j:Nat))]) (fun _ g=>Dat g v B d2 tl∧a2d B h g) ?_ ?_
 ·intro k' join
  refine a0n (ι:=Nat) (fun x=>j+1-x) (fun x=>[(0,v),(1,.int .i64 a),(9,.int .i64 (x:Nat)),(10,.int .i64 (j:Nat))]) (fun x g=>i≤x∧x≤j+1∧Go.Sort.scanUp (fun x => !ltN d2[a]! x) d2 j x=i2∧Dat g v B d2 tl∧a2d B h g) i hsub ⟨Nat.le_refl _,by omega,hi2,D2,O2⟩ ?_
  rintro x g ⟨q1,q2,eU,Dx,Ox⟩ nextU
  have kx:=Ox.ok hk
  have gx:=Dx.get
  rw[Go.Sort.scanUp] at eU
  by_cases c1:(x:Int)≤(j:Int)
  case neg =>
   rw[if_neg (by simp; omega)] at eU
   subst eU
   refine walk ?_
   refine a0c (q:=15) (ms:=[0,0,3,7,15,15,63,127,15,15,783,1807,4095,8191,16383]) (hl:=[[30],[29],[],[],[34,37,38,39,40],[33,37,38,39,40],[37,38,39,40],[37,38,39,40],[33,34,35,36,38],[33,34,35,36,37],[33,34,35,36],[33,34,35,36],[],[],[]]) kx rfl (by kernel_rfl) (by kernel_rfl) rfl ?_
   refine walk ?_
   exact join () hsub ⟨Dx.more,Ox.trans (.more kx)⟩
  have a1:=@Dat.ix _ _ _ a _ _ Dx (by omega)
  have a2:=@Dat.ix _ _ _ x _ _ Dx (by omega)
  have he1:=Dx.at (j:=a) (by omega)
  have he2:=Dx.at (j:=x) (by omega)
  have w1:=a8t (n:=n) hn d2[a]! d2[x]!
  cases c4:ltN d2[a]! d2[x]! with
  |false =>
   have c5:¬ d2[a]! < d2[x]! := by simpa [ltN] using c4
   rw[c4] at w1
   rw[if_pos (by simp[c4]; omega)] at eU
   refine walk ?_
   refine a0c (q:=15) (ms:=[0,0,3,7,15,15,63,127,15,15,783,1807,4095,8191,16383]) (hl:=[[30],[29],[],[],[34,37,38,39,40],[33,37,38,39,40],[37,38,39,40],[37,38,39,40],[33,34,35,36,38],[33,34,35,36,37],[33,34,35,36],[33,34,35,36],[],[],[]]) kx rfl (by kernel_rfl) (by kernel_rfl) rfl ?_
   refine walk ?_
   exact nextU (x+1) (by omega) hsub ⟨by omega,by omega,eU,Dx.more,Ox.trans (.more kx)⟩
  |true =>
   have c5:d2[a]! < d2[x]! := by simpa [ltN] using c4
   rw[c4] at w1
   rw[if_neg (by simp[c4])] at eU
   subst eU
   refine walk ?_
   refine a0c (q:=15) (ms:=[0,0,3,7,15,15,63,127,15,15,783,1807,4095,8191,16383]) (hl:=[[30],[29],[],[],[34,37,38,39,40],[33,37,38,39,40],[37,38,39,40],[37,38,39,40],[33,34,35,36,38],[33,34,35,36,37],[33,34,35,36],[33,34,35,36],[],[],[]]) kx rfl (by kernel_rfl) (by kernel_rfl) rfl ?_
   refine walk ?_
   exact join () hsub ⟨Dx.more,Ox.trans (.more kx)⟩
 clear D2 O2 k3
 rintro⟨⟩ h4 ⟨D2,O2⟩
 refine walk ?_
 refine a8h (ι:=Unit) (fun _=>[(0,v),(1,.int .i64 a),(9,.int .i64 (i2:Nat)),(10,.int .i64 (j2:Nat))]) (fun _ g=>Dat g v B d2 tl∧a2d B h g) ?_ ?_
 ·intro k' join
  refine a0n (ι:=Nat) (fun x=>x) (fun x=>[(0,v),(1,.int .i64 a),(9,.int .i64 (i2:Nat)),(10,.int .i64 (x:Nat))]) (fun x g=>i2≤x+1∧x≤j∧Go.Sort.scanDown (fun x=>ltN d2[a]! x) d2 i2 x=j2∧Dat g v B d2 tl∧a2d B h g) j hsub ⟨by omega,Nat.le_refl _,hj2,D2,O2⟩ ?_
  rintro x g ⟨q1,q2,eU,Dx,Ox⟩ nextU
  have kx:=Ox.ok hk
  have gx:=Dx.get
  by_cases c1:(i2:Int)≤(x:Int)
  case neg =>
   have eS:Go.Sort.scanDown (fun x=>ltN d2[a]! x) d2 i2 x=x:=by
    cases x with
    |zero=>rfl
    |succ y=>rw[Go.Sort.scanDown,if_neg (by simp; omega)]
   rw[eS] at eU
   subst eU
   refine walk ?_
   refine a0c (q:=14) (ms:=[0,0,3,7,15,15,63,127,15,15,783,1807,4095,8191]) (hl:=[[47],[46],[],[],[51,54,55,56,57],[50,54,55,56,57],[54,55,56,57],[54,55,56,57],[50,51,52,53,55],[50,51,52,53,54],[50,51,52,53],[50,51,52,53],[],[]]) kx rfl (by kernel_rfl) (by kernel_rfl) rfl ?_
   refine walk ?_
   exact join () hsub ⟨Dx.more,Ox.trans (.more kx)⟩
  obtain⟨x,rfl⟩:∃ y,x=y+1:=⟨x-1,by omega⟩
  rw[Go.Sort.scanDown] at eU
  have a1:=@Dat.ix _ _ _ a _ _ Dx (by omega)
  have a2:=@Dat.ix _ _ _ (x+1) _ _ Dx (by omega)
  have he1:=Dx.at (j:=a) (by omega)
  have he2:=Dx.at (j:=(x+1)) (by omega)
  have w1:=a8t (n:=n) hn d2[a]! d2[x+1]!
  cases c4:ltN d2[a]! d2[x+1]! with
  |true =>
   have c5:d2[a]! < d2[x+1]! := by simpa [ltN] using c4
   rw[c4] at w1
   rw[if_pos (by simp[c4]; omega)] at eU
   refine walk ?_
   refine a0c (q:=14) (ms:=[0,0,3,7,15,15,63,127,15,15,783,1807,4095,8191]) (hl:=[[47],[46],[],[],[51,54,55,56,57],[50,54,55,56,57],[54,55,56,57],[54,55,56,57],[50,51,52,53,55],[50,51,52,53,54],[50,51,52,53],[50,51,52,53],[],[]]) kx rfl (by kernel_rfl) (by kernel_rfl) rfl ?_
   refine walk ?_
   rw[show(((x+1:Nat):Int)-1)=(x:Int) by omega]
   exact nextU (x) (by omega) hsub ⟨by omega,by omega,eU,Dx.more,Ox.trans (.more kx)⟩
  |false =>
   have c5:¬ d2[a]! < d2[x+1]! := by simpa [ltN] using c4
   rw[c4] at w1
   rw[if_neg (by simp[c4])] at eU
   subst eU
   refine walk ?_
   refine a0c (q:=14) (ms:=[0,0,3,7,15,15,63,127,15,15,783,1807,4095,8191]) (hl:=[[47],[46],[],[],[51,54,55,56,57],[50,54,55,56,57],[54,55,56,57],[54,55,56,57],[50,51,52,53,55],[50,51,52,53,54],[50,51,52,53],[50,51,52,53],[],[]]) kx rfl (by kernel_rfl) (by kernel_rfl) rfl ?_
   refine walk ?_
   exact join () hsub ⟨Dx.more,Ox.trans (.more kx)⟩
 clear D2 O2
 rintro⟨⟩ h5 ⟨D2,O2⟩
 by_cases c1:(i2:Int)>(j2:Int)
 ·rw[if_pos (by omega)] at eR
  subst eR
  refine walk ?_
  exact a0e (by exact hres) ⟨rfl,D2,O2⟩
 rw[if_neg (by omega)] at eR
 have l6:=l5 (by omega)
 have g_h5:=D2.get
 have a1:=@Dat.ix _ _ _ (i2) _ _ D2 (by omega)
 have a2:=@Dat.ix _ _ _ (j2) _ _ D2 (by omega)
 have he1:=D2.at (j:=i2) (by omega)
 have he2:=D2.at (j:=j2) (by omega)
 have s1:0+(i2)*1<(cel d2 tl).length:=by rw[a2n]; omega
 have s2:0+(j2)*1<((cel d2 tl).set (0+(i2)*1) (.int .u32 ((d2[j2]! : Nat):Int))).length:=by rw[List.length_set,a2n]; omega
 have D0:=D2.swp (i:=i2) (j:=j2) (h':=a0a.mk h5.t (h5.next+16)) (by omega) (by omega) (by show h5.next≤h5.next+16; omega) (.cells 29 ((cel d2 tl).set (0+(i2)*1) (.int .u32 ((d2[j2]! : Nat):Int))) true)
 have O0:=O2.trans (a2d.two (n:=16) D2.lt (O2.ok hk) (.cells 29 ((cel d2 tl).set (0+(i2)*1) (.int .u32 ((d2[j2]! : Nat):Int))) true) (.cells 29 (((cel d2 tl).set (0+(i2)*1) (.int .u32 ((d2[j2]! : Nat):Int))).set (0+(j2)*1) (.int .u32 ((d2[i2]! : Nat):Int))) true))
 refine walk ?_
 refine a0c (q:=16) (ms:=[0,0,0,0,0,0,48,112,0,0,768,1792,4083,8179,16383,32767]) (hl:=[[66,67,68,69,70,71,72,73,74,75,76],[65,67,68,69,70,71,72,73,74,75,76],[65,66,68,69,70,71,72,73,74,75,76,77],[65,66,67,69,70,71,72,73,74,75,76,77],[65,66,67,68,70,73,74,75,76],[65,66,67,68,69,73,74,75,76],[65,66,67,68,73,74,75,76],[65,66,67,68,73,74,75,76],[65,66,67,68,69,70,71,72,74],[65,66,67,68,69,70,71,72,73],[65,66,67,68,69,70,71,72],[65,66,67,68,69,70,71,72],[67,68],[67,68],[],[]]) (O2.ok hk) rfl (by kernel_rfl) (by kernel_rfl) rfl ?_
 refine walk ?_
 clear a1 a2 he1 he2 s1 s2
 rw[show((j2:Int)-1)=((j2-1:Nat):Int) by omega]
 exact next (i2+1,j2-1,Go.Sort.swp d2 i2 j2) (by simp only; omega) hsub ⟨by simp only; omega,by simp only; omega,by simp only; omega,by simp only[swp_size]; exact sz,eR,D0,O0⟩
end Go.Proofs.YtejfbaecadbdiaaGreat
