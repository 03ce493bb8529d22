/- What the functions of this part answer at any input, told by the rules over the evaluator. Conditions: those that each theorem states. -/
import Derived.Test.YthdlebegkhnbiaaGreatWlk
import Derived.Test.YthdlebegkhnbiaaGreatGao
set_option linter.unusedVariables false
set_option linter.unusedSimpArgs false
open Go Ev
namespace Go.Proofs.YthdlebegkhnbiaaGreat
set_option maxRecDepth 10000
set_option maxHeartbeats 4000000
def mid (l l2:List Vis) (i:Nat):Prop:=l2.length=l.length∧∀ k,l2[k]?=if k<i∨l.length<k+i+1 then l.reverse[k]? else l[k]?
theorem mid_0 (l:List Vis):mid l l 0:=⟨rfl,fun k=>by
 by_cases c:l.length<k+0+1
 ·rw [if_pos (.inr c),List.getElem?_eq_none (by omega),List.getElem?_eq_none (by simp; omega)]
 ·rw [if_neg (by omega)]⟩
theorem mid_end {l l2:List Vis} {i:Nat} (m:mid l l2 i) (h:l.length≤i+i+1):l2=l.reverse:=by
 apply List.ext_getElem?
 intro k
 rw [m.2]
 by_cases c:k<i∨l.length<k+i+1
 ·rw [if_pos c]
 ·rw [if_neg c,List.getElem?_reverse (by omega)]
  congr 1
  omega
theorem mid_s {l l2:List Vis} {i:Nat} {a b:Vis} (m:mid l l2 i) (h:i+i+1<l.length) (ha:l2[i]?=some a) (hb:l2[l.length-1-i]?=some b):mid l ((l2.set i b).set (l.length-1-i) a) (i+1):=by
 refine ⟨by simp [m.1],fun k=>?_⟩
 have ma:=m.2 i
 have mb:=m.2 (l.length-1-i)
 rw [if_neg (by omega),ha] at ma
 rw [if_neg (by omega),hb] at mb
 have ml:=m.1
 rw [List.getElem?_set,List.getElem?_set,List.length_set]
 by_cases c1:l.length-1-i=k
 ·rw [if_pos c1,if_pos (by omega),if_pos (by omega),List.getElem?_reverse (by omega),ma]
  congr 1
  omega
 ·rw [if_neg c1]
  by_cases c2:i=k
  ·rw [if_pos c2,if_pos (by omega),if_pos (by omega),List.getElem?_reverse (by omega),mb]
   congr 1
   omega
  ·rw [if_neg c2,m.2]
   by_cases c:k<i∨l.length<k+i+1
   ·rw [if_pos c,if_pos (by omega)]
   ·rw [if_neg c,if_neg (by omega)]
theorem reverse_g {n lo:Nat} {l:List Vis} {v:AV} {h:Heap} (hk:h.ok) (ow:OwnLV lo h v l) (hl:l.length≤1000000):Gives (TV n) 29 [v] h (fun v' h'=>v'=.tuple []∧Keep lo h h'∧OwnLV lo h' v l.reverse):=by
 refine call_j (no_w rfl rfl) rfl rfl ?_
 have ls:=ow.ls
 have hlen:=ls.len
 refine walk ?_
 refine jg_loop (ι:=Nat×Int×List Vis) (fun a=>l.length-a.1) (fun a=>[(0,v),(2,.int .i64 (a.1:Nat)),(3,.int .i64 a.2.1)]) (fun a h2=>2*a.1≤l.length+1∧a.2.1=(l.length:Int)-1-a.1∧Keep lo h h2∧OwnLV lo h2 v a.2.2∧mid l a.2.2 a.1) (0,(l.length:Int)-1,l) hsub ⟨by omega,by simp,Keep.refl _ _,ow,mid_0 l⟩ ?_
 rintro ⟨i,j,l2⟩ h2 ⟨hi,hj,k2,o2,m⟩ next
 dsimp only at hi hj o2 m next ⊢
 have ml:=m.1
 by_cases c:i+i+1<l.length
 case neg =>
  have e:=mid_end m (by omega)
  subst e
  refine walk ?_
  exact jg_nil fun tm hs=>ends_normal hs rfl ⟨rfl,k2,o2⟩
 obtain ⟨a,ha⟩:∃ a,l2[i]?=some a:=⟨l2[i]'(by rw [m.1]; omega),List.getElem?_eq_getElem _⟩
 obtain ⟨b,hb⟩:∃ b,l2[l.length-1-i]?=some b:=⟨l2[l.length-1-i]'(by rw [m.1]; omega),List.getElem?_eq_getElem _⟩
 have ms:=mid_s m (by omega) ha hb
 obtain ⟨q,rfl⟩:∃ q:Nat,j=q:=⟨l.length-1-i,by omega⟩
 have hq:l.length-1-i=q:=by omega
 rw [hq] at hb ms
 have ok2:=k2.ok hk
 unfold OwnLV OwnL at o2
 generalize hcs:l2.flatMap Vis.cs=cs at o2
 generalize hln:l2.length=ln at o2
 cases o2 with
 |nil=>omega
 |sl h1 h2' h3 h4 h5 h6 =>
  rename_i B cap all
  subst hln hcs
  obtain ⟨r1,r2⟩:=row_own Vis.csl ha h6
  obtain ⟨r3,r4⟩:=row_own Vis.csl hb h6
  have hle:l2.length*8≤all.length:=by omega
  have s1:0+i*8+8≤all.length:=by omega
  have s2:0+q*8+8≤all.length:=by omega
  have f1:=over_own Vis.csl (i:=i) b (by omega) h6
  have f2:=over_own (l:=l2.set i b) (i:=q) Vis.csl a (by rw [List.length_set]; omega) (by rw [List.length_set]; exact f1)
  rw [List.length_set] at f2
  have s3:0+q*8+8≤(over all (0+i*8) b.cs).length:=by rw [over_len _ _ _ s1]; exact s2
  have s4:(over (over all (0+i*8) b.cs) (0+q*8) a.cs).length=all.length:=by rw [over_len _ _ _ s3,over_len _ _ _ s1]
  have el:((l2.set i b).set q a).length=l2.length:=by simp
  refine walk ?_
  refine jg_drawn (q:=16) (ms:=[0,0,0,0,0,0,48,112,0,0,768,1792,4083,8179,16383,32767]) (hl:=[[15,16,17,18,19,20,21,22,23,24,25],[14,16,17,18,19,20,21,22,23,24,25],[14,15,17,18,19,20,21,22,23,24,25,26],[14,15,16,18,19,20,21,22,23,24,25,26],[14,15,16,17,19,22,23,24,25],[14,15,16,17,18,22,23,24,25],[14,15,16,17,22,23,24,25],[14,15,16,17,22,23,24,25],[14,15,16,17,18,19,20,21,23],[14,15,16,17,18,19,20,21,22],[14,15,16,17,18,19,20,21],[14,15,16,17,18,19,20,21],[16,17],[16,17],[],[]]) hok rfl (by kernel_rfl) (by kernel_rfl) rfl ?_
  refine walk ?_
  refine jd_skip rfl rfl rfl (k_storeN rfl rfl rfl rfl rfl rfl hget s1) ?_
  refine walk ?_
  refine jd_skip rfl rfl rfl (k_storeN rfl rfl rfl rfl rfl rfl (Heap.gs _ _ _) s3) ?_
  refine walk ?_
  refine next (i+1,(q:Int)-1,(l2.set i b).set q a) (by simp only; omega) hsub ⟨by simp only; omega,by simp only; omega,((k2.mr ok2 16).st B _ h1 (by show B<h2.next+16; omega)).st B _ h1 (by show B<h2.next+16; omega),?_,ms⟩
  simp only
  unfold OwnLV OwnL
  rw [el]
  exact Own.sl h1 (by show B<h2.next+16; omega) (Heap.gs _ _ _) h4 (s4.trans h5) f2
 |os h1 h2' h3 h4 h5 =>
  rename_i B
  subst hln
  have h6:cs.take (l2.length*8)=l2.flatMap Vis.cs:=by rw [hcs]; exact List.take_of_length_le (by omega)
  clear hcs
  generalize cs=all at h3 h4 h6
  obtain ⟨r1,r2⟩:=row_own Vis.csl ha h6
  obtain ⟨r3,r4⟩:=row_own Vis.csl hb h6
  have hle:l2.length*8≤all.length:=by omega
  have s1:0+i*8+8≤all.length:=by omega
  have s2:0+q*8+8≤all.length:=by omega
  have f1:=over_own Vis.csl (i:=i) b (by omega) h6
  have f2:=over_own (l:=l2.set i b) (i:=q) Vis.csl a (by rw [List.length_set]; omega) (by rw [List.length_set]; exact f1)
  rw [List.length_set] at f2
  have s3:0+q*8+8≤(over all (0+i*8) b.cs).length:=by rw [over_len _ _ _ s1]; exact s2
  have s4:(over (over all (0+i*8) b.cs) (0+q*8) a.cs).length=all.length:=by rw [over_len _ _ _ s3,over_len _ _ _ s1]
  have el:((l2.set i b).set q a).length=l2.length:=by simp
  refine walk ?_
  refine jg_drawn (q:=16) (ms:=[0,0,0,0,0,0,48,112,0,0,768,1792,4083,8179,16383,32767]) (hl:=[[15,16,17,18,19,20,21,22,23,24,25],[14,16,17,18,19,20,21,22,23,24,25],[14,15,17,18,19,20,21,22,23,24,25,26],[14,15,16,18,19,20,21,22,23,24,25,26],[14,15,16,17,19,22,23,24,25],[14,15,16,17,18,22,23,24,25],[14,15,16,17,22,23,24,25],[14,15,16,17,22,23,24,25],[14,15,16,17,18,19,20,21,23],[14,15,16,17,18,19,20,21,22],[14,15,16,17,18,19,20,21],[14,15,16,17,18,19,20,21],[16,17],[16,17],[],[]]) hok rfl (by kernel_rfl) (by kernel_rfl) rfl ?_
  refine walk ?_
  refine jd_skip rfl rfl rfl (k_storeN rfl rfl rfl rfl rfl rfl hget s1) ?_
  refine walk ?_
  refine jd_skip rfl rfl rfl (k_storeN rfl rfl rfl rfl rfl rfl (Heap.gs _ _ _) s3) ?_
  refine walk ?_
  refine next (i+1,(q:Int)-1,(l2.set i b).set q a) (by simp only; omega) hsub ⟨by simp only; omega,by simp only; omega,((k2.mr ok2 16).st B _ h1 (by show B<h2.next+16; omega)).st B _ h1 (by show B<h2.next+16; omega),?_,ms⟩
  simp only
  unfold OwnLV OwnL
  rw [el]
  have f3:over (over all (0+i*8) b.cs) (0+q*8) a.cs=((l2.set i b).set q a).flatMap Vis.cs:=by rw [← f2]; exact (List.take_of_length_le (by omega)).symm
  refine Own.os h1 (by show B<h2.next+16; omega) ?_ (by rw [← f3]; omega) h5
  rw [← f3]
  exact Heap.gs _ _ _
set_option maxRecDepth 10000
set_option maxHeartbeats 4000000
def u64c (n:Nat):List AV:=[.int .u64 n]
theorem u64c_len (n:Nat):(u64c n).length=1:=rfl
abbrev LsU (h:Heap) (v:AV) (l:List Nat):Prop:=Ls u64c 1 h v l
theorem b_shr {T:Tabs} {t:TypeId} {k':IntKind} {x y:Nat} (hy:y≤64):binA T .shr t (.int .u64 (x:Int)) (.int k' (y:Int))=some (.int .u64 ((x / 2 ^ y:Nat):Int)):=by
 have h1:¬ ((y:Int)<0):=by omega
 have h2:min ((y:Int).toNat) IntKind.u64.bits=y:=by simp; exact Nat.min_eq_left hy
 simp only [binA,shiftOp,if_neg h1,h2]
 congr 2
 rw [Int.fdiv_eq_ediv_of_nonneg _ (by exact Int.le_of_lt (Int.pow_pos (by decide)))]
 norm_cast
theorem b_and1 {T:Tabs} {t:TypeId} {x:Nat} (hx:x<18446744073709551616):binA T .and t (.int .u64 (x:Int)) (.int .u64 1)=some (.int .u64 ((x % 2:Nat):Int)):=by
 have e:IntKind.u64.wrap ((BitVec.ofInt IntKind.u64.bits (x:Int) &&& BitVec.ofInt IntKind.u64.bits (1:Int)).toNat:Int)=((x % 2:Nat):Int):=by
  rw [show (1:Int)=((1:Nat):Int) from rfl,ofInt_nat,ofInt_nat,BitVec.toNat_and,BitVec.toNat_ofNat,BitVec.toNat_ofNat,Nat.mod_eq_of_lt (show x<2 ^ IntKind.u64.bits from hx),show 1 % 2 ^ IntKind.u64.bits=1 from rfl,Nat.and_one_is_mod]
  exact wrap_u rfl _ (show x % 2<2 ^ 64 by omega)
 simp only [binA,if_true,intOp,e]
theorem quo64 {p:Nat} (hp:p<4294967296):IntKind.u32.wrap ((p:Int).tdiv 64)=((p / 64:Nat):Int):=by
 rw [show ((p:Int).tdiv 64)=((p / 64:Nat):Int) from rfl]
 exact wrap_u rfl _ (show p / 64<2 ^ 32 by omega)
theorem has_w {n:Nat} (hn:0<n) {v:AV} {l:List Nat} {p x:Nat} {h:Heap} (ls:LsU h v l) (hx:l[p / 64]?=some x) (hp:p<4294967296) (hx2:x<18446744073709551616):(TV n).sm 25 [v,.int .u32 p] h=some (.bool (x.testBit (p % 64)),h):=by
 refine w_in hn (fun h=>LsU h v l) rfl rfl ls (fun hp=>ls.any (by simpa [AV.plains,AV.plain] using hp)) ?_
 clear ls h
 rintro n hn h ls
 refine body_j rfl rfl ?_
 obtain ⟨b,q1,e1,all,rw',hb,hg,hpl,he,a1⟩:=ls.at u64c_len hx
 have he:(all.drop q1).take 1=[.int .u64 x]:=he
 have hr:x / 2 ^ (p % 64)<18446744073709551616:=Nat.lt_of_le_of_lt (Nat.div_le_self _ _) hx2
 refine walk ?_
 rw [quo64 hp]
 refine walk ?_
 rw [show ((p:Int).tmod 64)=((p % 64:Nat):Int) from rfl]
 refine jo_val rfl rfl rfl (k_bin rfl rfl rfl (b_shr (x:=x) (y:=p % 64) (by omega)) rfl) ?_
 refine walk ?_
 refine jo_val rfl rfl rfl (k_bin rfl rfl rfl (b_and1 hr) rfl) ?_
 refine walk ?_
 refine jg_ret1 (by exact hres) ⟨?_,.refl _⟩
 rw [Nat.testBit_eq_decide_div_mod_eq]
 exact av_d ⟨fun c=>by omega,fun c=>by omega⟩
theorem over_one {β:Type} {l:List β} {k:Nat} {v:β} (h:k<l.length):over l k [v]=l.set k v:=by
 unfold over
 rw [List.set_eq_take_append_cons_drop,if_pos h]
 simp
theorem bput_u {n B:Nat} {l:List Nat} {p x:Nat} {h:Heap} (h3:h.get B=some (.cells 30 (l.flatMap u64c) true)) (h2':B<h.next) (hx:l[p / 64]?=some x) (hp:p<4294967296) (hx2:x<18446744073709551616):Gives (TV n) 27 [.slice B 0 l.length l.length,.int .u32 p] h (fun v' h'=>v'=.tuple []∧Upd B (.cells 30 ((l.set (p / 64) (x ||| 1*2 ^ (p % 64))).flatMap u64c) true) h h'):=by
 refine call_j (no_w rfl rfl) rfl rfl ?_
 have hsh:1*2 ^ (p % 64)<2 ^ IntKind.u64.bits:=by
  rw [Nat.one_mul]
  exact Nat.pow_lt_pow_right (by decide) (show p % 64<64 by omega)
 have hi:p / 64<l.length:=by
  rcases Nat.lt_or_ge (p / 64) l.length with h1|h1
  ·exact h1
  ·rw [List.getElem?_eq_none h1] at hx; cases hx
 have h5:(l.flatMap u64c).length=l.length:=by
  clear h3 hx hi
  induction l with
  |nil=>rfl
  |cons a l ih=>rw [List.flatMap_cons,List.length_append,ih,u64c_len,List.length_cons]; omega
 have h6:(l.flatMap u64c).take (l.length*1)=l.flatMap u64c:=List.take_of_length_le (by omega)
 generalize ha:l.flatMap u64c=all at h3 h5
 rw [ha] at h6
 have h6:all.take (l.length*1)=l.flatMap u64c:=by rw [ha]; exact h6
 obtain ⟨r1,r2⟩:=row_own u64c_len hx h6
 have r1:(all.drop (0+p / 64*1)).take 1=[.int .u64 x]:=r1
 have s1:0+p / 64*1<all.length:=by omega
 have f1:=over_own u64c_len (i:=p / 64) (x ||| 1*2 ^ (p % 64)) (by omega) h6
 have f0:over all (0+p / 64*1) (u64c (x ||| 1*2 ^ (p % 64)))=all.set (0+p / 64*1) (.int .u64 ((x ||| 1*2 ^ (p % 64):Nat):Int)):=over_one s1
 rw [f0] at f1
 refine walk ?_
 rw [quo64 hp]
 refine walk ?_
 rw [show ((p:Int).tmod 64)=((p % 64:Nat):Int) from rfl]
 refine jo_val rfl rfl rfl (k_bin rfl rfl rfl (b_shl (x:=1) (y:=p % 64) rfl (by show p % 64≤64; omega) hsh) rfl) ?_
 refine walk ?_
 refine jo_val rfl rfl rfl (k_bin rfl rfl rfl (b_or rfl hx2 hsh) rfl) ?_
 refine walk ?_
 refine jo_skip rfl rfl (k_store1 rfl rfl rfl rfl rfl rfl h3 s1) ?_
 refine walk ?_
 have f3:all.set (0+p / 64*1) (.int .u64 ((x ||| 1*2 ^ (p % 64):Nat):Int))=(l.set (p / 64) (x ||| 1*2 ^ (p % 64))).flatMap u64c:=by rw [← f1]; exact (List.take_of_length_le (by rw [List.length_set]; omega)).symm
 refine jg_nil fun tm hs=>ends_normal hs rfl ⟨rfl,?_⟩
 rw [← f3]
 exact Upd.set _ _ _ h2'
set_option maxRecDepth 10000
set_option maxHeartbeats 4000000
theorem Sn.csl (s:Sn):s.cs.length=15:=rfl
noncomputable def seenW (z:Int) (img:List UInt8) (m:List Nat) (v:Vis):Sn :=
 if v.page<2∨pages z img≤v.page then ⟨v,1,Pg.zero⟩
 else if (m.getD (v.page / 64) 0).testBit (v.page % 64)=true then ⟨v,2,Pg.zero⟩
 else if v.depth>16 then ⟨v,3,Pg.zero⟩
 else ⟨v,if (pageR2 z img v).2=true then 0 else 4,(pageR2 z img v).1⟩
def metW (m:List Nat) (s:Sn):List Nat:=if s.why=1 then m else m.set (s.visit.page / 64) (m.getD (s.visit.page / 64) 0 ||| 1*2 ^ (s.visit.page % 64))
inductive RunW (z:Int) (img:List UInt8):List Nat→List Vis→List Sn→Prop
 |done {m:List Nat}:RunW z img m [] []
 |step {m:List Nat} {left:List Vis} {v:Vis} {l:List Sn} (r:RunW z img (metW m (seenW z img m v)) (left++(visitsV (seenW z img m v)).reverse) l):RunW z img m (left++[v]) (seenW z img m v::l)
end Go.Proofs.YthdlebegkhnbiaaGreat
