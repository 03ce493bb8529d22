/- What the functions of this part answer at any input, told by the rules over the evaluator. Conditions: those that each theorem states. -/
import Derived.Test.YtejfbaecadbdiaaGreatSrt
set_option linter.unusedVariables false
set_option linter.unusedSimpArgs false
open Go Ev
namespace Go.Proofs.YtejfbaecadbdiaaGreat
set_option maxRecDepth 10000
set_option maxHeartbeats 4000000
theorem f2h {n:Nat}(hn:1<n){v:AV}{B a b pv:Nat}{d:Array Nat}{tl:List AV}{h:a0a}(D:Dat h v B d tl) (hk:h.ok) (hs:d.size≤1000000) (h1:a≤pv) (h2:pv<b) (hb:b≤d.size):a0l (TA n) 206 [v,.int .i64 a,.int .i64 b,.int .i64 pv] h (fun v' h'=>v'=.tuple [.int .i64 ((Go.Sort.partition ltN d a b pv).1:Nat),.bool (Go.Sort.partition ltN d a b pv).2.1]∧Dat h' v B (Go.Sort.partition ltN d a b pv).2.2 tl∧a2d B h h'):=by
 refine a0r (a6m rfl rfl) rfl rfl ?_
 unfold Go.Sort.partition
 have gh:=D.get
 have a1:=@Dat.ix _ _ _ (a) _ _ D (by omega)
 have a2:=@Dat.ix _ _ _ (pv) _ _ D (by omega)
 have he1:=D.at (j:=a) (by omega)
 have he2:=D.at (j:=pv) (by omega)
 have s1:0+(a)*1<(cel d tl).length:=by rw[a2n]; omega
 have s2:0+(pv)*1<((cel d tl).set (0+(a)*1) (.int .u32 ((d[pv]! : Nat):Int))).length:=by rw[List.length_set,a2n]; omega
 have D0:=D.swp (i:=a) (j:=pv) (h':=a0a.mk h.t (h.next+16)) (by omega) (by omega) (by show h.next≤h.next+16; omega) (.cells 29 ((cel d tl).set (0+(a)*1) (.int .u32 ((d[pv]! : Nat):Int))) true)
 have O0:=(a2d.refl B h).trans (a2d.two (n:=16) D.lt ((a2d.refl B h).ok hk) (.cells 29 ((cel d tl).set (0+(a)*1) (.int .u32 ((d[pv]! : Nat):Int))) true) (.cells 29 (((cel d tl).set (0+(a)*1) (.int .u32 ((d[pv]! : Nat):Int))).set (0+(pv)*1) (.int .u32 ((d[a]! : Nat):Int))) true))
 refine walk ?_
 refine a0c (q:=16) (ms:=[0,0,0,0,0,0,48,112,0,0,768,1792,4083,8179,16383,32767]) (hl:=[[13,14,15,16,17,18,19,20,21,22,23],[12,14,15,16,17,18,19,20,21,22,23],[12,13,15,16,17,18,19,20,21,22,23,24],[12,13,14,16,17,18,19,20,21,22,23,24],[12,13,14,15,17,20,21,22,23],[12,13,14,15,16,20,21,22,23],[12,13,14,15,20,21,22,23],[12,13,14,15,20,21,22,23],[12,13,14,15,16,17,18,19,21],[12,13,14,15,16,17,18,19,20],[12,13,14,15,16,17,18,19],[12,13,14,15,16,17,18,19],[14,15],[14,15],[],[]]) ((a2d.refl B h).ok hk) rfl (by kernel_rfl) (by kernel_rfl) rfl ?_
 refine walk ?_
 clear a1 a2 he1 he2 s1 s2
 rw[show((b:Int)-1)=((b-1:Nat):Int) by omega]
 obtain⟨d2,hd2⟩:∃ x,Go.Sort.swp d a pv=x:=⟨_,rfl⟩
 have sz:d2.size=d.size:=by rw[← hd2,swp_size]
 rw[hd2] at D0
 simp only[hd2]
 obtain⟨j,hj⟩:∃ x,b-1=x:=⟨_,rfl⟩
 have jb:j<b:=by omega
 have ja:a≤j:=by omega
 simp only[hj]
 obtain⟨i2,hi2⟩:∃ u,Go.Sort.scanUp (fun x=>ltN x d2[a]!) d2 j (a+1)=u:=⟨_,rfl⟩
 have l1:a+1≤i2:=by rw[← hi2]; exact Go.Sort.scanUp_ge _ _ _ _
 have l2:i2≤j+1:=by rw[← hi2]; exact b9c _ _ _ _ (by omega)
 obtain⟨j2,hj2⟩:∃ u,Go.Sort.scanDown (fun x => !ltN x d2[a]!) d2 i2 j=u:=⟨_,rfl⟩
 have l3:j2≤j:=by rw[← hj2]; exact Go.Sort.scanDown_le _ _ _ _
 have l4:i2≤j2+1:=by rw[← hj2]; exact b0x _ _ _ _ (by omega)
 have l5:¬ i2>j2→i2<j2:=fun c=>by
  have e1:=(Go.Sort.scanUp_spec (fun x=>ltN x d2[a]!) d2 j _ (a+1) rfl).2.2.2
  have e2:=(Go.Sort.scanDown_spec (fun x => !ltN x d2[a]!) d2 i2 j).2.2.2
  rw[hi2] at e1
  rw[hj2] at e2
  rcases Nat.lt_or_ge i2 j2 with h|h
  ·exact h
  have e:i2=j2:=by omega
  have e1:=e1 (by omega)
  have e2:=e2 (by omega) (by omega)
  rw[e] at e1
  simp only[Bool.not_eq_false'] at e1 e2
  rw[e1] at e2
  cases e2
 simp only[hi2,hj2]
 refine a8h (ι:=Unit) (fun _=>[(0,v),(1,.int .i64 a),(10,.int .i64 (i2:Nat)),(11,.int .i64 (j:Nat))]) (fun _ g=>Dat g v B d2 tl∧a2d B h g) ?_ ?_
 ·intro k' join
  refine a0n (ι:=Nat) (fun x=>j+1-x) (fun x=>[(0,v),(1,.int .i64 a),(10,.int .i64 (x:Nat)),(11,.int .i64 (j:Nat))]) (fun x g=>(a+1)≤x∧x≤j+1∧Go.Sort.scanUp (fun x=>ltN x d2[a]!) d2 j x=i2∧Dat g v B d2 tl∧a2d B h g) (a+1) hsub ⟨Nat.le_refl _,by omega,hi2,D0,O0⟩ ?_
  rintro x g ⟨q1,q2,eU,Dx,Ox⟩ nextU
  have kx:=Ox.ok hk
  have gx:=Dx.get
  rw[Go.Sort.scanUp] at eU
  by_cases c1:(x:Int)≤(j:Int)
  case neg =>
   rw[if_neg (by simp; omega)] at eU
   subst eU
   refine walk ?_
   refine a0c (q:=14) (ms:=[0,0,3,7,15,15,63,127,15,15,783,1807,4095,8191]) (hl:=[[31],[30],[],[],[35,38,39,40,41],[34,38,39,40,41],[38,39,40,41],[38,39,40,41],[34,35,36,37,39],[34,35,36,37,38],[34,35,36,37],[34,35,36,37],[],[]]) kx rfl (by kernel_rfl) (by kernel_rfl) rfl ?_
   refine walk ?_
   exact join () hsub ⟨Dx.more,Ox.trans (.more kx)⟩
  have a1:=@Dat.ix _ _ _ a _ _ Dx (by omega)
  have a2:=@Dat.ix _ _ _ x _ _ Dx (by omega)
  have he1:=Dx.at (j:=a) (by omega)
  have he2:=Dx.at (j:=x) (by omega)
  have w1:=a8t (n:=n) hn d2[x]! d2[a]!
  cases c4:ltN d2[x]! d2[a]! with
  |true =>
   have c5:d2[x]! < d2[a]! := by simpa [ltN] using c4
   rw[c4] at w1
   rw[if_pos (by simp[c4]; omega)] at eU
   refine walk ?_
   refine a0c (q:=14) (ms:=[0,0,3,7,15,15,63,127,15,15,783,1807,4095,8191]) (hl:=[[31],[30],[],[],[35,38,39,40,41],[34,38,39,40,41],[38,39,40,41],[38,39,40,41],[34,35,36,37,39],[34,35,36,37,38],[34,35,36,37],[34,35,36,37],[],[]]) kx rfl (by kernel_rfl) (by kernel_rfl) rfl ?_
   refine walk ?_
   exact nextU (x+1) (by omega) hsub ⟨by omega,by omega,eU,Dx.more,Ox.trans (.more kx)⟩
  |false =>
   have c5:¬ d2[x]! < d2[a]! := by simpa [ltN] using c4
   rw[c4] at w1
   rw[if_neg (by simp[c4])] at eU
   subst eU
   refine walk ?_
   refine a0c (q:=14) (ms:=[0,0,3,7,15,15,63,127,15,15,783,1807,4095,8191]) (hl:=[[31],[30],[],[],[35,38,39,40,41],[34,38,39,40,41],[38,39,40,41],[38,39,40,41],[34,35,36,37,39],[34,35,36,37,38],[34,35,36,37],[34,35,36,37],[],[]]) kx rfl (by kernel_rfl) (by kernel_rfl) rfl ?_
   refine walk ?_
   exact join () hsub ⟨Dx.more,Ox.trans (.more kx)⟩
 clear D0 O0
 rintro⟨⟩ h4 ⟨D2,O2⟩
 refine walk ?_
 refine a8h (ι:=Unit) (fun _=>[(0,v),(1,.int .i64 a),(10,.int .i64 (i2:Nat)),(11,.int .i64 (j2:Nat))]) (fun _ g=>Dat g v B d2 tl∧a2d B h g) ?_ ?_
 ·intro k' join
  refine a0n (ι:=Nat) (fun x=>x) (fun x=>[(0,v),(1,.int .i64 a),(10,.int .i64 (i2:Nat)),(11,.int .i64 (x:Nat))]) (fun x g=>i2≤x+1∧x≤j∧Go.Sort.scanDown (fun x => !ltN x d2[a]!) d2 i2 x=j2∧Dat g v B d2 tl∧a2d B h g) j hsub ⟨by omega,Nat.le_refl _,hj2,D2,O2⟩ ?_
  rintro x g ⟨q1,q2,eU,Dx,Ox⟩ nextU
  have kx:=Ox.ok hk
  have gx:=Dx.get
  by_cases c1:(i2:Int)≤(x:Int)
  case neg =>
   have eS:Go.Sort.scanDown (fun x => !ltN x d2[a]!) d2 i2 x=x:=by
    cases x with
    |zero=>rfl
    |succ y=>rw[Go.Sort.scanDown,if_neg (by simp; omega)]
   rw[eS] at eU
   subst eU
   refine walk ?_
   refine a0c (q:=15) (ms:=[0,0,3,7,15,15,63,127,15,15,783,1807,4095,8191,16383]) (hl:=[[47],[46],[],[],[51,54,55,56,57],[50,54,55,56,57],[54,55,56,57],[54,55,56,57],[50,51,52,53,55],[50,51,52,53,54],[50,51,52,53],[50,51,52,53],[],[],[]]) kx rfl (by kernel_rfl) (by kernel_rfl) rfl ?_
   refine walk ?_
   exact join () hsub ⟨Dx.more,Ox.trans (.more kx)⟩
  obtain⟨x,rfl⟩:∃ y,x=y+1:=⟨x-1,by omega⟩
  rw[Go.Sort.scanDown] at eU
  have a1:=@Dat.ix _ _ _ a _ _ Dx (by omega)
  have a2:=@Dat.ix _ _ _ (x+1) _ _ Dx (by omega)
  have he1:=Dx.at (j:=a) (by omega)
  have he2:=Dx.at (j:=(x+1)) (by omega)
  have w1:=a8t (n:=n) hn d2[x+1]! d2[a]!
  cases c4:ltN d2[x+1]! d2[a]! with
  |false =>
   have c5:¬ d2[x+1]! < d2[a]! := by simpa [ltN] using c4
   rw[c4] at w1
   rw[if_pos (by simp[c4]; omega)] at eU
   refine walk ?_
   refine a0c (q:=15) (ms:=[0,0,3,7,15,15,63,127,15,15,783,1807,4095,8191,16383]) (hl:=[[47],[46],[],[],[51,54,55,56,57],[50,54,55,56,57],[54,55,56,57],[54,55,56,57],[50,51,52,53,55],[50,51,52,53,54],[50,51,52,53],[50,51,52,53],[],[],[]]) kx rfl (by kernel_rfl) (by kernel_rfl) rfl ?_
   refine walk ?_
   rw[show(((x+1:Nat):Int)-1)=(x:Int) by omega]
   exact nextU (x) (by omega) hsub ⟨by omega,by omega,eU,Dx.more,Ox.trans (.more kx)⟩
  |true =>
   have c5:d2[x+1]! < d2[a]! := by simpa [ltN] using c4
   rw[c4] at w1
   rw[if_neg (by simp[c4])] at eU
   subst eU
   refine walk ?_
   refine a0c (q:=15) (ms:=[0,0,3,7,15,15,63,127,15,15,783,1807,4095,8191,16383]) (hl:=[[47],[46],[],[],[51,54,55,56,57],[50,54,55,56,57],[54,55,56,57],[54,55,56,57],[50,51,52,53,55],[50,51,52,53,54],[50,51,52,53],[50,51,52,53],[],[],[]]) kx rfl (by kernel_rfl) (by kernel_rfl) rfl ?_
   refine walk ?_
   exact join () hsub ⟨Dx.more,Ox.trans (.more kx)⟩
 clear D2 O2
 rintro⟨⟩ h5 ⟨D2,O2⟩
 by_cases c1:(i2:Int)>(j2:Int)
 ·rw[if_pos (by omega)]
  have g_h5:=D2.get
  have a1:=@Dat.ix _ _ _ (j2) _ _ D2 (by omega)
  have a2:=@Dat.ix _ _ _ (a) _ _ D2 (by omega)
  have he1:=D2.at (j:=j2) (by omega)
  have he2:=D2.at (j:=a) (by omega)
  have s1:0+(j2)*1<(cel d2 tl).length:=by rw[a2n]; omega
  have s2:0+(a)*1<((cel d2 tl).set (0+(j2)*1) (.int .u32 ((d2[a]! : Nat):Int))).length:=by rw[List.length_set,a2n]; omega
  have D3:=D2.swp (i:=j2) (j:=a) (h':=a0a.mk h5.t (h5.next+16)) (by omega) (by omega) (by show h5.next≤h5.next+16; omega) (.cells 29 ((cel d2 tl).set (0+(j2)*1) (.int .u32 ((d2[a]! : Nat):Int))) true)
  have O3:=O2.trans (a2d.two (n:=16) D2.lt (O2.ok hk) (.cells 29 ((cel d2 tl).set (0+(j2)*1) (.int .u32 ((d2[a]! : Nat):Int))) true) (.cells 29 (((cel d2 tl).set (0+(j2)*1) (.int .u32 ((d2[a]! : Nat):Int))).set (0+(a)*1) (.int .u32 ((d2[j2]! : Nat):Int))) true))
  refine walk ?_
  refine a0c (q:=16) (ms:=[0,0,0,0,0,0,48,112,0,0,768,1792,4083,8179,16383,32767]) (hl:=[[67,68,69,70,71,72,73,74,75,76,77],[66,68,69,70,71,72,73,74,75,76,77],[66,67,69,70,71,72,73,74,75,76,77,78],[66,67,68,70,71,72,73,74,75,76,77,78],[66,67,68,69,71,74,75,76,77],[66,67,68,69,70,74,75,76,77],[66,67,68,69,74,75,76,77],[66,67,68,69,74,75,76,77],[66,67,68,69,70,71,72,73,75],[66,67,68,69,70,71,72,73,74],[66,67,68,69,70,71,72,73],[66,67,68,69,70,71,72,73],[68,69],[68,69],[],[]]) (O2.ok hk) rfl (by kernel_rfl) (by kernel_rfl) rfl ?_
  refine walk ?_
  clear a1 a2 he1 he2 s1 s2
  exact a0d (by exact hres) ⟨rfl,D3,O3⟩
 rw[if_neg (by omega)]
 have l6:=l5 (by omega)
 have g_h5:=D2.get
 have a1:=@Dat.ix _ _ _ (i2) _ _ D2 (by omega)
 have a2:=@Dat.ix _ _ _ (j2) _ _ D2 (by omega)
 have he1:=D2.at (j:=i2) (by omega)
 have he2:=D2.at (j:=j2) (by omega)
 have s1:0+(i2)*1<(cel d2 tl).length:=by rw[a2n]; omega
 have s2:0+(j2)*1<((cel d2 tl).set (0+(i2)*1) (.int .u32 ((d2[j2]! : Nat):Int))).length:=by rw[List.length_set,a2n]; omega
 have D3:=D2.swp (i:=i2) (j:=j2) (h':=a0a.mk h5.t (h5.next+16)) (by omega) (by omega) (by show h5.next≤h5.next+16; omega) (.cells 29 ((cel d2 tl).set (0+(i2)*1) (.int .u32 ((d2[j2]! : Nat):Int))) true)
 have O3:=O2.trans (a2d.two (n:=16) D2.lt (O2.ok hk) (.cells 29 ((cel d2 tl).set (0+(i2)*1) (.int .u32 ((d2[j2]! : Nat):Int))) true) (.cells 29 (((cel d2 tl).set (0+(i2)*1) (.int .u32 ((d2[j2]! : Nat):Int))).set (0+(j2)*1) (.int .u32 ((d2[i2]! : Nat):Int))) true))
 refine walk ?_
 refine a0c (q:=16) (ms:=[0,0,0,0,0,0,48,112,0,0,768,1792,4083,8179,16383,32767]) (hl:=[[82,83,84,85,86,87,88,89,90,91,92],[81,83,84,85,86,87,88,89,90,91,92],[81,82,84,85,86,87,88,89,90,91,92,93],[81,82,83,85,86,87,88,89,90,91,92,93],[81,82,83,84,86,89,90,91,92],[81,82,83,84,85,89,90,91,92],[81,82,83,84,89,90,91,92],[81,82,83,84,89,90,91,92],[81,82,83,84,85,86,87,88,90],[81,82,83,84,85,86,87,88,89],[81,82,83,84,85,86,87,88],[81,82,83,84,85,86,87,88],[83,84],[83,84],[],[]]) (O2.ok hk) rfl (by kernel_rfl) (by kernel_rfl) rfl ?_
 refine walk ?_
 clear a1 a2 he1 he2 s1 s2
 rw[show((j2:Int)-1)=((j2-1:Nat):Int) by omega]
 obtain⟨d3,hd3⟩:∃ x,Go.Sort.swp d2 i2 j2=x:=⟨_,rfl⟩
 have sz3:d3.size=d.size:=by rw[← hd3,swp_size]; exact sz
 rw[hd3] at D3
 simp only[hd3]
 obtain⟨R,hR⟩:∃ R,Go.Sort.partLoop ltN a (i2+1) (j2-1) d3=R:=⟨_,rfl⟩
 rw[hR]
 refine a8h (ι:=Unit) (fun _=>[(0,v),(1,.int .i64 a),(11,.int .i64 (R.1:Nat))]) (fun _ g=>a≤R.1∧R.1<b∧R.2.size=d.size∧Dat g v B R.2 tl∧a2d B h g) ?_ ?_
 ·intro kk joinR
  refine a0n (ι:=Nat×Nat×Array Nat) (fun x=>x.2.1+1-x.1) (fun x=>[(0,v),(1,.int .i64 a),(10,.int .i64 (x.1:Nat)),(11,.int .i64 (x.2.1:Nat))]) (fun x g=>a<x.1∧x.1≤x.2.1+1∧x.2.1<b∧x.2.2.size=d.size∧Go.Sort.partLoop ltN a x.1 x.2.1 x.2.2=R∧Dat g v B x.2.2 tl∧a2d B h g) (i2+1,j2-1,d3) hsub ⟨by simp only; omega,by simp only; omega,by simp only; omega,sz3,hR,D3,O3⟩ ?_
  clear D3 O3 hR hd3 sz3 D2 O2 hi2 hj2 l1 l2 l3 l4 l5 l6 c1 hd2
  clear i2 j2 d3
  rintro⟨i,j,d2⟩ h3 ⟨r1,r2,r3,sz,eR,D2,O2⟩ next
  dsimp only at r1 r2 r3 sz eR D2 next ⊢
  rw[Go.Sort.partLoop_eq] at eR
  obtain⟨i2,hi2⟩:∃ u,Go.Sort.scanUp (fun x=>ltN x d2[a]!) d2 j i=u:=⟨_,rfl⟩
  have l1:i≤i2:=by rw[← hi2]; exact Go.Sort.scanUp_ge _ _ _ _
  have l2:i2≤j+1:=by rw[← hi2]; exact b9c _ _ _ _ (by omega)
  rw[hi2] at eR
  obtain⟨j2,hj2⟩:∃ u,Go.Sort.scanDown (fun x => !ltN x d2[a]!) d2 i2 j=u:=⟨_,rfl⟩
  have l3:j2≤j:=by rw[← hj2]; exact Go.Sort.scanDown_le _ _ _ _
  have l4:i2≤j2+1:=by rw[← hj2]; exact b0x _ _ _ _ (by omega)
  have l5:¬ i2>j2→i2<j2:=fun c=>by
   have e1:=(Go.Sort.scanUp_spec (fun x=>ltN x d2[a]!) d2 j _ i rfl).2.2.2
   have e2:=(Go.Sort.scanDown_spec (fun x => !ltN x d2[a]!) d2 i2 j).2.2.2
   rw[hi2] at e1
   rw[hj2] at e2
   rcases Nat.lt_or_ge i2 j2 with h|h
   ·exact h
   have e:i2=j2:=by omega
   have e1:=e1 (by omega)
   have e2:=e2 (by omega) (by omega)
   rw[e] at e1
   simp only[Bool.not_eq_false'] at e1 e2
   rw[e1] at e2
   cases e2
  rw[hj2] at eR
  refine walk ?_
  refine a8h (ι:=Unit) (fun _=>[(0,v),(1,.int .i64 a),(10,.int .i64 (i2:Nat)),(11,.int .i64 (j:Nat))]) (fun _ g=>Dat g v B d2 tl∧a2d B h g) ?_ ?_
  ·intro k' join
   refine a0n (ι:=Nat) (fun x=>j+1-x) (fun x=>[(0,v),(1,.int .i64 a),(10,.int .i64 (x:Nat)),(11,.int .i64 (j:Nat))]) (fun x g=>i≤x∧x≤j+1∧Go.Sort.scanUp (fun x=>ltN x d2[a]!) d2 j x=i2∧Dat g v B d2 tl∧a2d B h g) i hsub ⟨Nat.le_refl _,by omega,hi2,D2,O2⟩ ?_
   rintro x g ⟨q1,q2,eU,Dx,Ox⟩ nextU
   have kx:=Ox.ok hk
   have gx:=Dx.get
   rw[Go.Sort.scanUp] at eU
   by_cases c1:(x:Int)≤(j:Int)
   case neg =>
    rw[if_neg (by simp; omega)] at eU
    subst eU
    refine walk ?_
    refine a0c (q:=14) (ms:=[0,0,3,7,15,15,63,127,15,15,783,1807,4095,8191]) (hl:=[[100],[99],[],[],[104,107,108,109,110],[103,107,108,109,110],[107,108,109,110],[107,108,109,110],[103,104,105,106,108],[103,104,105,106,107],[103,104,105,106],[103,104,105,106],[],[]]) kx rfl (by kernel_rfl) (by kernel_rfl) rfl ?_
    refine walk ?_
    exact join () hsub ⟨Dx.more,Ox.trans (.more kx)⟩
   have a1:=@Dat.ix _ _ _ a _ _ Dx (by omega)
   have a2:=@Dat.ix _ _ _ x _ _ Dx (by omega)
   have he1:=Dx.at (j:=a) (by omega)
   have he2:=Dx.at (j:=x) (by omega)
   have w1:=a8t (n:=n) hn d2[x]! d2[a]!
   cases c4:ltN d2[x]! d2[a]! with
   |true =>
    have c5:d2[x]! < d2[a]! := by simpa [ltN] using c4
    rw[c4] at w1
    rw[if_pos (by simp[c4]; omega)] at eU
    refine walk ?_
    refine a0c (q:=14) (ms:=[0,0,3,7,15,15,63,127,15,15,783,1807,4095,8191]) (hl:=[[100],[99],[],[],[104,107,108,109,110],[103,107,108,109,110],[107,108,109,110],[107,108,109,110],[103,104,105,106,108],[103,104,105,106,107],[103,104,105,106],[103,104,105,106],[],[]]) kx rfl (by kernel_rfl) (by kernel_rfl) rfl ?_
    refine walk ?_
    exact nextU (x+1) (by omega) hsub ⟨by omega,by omega,eU,Dx.more,Ox.trans (.more kx)⟩
   |false =>
    have c5:¬ d2[x]! < d2[a]! := by simpa [ltN] using c4
    rw[c4] at w1
    rw[if_neg (by simp[c4])] at eU
    subst eU
    refine walk ?_
    refine a0c (q:=14) (ms:=[0,0,3,7,15,15,63,127,15,15,783,1807,4095,8191]) (hl:=[[100],[99],[],[],[104,107,108,109,110],[103,107,108,109,110],[107,108,109,110],[107,108,109,110],[103,104,105,106,108],[103,104,105,106,107],[103,104,105,106],[103,104,105,106],[],[]]) kx rfl (by kernel_rfl) (by kernel_rfl) rfl ?_
    refine walk ?_
    exact join () hsub ⟨Dx.more,Ox.trans (.more kx)⟩
  clear D2 O2
  rintro⟨⟩ h4 ⟨D2,O2⟩
  refine walk ?_
  refine a8h (ι:=Unit) (fun _=>[(0,v),(1,.int .i64 a),(10,.int .i64 (i2:Nat)),(11,.int .i64 (j2:Nat))]) (fun _ g=>Dat g v B d2 tl∧a2d B h g) ?_ ?_
  ·intro k' join
   refine a0n (ι:=Nat) (fun x=>x) (fun x=>[(0,v),(1,.int .i64 a),(10,.int .i64 (i2:Nat)),(11,.int .i64 (x:Nat))]) (fun x g=>i2≤x+1∧x≤j∧Go.Sort.scanDown (fun x => !ltN x d2[a]!) d2 i2 x=j2∧Dat g v B d2 tl∧a2d B h g) j hsub ⟨by omega,Nat.le_refl _,hj2,D2,O2⟩ ?_
   rintro x g ⟨q1,q2,eU,Dx,Ox⟩ nextU
   have kx:=Ox.ok hk
   have gx:=Dx.get
   by_cases c1:(i2:Int)≤(x:Int)
   case neg =>
    have eS:Go.Sort.scanDown (fun x => !ltN x d2[a]!) d2 i2 x=x:=by
     cases x with
     |zero=>rfl
     |succ y=>rw[Go.Sort.scanDown,if_neg (by simp; omega)]
    rw[eS] at eU
    subst eU
    refine walk ?_
    refine a0c (q:=15) (ms:=[0,0,3,7,15,15,63,127,15,15,783,1807,4095,8191,16383]) (hl:=[[116],[115],[],[],[120,123,124,125,126],[119,123,124,125,126],[123,124,125,126],[123,124,125,126],[119,120,121,122,124],[119,120,121,122,123],[119,120,121,122],[119,120,121,122],[],[],[]]) kx rfl (by kernel_rfl) (by kernel_rfl) rfl ?_
    refine walk ?_
    exact join () hsub ⟨Dx.more,Ox.trans (.more kx)⟩
   obtain⟨x,rfl⟩:∃ y,x=y+1:=⟨x-1,by omega⟩
   rw[Go.Sort.scanDown] at eU
   have a1:=@Dat.ix _ _ _ a _ _ Dx (by omega)
   have a2:=@Dat.ix _ _ _ (x+1) _ _ Dx (by omega)
   have he1:=Dx.at (j:=a) (by omega)
   have he2:=Dx.at (j:=(x+1)) (by omega)
   have w1:=a8t (n:=n) hn d2[x+1]! d2[a]!
   cases c4:ltN d2[x+1]! d2[a]! with
   |false =>
    have c5:¬ d2[x+1]! < d2[a]! := by simpa [ltN] using c4
    rw[c4] at w1
    rw[if_pos (by simp[c4]; omega)] at eU
    refine walk ?_
    refine a0c (q:=15) (ms:=[0,0,3,7,15,15,63,127,15,15,783,1807,4095,8191,16383]) (hl:=[[116],[115],[],[],[120,123,124,125,126],[119,123,124,125,126],[123,124,125,126],[123,124,125,126],[119,120,121,122,124],[119,120,121,122,123],[119,120,121,122],[119,120,121,122],[],[],[]]) kx rfl (by kernel_rfl) (by kernel_rfl) rfl ?_
    refine walk ?_
    rw[show(((x+1:Nat):Int)-1)=(x:Int) by omega]
    exact nextU (x) (by omega) hsub ⟨by omega,by omega,eU,Dx.more,Ox.trans (.more kx)⟩
   |true =>
    have c5:d2[x+1]! < d2[a]! := by simpa [ltN] using c4
    rw[c4] at w1
    rw[if_neg (by simp[c4])] at eU
    subst eU
    refine walk ?_
    refine a0c (q:=15) (ms:=[0,0,3,7,15,15,63,127,15,15,783,1807,4095,8191,16383]) (hl:=[[116],[115],[],[],[120,123,124,125,126],[119,123,124,125,126],[123,124,125,126],[123,124,125,126],[119,120,121,122,124],[119,120,121,122,123],[119,120,121,122],[119,120,121,122],[],[],[]]) kx rfl (by kernel_rfl) (by kernel_rfl) rfl ?_
    refine walk ?_
    exact join () hsub ⟨Dx.more,Ox.trans (.more kx)⟩
  clear D2 O2
  rintro⟨⟩ h5 ⟨D2,O2⟩
  by_cases c1:(i2:Int)>(j2:Int)
  ·rw[if_pos (by omega)] at eR
   subst eR
   refine walk ?_
   exact joinR () hsub ⟨by simp only; omega,by simp only; omega,sz,D2,O2⟩
  rw[if_neg (by omega)] at eR
  have l6:=l5 (by omega)
  have g_h5:=D2.get
  have a1:=@Dat.ix _ _ _ (i2) _ _ D2 (by omega)
  have a2:=@Dat.ix _ _ _ (j2) _ _ D2 (by omega)
  have he1:=D2.at (j:=i2) (by omega)
  have he2:=D2.at (j:=j2) (by omega)
  have s1:0+(i2)*1<(cel d2 tl).length:=by rw[a2n]; omega
  have s2:0+(j2)*1<((cel d2 tl).set (0+(i2)*1) (.int .u32 ((d2[j2]! : Nat):Int))).length:=by rw[List.length_set,a2n]; omega
  have D0:=D2.swp (i:=i2) (j:=j2) (h':=a0a.mk h5.t (h5.next+16)) (by omega) (by omega) (by show h5.next≤h5.next+16; omega) (.cells 29 ((cel d2 tl).set (0+(i2)*1) (.int .u32 ((d2[j2]! : Nat):Int))) true)
  have O0:=O2.trans (a2d.two (n:=16) D2.lt (O2.ok hk) (.cells 29 ((cel d2 tl).set (0+(i2)*1) (.int .u32 ((d2[j2]! : Nat):Int))) true) (.cells 29 (((cel d2 tl).set (0+(i2)*1) (.int .u32 ((d2[j2]! : Nat):Int))).set (0+(j2)*1) (.int .u32 ((d2[i2]! : Nat):Int))) true))
  refine walk ?_
  refine a0c (q:=16) (ms:=[0,0,0,0,0,0,48,112,0,0,768,1792,4083,8179,16383,32767]) (hl:=[[136,137,138,139,140,141,142,143,144,145,146],[135,137,138,139,140,141,142,143,144,145,146],[135,136,138,139,140,141,142,143,144,145,146,147],[135,136,137,139,140,141,142,143,144,145,146,147],[135,136,137,138,140,143,144,145,146],[135,136,137,138,139,143,144,145,146],[135,136,137,138,143,144,145,146],[135,136,137,138,143,144,145,146],[135,136,137,138,139,140,141,142,144],[135,136,137,138,139,140,141,142,143],[135,136,137,138,139,140,141,142],[135,136,137,138,139,140,141,142],[137,138],[137,138],[],[]]) (O2.ok hk) rfl (by kernel_rfl) (by kernel_rfl) rfl ?_
  refine walk ?_
  clear a1 a2 he1 he2 s1 s2
  rw[show((j2:Int)-1)=((j2-1:Nat):Int) by omega]
  exact next (i2+1,j2-1,Go.Sort.swp d2 i2 j2) (by simp only; omega) hsub ⟨by simp only; omega,by simp only; omega,by simp only; omega,by simp only[swp_size]; exact sz,eR,D0,O0⟩
 clear D3 O3 hR hd3 sz3 D2 O2
 rintro⟨⟩ h6 ⟨r1,r2,sz6,D2,O2⟩
 have g_h6:=D2.get
 have a1:=@Dat.ix _ _ _ (R.1) _ _ D2 (by omega)
 have a2:=@Dat.ix _ _ _ (a) _ _ D2 (by omega)
 have he1:=D2.at (j:=R.1) (by omega)
 have he2:=D2.at (j:=a) (by omega)
 have s1:0+(R.1)*1<(cel R.2 tl).length:=by rw[a2n]; omega
 have s2:0+(a)*1<((cel R.2 tl).set (0+(R.1)*1) (.int .u32 ((R.2[a]! : Nat):Int))).length:=by rw[List.length_set,a2n]; omega
 have D3:=D2.swp (i:=R.1) (j:=a) (h':=a0a.mk h6.t (h6.next+16)) (by omega) (by omega) (by show h6.next≤h6.next+16; omega) (.cells 29 ((cel R.2 tl).set (0+(R.1)*1) (.int .u32 ((R.2[a]! : Nat):Int))) true)
 have O3:=O2.trans (a2d.two (n:=16) D2.lt (O2.ok hk) (.cells 29 ((cel R.2 tl).set (0+(R.1)*1) (.int .u32 ((R.2[a]! : Nat):Int))) true) (.cells 29 (((cel R.2 tl).set (0+(R.1)*1) (.int .u32 ((R.2[a]! : Nat):Int))).set (0+(a)*1) (.int .u32 ((R.2[R.1]! : Nat):Int))) true))
 refine walk ?_
 refine a0c (q:=16) (ms:=[0,0,0,0,0,0,48,112,0,0,768,1792,4083,8179,16383,32767]) (hl:=[[154,155,156,157,158,159,160,161,162,163,164],[153,155,156,157,158,159,160,161,162,163,164],[153,154,156,157,158,159,160,161,162,163,164,165],[153,154,155,157,158,159,160,161,162,163,164,165],[153,154,155,156,158,161,162,163,164],[153,154,155,156,157,161,162,163,164],[153,154,155,156,161,162,163,164],[153,154,155,156,161,162,163,164],[153,154,155,156,157,158,159,160,162],[153,154,155,156,157,158,159,160,161],[153,154,155,156,157,158,159,160],[153,154,155,156,157,158,159,160],[155,156],[155,156],[],[]]) (O2.ok hk) rfl (by kernel_rfl) (by kernel_rfl) rfl ?_
 refine walk ?_
 clear a1 a2 he1 he2 s1 s2
 exact a0d (by exact hres) ⟨rfl,D3,O3⟩
end Go.Proofs.YtejfbaecadbdiaaGreat
