/- A part of an evaluator of the program's form in Lean, of the proof that what it says of a call is what the machine does, and of the rules by which proofs walk over it. Conditions: those that each theorem states. -/
import Derived.Test.YtejfbaecadbdiaaGreatGad
import Derived.Laws.Externs
import Derived.Lib.Overlaps
set_option linter.unusedVariables false
set_option linter.unusedSimpArgs false
section
namespace Ev
open Go Go.RowKit
variable {P:Program}{T:a0k}{base:Nat}{w0:World}
theorem d6l (n:Nat):∀ (l:List Nat),b0h n l=l.contains n
 |[]=>by simp[b0h]
 |m::l=>by
  unfold b0h
  cases h:Nat.beq n m with
  |true=>have:=Nat.eq_of_beq_eq_true h; subst this; simp
  |false =>
   have hne:¬ n=m:=fun e=>by subst e; simp at h
   simp[d6l n l,hne]
theorem a8j {w:World}{r:Nat}{m:Option Nat}{s:Nat}{seen:Array Nat}{c:Nat}(h:w.heap[r]?=some (.mapIter m s seen c)):(getObj r).run P w=.ok (.mapIter m s seen c) w:=by simp[getObj,Sem.run,h]
theorem c0b {w:World}{r:Nat}{m:Option Nat}{s:Nat}{seen:Array Nat}{c:Nat}(h:w.heap[r]?=some (.mapIter m s seen c)) (o:Obj):(setObj r o).run P w=.ok () (w.putObj r o):=by simp[setObj,Sem.run,h,World.putObj]
theorem d0q (ok:a0v P T){E:En}{h:a0a}{w:World}(H:HR P base w0 E h w){t:TypeId}{m:AV}{o:a1t}(hr:c8c T t h m=some o){m':Value}(hm:VR E m m') :
  ∃ E' w' v',(Instr.range t m').run P w=.ok v' w'∧VR E' (.ptr h.next 0) v'∧HR P base w0 E' (h.alloc o) w'∧Ste E h w E' (h.alloc o) w':=by
 have hnd:¬ E.dom h.next:=fun hd=>by have:=H.dlt _ hd; omega
 have le:=E.b0w h.next w.heap.size 0 0 hnd
 have mk:∀ (mm:Option Nat) (since last:Nat),(∀ x,mm=some x→E.dom x)→∃ E' v',v'=Value.pointer (some ⟨w.heap.size,0,none⟩)∧VR E' (.ptr h.next 0) v'∧HR P base w0 E' (h.alloc (.iter mm since [] last)) (w.alloc (.mapIter (mm.map E.blk) since #[] last)) ∧
   Ste E h w E' (h.alloc (.iter mm since [] last)) (w.alloc (.mapIter (mm.map E.blk) since #[] last)):=by
  intro mm since last hd
  have K:=b2z H (.iter mm since [] last) (.mapIter (mm.map E.blk) since #[] last) 0 (by
   refine⟨by simpa [En.push] using H.bsz,by simp[En.push],fun x hx=>.inr (hd x hx),?_⟩
   have:mm.map (E.push h.next w.heap.size 0 0).blk=mm.map E.blk:=by
    cases mm with
    |none=>rfl
    |some x=>simp[le.blk x (hd x rfl)]
   rw[this]
   simp only[En.push,if_true]
   exact heap_alloc_new)
  have hv:=VR.ptr (E:=E.push h.next w.heap.size 0 0) h.next 0 (.inl rfl)
  have ha:(E.push h.next w.heap.size 0 0).at h.next 0=⟨w.heap.size,0,none⟩:=by simp[En.at,En.push]
  rw[ha] at hv
  exact⟨_,_,rfl,hv,K.1,K.2⟩
 unfold c8c at hr
 split at hr
 ·rename_i k e hu
  simp at hr; subst hr
  cases hm
  obtain⟨E',v',rfl,q1,q2,q3⟩:=mk none 0 0 (by simp)
  exact⟨E',_,_,by simp[Instr.range,a0i ok hu],q1,q2,q3⟩
 ·rename_i k e b hu
  cases hm with|map _ hd =>
  split at hr<;>simp at hr
  rename_i es clock hg
  subst hr
  obtain⟨hb,es',he1,he2⟩:=H.obj b _ hd hg
  obtain⟨E',v',rfl,q1,q2,q3⟩:=mk (some b) clock clock (by intro x hx; cases hx; exact hd)
  exact⟨E',_,_,by simp[Instr.range,a0i ok hu,a3l he1],q1,q2,q3⟩
 ·simp at hr
theorem b6v {E:En}(seen:List Nat):∀ {es:List (AV×AV×Nat)}{es':List MapEntry},ER E es es'→ER E (b1j seen es) (es'.filter fun e => !seen.contains e.born)
 |_,_,.nil=>.nil
 |_,_,.cons k v k' v' n l l' hk hv hl=>by
  have ih:=b6v seen hl
  simp only[b1j,d6l,List.filter_cons]
  cases hc:seen.contains n with
  |true=>simp only[Bool.not_true,Bool.false_eq_true,if_false]; exact ih
  |false=>simp only[Bool.not_false,if_true]; exact .cons _ _ _ _ _ _ _ hk hv ih
theorem b5n {E:En}(last:Nat):∀ {es:List (AV×AV×Nat)}{es':List MapEntry},ER E es es'→b5c last es=es'.all (fun e=>decide (e.born ≥ last))
 |_,_,.nil=>rfl
 |_,_,.cons k v k' v' n l l' hk hv hl=>by
  simp only[b5c,List.all_cons,b5n last hl]
  congr 1
  cases h:Nat.ble last n with
  |true=>have:=Nat.le_of_ble_eq_true h; simp[this]
  |false =>
   have:¬ last≤n:=fun hh=>by rw[Nat.ble_eq_true_of_le hh] at h; cases h
   simp[this]
theorem b9n {E:En}(seen:List Nat) (last:Nat){es:List (AV×AV×Nat)}
  (hc:(match seen,es with|[],_=>true|_,[]=>true|_,es => !b5c last es)=true) {es':Array MapEntry} (hE:ER E es es'.toList):(!seen.toArray.isEmpty && !es'.isEmpty&&es'.all (fun x=>decide (x.born ≥ last)))=false:=by
 obtain⟨l⟩:=es'
 simp only[List.isEmpty_toArray,List.all_toArray] at hE ⊢
 have ha:=b5n last hE
 cases seen with
 |nil=>simp
 |cons x xs =>
  cases hE with
  |nil=>simp
  |cons k v k' v' n l l' hk hv hl =>
   have hc:(!b5c last ((k,v,n)::l))=true:=hc
   rw[ha] at hc
   have hc2:=Bool.not_eq_true' _ ▸ hc
   simp only[Bool.and_eq_false_iff]
   exact .inr hc2
theorem d4y {E:En}{h:a0a}{w:World}(H:HR P base w0 E h w){b:Nat}(hd:E.dom b){v:AV}{h':a0a}(hn:a9b T h b=.val v h') (ty:TypeId) :
  ∃ E' w' v',(Instr.next (.pointer (some (E.at b 0))) false ty).run P w=.ok v' w'∧VR E' v v'∧HR P base w0 E' h' w'∧Ste E h w E' h' w':=by
 unfold a9b at hn
 split at hn
 ·rename_i since seen last hg
  simp at hn; obtain⟨rfl,rfl⟩:=hn
  obtain⟨hb,ho,_,h1⟩:=H.obj b _ hd hg
  have hat:E.at b 0=⟨E.blk b,0,none⟩:=by simp[En.at,ho]
  rw[hat]
  refine⟨E,w,.tuple #[.bool false],?_,.tuple _ _ (.cons _ _ _ _ (.bool _) .nil),H,.refl _ _ _⟩
  simp[Instr.next,a8j h1]
 ·rename_i m since seen last hg
  split at hn
  ·rename_i es clock hgm
   obtain⟨hb,ho,hmd,h1⟩:=H.obj b _ hd hg
   have hdm:=hmd m rfl
   obtain⟨hbm,es',he1,he2⟩:=H.obj m _ hdm hgm
   have hat:E.at b 0=⟨E.blk b,0,none⟩:=by simp[En.at,ho]
   rw[hat]
   simp only[Option.map_some] at h1
   have hlt:=H.live hd hg trivial
   split at hn
   ·simp at hn
   ·rename_i hc
    have hc':=b9n seen last hc he2
    have hL:=b6v seen he2
    have hA:(es'.filter fun e => !seen.toArray.contains e.born).toList=es'.toList.filter fun e => !seen.contains e.born:=by simp
    split at hn
    ·rename_i hl
     simp at hn; obtain⟨rfl,rfl⟩:=hn
     rw[hl] at hL
     have hnil:(es'.filter fun e => !seen.toArray.contains e.born) = #[]:=by
      apply Array.toList_inj.1
      rw[hA]
      generalize es'.toList.filter (fun e => !seen.contains e.born)=q at hL
      cases hL; rfl
     refine⟨E,w,.tuple #[.bool false],?_,.tuple _ _ (.cons _ _ _ _ (.bool _) .nil),H,.refl _ _ _⟩
     simp only[Instr.next,Sem.run_bind,a8j h1,Result.andThen_ok,a3l he1,hc',hnil]
     simp[choose,Sem.run,Question.forced]
    ·rename_i e hl
     split at hn
     ·rename_i hlt2
      simp at hn; obtain⟨rfl,rfl⟩:=hn
      rw[hl] at hL
      generalize hq:es'.toList.filter (fun e => !seen.contains e.born)=q at hL
      cases hL with|cons k v k' v' n l l' hk hv hl' =>
      cases hl'
      have hone:(es'.filter fun e => !seen.toArray.contains e.born) = #[{ key:=k',val:=v',born:=n }]:=by
       apply Array.toList_inj.1
       rw[hA,hq]
      have hns:n<since:=by
       have:=hlt2
       rw[blt_eq] at this
       simpa using this
      have hge:¬ n ≥ since:=by omega
      have K:=HR.put H hd hg trivial (.mapIter (some (E.blk m)) since (seen++[n]).toArray clock) (.iter (some m) since (seen++[n]) clock) (by
       refine⟨hb,ho,hmd,?_⟩
       simpa using World.putObj_heap_same hlt)
      refine⟨E,_,.tuple #[.bool true,k',v'],?_,.tuple _ _ (.cons _ _ _ _ (.bool _) (.cons _ _ _ _ hk (.cons _ _ _ _ hv .nil))),K.1,K.2⟩
      simp only[Instr.next,Sem.run_bind,a8j h1,Result.andThen_ok,a3l he1,hc',hone]
      simp[choose,Sem.run,Question.forced,hns,hge,c0b h1]
     ·simp at hn
    ·split at hn<;>simp at hn
  ·simp at hn
 ·simp at hn
theorem run_choose {q:Question}(hq:¬ q.forced=true) (w:World):(choose q).run P w=.ok (q.cut (w.tape w.drawn q)) { w with drawn:=w.drawn+1 }:=by
 simp[choose,Sem.run,hq]
theorem c2r (since:Nat):∀ {l:List (AV×AV×Nat)},b6q since l=true→∀ e,e∈l→e.2.2<since
 |[],_,e,he=>by cases he
 |x::l,h,e,he=>by
  unfold b6q at h
  split at h
  ·rename_i hx
   rw[blt_eq] at hx
   rcases List.mem_cons.1 he with rfl|he
   ·simpa using hx
   ·exact c2r since h e he
  ·cases h
theorem ER.born {E:En}:∀ {l:List (AV×AV×Nat)}{l':List MapEntry},ER E l l'→∀ e',e'∈l'→∃ e,e∈l∧e.2.2=e'.born∧VR E e.1 e'.key∧VR E e.2.1 e'.val
 |_,_,.nil,e',he=>by cases he
 |_,_,.cons k v k' v' n l l' hk hv hl,e',he=>by
  rcases List.mem_cons.1 he with rfl|he
  ·exact⟨(k,v,n),List.mem_cons_self ..,rfl,hk,hv⟩
  ·obtain⟨e,h1,h2⟩:=hl.born e' he
   exact⟨e,List.mem_cons_of_mem _ h1,h2⟩
theorem c1u (m:Option Nat) (since:Nat) (seen:List Nat) (clock:Nat) (h:a0a) (b:Nat):∀ {l:List (AV×AV×Nat)}{e:AV×AV×Nat},e∈l→(AV.tuple [.bool true,e.1,e.2.1],h.set b (.iter m since (seen++[e.2.2]) clock))∈b6i m since seen clock h b l
 |[],e,he=>by cases he
 |x::l,e,he=>by
  rcases List.mem_cons.1 he with rfl|he
  ·exact List.mem_cons_self ..
  ·exact List.mem_cons_of_mem _ (c1u m since seen clock h b he)
theorem c6s {E:En}{h:a0a}{w:World}(H:HR P base w0 E h w){b:Nat}(hd:E.dom b){l:List (AV×a0a)}(hn:a9b T h b=.choice l) (ty:TypeId) :
  ∃ p,p∈l∧∃ E' w' v',(Instr.next (.pointer (some (E.at b 0))) false ty).run P w=.ok v' w'∧VR E' p.1 v'∧HR P base w0 E' p.2 w'∧Ste E h w E' p.2 w':=by
 unfold a9b at hn
 split at hn
 ·simp at hn
 ·rename_i m since seen last hg
  split at hn
  ·rename_i es clock hgm
   obtain⟨hb,ho,hmd,h1⟩:=H.obj b _ hd hg
   have hdm:=hmd m rfl
   obtain⟨hbm,es',he1,he2⟩:=H.obj m _ hdm hgm
   have hat:E.at b 0=⟨E.blk b,0,none⟩:=by simp[En.at,ho]
   rw[hat]
   simp only[Option.map_some] at h1
   have hlt:=H.live hd hg trivial
   split at hn
   ·simp at hn
   ·rename_i hc
    have hc':=b9n seen last hc he2
    have hL:=b6v seen he2
    split at hn
    ·simp at hn
    ·split at hn<;>simp at hn
    ·rename_i hne1 hne2
     split at hn
     ·rename_i hall
      simp at hn
      subst hn
      simp only[Bool.and_eq_true] at hall
      have hold:=c2r since hall.2
      generalize hL':es'.filter (fun e => !seen.toArray.contains e.born)=L
      have hA:L.toList=es'.toList.filter fun e => !seen.contains e.born:=by rw[← hL']; simp
      rw[← hA] at hL
      have hlen:(b1j seen es).length=L.size:=by rw[hL.length]; simp
      have h2:2≤L.size:=by
       rw[← hlen]
       match hq:b1j seen es with
       |[]=>exact absurd hq hne1
       |[e]=>exact absurd hq (hne2 e)
       |_::_::_=>simp
      have hold':∀ e,e∈L→e.born<since:=by
       intro e he
       obtain⟨x,x1,x2,_⟩:=hL.born e (by simpa using he)
       rw[← x2]; exact hold x x1
      have f1:L.filter (fun e=>decide (e.born<since))=L:=by
       apply Array.filter_eq_self.2
       intro e he; simpa using hold' e he
      have f2:L.filter (fun e=>decide (e.born ≥ since)) = #[]:=by
       apply Array.filter_eq_empty_iff.2
       intro e he; simpa using hold' e he
      have hne:L.isEmpty=false:=by
       rw[Array.isEmpty_eq_false_iff]
       intro e; rw[e] at h2; simp at h2
      let t:=w.tape w.drawn (.mapNext L.size)
      have hti:t % L.size<L.size:=Nat.mod_lt _ (by omega)
      obtain⟨x,x1,x2,x3,x4⟩:=hL.born L[t % L.size] (by simp)
      refine⟨_,c1u (some m) since seen clock h b x1,?_⟩
      have H1:HR P base w0 E h { w with drawn:=w.drawn+1 }:=H.heap rfl rfl rfl rfl (by simp)
      have K:=HR.put H1 hd hg trivial (.mapIter (some (E.blk m)) since (seen++[x.2.2]).toArray clock) (.iter (some m) since (seen++[x.2.2]) clock) (by
       refine⟨hb,ho,hmd,?_⟩
       simpa using World.putObj_heap_same (w:={ w with drawn:=w.drawn+1 }) hlt)
      have S0:Ste E h w E h { w with drawn:=w.drawn+1 }:=⟨.refl E,fun _ h=>.inl h,Nat.le_refl _,fun _ _ _=>rfl,Nat.le_refl _,fun _ _ _=>rfl,fun _ h=>.inl h⟩
      refine⟨E,_,.tuple #[.bool true,L[t % L.size].key,L[t % L.size].val],?_,.tuple _ _ (.cons _ _ _ _ (.bool _) (.cons _ _ _ _ x3 (.cons _ _ _ _ x4 .nil))),K.1,S0.trans K.2⟩
      have hforced:¬ (Question.mapNext L.size).forced=true:=by simp[Question.forced]; omega
      simp only[Instr.next,Sem.run_bind,a8j h1,Result.andThen_ok,a3l he1,hc',hL',f1,f2]
      have hc1:((if L.isEmpty=true then #[none] else #[])++Array.map some (L ++ #[]))=L.map some:=by simp[hne]
      rw[hc1]
      simp only[Bool.false_eq_true,if_false,Sem.run_bind,Array.size_map,run_choose hforced,Result.andThen_ok]
      have hg2:(L.map some)[Question.cut (.mapNext L.size) (w.tape w.drawn (.mapNext L.size))]?=some (some L[t % L.size]):=by
       show(L.map some)[t % L.size]?=_
       simp[hti]
      rw[hg2]
      simp only[Sem.run_bind,c0b (w:={ w with drawn:=w.drawn+1 }) h1,Result.andThen_ok]
      have hs:(seen++[x.2.2]).toArray=seen.toArray.push L[t % L.size].born:=by rw[x2]; simp
      rw[hs]
      simp
     ·simp at hn
  ·simp at hn
 ·simp at hn
theorem b9s {E:En}(n:Nat):∀ {es:List (AV×AV×Nat)}{es':List MapEntry}{e:AV×AV×Nat},ER E es es'→c0j n es=some e→∃ e',es'.find? (fun x=>x.born==n)=some e'∧VR E e.1 e'.key∧VR E e.2.1 e'.val
 |_,_,_,.nil,h=>by simp[c0j] at h
 |_,_,e,.cons k v k' v' m l l' hk hv hl,h=>by
  unfold c0j at h
  split at h
  ·rename_i hb
   simp at h; subst h
   have:=Nat.eq_of_beq_eq_true hb
   simp only at this
   subst this
   exact⟨⟨k',v',m⟩,by simp,hk,hv⟩
  ·rename_i hb
   obtain⟨e',h1,h2⟩:=b9s n hl h
   refine⟨e',?_,h2⟩
   have hne:¬ m=n:=fun q=>by subst q; simp at hb
   simp[hne,h1]
theorem c9c:∀ (l:List Nat),d0f l=l.getLast?
 |[]=>rfl
 |[n]=>rfl
 |n::m::l=>by
  simp only[d0f]
  rw[c9c (m::l),List.getLast?_cons_cons]
theorem c9j {E:En}{h:a0a}{w:World}(H:HR P base w0 E h w){b:Nat}(hd:E.dom b){v:AV}(hn:c1x h b=some v) :
  ∃ v',(Instr.entry (.pointer (some (E.at b 0)))).run P w=.ok v' w∧VR E v v':=by
 unfold c1x at hn
 split at hn
 ·rename_i m since seen stepped hg
  split at hn
  ·rename_i stamp es clock hl hgm
   obtain⟨hb,ho,hmd,h1⟩:=H.obj b _ hd hg
   have hdm:=hmd m rfl
   obtain⟨hbm,es',he1,he2⟩:=H.obj m _ hdm hgm
   have hat:E.at b 0=⟨E.blk b,0,none⟩:=by simp[En.at,ho]
   rw[hat]
   simp only[Option.map_some] at h1
   split at hn
   ·rename_i e hck hbn
    simp at hn; subst hn
    have hck:=Nat.eq_of_beq_eq_true hck
    subst hck
    obtain⟨e',q1,q2,q3⟩:=b9s stamp he2 hbn
    rw[c9c] at hl
    refine⟨.tuple #[e'.key,e'.val],?_,.tuple _ _ (.cons _ _ _ _ q2 (.cons _ _ _ _ q3 .nil))⟩
    have q1':es'.find? (fun x=>x.born==stamp)=some e':=by rw[← Array.find?_toList]; exact q1
    have hl':seen.toArray.back?=some stamp:=by simpa using hl
    simp[Instr.entry,a8j h1,hl',a3l he1,q1']
   ·simp at hn
  ·simp at hn
 ·simp at hn
end Ev
end
section
namespace Ev
open Go Go.RowKit
variable {P:Program}{T:a0k}{base:Nat}{w0:World}
theorem c1q {t e:TypeId}(h:P.underlying t=some (.slice e)) (w:World):(Extern.Rtype.kind t).run P w=.ok 23 w:=by
 unfold Program.underlying at h
 unfold Extern.Rtype.kind Extern.Rtype.under
 cases hi:P.info? t with
 |none=>simp[hi] at h
 |some i =>
  have ht:(typeInfo t).run P w=.ok i w:=by simp[typeInfo,hi]
  simp only[Sem.run_bind,ht,Result.andThen_ok]
  rw[hi] at h
  cases hd:i.desc with
  |named n u =>
   obtain⟨⟩:=i
   simp only at hd
   subst hd
   simp only at h
   cases hu:P.info? u with
   |none=>simp[hu] at h
   |some j =>
    have hu2:(typeInfo u).run P w=.ok j w:=by simp[typeInfo,hu]
    simp[hu] at h
    simp[hu2,h]
  |slice e2=>simp[hd]
  |_ =>
   exfalso
   obtain⟨⟩:=i
   simp only at hd
   subst hd
   simp at h
theorem c0s {t e:TypeId}(h:P.underlying t=some (.slice e)) (w:World):∃ u i,(Extern.Rtype.under t).run P w=.ok (u,i) w∧i.desc=.slice e:=by
 unfold Program.underlying at h
 unfold Extern.Rtype.under
 cases hi:P.info? t with
 |none=>simp[hi] at h
 |some i =>
  have ht:(typeInfo t).run P w=.ok i w:=by simp[typeInfo,hi]
  simp only[Sem.run_bind,ht,Result.andThen_ok]
  rw[hi] at h
  cases hd:i.desc with
  |named n u =>
   obtain⟨⟩:=i
   simp only at hd
   subst hd
   simp only at h
   cases hu:P.info? u with
   |none=>simp[hu] at h
   |some j =>
    have hu2:(typeInfo u).run P w=.ok j w:=by simp[typeInfo,hu]
    simp[hu] at h
    exact⟨u,j,by simp[hu2],h⟩
  |slice e2 =>
   obtain⟨⟩:=i
   simp only at hd
   subst hd
   simp at h
   subst h
   exact⟨t,_,rfl,rfl⟩
  |_ =>
   exfalso
   obtain⟨⟩:=i
   simp only at hd
   subst hd
   simp at h
theorem d5c {t:TypeId}(h:P.packed t=false) (what:String) (w:World):(Extern.Rtype.noPack what t).run P w=.ok () w:=by
 simp[Extern.Rtype.noPack,h]
theorem c7y (t:TypeId) (w:World):(Extern.Rtype.ofHandle (.pointer (some ⟨P.globals.size,t,none⟩))).run P w=.ok t w:=by
 simp[Extern.Rtype.ofHandle,handleType]
theorem d7f {t:TypeId}(h:P.packed t=false) (a:Addr) (w:World) :
  (Extern.ReflectliteValue.parts (.agg #[.pointer (some ⟨P.globals.size,t,none⟩),.pointer (some a),.int .u64 151])).run P w=.ok (some (t,a,151)) w:=by
 have e0:Extern.ReflectliteValue.parts (.agg #[.pointer (some ⟨P.globals.size,t,none⟩),.pointer (some a),.int .u64 151]) =
  ((do pure (some (← Extern.Rtype.ofHandle (.pointer (some ⟨P.globals.size,t,none⟩)),a,(151:Int).toNat)):Sem (Option (TypeId×Addr×Nat))) >>= fun r=>match r with
    | some (t, a, fl) => do Extern.Rtype.noPack "a Value asked or handed on" t; pure (some (t, a, fl))
    |none=>pure none):=rfl
 rw[e0]
 simp only[Sem.run_bind,c7y,Result.andThen_ok,Sem.run_pure,d5c h]
 rfl
theorem c7b {t e:TypeId}(hu:P.underlying t=some (.slice e)) (h:P.packed t=false) (a:Addr) (w:World) :
  (Extern.ReflectliteValue.method (Extern.ReflectliteValue.valueError "reflectlite.Value.Len" 0) Extern.ReflectliteValue.len #[.agg #[.pointer (some ⟨P.globals.size, t, none⟩), .pointer (some a), .int .u64 151]]).run P w =
  (do Builtin.len_ #[t] 0 #[← loadVar t a]:Sem Value).run P w:=by
 have e0 : Extern.ReflectliteValue.method (Extern.ReflectliteValue.valueError "reflectlite.Value.Len" 0) Extern.ReflectliteValue.len #[.agg #[.pointer (some ⟨P.globals.size, t, none⟩), .pointer (some a), .int .u64 151]] =
  (Extern.ReflectliteValue.parts (.agg #[.pointer (some ⟨P.globals.size,t,none⟩),.pointer (some a),.int .u64 151]) >>= fun r=>match r with
   | none => Extern.ReflectliteValue.valueError "reflectlite.Value.Len" 0
   |some (t,a,fl)=>Extern.ReflectliteValue.len t a fl (fl % 32)):=rfl
 have e3:(Extern.ReflectliteValue.len t a 151 (151 % 32))=(Extern.Rtype.under t >>= fun q=>match q.2.desc with
   |.array n _=>pure (goInt (Int.ofNat n))
   |_=>do Builtin.len_ #[t] 0 #[← loadVar t a]):=rfl
 rw[e0,Sem.run_bind,d7f h,Result.andThen_ok]
 show Sem.run P (Extern.ReflectliteValue.len t a 151 (151 % 32)) w=_
 obtain⟨u,i,hi,hid⟩:=c0s hu w
 rw[e3,Sem.run_bind,hi,Result.andThen_ok]
 simp only[hid]
theorem b5g {E : En} {h h' : a0a} {w : World} {v : AV} {f : FuncId} {F : Func} {e : Array Value → Sem Value} {args : List Value} (hf : P.funcs[f]? = some F) (hname : (F.name == "runtime.NumGoroutine") = false)
  (hb:F.body.isNone=true) (hn:Extern.findNext F=none) (he:Extern.find F=some e)
  (hs:∃ E' w' v',(e args.toArray).run P w=.ok v' w'∧VR E' v v'∧HR P base w0 E' h' w'∧Ste E h w E' h' w'):Out P base w0 E h w (.val v h') ((callFunc f args.toArray).run P w):=by
 obtain⟨E',w',v',r1,r2,r3,r4⟩:=hs
 refine⟨E',w',v',?_,r2,r3,r4⟩
 rw[run_callFunc_extern hf hname hb hn he,r1]
 rfl
theorem c6r (w:World) (tS e:TypeId) (ps rs:Array TypeId) (hp:ps[0]?=some tS) (ht:P.underlying tS=some (.slice e)) (size:Nat) (hz:∀ w,(Go.sizeOf e).run P w=.ok size w)
  (a b:Addr) (la ca lb cb:Nat) (h0:la=0∨lb=0∨size=0) :
  (Extern.SlicesOverlaps.overlaps ps rs #[.slice (some a) la ca,.slice (some b) lb cb]).run P w=.ok (.bool false) w:=by
 have e1:Extern.SlicesOverlaps.overlaps ps rs #[.slice (some a) la ca,.slice (some b) lb cb]=(do
  let some t := ps[0]? | stuck "slices.overlaps: no parameter types"
  let .slice elem ← underlying t | stuck "slices.overlaps: slice type expected"
  let size ← sizeOf elem
  match (some a:Option Addr),(some b:Option Addr) with
  |some a,some b =>
   if la=0∨lb=0∨size=0 then pure (Value.bool false)
   else if a.block != b.block&&(← frozen a)&&(← frozen b) then unsupported .addressObserved
   else do
    if a.block != b.block then do
     noView a; noView b
     if ← mayBeOne a b then return Value.bool ((← choose (.extern "sameAddr.stringBytes" 2)) == 1)
    pure (Value.bool (a.block==b.block&&a.off<b.off+lb*size&&b.off<a.off+la*size))
  |_,_=>pure (Value.bool false)):=rfl
 rw[e1,hp]
 simp[run_underlying ht,hz,h0]
theorem c2v (w:World) (tS e:TypeId) (ps rs:Array TypeId) (hp:ps[0]?=some tS) (ht:P.underlying tS=some (.slice e)) (size:Nat) (hz:∀ w,(Go.sizeOf e).run P w=.ok size w)
  (a b:Addr) (la ca lb cb:Nat) (hne:a.block≠b.block) (tA tB:TypeId) (kA kB:Nat) (hsa:w.shape? a.block=some (tA,kA)) (hsb:w.shape? b.block=some (tB,kB)) (hkB:kB≠0) (hfa:w.frozen? a=false) (hfe:w.frozen? { block:=a.block,off:=kA }=false) :
  (Extern.SlicesOverlaps.overlaps ps rs #[.slice (some a) la ca,.slice (some b) lb cb]).run P w=.ok (.bool false) w:=by
 have hnb:(a.block != b.block)=true:=by simpa using hne
 have hnb':(a.block==b.block)=false:=by simpa using hne
 have e1:Extern.SlicesOverlaps.overlaps ps rs #[.slice (some a) la ca,.slice (some b) lb cb]=(do
  let some t := ps[0]? | stuck "slices.overlaps: no parameter types"
  let .slice elem ← underlying t | stuck "slices.overlaps: slice type expected"
  let size ← sizeOf elem
  match (some a:Option Addr),(some b:Option Addr) with
  |some a,some b =>
   if la=0∨lb=0∨size=0 then pure (Value.bool false)
   else if a.block != b.block&&(← frozen a)&&(← frozen b) then unsupported .addressObserved
   else do
    if a.block != b.block then do
     noView a; noView b
     if ← mayBeOne a b then return Value.bool ((← choose (.extern "sameAddr.stringBytes" 2)) == 1)
    pure (Value.bool (a.block==b.block&&a.off<b.off+lb*size&&b.off<a.off+la*size))
  |_,_=>pure (Value.bool false)):=rfl
 rw[e1,hp]
 by_cases h0:la=0∨lb=0∨size=0
 ·simp[run_underlying ht,hz,h0]
 ·cases kB with
  |zero=>exact absurd rfl hkB
  |succ kB=>simp[run_underlying ht,hz,h0,hnb,hnb',frozen,noView,viewAt,mayBeOne,stringish,shape,Sem.run,hsa,hsb,hfa,hfe]
theorem VR.a9x {E:En}{x:AV}{v:Value}{b:Nat}(h:VR E x v) (e:a9x x=some b):E.dom b∧∃ o n c,v=.slice (some (E.at b o)) n c:=by
 cases h<;>simp[Ev.a9x] at e
 ·rename_i o n c hd
  subst e
  exact⟨hd,o,n,c,rfl⟩
 ·rename_i o n sz k hd hk
  subst e
  exact⟨hd,o,n,k,rfl⟩
theorem b8a (w:World) (tS e:TypeId) (ps rs:Array TypeId) (hp:ps[0]?=some tS) (ht:P.underlying tS=some (.slice e)) (size:Nat) (hz:∀ w,(Go.sizeOf e).run P w=.ok size w)
  (a b:Option Addr) (la ca lb cb:Nat) (h0:a=none∨b=none) :
  (Extern.SlicesOverlaps.overlaps ps rs #[.slice a la ca,.slice b lb cb]).run P w=.ok (.bool false) w:=by
 have e1:Extern.SlicesOverlaps.overlaps ps rs #[.slice a la ca,.slice b lb cb]=(do
  let some t := ps[0]? | stuck "slices.overlaps: no parameter types"
  let .slice elem ← underlying t | stuck "slices.overlaps: slice type expected"
  let size ← sizeOf elem
  match a,b with
  |some a,some b =>
   if la=0∨lb=0∨size=0 then pure (Value.bool false)
   else if a.block != b.block&&(← frozen a)&&(← frozen b) then unsupported .addressObserved
   else do
    if a.block != b.block then do
     noView a; noView b
     if ← mayBeOne a b then return Value.bool ((← choose (.extern "sameAddr.stringBytes" 2)) == 1)
    pure (Value.bool (a.block==b.block&&a.off<b.off+lb*size&&b.off<a.off+la*size))
  |_,_=>pure (Value.bool false)):=rfl
 rw[e1,hp]
 rcases h0 with rfl|rfl
 ·simp[run_underlying ht,hz]
 ·cases a<;>simp[run_underlying ht,hz]
theorem VR.a9n {E:En}{x:AV}{x':Value}{n:Nat}(h:VR E x x') (hn:a9n x=some n):∃ A c,x'=.slice A n c:=by
 cases h<;>simp[Ev.a9n] at hn
 ·subst hn; exact⟨_,_,rfl⟩
 ·subst hn; exact⟨_,_,rfl⟩
 ·subst hn; exact⟨_,_,rfl⟩
 ·subst hn; exact⟨_,_,rfl⟩
theorem d8o (w:World){r:Nat}{es:Array MapEntry}{clock:Nat}(t:TypeId) (hb:w.heap[r]?=some (.map es clock)) :
  (Extern.MapsClone.clone #[.iface t (.map (some r))]).run P w=.ok (.iface t (.map (some w.heap.size))) (w.alloc (.map es clock)):=by
 have e:Extern.MapsClone.clone #[.iface t (.map (some r))]=(getObj r >>= fun o=>match o with
   |.map entries clock=>(newObj (.map entries clock) >>= fun n=>pure (.iface t (.map (some n))))
   | _ => stuck "maps.clone: a map expected") := rfl
 rw[e,Sem.run_bind,a3l hb]
 simp
theorem d9o (ok:a0v P T){E:En}{h:a0a}{w:World}(H:HR P base w0 E h w) (f:FuncId){args:List AV}{args':List Value}(ha:VRs E args args') :
  Out P base w0 E h w (e4f T f args h) ((callFunc f args'.toArray).run P w):=by
 unfold e4f
 split
 ·trivial
 ·rename_i hk
  obtain⟨F,f1,f2,f3,f4,f5⟩:=ok.ext f _ hk
  split
  ·rename_i t v
   split
   ·rename_i hkd
    cases ha with|cons _ v1 _ l1 hv hl =>
    cases hl
    cases hv with|iface _ _ v' hv =>
    obtain⟨_,e,hu⟩:=ok.kd t hkd
    obtain⟨E',q1,q2,q3,q4⟩:=fresh H t hv.cells
    refine b5g f1 f2 f3 f4 f5 ⟨E',_,.agg #[.pointer (some ⟨P.globals.size,t,none⟩),.pointer (some ⟨w.heap.size,0,none⟩),.int .u64 151],?_,?_,q1,q2⟩
    ·have e1:(Extern.ReflectliteValue.unpack ((#[Value.iface t v']:Array Value).getD 0 (.tuple #[])))=(do Extern.ReflectliteValue.mk t (← newVar t v') 0):=rfl
     have e2:∀ w,(Extern.Rtype.handle t).run P w=.ok (typeHandle P t) w:=fun w=>by simp[Extern.Rtype.handle]
     show Sem.run P (Extern.ReflectliteValue.unpack ((#[Value.iface t v']:Array Value).getD 0 (.tuple #[]))) w=_
     rw[e1]
     simp[newVar,newRow,Extern.ReflectliteValue.mk,e2,c1q hu,Extern.ReflectliteValue.flagIndir]
     rfl
    ·refine .agg _ [_,_,_] (.cons _ _ _ _ ?_ (.cons _ _ _ _ ?_ (.cons _ _ _ _ (.int _ _) .nil)))
     ·rw[ok.rt]; exact .raw _ _
     ·have:=VR.ptr (E:=E') h.next 0 q3
      rw[q4] at this
      exact this
   ·trivial
  ·trivial
 ·rename_i hk
  obtain⟨F,f1,f2,f3,f4,f5⟩:=ok.ext f _ hk
  split
  ·rename_i g t b off k
   split
   ·rename_i hc
    obtain⟨hkd,rfl,rfl⟩:=hc
    obtain⟨hpk,e,hu⟩:=ok.kd t hkd
    split
    ·rename_i x hx
     cases hl:d4o T t h x with
     |none=>trivial
     |some v =>
      cases ha with|cons _ v1 _ l1 hv hl1 =>
      cases hl1
      cases hv with|agg _ _ hag =>
      cases hag with|cons _ _ _ _ h1 hag =>
      cases hag with|cons _ _ _ _ h2 hag =>
      cases hag with|cons _ _ _ _ h3 hag =>
      cases hag
      cases h1
      cases h3
      cases h2 with|ptr _ _ hd =>
      obtain⟨x',r1,r2⟩:=b7u (P:=P) ok hd H hx
      obtain⟨v',s1,s2⟩:=b8p (P:=P) ok H hl r2 [] [] 0
      refine b5g f1 f2 f3 f4 f5 ⟨E,w,v',?_,s2,H,.refl _ _ _⟩
      show Sem.run P (Extern.ReflectliteValue.method (Extern.ReflectliteValue.valueError "reflectlite.Value.Len" 0) Extern.ReflectliteValue.len #[.agg #[.pointer (some ⟨T.rt, t, none⟩), .pointer (some (E.at b off)), .int .u64 151]]) w = _
      rw[ok.rt,c7b hu hpk,Sem.run_bind,r1]
      exact s1
    ·trivial
   ·trivial
  ·trivial
 ·rename_i sz hk
  obtain⟨F,f1,f2,f3,f4,tS,e,f5,f6,f7,f8⟩:=ok.ext f _ hk
  have hz:∀ w,(Go.sizeOf e).run P w=.ok sz w:=fun w=>by
   cases hi:P.info? e with
   |none=>rw[hi] at f7; cases f7
   |some i =>
    rw[hi] at f7
    simp at f7
    simp[Go.sizeOf,typeInfo,hi,f7]
  split
  ·rename_i x y
   cases ho:b8w T h sz x y with
   |none=>trivial
   |some b =>
    cases ha with|cons _ x' _ _ hx ha =>
    cases ha with|cons _ y' _ _ hy ha =>
    cases ha
    unfold b8w at ho
    split at ho
    ·rename_i n n' hn hn'
     split at ho
     ·rename_i h0
      simp at ho
      subst ho
      obtain⟨A,c,rfl⟩:=hx.a9n hn
      obtain⟨B,c',rfl⟩:=hy.a9n hn'
      refine b5g f1 f2 f3 f4 f8 ⟨E,w,.bool false,?_,.bool _,H,.refl _ _ _⟩
      cases A with
      |none=>exact b8a w tS e _ _ f5 f6 sz hz _ _ _ _ _ _ (.inl rfl)
      |some a =>
       cases B with
       |none=>exact b8a w tS e _ _ f5 f6 sz hz _ _ _ _ _ _ (.inr rfl)
       |some b=>exact c6r w tS e _ _ f5 f6 sz hz _ _ _ _ _ _ h0
     ·unfold e3a at ho
      split at ho
      ·rename_i bA bB hbA hbB
       split at ho
       ·rename_i eA csA eB y0 csB hgA hgB
        split at ho
        ·rename_i hne
         split at ho
         ·cases ho
         ·rename_i d hd hu
          cases ho
          obtain⟨dA,oA,nA,cA,rfl⟩:=hx.a9x hbA
          obtain⟨dB,oB,nB,cB,rfl⟩:=hy.a9x hbB
          obtain⟨cA',zA,a1,a2,a3,a4,a5,a6⟩:=H.obj bA _ dA hgA
          obtain⟨cB',zB,b1,b2,b3,b4,b5,b6⟩:=H.obj bB _ dB hgB
          have hn:E.blk bA≠E.blk bB:=fun q=>by
           have:=H.inj bA bB _ _ dA dB hgA hgB rfl rfl q
           subst this
           simp at hne
          have hz0:zA.1=zA.2:=by
           rcases(a5 rfl).2 with q|⟨_,q⟩
           ·exact q
           ·have:=ok.und _ _ hu
            rw[q] at this
            cases this
            exact absurd rfl (hd)
          have fr:∀ o,w.frozen? ⟨E.blk bA,o,none⟩=false:=fun o=>by
           unfold World.frozen?
           simp only[a1]
           simp
           omega
          refine b5g f1 f2 f3 f4 f8 ⟨E,w,.bool false,?_,.bool _,H,.refl _ _ _⟩
          refine c2v w tS e _ _ f5 f6 sz hz _ _ _ _ _ _ hn eA eB cA'.size cB'.size ?_ ?_ ?_ (fr _) (fr _)
          ·show w.shape? (E.blk bA)=_
           unfold World.shape?; rw[a1]
          ·show w.shape? (E.blk bB)=_
           unfold World.shape?; rw[b1]
          ·have:0<(y0::csB).length:=Nat.succ_pos _
           omega
         ·cases ho
        ·cases ho
       ·cases ho
      ·cases ho
    ·cases ho
  ·trivial
 ·rename_i hk
  obtain⟨F,f1,f2,f3,f4,f5⟩:=ok.ext f _ hk
  split
  ·cases ha with|cons _ v1 _ l1 hv hl =>
   cases hl
   refine b5g f1 f2 f3 f4 f5 ⟨E,w,v1,?_,hv,H,.refl _ _ _⟩
   rfl
  ·trivial
 ·rename_i hk
  obtain⟨F,f1,f2,f3,f4,f5⟩:=ok.ext f _ hk
  split
  ·rename_i t b
   split
   ·rename_i es clock hg
    cases ha with|cons _ x' _ _ hx ha =>
    cases ha
    cases hx with|iface _ _ v' hv =>
    cases hv with|map _ hd =>
    obtain⟨hb,es',he1,he2⟩:=H.obj b _ hd hg
    have K:=b2z H (.map es clock) (.map es' clock) 0 (by
     have hnd:¬ E.dom h.next:=fun hd=>by have:=H.dlt _ hd; omega
     have le:=E.b0w h.next w.heap.size 0 0 hnd
     refine⟨by simpa [En.push] using H.bsz,es',?_,he2.mono le⟩
     simp only[En.push,if_true]; exact heap_alloc_new)
    have hv:=VR.iface (E:=E.push h.next w.heap.size 0 0) t _ _ (VR.map (E:=E.push h.next w.heap.size 0 0) h.next (.inl rfl))
    have hbk:(E.push h.next w.heap.size 0 0).blk h.next=w.heap.size:=by simp[En.push]
    rw[hbk] at hv
    exact b5g f1 f2 f3 f4 f5 ⟨_,_,_,d8o w t he1,hv,K.1,K.2⟩
   ·trivial
  ·trivial
end Ev
end
section
namespace Ev
open Go Go.RowKit
variable {P:Program}{T:a0k}{base:Nat}{w0:World}
theorem TR.set {E:En}{tm:Tr AV}{tmps:Array Value}(h:TR E tm tmps){t:Nat}(ht:t<tmps.size){v:AV}{v':Value}(hv:VR E v v'):TR E (tm.set t v) (tmps.setIfInBounds t v'):=by
 intro u x hx
 rw[Tr.a1d] at hx
 by_cases e:u=t
 ·subst e
  simp at hx; subst hx
  exact⟨v',by simp[ht],hv⟩
 ·rw[if_neg e] at hx
  obtain⟨x',h1,h2⟩:=h u x hx
  exact⟨x',by rw[Array.getElem?_setIfInBounds_ne (Ne.symm e)]; exact h1,h2⟩
theorem b7d {E:En}:∀ (ps:List Tmp) (args:List AV) (args':List Value) (tm:Tr AV) (tmps:Array Value),VRs E args args'→args.length=ps.length→(∀ p∈ps,p<tmps.size)→TR E tm tmps →
  TR E (a5m tm ps args) ((ps.zip args').foldl (fun tmps (p:Tmp×Value)=>tmps.setIfInBounds p.1 p.2) tmps)∧((ps.zip args').foldl (fun tmps (p:Tmp×Value)=>tmps.setIfInBounds p.1 p.2) tmps).size=tmps.size
 |[],[],_,tm,tmps,.nil,_,_,h=>by simp[a5m]; exact h
 |p::ps,a::args,_,tm,tmps,.cons _ a' _ args' ha hl,hlen,hp,h=>by
  have hp0:=hp p (List.mem_cons_self ..)
  obtain⟨h1,h2⟩:=b7d ps args args' (tm.set p a) (tmps.setIfInBounds p a') hl (by simpa using hlen) (fun q hq=>by simpa using hp q (List.mem_cons_of_mem _ hq)) (h.set hp0 ha)
  simp only[List.zip_cons_cons,List.foldl_cons,a5m]
  exact⟨h1,by rw[h2]; simp⟩
 |[],_::_,_,_,_,_,h,_,_=>by simp at h
 |_::_,[],_,_,_,_,h,_,_=>by simp at h
theorem d4k (ok:a0v P T){t:TypeId}{m:String}{g:FuncId}(hm:e3t T t m=some g) (v:Value) (w:World):(method (P.types.size+Made.depth) t v m).run P w=.ok (g,v) w:=by
 unfold e3t at hm
 split at hm
 case h_2=>cases hm
 rename_i i hi
 split at hm
 case h_2=>cases hm
 rename_i x hx
 split at hm
 case h_2=>cases hm
 rename_i f p hpath hfunc
 have hne:Made.depth≠0:=by decide
 obtain⟨k,hk⟩:∃ k,P.types.size+Made.depth=k+1:=⟨P.types.size+(Made.depth-1),by omega⟩
 rw[hk]
 have hti:=b4i (P:=P) (w:=w) ok hi
 split at hm
 ·rename_i hu
  cases hm
  simp[method,hti,hx,hpath,hfunc,follow,receiverAt,a0i ok hu,Go.Place.get]
 ·cases hm
 ·rename_i d hnp hu
  cases hm
  have hd:∀ e,d≠.pointer e:=fun e he=>hnp e he
  cases d<;>first
   |exact absurd rfl (hd _)
   |simp[method,hti,hx,hpath,hfunc,follow,receiverAt,a0i ok hu,Go.Place.get]
 ·cases hm
theorem a9h (ok:a0v P T){E:En}{h:a0a}{w:World}(H:HR P base w0 E h w){fn fn':Fn}(hf:FnR E fn fn'){cap args:List AV}{cap' args':List Value}(hc:VRs E cap cap') (ha:VRs E args args') :
  Out P base w0 E h w (a3d T fn cap args h) ((invoke (.fn fn' cap'.toArray) args'.toArray).run P w):=by
 unfold a3d
 split
 ·rename_i f
  cases hf
  split
  ·rename_i F hF
   split
   ·rename_i c hb
    obtain⟨h1,h2⟩:=ok.fn f F hF
    refine⟨rfl,args'++cap',?_,ha.append hc⟩
    have h2' : F.name ≠ "runtime.NumGoroutine" := by simpa using h2
    simp[invoke,callFunc,h1,h2',hb]
   ·have:=d9o ok H f (ha.append hc)
    simpa [invoke] using this
  ·trivial
 ·rename_i l
  cases hf with
  |same _ hn=>exact absurd rfl (hn l)
  |yield _ hd =>
  split
  ·rename_i st pend fn tm nt ps as bd d hg
   split
   ·trivial
   ·rename_i hlen
    simp only[not_or,Bool.not_eq_false,Decidable.not_not] at hlen
    obtain⟨hlen,hps⟩:=hlen
    obtain⟨hb,hdd,tmps,t1,t2,t3⟩:=H.obj l _ hd hg
    have hal:=ha.length
    have hp:∀ p∈ps,p<tmps.size:=by
     intro p hp
     have:=List.all_eq_true.1 hps p hp
     rw[blt_eq] at this
     rw[t2]; simpa using this
    obtain⟨k1,k2⟩:=b7d ps args args' tm tmps ha hlen hp t3
    have hfold:((ps.toArray.zip args'.toArray).foldl (fun tmps (x:Tmp×Value)=>match x with|(t,a)=>tmps.setIfInBounds t a) tmps)=((ps.zip args').foldl (fun tmps (p:Tmp×Value)=>tmps.setIfInBounds p.1 p.2) tmps):=by
     simp
    have:=run_yield (P:=P) (args:=args'.toArray) t1 (by simp; omega)
    simp only at this
    refine⟨rfl,hd,_,?_,k2.trans t2,k1⟩
    rw[← hfold]
    simpa [invoke] using this
  ·trivial
 ·trivial
 ·trivial
 ·trivial
theorem b5r {E:En}{ρ:Operand→Option AV}{f:Operand→Value}(hρ:d1s E ρ f){c:Call}{fn:Fn}{cap as:List AV}(hr:a3m ρ c=some (.fn fn cap as)) :
  ∃ f' cap' as',(∀ ty w,(resolve f c ty).run P w=.ok { target:=.fn f' cap'.toArray,args:=as'.toArray } w)∧FnR E fn f'∧VRs E cap cap'∧VRs E as as':=by
 unfold a3m at hr
 split at hr
 ·rename_i fo hcal
  split at hr<;>simp at hr
  rename_i fn2 first cap2 args hf has
  obtain⟨rfl,rfl,rfl⟩:=hr
  have h1:=hρ fo _ hf
  have h2:=a3s hρ _ _ has
  generalize hff:f fo=ff at h1
  cases h1 with|func _ f' hfr _ _ l' m' hl hm =>
  refine⟨f',m',l'++c.args.toList.map f,?_,hfr,hm,hl.append h2⟩
  intro ty w
  have eargs:c.args.map f=(c.args.toList.map f).toArray:=by rw[← Array.toList_map,Array.toArray_toList]
  simp only[resolve,hcal,hff,eargs,Deferred.ofValue]
  simp
 ·simp at hr
theorem c3s (ok:a0v P T){E:En}{h:a0a}{w:World}(H:HR P base w0 E h w){ρ:Operand→Option AV}{f:Operand→Value}(hρ:d1s E ρ f) (o:Oper) :
  Out P base w0 E h w (opA T ρ o h) ((execOp f o).run P w):=by
 unfold opA
 split
 -- move, assign
 ·rename_i x hop
  simp only[execOp,hop]
  cases hx:ρ x with
  |none=>trivial
  |some v=>exact⟨E,w,f x,by simp,hρ x v hx,H,.refl E h w⟩
 ·rename_i x hop
  simp only[execOp,hop]
  cases hx:ρ x with
  |none=>trivial
  |some v=>exact⟨E,w,f x,by simp,hρ x v hx,H,.refl E h w⟩
 -- pick
 ·rename_i c a b hop
  simp only[execOp,hop]
  split
  ·rename_i hc
   have h1:=hρ c _ hc
   generalize f c=fc at h1
   cases h1
   cases hx:ρ a with
   |none=>trivial
   |some v=>exact⟨E,w,f a,by simp[asBool],hρ a v hx,H,.refl E h w⟩
  ·rename_i hc
   have h1:=hρ c _ hc
   generalize f c=fc at h1
   cases h1
   cases hx:ρ b with
   |none=>trivial
   |some v=>exact⟨E,w,f b,by simp[asBool],hρ b v hx,H,.refl E h w⟩
  ·trivial
 -- alloc
 ·rename_i elem hop
  simp only[execOp,hop]
  split
  ·rename_i z hz
   obtain⟨zv,rz,vz⟩:=a4r ok hz
   obtain⟨E',f1,f2,f3,f4⟩:=fresh H elem (vz E).cells
   apply a6e
   have hp:VR E' (e0v (T.pin elem) h.next z.cells.length) (.pointer (some (E'.at h.next 0))):=by
    cases T.pin elem with
    |false=>exact VR.ptr (E:=E') h.next 0 f3
    |true =>
     have e0:E'.off h.next=0:=congrArg Addr.off f4
     have eb:E'.blk h.next=w.heap.size:=congrArg Addr.block f4
     obtain⟨c',z',q1,q2,_⟩:=f1.obj h.next _ f3 (by show(h.t.set h.next _).get h.next=_; rw[Tr.a1d,if_pos rfl])
     rw[eb] at q1
     have q3:(w.alloc (.cells zv.cells elem)).heap[w.heap.size]?=some (.cells zv.cells elem):=by
      show(w.heap.push _)[w.heap.size]?=_
      simp
     have q1':=q1.symm.trans q3
     simp only[Option.some.injEq,Obj.cells.injEq] at q1'
     have hl:=(vz E).cells.length
     simp at hl
     exact .own h.next _ f3 e0 (by rw[q1'.1] at q2; omega)
   rw[f4] at hp
   exact⟨E',_,_,by simp[Instr.alloc,rz,newVar,newRow],hp,f1,f2⟩
  ·trivial
 -- box
 ·rename_i elem x hop
  simp only[execOp,hop]
  split
  ·rename_i v hx
   obtain⟨E',f1,f2,f3,f4⟩:=fresh H elem (hρ x v hx).cells
   apply a6e
   have:=VR.ptr (E:=E') h.next 0 f3
   rw[f4] at this
   exact⟨E',_,_,by simp[Instr.box,newVar,newRow],this,f1,f2⟩
  ·trivial
 -- build
 ·rename_i t parts hop
  simp only[execOp,hop]
  split
  ·rename_i ps hps
   obtain⟨p1,p2⟩:=a6l hρ _ _ hps
   obtain⟨q1,q2⟩:=b2r parts.toList f
   refine a7e H _ _ _ fun v hv=>?_
   have:=b9w (P:=P) ok hv (ps':=parts.toList.map fun p=>(p.1,f p.2)) (p1.trans q1.symm) (by rw[q2]; exact p2) w
   have e:(parts.map fun(p:Nat×Operand)=>(p.1,f p.2))=(parts.toList.map fun p=>(p.1,f p.2)).toArray:=by rw[← Array.toList_map,Array.toArray_toList]
   rw[show(parts.map fun x=>match x with|(i,x)=>(i,f x))=(parts.map fun(p:Nat×Operand)=>(p.1,f p.2)) from rfl,e]
   exact this
  ·trivial
 -- buildSlice
 ·rename_i t len parts hop
  simp only[execOp,hop]
  split
  ·rename_i elem ps hu hps
   obtain⟨p1,p2⟩:=a6l hρ _ _ hps
   obtain⟨q1,q2⟩:=b2r parts.toList f
   split
   ·rename_i sz z hsz hz
    split
    ·trivial
    ·rename_i hbig
     split
     ·trivial
     ·rename_i hzl
      have hzl:z.length=len*sz:=by simpa using hzl
      split
      ·rename_i l hl
       obtain⟨zz,r1,v1⟩:=a6y ok hz hzl (E:=E) w
       obtain⟨r',g1,g2⟩:=b0i (place':=fun i=>some (i*sz,sz)) (fun i p hp=>hp) ps (parts.toList.map fun p=>(p.1,f p.2)) z _ l hl (p1.trans q1.symm) (by rw[q2]; exact p2) v1
       obtain⟨E',f1,f2,f3,f4⟩:=fresh H elem g2
       apply a6e
       have hs:=VR.slice (E:=E') h.next 0 len len f3
       rw[f4] at hs
       refine⟨E',_,_,?_,hs,f1,f2⟩
       have e:(parts.map fun(p:Nat×Operand)=>(p.1,f p.2)).toList=(parts.toList.map fun p=>(p.1,f p.2)):=by simp
       unfold Instr.buildSlice
       rw[show(parts.map fun x=>match x with|(i,x)=>(i,f x))=(parts.map fun(p:Nat×Operand)=>(p.1,f p.2)) from rfl,e]
       have hb:¬ (16777216<len*sz):=by omega
       simp only[Sem.run_bind,a0i ok hu,Result.andThen_ok,a1o ok hsz]
       simp[hb]
       by_cases h0:len*sz=0
       ·rw[if_pos h0] at r1
        simp at r1
        subst r1
        simp[h0] at g1 ⊢
        simp[g1,newRow]
       ·rw[if_neg h0] at r1
        simp at r1
        generalize hq:(zeroValue elem).run P w=q at r1
        cases q with
        |ok z2 ww =>
         simp at r1
         obtain⟨rfl,rfl⟩:=r1
         simp[hq,g1,newRow,h0]
        |halt _ _=>simp at r1
      ·trivial
   ·trivial
  ·trivial
 -- load
 ·rename_i t a hop
  simp only[execOp,hop]
  split
  ·rename_i b off ha
   have h1:=hρ a _ ha
   generalize f a=fa at h1
   cases h1 with|ptr _ _ hd =>
   refine a7e H _ _ _ fun v hv=>?_
   obtain⟨v',r1,r2⟩:=b7u (P:=P) ok hd H hv
   exact⟨v',by simp[Instr.loadAt,Instr.sureAddr,r1],r2⟩
  ·trivial
 -- store
 ·rename_i t a x hop
  simp only[execOp,hop]
  split
  ·rename_i b off v n ha hx hn
   split
   ·trivial
   ·rename_i hlen
    have hlen:v.cells.length=n:=by simpa using hlen
    split
    ·rename_i h' hw
     have h1:=hρ a _ ha
     generalize f a=fa at h1
     cases h1 with|ptr _ _ hd =>
     have hv:=(hρ x _ hx).cells
     have hl:=hv.length
     simp at hl
     obtain⟨w',r1,r2,r3⟩:=a6w (P:=P) H hd hw hv
     refine⟨E,w',?_,r2,r3⟩
     have hs:(f x).cells.size=n:=by omega
     simp[Instr.storeAt,Instr.sureAddr,storeVar,a1o ok hn,hs,r1]
    ·trivial
  ·trivial
 -- nilCheck
 ·rename_i x hop
  simp only[execOp,hop]
  split
  all_goals first|trivial|skip
  all_goals
   rename_i hx
   have h1:=hρ x _ hx
   generalize f x=fx at h1
  ·cases h1 with|ptr _ _ hd=>exact⟨E,w,_,by simp,.ptr _ _ hd,H,.refl E h w⟩
  ·cases h1 with|own _ _ hd h0 hk=>exact⟨E,w,_,by simp,.own _ _ hd h0 hk,H,.refl E h w⟩
  ·cases h1 with|slice _ _ _ _ hd=>exact⟨E,w,_,by simp,.slice _ _ _ _ hd,H,.refl E h w⟩
  ·cases h1 with|iface _ _ v' hv=>exact⟨E,w,_,by simp,.iface _ _ _ hv,H,.refl E h w⟩
  ·cases h1 with|func _ f' hf _ _ l' m' hl hm=>cases hf; exact⟨E,w,_,by simp,.func _ _ (.same _ (by simp)) _ _ _ _ hl hm,H,.refl E h w⟩
  ·cases h1 with|func _ f' hf _ _ l' m' hl hm =>
   cases hf with
   |yield _ hd=>exact⟨E,w,_,by simp,.func _ _ (.yield _ hd) _ _ _ _ hl hm,H,.refl E h w⟩
   |same _ hn=>exact absurd rfl (hn _)
 -- binOp
 ·rename_i op t x y u hop
  simp only[execOp,hop]
  split
  ·rename_i a b ha hb
   split
   ·rename_i hg
    refine a7e H _ _ _ fun v hv=>?_
    have g:=c0k (P:=P) ok hg (hρ x a ha) (hρ y b hb) w
    obtain⟨v',r1,r2⟩:=c5b (P:=P) ok hv (hρ x a ha) (hρ y b hb) w
    exact⟨v',by simp[g,r1],r2⟩
   ·trivial
  ·trivial
 -- unOp
 ·rename_i op t x hop
  simp only[execOp,hop]
  split
  ·rename_i a ha
   refine a7e H _ _ _ fun v hv=>?_
   exact d1r (P:=P) hv (hρ x a ha) w
  ·trivial
 -- convert
 ·rename_i src dst x hop
  simp only[execOp,hop]
  split
  ·rename_i a ha
   exact d4u ok H src dst (hρ x a ha)
  ·trivial
 -- makeInterface
 ·rename_i t x hop
  simp only[execOp,hop]
  split
  ·trivial
  ·rename_i v d hni hx hu
   apply a2r H
   refine⟨.iface t (f x),?_,.iface _ _ _ (hρ x v hx)⟩
   cases d<;>first|(simp[Instr.makeInterface,a0i ok hu]; done)|exact(hni _ rfl).elim
  ·trivial
 -- makeFunc
 ·rename_i fn first cap hop
  simp only[execOp,hop]
  split
  ·trivial
  ·rename_i fn _ _ _ a b hny ha hb
   have p1:=a3s hρ _ _ ha
   have p2:=a3s hρ _ _ hb
   apply a2r H
   refine⟨.func fn (first.map f) (cap.map f),by simp[Instr.makeFunc],?_⟩
   have:=VR.func (E:=E) fn fn (.same fn (fun l e=>by subst e; simp at hny)) a b _ _ p1 p2
   have e1:(first.toList.map f).toArray=first.map f:=by rw[← Array.toList_map,Array.toArray_toList]
   have e2:(cap.toList.map f).toArray=cap.map f:=by rw[← Array.toList_map,Array.toArray_toList]
   rw[e1,e2] at this
   exact this
  ·trivial
 -- makeMap
 ·rename_i t r hop
  simp only[execOp,hop]
  have fin:∀ r':Option Value,(∀ v,r'=some v→∃ k n,v=.int k n)→T.und t≠none→(∀ d,T.und t=some d→∃ a b,d=.map a b)→Out P base w0 E h w (.val (.map h.next) (h.alloc (.map [] 0))) ((do pure (Next.value (← Instr.makeMap t r')):Sem Next).run P w):=by
   intro r' hr hn hm
   cases hu:T.und t with
   |none=>exact absurd hu hn
   |some d =>
   obtain⟨a,b,rfl⟩:=hm d hu
   have hnd:¬ E.dom h.next:=fun hd=>by have:=H.dlt _ hd; omega
   have K:=b2z H (.map [] 0) (.map #[] 0) 0 (by
    refine⟨by simpa [En.push] using H.bsz,#[],?_,.nil⟩
    simp only[En.push,if_true]; exact heap_alloc_new)
   apply a6e
   have hv:=VR.map (E:=E.push h.next w.heap.size 0 0) h.next (.inl rfl)
   have hb:(E.push h.next w.heap.size 0 0).blk h.next=w.heap.size:=by simp[En.push]
   rw[hb] at hv
   refine⟨_,_,_,?_,hv,K.1,K.2⟩
   cases r' with
   |none=>simp[Instr.makeMap]
   |some v =>
    obtain⟨k,n,rfl⟩:=hr v rfl
    simp[Instr.makeMap,a0i ok hu,asInt,asIntOf]
  split
  ·rename_i a b hu hr
   unfold a5b at hr
   split at hr
   ·exact fin _ (by simp) (by rw[hu]; simp) (fun d hd=>by rw[hu] at hd; simp at hd; exact⟨a,b,hd.symm⟩)
   ·split at hr<;>simp at hr
  ·rename_i a b k n hu hr
   have h1:=a6s hρ hr
   exact fin _ (fun v hv=>by rw[hv] at h1; cases h1 with|some _ _ h2=>cases h2; exact⟨_,_,rfl⟩) (by rw[hu]; simp) (fun d hd=>by rw[hu] at hd; simp at hd; exact⟨a,b,hd.symm⟩)
  ·trivial
 -- makeSlice
 ·rename_i t l c hop
  simp only[execOp,hop]
  split
  ·rename_i elem k l' k2 c' hu hl hc
   have h1:=hρ l _ hl
   have h2:=hρ c _ hc
   generalize f l=fl at h1
   generalize f c=fc at h2
   cases h1; cases h2
   split
   ·rename_i sz ei hsz hei
    split
    ·rename_i hb
     split
     ·rename_i cs hz
      split
      ·rename_i hlen
       apply a6e
       exact c0q ok H hu hsz hei hb hz hlen
      ·trivial
     ·trivial
    ·trivial
   ·trivial
  ·trivial
 -- slice
 ·rename_i t x lo hi mx hop
  simp only[execOp,hop]
  split
  ·rename_i a l hh m ha hl hh' hm
   refine a7e H _ _ _ fun v hv=>?_
   exact b9y (P:=P) ok H hv (hρ x a ha) (a6s hρ hl) (a6s hρ hh') (a6s hρ hm)
  ·trivial
 -- fieldAddr
 ·rename_i s x fi hop
  simp only[execOp,hop]
  split
  ·rename_i b off fields hx hu
   have h1:=hρ x _ hx
   generalize f x=fx at h1
   cases h1 with|ptr _ _ hd =>
   split
   ·rename_i fd hf
    rw[a4w] at hf
    have hf':fields[fi]?=some fd:=by simpa using hf
    split
    ·trivial
    ·rename_i n hn0 hn
     apply a2r H
     refine⟨_,?_,.ptr _ _ hd⟩
     have hn0:n≠0:=fun e=>by subst e; simp at hn0
     simp[Instr.fieldAt,a0i ok hu,hf',Instr.sureAddr,fieldPlace,a1o ok hn,hn0,En.a4u]
    ·trivial
   ·trivial
  ·rename_i b n0 fields hx hu
   have h1:=hρ x _ hx
   generalize f x=fx at h1
   cases h1 with|own _ _ hd h0 hk =>
   split
   ·rename_i fd hf
    rw[a4w] at hf
    have hf':fields[fi]?=some fd:=by simpa using hf
    split
    ·trivial
    ·rename_i n hn0 hn
     apply a2r H
     refine⟨_,?_,.ptr _ _ hd⟩
     have hn0:n≠0:=fun e=>by subst e; simp at hn0
     simp[Instr.fieldAt,a0i ok hu,hf',Instr.sureAddr,fieldPlace,a1o ok hn,hn0,En.a4u]
    ·trivial
   ·trivial
  ·trivial
 -- field
 ·rename_i t x fi hop
  simp only[execOp,hop]
  split
  ·rename_i cs fields hx hu
   have h1:=hρ x _ hx
   generalize f x=fx at h1
   cases h1 with|agg _ l' hl =>
   split
   ·rename_i fd hf
    rw[a4w] at hf
    have hf':fields[fi]?=some fd:=by simpa using hf
    refine a7e H _ _ _ fun v hv=>?_
    obtain⟨v',r1,r2⟩:=a5v (P:=P) ok hv hl w
    exact⟨v',by simp[Instr.field,a0i ok hu,hf',asAgg,r1],r2⟩
   ·trivial
  ·trivial
 -- indexAddr
 ·rename_i t x ix hop
  simp only[execOp,hop]
  split
  ·rename_i len elem b off k i hu hx hi
   have h1:=hρ x _ hx
   generalize f x=fx at h1
   have h2:=hρ ix _ hi
   generalize f ix=fi at h2
   cases h1 with|ptr _ _ hd =>
   cases h2
   split
   ·rename_i sz hsz
    split
    ·rename_i hb
     apply a2r H
     refine⟨_,?_,.ptr _ _ hd⟩
     simp[Instr.indexAt,asIntOf,a0i ok hu,Instr.sureAddr,hb.1,hb.2,a1o ok hsz,En.a4u]
    ·trivial
   ·trivial
  ·rename_i elem b off len cap k i hu hx hi
   have h1:=hρ x _ hx
   generalize f x=fx at h1
   have h2:=hρ ix _ hi
   generalize f ix=fi at h2
   cases h1 with|slice _ _ _ _ hd =>
   cases h2
   split
   ·rename_i sz hsz
    split
    ·rename_i hb
     apply a2r H
     refine⟨_,?_,.ptr _ _ hd⟩
     simp[Instr.indexAt,asIntOf,a0i ok hu,hb.1,hb.2,a1o ok hsz,En.a4u]
    ·trivial
   ·trivial
  ·rename_i elem b off len ssz k i hu hx hi
   have h1:=hρ x _ hx
   generalize f x=fx at h1
   have h2:=hρ ix _ hi
   generalize f ix=fi at h2
   cases h1 with|oslice _ _ _ _ kk hd hk =>
   cases h2
   split
   ·rename_i sz hsz
    split
    ·rename_i hb
     apply a2r H
     refine⟨_,?_,.ptr _ _ hd⟩
     simp[Instr.indexAt,asIntOf,a0i ok hu,hb.1,hb.2,a1o ok hsz,En.a4u]
    ·trivial
   ·trivial
  ·trivial
 -- index
 ·rename_i t x ix hop
  simp only[execOp,hop]
  split
  ·rename_i len elem cs k i hu hx hi
   have h1:=hρ x _ hx
   generalize f x=fx at h1
   have h2:=hρ ix _ hi
   generalize f ix=fi at h2
   cases h1 with|agg _ l' hl =>
   cases h2
   split
   ·rename_i sz hsz
    split
    ·rename_i hb
     refine a7e H _ _ _ fun v hv=>?_
     obtain⟨v',r1,r2⟩:=a5v (P:=P) ok hv hl w
     exact⟨v',by simp[Instr.index,asIntOf,a0i ok hu,hb.1,hb.2,a1o ok hsz,r1],r2⟩
    ·trivial
   ·trivial
  ·rename_i s k i hu hx hi
   have h1:=hρ x _ hx
   generalize f x=fx at h1
   have h2:=hρ ix _ hi
   generalize f ix=fi at h2
   cases h1
   cases h2
   split
   ·rename_i hb
    split
    ·rename_i bt hn
     rw[a4w] at hn
     apply a2r H
     refine⟨_,?_,.int _ _⟩
     have hs:(⟨s.toArray⟩:ByteArray)[i.toNat]?=some bt:=by
      have hlt:i.toNat<s.length:=(List.getElem?_eq_some_iff.1 hn).1
      have:=(List.getElem?_eq_some_iff.1 hn).2
      have hsz:i.toNat<(⟨s.toArray⟩:ByteArray).size:=by simpa [ByteArray.size] using hlt
      rw[getElem?_pos (⟨s.toArray⟩:ByteArray) i.toNat hsz,← this]
      rfl
     simp[Instr.index,asIntOf,a0i ok hu,hb,hs]
    ·trivial
   ·trivial
  ·trivial
 -- lookup
 ·rename_i t x ix cok hop
  simp only[execOp,hop]
  split
  ·rename_i m k hm hk
   refine a7e H _ _ _ fun v hv=>?_
   exact b8b (P:=P) ok H hv (hρ x m hm) (hρ ix k hk)
  ·trivial
 -- mapUpdate
 ·rename_i t m k x hop
  simp only[execOp,hop]
  split
  ·rename_i m' k' v' hm hk hx
   split
   ·rename_i h' hu
    obtain⟨w',r1,r2,r3⟩:=b7k (P:=P) ok H hu (hρ m _ hm) (hρ k _ hk) (hρ x _ hx)
    exact⟨E,w',by simp[r1],r2,r3⟩
   ·trivial
  ·trivial
 ·rename_i t m k x hop
  simp only[execOp,hop]
  split
  ·rename_i m' k' v' hm hk hx
   split
   ·rename_i h' hu
    obtain⟨w',r1,r2,r3⟩:=b7k (P:=P) ok H hu (hρ m _ hm) (hρ k _ hk) (hρ x _ hx)
    exact⟨E,w',by simp[r1],r2,r3⟩
   ·trivial
  ·trivial
 -- typeAssert
 ·rename_i x xt asserted cok hop
  simp only[execOp,hop]
  split
  ·trivial
  ·rename_i d t v hni hu hx
   have h1:=hρ x _ hx
   generalize f x=fx at h1
   cases h1 with|iface _ _ v' hv =>
   split
   ·rename_i hta
    subst hta
    apply a2r H
    refine⟨if cok then .tuple #[v',.bool true] else v',?_,?_⟩
    ·cases d<;>first|(simp[Instr.typeAssert,a0i ok hu]; done)|exact(hni _ rfl).elim
    ·cases cok
     ·exact hv
     ·exact .tuple _ _ (.cons _ _ _ _ hv (.cons _ _ _ _ (.bool _) .nil))
   ·rename_i hta
    split
    ·rename_i hok
     subst hok
     split
     ·rename_i z hz
      obtain⟨zv,rz,vz⟩:=a4r ok hz
      apply a2r H
      refine⟨.tuple #[zv,.bool false],?_,.tuple _ _ (.cons _ _ _ _ (vz E) (.cons _ _ _ _ (.bool _) .nil))⟩
      cases d<;>first|(simp[Instr.typeAssert,a0i ok hu,hta,rz]; done)|exact(hni _ rfl).elim
     ·trivial
    ·trivial
  ·rename_i d hni hu hx
   have h1:=hρ x _ hx
   generalize f x=fx at h1
   cases h1
   split
   ·rename_i hok
    subst hok
    split
    ·rename_i z hz
     obtain⟨zv,rz,vz⟩:=a4r ok hz
     apply a2r H
     refine⟨.tuple #[zv,.bool false],?_,.tuple _ _ (.cons _ _ _ _ (vz E) (.cons _ _ _ _ (.bool _) .nil))⟩
     cases d<;>first|(simp[Instr.typeAssert,a0i ok hu,rz]; done)|exact(hni _ rfl).elim
    ·trivial
   ·trivial
  ·trivial
 -- range, next, entry
 ·rename_i t x hop
  simp only[execOp,hop]
  split
  ·rename_i m hm
   split
   ·rename_i o hr
    apply a6e
    obtain⟨E',w',v',r1,r2,r3,r4⟩:=d0q (P:=P) ok H hr (hρ x m hm)
    exact⟨E',w',v',by simp[r1],r2,r3,r4⟩
   ·trivial
  ·trivial
 ·rename_i it isS hop
  simp only[execOp,hop]
  split
  ·rename_i b hit
   have h1:=hρ it _ hit
   generalize f it=fit at h1
   cases h1 with|ptr _ _ hd =>
   cases hnx:a9b T h b with
   |val v h' =>
    obtain⟨E',w',v',r1,r2,r3,r4⟩:=d4y (P:=P) H hd hnx o.type
    exact⟨E',w',v',by simp[r1],r2,r3,r4⟩
   |choice l =>
    obtain⟨p,hp,E',w',v',r1,r2,r3,r4⟩:=c6s (P:=P) H hd hnx o.type
    exact⟨p,hp,E',w',v',by simp[r1],r2,r3,r4⟩
   |no w=>trivial
   |_ =>
    exfalso
    unfold a9b at hnx
    repeat' split at hnx
    all_goals cases hnx
  ·trivial
 ·rename_i it hop
  simp only[execOp,hop]
  split
  ·rename_i b hit
   have h1:=hρ it _ hit
   generalize f it=fit at h1
   cases h1 with|ptr _ _ hd =>
   refine a7e H _ _ _ fun v hv=>?_
   obtain⟨v',r1,r2⟩:=c9j (P:=P) H hd hv
   exact⟨v',by simp[r1],r2⟩
  ·trivial
 -- extract
 ·rename_i t ix hop
  simp only[execOp,hop]
  split
  ·rename_i vs ht
   have h1:=hρ t _ ht
   generalize f t=ft at h1
   cases h1 with|tuple _ l' hl =>
   refine a7e H _ _ _ fun v hv=>?_
   rw[a4w] at hv
   obtain⟨v',r1,r2⟩:=hl.get hv
   exact⟨v',by simp[Instr.extract,r1],r2⟩
  ·trivial
 -- call
 ·rename_i c hop
  simp only[execOp,hop]
  have eargs:c.args.map f=(c.args.toList.map f).toArray:=by rw[← Array.toList_map,Array.toArray_toList]
  split
  ·rename_i b hcal
   split
   ·trivial
   ·rename_i args hargs
    have ha:=a3s hρ _ _ hargs
    have hres:∀ ty,(resolve f c ty).run P w=.ok { target:=.builtin b c.argTypes ty (c.args.map fun|.const _=>true|_=>false),args:=c.args.map f } w:=by
     intro ty
     simp[resolve,hcal]
     intro a _
     cases a<;>rfl
    have hrun:((do let d ← resolve f c o.type; invoke d.target d.args):Sem Next).run P w=(builtin b c.argTypes o.type (c.args.map fun|.const _=>true|_=>false) (c.args.map f)).run P w:=by
     rw[Sem.run_bind,hres]
     rfl
    rw[hrun,eargs]
    generalize (c.args.map fun|.const _=>true|_=>false)=consts
    generalize c.args.toList.map f=args' at ha
    have et:c.argTypes=c.argTypes.toList.toArray:=by simp
    rw[et]
    generalize c.argTypes.toList=tys
    cases b
    case append=>exact c6w ok H ha tys o.type
    case copy=>exact d2s ok H ha tys o.type
    case len =>
     simp only[Go.builtin]
     split
     ·rename_i x l t ts
      cases ha with|cons _ x' _ l' hx hl =>
      refine a7e H _ _ _ fun v hv=>?_
      exact b8p (P:=P) ok H hv hx ts l' o.type
     ·trivial
    case cap =>
     simp only[Go.builtin]
     split
     ·rename_i x l t ts
      cases ha with|cons _ x' _ l' hx hl =>
      refine a7e H _ _ _ fun v hv=>?_
      unfold f2y at hv
      split at hv<;>simp at hv
      ·rename_i hu
       subst hv
       cases hx
       exact⟨_,by simp[Builtin.cap_,a0i ok hu,goInt],.int _ _⟩
      ·rename_i hu
       subst hv
       cases hx
       exact⟨_,by simp[Builtin.cap_,a0i ok hu,goInt],.int _ _⟩
     ·trivial
    case delete =>
     simp only[Go.builtin]
     split
     ·rename_i m k t ts
      cases ha with|cons _ m' _ l' hm ha =>
      cases ha with|cons _ k' _ l' hk ha =>
      cases ha
      split
      ·rename_i h' hd
       apply a6e
       obtain⟨w',r1,r2,r3⟩:=c7x (P:=P) ok H hd hm hk ts o.type
       exact⟨E,w',_,r1,.tuple [] [] .nil,r2,r3⟩
      ·trivial
     ·trivial
    case clear =>
     simp only[Go.builtin]
     split
     ·rename_i x l t ts
      cases ha with|cons _ x' _ l' hx hl =>
      exact c9x (P:=P) ok H hx t ts l' o.type
     ·trivial
    case max =>
     simp only[Go.builtin]
     split
     ·rename_i x l
      cases ha with|cons _ x' _ l' hx hl =>
      refine a7e H _ _ _ fun v hv=>?_
      have:=a7j (P:=P) (w:=w) true l x v l' x' hv hx hl
      simpa [Builtin.max_] using this
     ·trivial
    case min =>
     simp only[Go.builtin]
     split
     ·rename_i x l
      cases ha with|cons _ x' _ l' hx hl =>
      refine a7e H _ _ _ fun v hv=>?_
      have:=a7j (P:=P) (w:=w) false l x v l' x' hv hx hl
      simpa [Builtin.min_] using this
     ·trivial
    case recover =>
     simp only[Go.builtin]
     simp[Out]
    all_goals trivial
  ·split
   ·rename_i hnb fn cap args hr
    obtain⟨f',cap',as',r1,r2,r3,r4⟩:=b5r (P:=P) hρ hr
    have hrun:((do let d ← resolve f c o.type; invoke d.target d.args):Sem Next).run P w=(invoke (.fn f' cap'.toArray) as'.toArray).run P w:=by
     rw[Sem.run_bind,r1]
     rfl
    rw[hrun]
    exact a9h ok H r2 r3 r4
   ·split
    ·rename_i r m hcal
     split
     ·rename_i t v args hr hargs
      split
      ·rename_i g hm
       have ha:=a3s hρ _ _ hargs
       have h1:=hρ r _ hr
       cases h1f:f r with
       |iface t' v' =>
        rw[h1f] at h1
        cases h1 with|iface _ _ _ hv =>
        have hrun:((do let d ← resolve f c o.type; invoke d.target d.args):Sem Next).run P w=(invoke (.fn (.func g) ([]:List Value).toArray) (v'::c.args.toList.map f).toArray).run P w:=by
         have hms:=d4k (P:=P) ok hm v' w
         have e2:(#[Value.iface t v']++c.args.map f).extract 1 (#[Value.iface t v']++c.args.map f).size=c.args.map f:=by simp
         have e3:(v'::c.args.toList.map f).toArray++([]:List Value).toArray = #[v']++c.args.map f:=by simp[eargs]
         have e0:(#[Value.iface t v']++Array.map f c.args)[0]?=some (Value.iface t v'):=by simp[Array.getElem?_append]
         have e4:(#[v']++(Array.map f c.args).extract 0 c.args.size)=(v'::c.args.toList.map f).toArray:=by
          have e5:(Array.map f c.args).extract 0 c.args.size=Array.map f c.args:=by
           apply Array.ext_getElem?
           intro i
           rw[Array.getElem?_extract]
           by_cases hi:i<c.args.size
           ·rw[if_pos (by simpa using hi)]; simp
           ·rw[if_neg (by simpa using hi),Array.getElem?_eq_none (by simpa using hi)]
          rw[e5,eargs]
          simp
         simp only[resolve,hcal,h1f,invoke,callMethod]
         simp[e0,hms,e4]
        rw[hrun]
        exact a9h ok H (.same _ (by simp)) .nil (.cons _ _ _ _ hv ha)
       |_=>rw[h1f] at h1; cases h1
      ·trivial
     ·trivial
    ·trivial
 -- defer
 ·rename_i c hop
  simp only[execOp,hop]
  split
  ·rename_i d hr
   cases d with
   |collected b =>
    unfold a3m at hr
    split at hr
    ·split at hr<;>simp at hr
    ·simp at hr
   |fn fn cap args =>
    obtain⟨f',cap',as',r1,r2,r3,r4⟩:=b5r (P:=P) hρ hr
    exact⟨_,by simp[r1],.fn _ _ r2 _ _ _ _ r3 r4⟩
  ·trivial
 -- panic
 ·rename_i x hop
  simp only[execOp,hop]
  split
  ·rename_i t v hx
   have h1:=hρ x _ hx
   generalize f x=fx at h1
   cases h1 with|iface _ _ v' hv =>
   exact⟨rfl,_,by simp[Instr.panic],.iface _ _ _ hv⟩
  ·trivial
 ·trivial
end Ev
end
