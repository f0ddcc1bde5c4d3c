import Derived.Test.YtpibcbilkpoomaaGreatm14
set_option linter.all false
set_option maxHeartbeats 4000000
set_option maxRecDepth 100000
namespace Go.Mu
section
variable {P:Program} {n:Nat} {pu:Nat→Bool} {ops:Array Oper} {Q:AQ}
theorem Zdb {hf:Oper→Bool} (hsm:∀ (i:Nat) (o:Oper),ops[i]?=some o→YY n ops o=true)
 (hlt:∀ (j:Nat) (o:Oper),ops[j]?=some o→∀e∈o.after,Region.binds .any e=true→e.on<j) {done rem L:List Nat} {listed:Array Bool} {f fa:Fr} {H:List Ze} (hi:Zdx P pu hf ops done rem L listed f fa H) (hn:Region.ready .any ops listed=[]):rem=[]∧L=[]:=by
 have key:∀i,i<ops.size→listed.getD i false=true:=by
  intro i
  induction i using Nat.strongRecOn with
  |ind i ih=>
   intro hlt'
   cases hl:listed.getD i false with
   |true=>rfl
   |false=>
    exfalso
    have ho:ops[i]?=some (ops[i]'hlt'):=Array.getElem?_eq_getElem hlt'
    have:i∈Region.ready .any ops listed:=mem_ready.2 ⟨by rw [ZbF (by rw [hi.size];exact hlt')];exact hl,_,ho,fun e he hb=>ih e.on (hlt i _ ho e he hb) (Nat.lt_trans (hlt i _ ho e he hb) hlt')⟩
    rw [hn] at this;cases this
 constructor
 ·refine List.eq_nil_iff_forall_not_mem.2 fun i hir=>?_
  have hl:=hi.remlt i hir
  have:=(hi.un i hl).2 (.inl hir)
  rw [key i hl] at this;cases this
 ·refine List.eq_nil_iff_forall_not_mem.2 fun i hiL=>?_
  obtain⟨_,o,ho,_⟩:=hi.good i hiL
  have hl:=(Array.getElem?_eq_some_iff.1 ho).1
  have:=(hi.un i hl).2 (.inr hiL)
  rw [key i hl] at this;cases this
theorem Zeb {hf:Oper→Bool} (hsm:∀ (i:Nat) (o:Oper),ops[i]?=some o→YY n ops o=true)
 (hlt:∀ (j:Nat) (o:Oper),ops[j]?=some o→∀e∈o.after,Region.binds .any e=true→e.on<j) {done rem L:List Nat} {listed:Array Bool} {f fa:Fr} {H:List Ze} {i:Nat} (hi:Zdx P pu hf ops done rem L listed f fa H) (hr:i∈Region.ready .any ops listed) (hiL:i∈L):
  ∃o r,ops[i]?=some o∧pu i=true∧Xt P ops o fa H r∧Zdx P pu hf ops done rem (L.erase i) (listed.setIfInBounds i true) f (ZS fa o.dst r) H:=by
 obtain⟨hirem,o,ho,hpu,hl1,hl2,r,hr1,hr2,hr3⟩:=hi.good i hiL
 have hlti:=(Array.getElem?_eq_some_iff.1 ho).1
 obtain⟨m1,o',m2,m3⟩:=mem_ready.1 hr
 rw [ho] at m2;cases m2
 have hag:∀t∈o.looksAt ops,f t=fa t:=by
  intro t ht
  refine (hi.agree t fun k hk ok hok hd=>?_).symm
  obtain⟨_,o2,ho2,_,g1,_⟩:=hi.good k hk
  rw [hok] at ho2;cases ho2
  have hre:=g1 i o t ho hd ht
  have hkl:=YO hi.closed hre fun o3 h3 e he hb=>by rw [ho] at h3;cases h3;exact m3 e he hb
  have:=(hi.un k (Array.getElem?_eq_some_iff.1 hok).1).2 (.inr hk)
  rw [hkl] at this;cases this
 refine⟨o,r,ho,hpu,Yw (hsm i o ho) hag hr1,by simp [hi.size],fun k hk=>?_,hi.remlt,ZbU hi.closed hr,hi.dn,hi.dclosed,hi.nodup.erase i,hi.rnodup,fun k hk=>hi.good k (List.mem_of_mem_erase hk),fun t ht=>?_⟩
 ·rw [Zdv (by rw [hi.size];exact hlti),hi.nodup.mem_erase_iff]
  by_cases hki:k=i
  ·subst hki;simp [hirem]
  ·rw [if_neg hki,hi.un k hk];simp [hki]
 ·cases hd:o.dst with
  |none=>
   refine hi.agree t fun k hk ok hok=>?_
   by_cases hki:k=i
   ·subst hki;rw [ho] at hok;cases hok;rw [hd];simp
   ·exact ht k (hi.nodup.mem_erase_iff.2 ⟨hki,hk⟩) ok hok
  |some d=>
   simp only [ZS,upd]
   by_cases htd:t=d
   ·subst htd;rw [if_pos rfl];exact (hr3 _ hd).symm
   ·rw [if_neg htd]
    refine hi.agree t fun k hk ok hok=>?_
    by_cases hki:k=i
    ·subst hki;rw [ho] at hok;cases hok;rw [hd];simpa using fun e=>htd e.symm
    ·exact ht k (hi.nodup.mem_erase_iff.2 ⟨hki,hk⟩) ok hok
theorem ZuN {tab:List (Nat×Oper×Nat)} (htab:Zdm ops tab) {hf:Oper→Bool} (hsm:∀ (i:Nat) (o:Oper),ops[i]?=some o→YY n ops o=true)
 (hlt:∀ (j:Nat) (o:Oper),ops[j]?=some o→∀e∈o.after,Region.binds .any e=true→e.on<j) {ds:List ZO} {p:Y7} {fuel:Nat} {done rem L:List Nat} {listed:Array Bool} {f fa:Fr} {H:List Ze} {i0:Nat} {lt:List Nat} {oi:Oper}
 (hi:Zdx P pu hf ops done rem L listed f fa H) (hir:i0∈Region.ready .any ops listed) (ho0:ops[i0]?=some oi) (hpu:pu i0=false) (hrd:JD ops rem i0=true)
 (hop2:(done.all fun j=>(Xa tab i0).testBit j|| !pu j||(match ops[j]? with|none=>false|some oj=>pu j&& !Zd9 ops oj oi&&(lt.contains j||hf oj)))=true)
 (hrest:ZaT pu hf ops tab (i0::done) (rem.erase i0) p=true) (hfu:rem.length+L.length≤fuel+1)
 (hv:Zar P ops oi f H ds Q (fun f' H'=>(∀j∈lt,∀oj,ops[j]?=some oj→∃r,Xt P ops oj f' H' r∧∀d,oj.dst=some d→f' d=r)∧VX P pu hf ops Q ds p f' H')):
 Zar P ops oi fa H ds Q (fun f' H'=>AA P pu ops Q ds fuel (listed.setIfInBounds i0 true) f' H'):=by
 have hrd':=hrd
 simp only [JD,Bool.and_eq_true,List.contains_iff_mem] at hrd'
 obtain⟨hi0r,hedges⟩:=hrd'
 have hi0l:=hi.remlt _ hi0r
 have hlen0:=List.length_erase_of_mem hi0r
 have hpos0:=List.length_pos_of_mem hi0r
 rw [ho0] at hedges
 simp only at hedges
 simp only [List.all_eq_true,Bool.or_eq_true] at hop2
 have hed:∀e∈oi.after,Region.binds .any e=true→e.on∉rem:=by
  intro e he hb hm
  have:=List.all_eq_true.1 hedges e (by simpa using he)
  simp only [hb,Bool.not_true,Bool.false_or,Bool.and_eq_true,Bool.not_eq_true'] at this
  rw [List.contains_iff_mem.2 hm] at this;exact absurd this.1 (by simp)
 have hdn:∀i,i<ops.size→(i∈i0::done↔i∉rem.erase i0):=by
  intro i hil
  rw [hi.rnodup.mem_erase_iff,List.mem_cons,hi.dn i hil]
  by_cases h:i=i0
  ·subst h;simp
  ·simp [h]
 have hdc:∀i o,ops[i]?=some o→i∉rem.erase i0→∀e∈o.after,Region.binds .any e=true→e.on∉rem.erase i0:=by
  intro i o ho hnm e he hb hm
  have hm':=List.mem_of_mem_erase hm
  by_cases h:i=i0
  ·subst h;rw [ho0] at ho;cases ho;exact hed e he hb hm'
  ·refine hi.dclosed i o ho (fun hir=>hnm (hi.rnodup.mem_erase_iff.2 ⟨h,hir⟩)) e he hb hm'
 obtain⟨m1,o,m2,m3⟩:=mem_ready.1 hir
 have hil:=(Array.getElem?_eq_some_iff.1 m2).1
 have hag:∀t∈oi.looksAt ops,f t=fa t:=by
  intro t ht
  refine (hi.agree t fun k hk ok hok hd=>?_).symm
  obtain⟨_,o2,ho2,_,g1,_⟩:=hi.good k hk
  rw [hok] at ho2;cases ho2
  have hre:=g1 i0 oi t ho0 hd ht
  have hkl:=YO hi.closed hre fun o3 h3 e he hb=>by rw [m2] at h3;cases h3;exact m3 e he hb
  have:=(hi.un k (Array.getElem?_eq_some_iff.1 hok).1).2 (.inr hk)
  rw [hkl] at this;cases this
 rw [ho0] at m2;cases m2
 have hmask:Xx ops f=Xx ops fa:=by
  funext t
  unfold Xx
  split
  ·rfl
  ·rename_i hno
   refine (hi.agree t fun j hj o ho hd=>hno ?_).symm
   rw [Array.any_eq_true']
   exact⟨o,Array.mem_of_getElem? ho,by simp [hd]⟩
 refine ZdF (hsm _ _ ho0) hag hmask (fun r H' hk=>?_) hv
 obtain⟨hlate,hv'⟩:=hk
 refine Zdr htab hsm hlt p fuel (i0::done) (rem.erase i0) L _ (ZS f oi.dst r) (ZS fa oi.dst r) H' hrest ?_ (by omega) hv'
 refine⟨by simp [hi.size],fun k hkl=>?_,fun k h=>hi.remlt k (List.mem_of_mem_erase h),ZbU hi.closed hir,hdn,hdc,hi.nodup,hi.rnodup.erase i0,fun j hj=>?_,fun t ht=>?_⟩
 ·rw [Zdv (by rw [hi.size];exact hi0l),hi.rnodup.mem_erase_iff]
  by_cases h:k=i0
  ·subst h;simp;exact fun h=>(hi.good k h).1 hi0r
  ·rw [if_neg h,hi.un k hkl];simp [h]
 ·obtain⟨hjr,o,ho,g1,g2,g3,r',h1,h2,h3⟩:=hi.good j hj
  have hjl:=(Array.getElem?_eq_some_iff.1 ho).1
  have hjd:j∈done:=(hi.dn j hjl).2 hjr
  have hnre:(Xa tab i0).testBit j≠true:=fun h=>by
   have:=YO hi.closed (Jp htab h) fun o' ho' e he hb=>m3 e (by rw [ho0] at ho';cases ho';exact he) hb
   have h2:=(hi.un j hjl).2 (.inr hj)
   rw [this] at h2;cases h2
  have hcl:=(hop2 j hjd).resolve_left (fun h=>h.elim hnre fun h=>by rw [(hi.good j hj).2.choose_spec.2.1] at h;cases h)
  rw [ho] at hcl
  simp only [Bool.and_eq_true,Bool.or_eq_true,Bool.not_eq_true'] at hcl
  obtain⟨⟨_,hlook⟩,hlf⟩:=hcl
  have hun:∀t∈o.looksAt ops,f t=ZS f oi.dst r t:=by
   intro t ht
   refine (Za3 (l:=o.looksAt ops) (fun d hd hm=>?_) t ht).symm
   simp only [Zd9,hd] at hlook
   rw [List.contains_iff_mem.2 hm] at hlook;cases hlook
  have hdst:∀d,o.dst=some d→ZS f oi.dst r d=f d:=by
   intro d hd
   have hne:oi.dst≠some d:=g3 i0 oi d ho0 (fun e=>hjr (e▸hi0r)) hd
   cases hd0:oi.dst with
   |none=>rfl
   |some d0=>simp only [ZS,upd];rw [if_neg];rintro rfl;exact hne hd0
  refine⟨fun h=>hjr (List.mem_of_mem_erase h),o,ho,g1,g2,g3,?_⟩
  by_cases hh:hf o=true
  ·exact⟨r',Yw (hsm _ _ ho) hun (h2 hh H'),fun h H''=>Yw (hsm _ _ ho) hun (h2 h H''),fun d hd=>by rw [hdst d hd];exact h3 d hd⟩
  ·have hjlate:j∈lt:=List.contains_iff_mem.1 (hlf.resolve_right hh)
   obtain⟨r2,q1,q2⟩:=hlate j hjlate o ho
   exact⟨r2,q1,fun h=>absurd h hh,q2⟩
 ·cases hd0:oi.dst with
  |none=>exact hi.agree t ht
  |some d0=>
   simp only [ZS,upd]
   by_cases htd:t=d0
   ·rw [if_pos htd,if_pos htd]
   ·rw [if_neg htd,if_neg htd];exact hi.agree t ht
structure ZlL where
 pre:List Nat
 (i j:Nat)
 (li lj:List Nat)
 (pi pj:Y7)
def Zb9 (pu:Nat→Bool) (hf:Oper→Bool) (ops:Array Oper) (tab:List (Nat×Oper×Nat)) (done rem:List Nat) (i:Nat) (lt:List Nat) (p:Y7):Bool:=
 JD ops rem i&& !pu i&&(match ops[i]? with
  |none=>false
  |some oi=>done.all fun j=>(Xa tab i).testBit j|| !pu j||(match ops[j]? with|none=>false|some oj=>pu j&& !Zd9 ops oj oi&&(lt.contains j||hf oj)))&&
 ZaT pu hf ops tab (i::done) (rem.erase i) p
def Zf8 (pu:Nat→Bool) (hf:Oper→Bool) (ops:Array Oper) (tab:List (Nat×Oper×Nat)) (k:ZlL):List Nat→List Nat→List Nat→Bool
 |done,rem,[]=>(rem.all fun x=>x==k.i||x==k.j||(Xa tab x).testBit k.i||(Xa tab x).testBit k.j)&&Zb9 pu hf ops tab done rem k.i k.li k.pi&&Zb9 pu hf ops tab done rem k.j k.lj k.pj
 |done,rem,i::rest=>JD ops rem i&&pu i&&(match ops[i]? with|none=>false|some oi=>Zcw ops tab i oi)&&Zf8 pu hf ops tab k (i::done) (rem.erase i) rest
def VF (P:Program) (pu:Nat→Bool) (hf:Oper→Bool) (ops:Array Oper) (Q:AQ) (ds:List ZO) (k:ZlL):List Nat→Fr→List Ze→Prop
 |[],f,H=>VX P pu hf ops Q ds ((k.i,k.li)::k.pi) f H∧VX P pu hf ops Q ds ((k.j,k.lj)::k.pj) f H
 |i::rest,f,H=>match ops[i]? with
  |none=>False
  |some o=>∃r,Xt P ops o f H r∧(hf o=true→∀H',Xt P ops o f H' r)∧VF P pu hf ops Q ds k rest (ZS f o.dst r) H
theorem Zq4 {tab:List (Nat×Oper×Nat)} (htab:Zdm ops tab) {hf:Oper→Bool} (hsm:∀ (i:Nat) (o:Oper),ops[i]?=some o→YY n ops o=true)
 (hlt:∀ (j:Nat) (o:Oper),ops[j]?=some o→∀e∈o.after,Region.binds .any e=true→e.on<j) {ds:List ZO} {k:ZlL}:∀ (p:List Nat) (fuel:Nat) (done rem L:List Nat) (listed:Array Bool) (f fa:Fr) (H:List Ze),Zf8 pu hf ops tab k done rem p=true→Zdx P pu hf ops done rem L listed f fa H→rem.length+L.length≤fuel→
 VF P pu hf ops Q ds k p f H→AA P pu ops Q ds fuel listed fa H:=by
 intro p
 induction p with
 |nil=>
  intro fuel
  induction fuel with
  |zero=>
   intro done rem L listed f fa H hc hi hfu hv
   exfalso
   simp only [Zf8,Zb9,JD,Bool.and_eq_true,List.contains_iff_mem] at hc
   have:=List.length_pos_of_mem hc.2.1.1.1.1
   omega
  |succ fuel ih=>
   intro done rem L listed f fa H hc hi hfu hv
   have hc0:=hc
   simp only [Zf8,Bool.and_eq_true] at hc
   obtain⟨⟨hall,hhi⟩,hhj⟩:=hc
   obtain⟨hvi,hvj⟩:=hv
   have step:∀ (x:Nat) (lt:List Nat) (pl:Y7),Zb9 pu hf ops tab done rem x lt pl=true→VX P pu hf ops Q ds ((x,lt)::pl) f H→x∈Region.ready .any ops listed→
    ∃o,ops[x]?=some o∧if pu x=true then ∃r,Xt P ops o fa H r∧AA P pu ops Q ds fuel (listed.setIfInBounds x true) (ZS fa o.dst r) H else Zar P ops o fa H ds Q (fun f' H'=>AA P pu ops Q ds fuel (listed.setIfInBounds x true) f' H'):=by
    intro x lt pl hh hvx hxr
    simp only [Zb9,Bool.and_eq_true,Bool.not_eq_true'] at hh
    obtain⟨⟨⟨h1,h2⟩,h3⟩,h4⟩:=hh
    cases ho:ops[x]? with
    |none=>rw [ho] at h3;cases h3
    |some o=>
     rw [ho] at h3
     simp only [VX,ho,h2,Bool.false_eq_true,if_false] at hvx
     refine⟨o,rfl,?_⟩
     rw [if_neg (by simp [h2])]
     exact ZuN htab hsm hlt hi hxr ho h2 h1 h3 h4 hfu hvx
   refine⟨fun hn=>?_,fun x hir=>?_⟩
   ·obtain⟨rfl,_⟩:=Zdb hsm hlt hi hn
    simp only [Zb9,JD,Bool.and_eq_true,List.contains_iff_mem] at hhi
    cases hhi.1.1.1.1
   ·obtain⟨m1,o,m2,m3⟩:=mem_ready.1 hir
    have hil:=(Array.getElem?_eq_some_iff.1 m2).1
    rw [ZbF (by rw [hi.size];exact hil)] at m1
    rcases (hi.un x hil).1 m1 with hm|hm
    ·have hx:=List.all_eq_true.1 hall x hm
     simp only [Bool.or_eq_true,beq_iff_eq] at hx
     have no:∀y,y∈rem→(Xa tab x).testBit y=true→False:=fun y hy hb=>by
      have:=YO hi.closed (Jp htab hb) fun o' ho' e he hb=>m3 e (by rw [m2] at ho';cases ho';exact he) hb
      have h2:=(hi.un y (hi.remlt y hy)).2 (.inl hy)
      rw [this] at h2;cases h2
     have hri:k.i∈rem:=by simp only [Zb9,JD,Bool.and_eq_true,List.contains_iff_mem] at hhi;exact hhi.1.1.1.1
     have hrj:k.j∈rem:=by simp only [Zb9,JD,Bool.and_eq_true,List.contains_iff_mem] at hhj;exact hhj.1.1.1.1
     rcases hx with ((hx|hx)|hx)|hx
     ·subst hx;exact step _ _ _ hhi hvi hir
     ·subst hx;exact step _ _ _ hhj hvj hir
     ·exact (no _ hri hx).elim
     ·exact (no _ hrj hx).elim
    ·obtain⟨o',r,ho,hpu',hst,hinv⟩:=Zeb hsm hlt hi hir hm
     refine⟨o',ho,?_⟩
     rw [if_pos hpu']
     have hlen:=List.length_erase_of_mem hm
     have hpos:=List.length_pos_of_mem hm
     exact⟨r,hst,ih done rem (L.erase x) _ f _ H hc0 hinv (by omega) ⟨hvi,hvj⟩⟩
 |cons i0 p ihp=>
  intro fuel done rem L listed f fa H hc hi hfu hv
  simp only [Zf8,Bool.and_eq_true] at hc
  obtain⟨⟨⟨hrd,hpu⟩,hop⟩,hrest⟩:=hc
  have hrd':=hrd
  simp only [JD,Bool.and_eq_true,List.contains_iff_mem] at hrd'
  obtain⟨hi0r,hedges⟩:=hrd'
  have hi0l:=hi.remlt _ hi0r
  have ho0:ops[i0]?=some (ops[i0]'hi0l):=Array.getElem?_eq_getElem hi0l
  generalize ops[i0]'hi0l=oi at ho0
  have hlen0:=List.length_erase_of_mem hi0r
  have hpos0:=List.length_pos_of_mem hi0r
  rw [ho0] at hop hedges
  simp only at hop hedges
  simp only [VF,ho0] at hv
  have hed:∀e∈oi.after,Region.binds .any e=true→e.on∉rem:=by
   intro e he hb hm
   have:=List.all_eq_true.1 hedges e (by simpa using he)
   simp only [hb,Bool.not_true,Bool.false_or,Bool.and_eq_true,Bool.not_eq_true'] at this
   rw [List.contains_iff_mem.2 hm] at this;exact absurd this.1 (by simp)
  have hdn:∀i,i<ops.size→(i∈i0::done↔i∉rem.erase i0):=by
   intro i hil
   rw [hi.rnodup.mem_erase_iff,List.mem_cons,hi.dn i hil]
   by_cases h:i=i0
   ·subst h;simp
   ·simp [h]
  have hdc:∀i o,ops[i]?=some o→i∉rem.erase i0→∀e∈o.after,Region.binds .any e=true→e.on∉rem.erase i0:=by
   intro i o ho hnm e he hb hm
   have hm':=List.mem_of_mem_erase hm
   by_cases h:i=i0
   ·subst h;rw [ho0] at ho;cases ho;exact hed e he hb hm'
   ·refine hi.dclosed i o ho (fun hir=>hnm (hi.rnodup.mem_erase_iff.2 ⟨h,hir⟩)) e he hb hm'
  obtain⟨r,hr1,hr2,hv'⟩:=hv
  have hal1:∀k ok d,ops[k]?=some ok→oi.dst=some d→d∈ok.looksAt ops→ZaA ops k i0:=by
   intro k ok d hok hd hm
   simp only [Zcw,hd,List.all_eq_true,List.mem_range] at hop
   have:=hop k (Array.getElem?_eq_some_iff.1 hok).1
   rw [hok] at this
   simp only [Bool.and_eq_true,Bool.or_eq_true,Bool.not_eq_true'] at this
   rcases this.1 with h|h
   ·rw [List.contains_iff_mem.2 hm] at h;cases h
   ·exact Jp htab h
  have hal2:∀k ok d,ops[k]?=some ok→k≠i0→oi.dst=some d→ok.dst≠some d:=by
   intro k ok d hok hne hd
   simp only [Zcw,hd,List.all_eq_true,List.mem_range] at hop
   have:=hop k (Array.getElem?_eq_some_iff.1 hok).1
   rw [hok] at this
   simp only [Bool.and_eq_true,Bool.or_eq_true,beq_iff_eq,bne_iff_ne] at this
   exact this.2.resolve_left hne
  have hun:∀o:Oper,(∃j,ops[j]?=some o∧ ¬ ZaA ops j i0)→∀t∈o.looksAt ops,f t=ZS f oi.dst r t:=by
   rintro o ⟨j,hj,hnr⟩ t ht
   refine (Za3 (l:=o.looksAt ops) (fun d hd hm=>hnr (hal1 j o d hj hd hm)) t ht).symm
  refine ihp fuel (i0::done) (rem.erase i0) (i0::L) listed (ZS f oi.dst r) fa H hrest ?_ (by simp;omega) hv'
  have hi0L:i0∉L:=fun h=>(hi.good i0 h).1 hi0r
  refine⟨hi.size,fun i hil=>?_,fun i h=>hi.remlt i (List.mem_of_mem_erase h),hi.closed,hdn,hdc,List.nodup_cons.2 ⟨hi0L,hi.nodup⟩,hi.rnodup.erase i0,fun j hj=>?_,fun t ht=>?_⟩
  ·rw [hi.un i hil,hi.rnodup.mem_erase_iff,List.mem_cons]
   by_cases h:i=i0
   ·subst h;simp [hi0r]
   ·simp [h]
  ·rcases List.mem_cons.1 hj with rfl|hj
   ·refine⟨fun h=>(hi.rnodup.mem_erase_iff.1 h).1 rfl,oi,ho0,hpu,hal1,hal2,r,?_,?_,?_⟩
    ·exact Yw (hsm _ _ ho0) (hun oi ⟨_,ho0,fun h=>Nat.lt_irrefl _ (Zc8 hlt h)⟩) hr1
    ·exact fun h H'=>Yw (hsm _ _ ho0) (hun oi ⟨_,ho0,fun h=>Nat.lt_irrefl _ (Zc8 hlt h)⟩) (hr2 h H')
    ·intro d hd;simp [ZS,upd,hd]
   ·obtain⟨hjr,o,ho,g1,g2,g3,r',h1,h2,h3⟩:=hi.good j hj
    have hnr: ¬ ZaA ops j i0:=fun h=>ZcP (S:=fun k=>k∉rem) (fun i o ho hn e he hb=>hi.dclosed i o ho hn e he hb) h hjr hi0r
    refine⟨fun h=>hjr (List.mem_of_mem_erase h),o,ho,g1,g2,g3,r',Yw (hsm _ _ ho) (hun o ⟨j,ho,hnr⟩) h1,fun h H'=>Yw (hsm _ _ ho) (hun o ⟨j,ho,hnr⟩) (h2 h H'),fun d hd=>?_⟩
    have hne:oi.dst≠some d:=g3 i0 oi d ho0 (fun e=>hjr (e▸hi0r)) hd
    rw [←h3 d hd]
    cases hd0:oi.dst with
    |none=>rfl
    |some d0=>simp only [ZS,upd];rw [if_neg];rintro rfl;exact hne hd0
  ·have e1:fa t=f t:=hi.agree t fun j hj o ho=>ht j (List.mem_cons_of_mem _ hj) o ho
   rw [e1]
   have e2:=ht i0 (by simp) oi ho0
   cases hd0:oi.dst with
   |none=>rfl
   |some d0=>simp only [ZS,upd];rw [if_neg];rintro rfl;exact e2 hd0
variable {hn:Nat→Bool}
theorem ZnX {ops:Array Oper} {Q:AQ} {ds:List ZO} (hnd:ops.all Yk=true) {tab:List (Nat×Oper×Nat)} {done rem:List Nat} {i:Nat} {late:List Nat} {p:Y7} {f:Fr} {H:List Ze}
 (hc:Zb9 (JL (Ym hn) ops) YD ops tab done rem i late p=true) (hl:∀x∈(i,late)::p,∀j∈x.2,∀o,ops[j]?=some o→JL (Ym hn) ops j=true) (h:vcX P hn ops Q ds ((i,late)::p) f H):VX P (JL (Ym hn) ops) YD ops Q ds ((i,late)::p) f H:=by
 simp only [Zb9,Bool.and_eq_true,Bool.not_eq_true'] at hc
 obtain⟨⟨⟨hrd,hpu⟩,hop⟩,hrest⟩:=hc
 simp only [vcX] at h
 simp only [VX]
 cases ho:ops[i]? with
 |none=>rw [ho] at hop;cases hop
 |some o=>
  have hndo:Yk o=true:=Array.all_eq_true_iff_forall_mem.1 hnd _ (Array.mem_of_getElem? ho)
  have hone:YJ ops [i]=[o]:=by simp [YJ,ho]
  rw [hone] at h
  simp only [hpu,Bool.false_eq_true,if_false]
  refine Zax (fun f' H' hk=>⟨fun j hj oj hoj=>?_,ZcF hnd p _ _ _ _ hrest (fun x hx=>hl x (by simp [hx])) hk.2⟩) (Zeh (Q:=Q) (Q':=JG (fun f' H' _=>Zcl P hn ops f' H' (YJ ops late)∧vcX P hn ops Q ds p f' H') Q) (fun _ _ _ _ h=>h) hndo h)
  have hpj:=hl (i,late) (by simp) j hj oj hoj
  have hndj:Yk oj=true:=Array.all_eq_true_iff_forall_mem.1 hnd _ (Array.mem_of_getElem? hoj)
  have hv:=ZbO hk.1 oj (by simp only [YJ,List.mem_filterMap];exact⟨j,hj,hoj⟩)
  obtain⟨r,h1,_,h3⟩:=ZbL hndj (Zac hoj hpj) hv
  refine⟨r,h1,fun d hd=>?_⟩
  simp only [Ze6,hd] at h3
  have:=h3.2
  simpa [ZS,upd] using this.symm
def ZnA (P:Program) (hn:Nat→Bool) (ops:Array Oper) (Q:AQ) (ds:List ZO) (k:ZlL):AQ:=fun x f H ds'=>match x with
 | .normal=>vcX P hn ops Q ds ((k.i,k.li)::k.pi) f H∧vcX P hn ops Q ds ((k.j,k.lj)::k.pj) f H
 |x=>Q x f H ds'
theorem ZjO {ops:Array Oper} {Q:AQ} {ds:List ZO} {k:ZlL} (hnd:ops.all Yk=true) {tab:List (Nat×Oper×Nat)} (hli:∀x∈(k.i,k.li)::k.pi,∀j∈x.2,∀o,ops[j]?=some o→JL (Ym hn) ops j=true) (hlj:∀x∈(k.j,k.lj)::k.pj,∀j∈x.2,∀o,ops[j]?=some o→JL (Ym hn) ops j=true):
 ∀ (p done rem:List Nat) (f:Fr) (H:List Ze),Zf8 (JL (Ym hn) ops) YD ops tab k done rem p=true→vcX P hn ops (ZnA P hn ops Q ds k) ds (p.map fun i=>(i,[])) f H→VF P (JL (Ym hn) ops) YD ops Q ds k p f H
 |[],done,rem,f,H,hc,h=>by
  simp only [Zf8,Bool.and_eq_true] at hc
  exact⟨ZnX hnd hc.1.2 hli h.1,ZnX hnd hc.2 hlj h.2⟩
 |i::p,done,rem,f,H,hc,h=>by
  simp only [Zf8,Bool.and_eq_true] at hc
  obtain⟨⟨⟨hrd,hpu⟩,hop⟩,hrest⟩:=hc
  simp only [List.map_cons,vcX] at h
  simp only [VF]
  cases ho:ops[i]? with
  |none=>rw [ho] at hop;cases hop
  |some o=>
   have hndo:Yk o=true:=Array.all_eq_true_iff_forall_mem.1 hnd _ (Array.mem_of_getElem? ho)
   have hone:YJ ops [i]=[o]:=by simp [YJ,ho]
   rw [hone] at h
   obtain⟨r,h1,h2,h3⟩:=ZbL hndo (Zac ho hpu) h
   exact⟨r,h1,h2,ZjO hnd hli hlj p _ _ _ _ hrest h3.2⟩
def ZtF (hn:Nat→Bool) (n:Nat) (ops:Array Oper) (k:ZlL):Bool:=
 ops.toList.all (YY n ops)&&Zf8 (JL (Ym hn) ops) YD ops (Zdi ops [] (List.range ops.size)) k [] (List.range ops.size) k.pre&&Zcp (JL (Ym hn) ops) ops ((k.i,k.li)::k.pi)&&Zcp (JL (Ym hn) ops) ops ((k.j,k.lj)::k.pj)&&
 ((List.range ops.size).all fun j=>match ops[j]? with
   |none=>true
   |some o=>o.after.toList.all fun e=> !Region.binds .any e||decide (e.on<j))&&ops.all Yk
theorem ZgI (hn:Nat→Bool) (k:ZlL) {id:Nat} {ops:Array Oper} {Q:AQ} {f:Fr} {H:List Ze} {ds:List ZO} (hs:(ZtF hn n ops k&&P.follows .mixedOrders)=true)
 (h:vcX P hn ops (ZnA P hn ops Q ds k) ds (k.pre.map fun i=>(i,[])) f H):X6 P n (.region id ops true) Q f H ds:=by
 simp only [ZtF,Bool.and_eq_true,List.all_eq_true] at hs
 obtain⟨⟨⟨⟨⟨⟨hs1,hs2⟩,hs3⟩,hs4⟩,hs5⟩,hs6⟩,hm⟩:=hs
 have hsm:∀ (i:Nat) (o:Oper),ops[i]?=some o→YY n ops o=true:=fun i o ho=>hs1 o (by simpa using Array.mem_of_getElem? ho)
 have lt:∀p:Y7,Zcp (JL (Ym hn) ops) ops p=true→∀x∈p,∀j∈x.2,∀o,ops[j]?=some o→JL (Ym hn) ops j=true:=fun p hp x hx j hj o ho=>by
  simp only [Zcp,List.all_eq_true] at hp
  have:=hp x hx j hj
  rw [ho] at this;exact this
 have hv:=ZjO hs6 (lt _ hs3) (lt _ hs4) k.pre [] (List.range ops.size) f H hs2 h
 intro ro hro B w0 J1 cx a h1 h2 h3 h4 h5
 subst h3
 refine wpIn_region_any hm ?_
 refine Zc7 (P:=P) (pu:=JL (Ym hn) ops) (Q:=Q) (B:=B) (w0:=w0) (J1:=J1) (ro:=ro) (fun i o ho hs=>by have:=hro hs;simp only [JU,List.all_eq_true] at this;exact this o (by simpa using Array.mem_of_getElem? ho)) hsm ops.size (Array.replicate ops.size false) f cx.drew a ?_ (Za2 h1) (h2.trans (JO cx)) (h4.mono (JO cx)) (h5.mono (JO cx))
 refine Zq4 (hf:=YD) (Zcb (List.range ops.size) [] (fun d hd=>(by cases hd))) hsm (fun j o ho e he hb=>?_) k.pre ops.size [] (List.range ops.size) [] _ f f cx.H hs2 ⟨by simp,fun i hi=>?_,fun i hi=>by simpa using hi,fun i o ho hl=>?_,fun i hi=>by simp [hi],fun i o ho hn=>?_,List.nodup_nil,List.nodup_range,fun j hj=>(by cases hj),fun t _=>rfl⟩ (by simp) hv
 ·have:=hs5 j (List.mem_range.2 (Array.getElem?_eq_some_iff.1 ho).1)
  rw [ho] at this
  simp only [List.all_eq_true] at this
  have:=this e (by simpa using he)
  simpa [hb] using this
 ·simp [Array.getD_eq_getD_getElem?,Array.getElem?_replicate,hi]
 ·exfalso
  have hlt:i<ops.size:=(Array.getElem?_eq_some_iff.1 ho).1
  simp [Array.getD_eq_getD_getElem?,Array.getElem?_replicate,hlt] at hl
 ·exfalso
  exact hn (by simpa using (Array.getElem?_eq_some_iff.1 ho).1)
@[simp ↓] theorem Zxk (l:List Oper) (Q:AQ) (ds0:List ZO) (k:ZlL) (f:Fr) (H:List Ze) (ds:List ZO) (w:ZQ (ZnA P hn l.toArray Q ds0 k,AX.normal,f,H,ds)):QW (ZnA P hn l.toArray Q ds0 k) .normal f H ds w=(ZfJ P hn ((k.i,k.li)::k.pi) l.toArray Q f H ds0 (Z5 _)∧ZfJ P hn ((k.j,k.lj)::k.pj) l.toArray Q f H ds0 (Z5 _)):=(rfl)
end
end Go.Mu
namespace Go.Proofs
open Go.Mu
def Zap (l:List Vr):List (ByteArray×Vr):=l.foldl (fun t v=>Jw v.name v t) []
theorem ZmC {l:List Vr} {i:Nat} (h:i<l.length):Zap (l.take (i+1))=Jw l[i].name l[i] (Zap (l.take i)):=by rw [Y1 h,Zap,List.foldl_append];rfl
def Zqj (p:Pg) (i:Nat) (f:Fc):Int:=YB p i f (Zap (f.params++f.vars)) (YK (p.regions.map Rg.name) []) (ZF 1 f.body) 1 [] f.body
def ZfC (p:Pg):Nat→List Fc→Int
 |_,[]=>0
 |i,f::l=>ZK (Zqj p i f) (ZfC p (i+1) l)
def Zc2 (p:Pg):Int:=ZK (ZaB p) (ZK (Xw p) (ZK (Xp [] p.regions) (ZK (YI Zan p.funcs) (ZfC p 0 p.funcs))))
theorem ZrI {p:Pg} (h:ZaB p=0):∀r∈p.regions,ZeT r:=by
 have t:∀a b:Int,ZK a b=0→a=0∧b=0:=fun a b h=>by
  unfold ZK at h
  split at h
  ·rename_i ha;exact⟨ha,h⟩
  ·rename_i ha;exact absurd h ha
 unfold ZaB at h
 have h2:=(t _ _ (t _ _ h).2).1
 have all:∀l:List Rg,YI (fun r=>Xf r.size) l=0→∀r∈l,Xf r.size=0:=by
  intro l
  induction l with
  |nil=>intro _ r hr;cases hr
  |cons r l ih=>
   intro h q hq
   rw [YI] at h
   rcases List.mem_cons.1 hq with rfl|hq
   ·exact (t _ _ h).1
   ·exact ih (t _ _ h).2 q hq
 intro r hr
 have h3:=all _ h2 r hr
 unfold Xf ZM at h3
 split at h3
 ·rename_i h4;simpa [ZeT] using h4
 ·cases h3
section
variable {p:Pg} {kv ka a k c:Nat} {all:List ByteArray} {tv:List (ByteArray×Vr)} {ta:List (ByteArray×Bool)} {F:Fc} {M W:List Ze}
theorem ZoE (hp:p.Ok) (hall:all.length≤2^40) (hk:k<p.funcs.length) (hF:F=p.funcs[k]) (l:List Sm) (hl:Zh l≤2^36) (H:List Ze) (hA:Za0 H a p k kv ka Yp all tv ta):
 Zi Tryz.prog 110 [.bp a 0,Sm.sl l,I 1] H (fun e H'=>(YB p k F tv ta all 1 [] l=0→e=.ret (.tup []))∧(YB p k F tv ta all 1 [] l≠0→e=.pan (Zal (YB p k F tv ta all 1 [] l)))∧∃X Y,H'=H.set a X++[Y]):=by
 refine Yv 1 ?_
 have hal:=ZT hA.box
 refine (ZqB (r:=H.length) hp hall hk hF (Zh l+1) l 1 [] 0 (by omega) hl (by omega) (Nat.le_refl _) (by simp;omega) (H++[.pend]) (hA.app _) (by simp [Xv,Yn])).mono ?_
 have hs:∀X Y,Zbk (H++[.pend]) a X H.length Y=H.set a X++[Y]:=fun X Y=>by
  rw [Zbk,List.set_append,if_pos hal,List.set_append,if_neg (by simp)];simp
 rintro e H' ⟨h1,h2⟩
 by_cases hc:YB p k F tv ta all 1 [] l=0
 ·obtain⟨rfl,es',rfl,_⟩:=h1 hc
  exact⟨fun _=>rfl,fun h=>absurd hc h,_,_,hs _ _⟩
 ·obtain⟨rfl,es',n',rfl⟩:=h2 hc
  exact⟨fun h=>absurd h hc,fun _=>rfl,_,_,hs _ _⟩
structure ZeG (M W:List Ze) (p:Pg) (k:Nat) (F:Fc) (c a kv ka:Nat) (all:List ByteArray) (tv:List (ByteArray×Vr)) (ta:List (ByteArray×Bool)):Prop where
 ext:∃L,W=M++L
 ask:Za0 W a p k kv ka Yp all tv ta
 ne:kv≠ka
 la:M.length≤a
 lv:M.length≤kv
 lk:M.length≤ka
 fb:W[c]?=some (.box 56 F.cells)
theorem Zkn {M W:List Ze} (h:∃L,W=M++L) {n:Nat} (hn:M.length≤n) (X:Ze):∃L,W.set n X=M++L:=by
 obtain⟨L,rfl⟩:=h
 exact⟨_,by rw [List.set_append,if_neg (by omega)]⟩
theorem ZeG.app (h:ZeG M W p k F c a kv ka all tv ta) (L:List Ze):ZeG M (W++L) p k F c a kv ka all tv ta:=by
 obtain⟨⟨L1,e⟩,h2,h3,h4,h5,h6,h7⟩:=h
 exact⟨⟨L1++L,by rw [e,List.append_assoc]⟩,h2.app L,h3,h4,h5,h6,ZG h7 L⟩
theorem ZeG.setV (h:ZeG M W p k F c a kv ka all tv ta) (tv':List (ByteArray×Vr)):ZeG M (W.set kv (.map (Yg Vr.av tv'))) p k F c a kv ka all tv' ta:=by
 obtain⟨h1,⟨b1,b2,b3⟩,h3,h4,h5,h6,h7⟩:=h
 have l1:=ZT b2
 have n1:a≠kv:=fun e=>by subst e;rw [b1] at b2;simp [Xq] at b2
 have n2:c≠kv:=fun e=>by subst e;rw [h7] at b2;simp at b2
 exact⟨Zkn h1 h5 _,⟨by rw [List.getElem?_set_ne (Ne.symm n1)];exact b1,by simp [l1],by rw [List.getElem?_set_ne h3];exact b3⟩,h3,h4,h5,h6,by rw [List.getElem?_set_ne (Ne.symm n2)];exact h7⟩
theorem ZeG.setK (h:ZeG M W p k F c a kv ka all tv ta) (ta':List (ByteArray×Bool)):ZeG M (W.set ka (.map (Yg Xo ta'))) p k F c a kv ka all tv ta':=by
 obtain⟨h1,⟨b1,b2,b3⟩,h3,h4,h5,h6,h7⟩:=h
 have l1:=ZT b3
 have n1:a≠ka:=fun e=>by subst e;rw [b1] at b3;simp [Xq] at b3
 have n2:c≠ka:=fun e=>by subst e;rw [h7] at b3;simp at b3
 exact⟨Zkn h1 h6 _,⟨by rw [List.getElem?_set_ne (Ne.symm n1)];exact b1,by rw [List.getElem?_set_ne (Ne.symm h3)];exact b2,by simp [l1]⟩,h3,h4,h5,h6,by rw [List.getElem?_set_ne (Ne.symm n2)];exact h7⟩
theorem Zd6.app {H:List Ze} {x:AV} {t:TypeId} {sz:Nat} {es:List (List AV)} (h:Zd6 H x t sz es) (L:List Ze):Zd6 (H++L) x t sz es:=by
 rcases h with h|⟨k,h1,h2⟩
 ·exact .inl h
 ·exact .inr ⟨k,h1,ZG h2 L⟩
theorem Zd6.set {H:List Ze} {x:AV} {t:TypeId} {sz:Nat} {es:List (List AV)} (h:Zd6 H x t sz es) {n:Nat} {m:List (Value×AV)} (hn:H[n]?=some (.map m)) (X:Ze):Zd6 (H.set n X) x t sz es:=by
 rcases h with h|⟨k,h1,h2⟩
 ·exact .inl h
 ·refine .inr ⟨k,h1,?_⟩
  rw [List.getElem?_set_ne (fun e=>by subst e;rw [h2] at hn;simp at hn)];exact h2
end
end Go.Proofs
namespace Go.Proofs
open Go.Mu
structure Pg.Ok2 (p:Pg):Prop where
 ok:p.Ok
 nok:p.NOk
 body36:∀f∈p.funcs,Zh f.body≤2^36
theorem Zhx {p:Pg} {i:Nat} (h:i<p.funcs.length):ZfC p i (p.funcs.drop i)=ZK (Zqj p i p.funcs[i]) (ZfC p (i+1) (p.funcs.drop (i+1))):=by rw [Zo h,ZfC]
theorem Zj4 {p:Pg} {i:Nat} (h: ¬ i<p.funcs.length):ZfC p i (p.funcs.drop i)=0:=by rw [ZI h];rfl
theorem Ztw (p:Pg) (hp:p.Ok2) (b:Nat) (H:List Ze) (hb:H[b]?=some (.box 25 p.cells)):Zi Tryz.prog 104 [.bp b 0] H (XO (Zc2 p) H):=by
 refine Zf (Z0 Tryz.func104 rfl (by kernel_rfl) ?_)
 obtain⟨E,hE⟩:∃E,E=Zc2 p:=⟨_,rfl⟩
 rw [←hE]
 have hbL:=fun L=>ZG hb L
 have endP:∀e L,e=E→e≠0→ZW H (XO E H) (.pan (Zal e)) (H++L):=fun e L he h0=>YL he h0
 have end0:∀L,E=0→ZW H (XO E H) (.ret (.tup [])) (H++L):=fun L he=>Ji he
 have endP0:∀e,e=E→e≠0→ZW H (XO E H) (.pan (Zal e)) H:=fun e he h0=>ZeN he h0
 unfold Zc2 at hE
 replace hE:=hE.symm
 have c1:=Zso p hp.ok H
 have c2:=ZpM p hp.ok hp.nok H
 have hpf:=hp.ok.funcs
 have hpr:=hp.ok.regions
 simp only [Pg.cells] at hb hbL c1 c2
 refine Zc (fun f H'=>H=H'∧f 0=.bp b 0∧ZaB p=0) (by kernel_rfl) ?_ ?_
 ·simp -dsimp [hb]
  refine Zb6 c1 (fun hz=>?_) (fun hz=>?_)
  ·simp -dsimp
   exact hz
  ·simp -dsimp
   rw [Zu hz] at hE
   exact endP0 _ hE hz
 rintro g _ ⟨rfl,g0,h1⟩
 rw [h1,Zj] at hE
 refine Zc (fun f H'=>H=H'∧f 0=.bp b 0∧Xw p=0) (by kernel_rfl) ?_ ?_
 ·simp -dsimp [hb,g0]
  refine Zb6 c2 (fun hz=>?_) (fun hz=>?_)
  ·simp -dsimp [g0]
   exact hz
  ·simp -dsimp
   rw [Zu hz] at hE
   exact endP0 _ hE hz
 clear g g0
 rintro g _ ⟨rfl,g0,h2⟩
 rw [h2,Zj] at hE
 have c3:=Zpi p hp.ok.regions (ZrI h1) H
 simp only [Pg.cells] at c3
 refine Zc (fun f H'=>H=H'∧f 0=.bp b 0∧Xp [] p.regions=0) (by kernel_rfl) ?_ ?_
 ·simp -dsimp [hb,g0]
  refine Zb6 c3 (fun hz=>?_) (fun hz=>?_)
  ·simp -dsimp [g0]
   exact hz
  ·simp -dsimp
   rw [Zu hz] at hE
   exact endP0 _ hE hz
 clear g g0
 rintro g _ ⟨rfl,g0,h3⟩
 rw [h3,Zj] at hE
 clear c1 c2 c3 h1 h2 h3
 --kinds
 refine Zc (fun f H'=>(∃L,H'=H++L)∧f 0=.bp b 0∧YI Zan p.funcs=0) (by kernel_rfl) ?_ ?_
 ·simp -dsimp [hb,g0]
  refine Zv (fun (i:Nat) g H'=>(∃L,H'=H++L)∧g 0=.bp b 0∧g 17=Fc.sl p.funcs∧g 18=I p.funcs.length∧g 19=I i∧i≤p.funcs.length∧YI Zan (p.funcs.drop i)=YI Zan p.funcs) (fun i=>p.funcs.length-i) (by kernel_rfl) 0 (by simp [g0]) ?_
  clear g g0
  rintro i g _ ⟨⟨L,rfl⟩,g0,g17,g18,g19,hi,hinv⟩
  simp -dsimp [g0,g17,g18,g19]
  refine Zb (fun hlt=>?_) (fun hlt=>?_)
  ·rw [Jn _ hlt] at hinv
   have ck:=Zrt p.funcs[i] (by have:=hp.ok.params _ (List.getElem_mem hlt);omega) (by have:=hp.ok.vars _ (List.getElem_mem hlt);omega) (H++(L++[.box 56 p.funcs[i].cells]))
   simp only [Fc.cells] at ck
   simp -dsimp [g0,g17,g18,g19,List.getElem?_eq_getElem,hlt]
   refine Zb6 ck (fun hz=>?_) (fun hz=>?_)
   ·simp -dsimp [g0,g17,g18,g19]
    rw [hz,Zj] at hinv
    exact⟨i+1,by omega,ZC (by omega),by omega,hinv⟩
   ·simp -dsimp
    rw [Zu hz] at hinv
    exact endP _ _ (by rw [←hE,←hinv,Zu hz]) hz
  ·simp -dsimp [g0]
   rw [JI _ hlt] at hinv
   exact hinv.symm
 clear g g0
 rintro g _ ⟨⟨L0,rfl⟩,g0,h4⟩
 rw [h4,Zj] at hE
 clear h4
 obtain⟨rl,hrl⟩:∃rl,rl=p.regions.map Rg.name:=⟨_,rfl⟩
 --statements
 refine Zc (fun f H'=>H'=H++L0∧f 0=.bp b 0∧f 27=Fc.sl p.funcs∧f 28=I p.funcs.length∧f 29=I 0) (by kernel_rfl) ?_ ?_
 ·simp -dsimp [hbL,g0]
 clear g g0
 rintro g _ ⟨rfl,g0,g27,g28,g29⟩
 refine Z9 ?_
 refine Yd (fun (i:Nat) g H'=>(∃L,H'=H++L)∧g 0=.bp b 0∧g 27=Fc.sl p.funcs∧g 28=I p.funcs.length∧g 29=I i∧i≤p.funcs.length∧ZfC p i (p.funcs.drop i)=E) (fun i=>p.funcs.length-i) 0 ⟨⟨_,rfl⟩,g0,g27,g28,g29,by omega,hE⟩ ?_
 clear g g0 g27 g28 g29
 rintro i g _ ⟨⟨L1,rfl⟩,g0,g27,g28,g29,hi,hinv⟩
 obtain⟨M,hM⟩:∃M,M=H++L1:=⟨_,rfl⟩
 have hMb:∀W,(∃L,W=M++L)→∀L,(W++L)[b]?=some (.box 25 [Rg.sl p.regions,Fc.sl p.funcs]):=fun W hW L=>by
  obtain⟨L2,rfl⟩:=hW;rw [hM,List.append_assoc,List.append_assoc];exact hbL _
 have hMe:∀W,(∃L,W=M++L)→∀L,∃L',W++L=H++L':=fun W hW L=>by
  obtain⟨L2,rfl⟩:=hW;exact⟨L1++(L2++L),by rw [hM];simp⟩
 rw [←hM]
 clear hM hb hbL
 refine Zc (fun f H'=>M=H'∧f 0=.bp b 0∧f 27=Fc.sl p.funcs∧f 28=I p.funcs.length∧f 29=I i∧f 30=Bo (decide ((i:Int)<p.funcs.length))) (by kernel_rfl) ?_ ?_
 ·simp -dsimp [g0,g27,g28,g29]
 clear g g0 g27 g28 g29
 rintro g _ ⟨rfl,g0,g27,g28,g29,g30⟩
 refine Zc (fun f H'=>M=H'∧f 0=.bp b 0∧f 27=Fc.sl p.funcs∧f 28=I p.funcs.length∧f 29=I i∧i<p.funcs.length) (by kernel_rfl) ?_ ?_
 ·simp -dsimp [g30]
  refine Zb (fun hlt=>?_) (fun hlt=>?_)
  ·simp -dsimp [g0,g27,g28,g29]
   omega
  ·simp -dsimp
   rw [Zj4 (by omega)] at hinv
   obtain⟨L',hL'⟩:=hMe M ⟨[],by simp⟩ []
   rw [List.append_nil] at hL'
   rw [hL']
   exact end0 _ hinv.symm
 clear g g0 g27 g28 g29 g30
 rintro g _ ⟨rfl,g0,g27,g28,g29,hlt⟩
 rw [Zhx hlt] at hinv
 have hpp:=hp.ok.params _ (List.getElem_mem hlt)
 have hpv:=hp.ok.vars _ (List.getElem_mem hlt)
 have hpb:=hp.body36 _ (List.getElem_mem hlt)
 obtain⟨F,hF⟩:∃F,F=p.funcs[i]:=⟨_,rfl⟩
 rw [←hF] at hinv hpp hpv hpb
 unfold Zqj at hinv
 rw [←hrl] at hinv
 obtain⟨vs,hvs⟩:∃vs,vs=F.params++F.vars:=⟨_,rfl⟩
 have hvl:vs.length≤2^40:=by rw [hvs];simp;omega
 rw [←hvs] at hinv
 obtain⟨all,hall⟩:∃all,all=ZF 1 F.body:=⟨_,rfl⟩
 have hal:all.length≤2^40:=by rw [hall];have:=ZbJ _ F.body (Nat.le_refl _) 1;omega
 rw [←hall] at hinv
 refine Z4 (fun f H'=>(∃L,H'=M++L)∧f 0=.bp b 0∧f 27=Fc.sl p.funcs∧f 28=I p.funcs.length∧f 29=I i∧YB p i F (Zap vs) (YK rl []) all 1 [] F.body=0) ?_ ?_
 rotate_left
 ·clear g g0 g27 g28 g29
  rintro g W ⟨hW,g0,g27,g28,g29,h5⟩
  rw [h5,Zj] at hinv
  obtain⟨L',hL'⟩:=hMe W hW []
  rw [List.append_nil] at hL'
  subst hL'
  refine Zk (by kernel_rfl) ?_
  simp -dsimp [g0,g27,g28,g29]
  exact⟨i+1,by omega,ZC (by omega),by omega,hinv⟩
 refine Z9 ?_
 refine Zc (fun f H'=>H'=M++[.box 56 F.cells]∧f 0=.bp b 0∧f 27=Fc.sl p.funcs∧f 28=I p.funcs.length∧f 29=I i∧f 3=I i∧f 4=.bp M.length 0) (by kernel_rfl) ?_ ?_
 ·simp -dsimp [g0,g27,g28,g29,List.getElem?_eq_getElem,hlt,hF]
 clear g g0 g27 g28 g29
 rintro g _ ⟨rfl,g0,g27,g28,g29,g3,g4⟩
 --what is asked with
 refine Z4 (fun f W=>(∃a kv ka,ZeG M W p i F M.length a kv ka all [] []∧f 5=.bp a 0)∧f 0=.bp b 0∧f 27=Fc.sl p.funcs∧f 28=I p.funcs.length∧f 29=I i∧f 4=.bp M.length 0) ?_ ?_
 ·have hbx:∀L,(M++L)[b]?=some (.box 25 [Rg.sl p.regions,Fc.sl p.funcs]):=fun L=>hMb M ⟨[],by simp⟩ L
  have cc:=fun H=>Zo9 (Zh F.body) F.body 1 (Nat.le_refl _) hpb (by omega) H
  rw [←hall] at cc
  refine ZgI (fun _=>false) ⟨[0,1,4,5,6],2,3,[0,4,5,6],[0,4,5,6],[(3,[0,4,5,6]),(7,[]),(8,[]),(9,[])],[(2,[0,4,5,6]),(7,[]),(8,[]),(9,[])]⟩ (by kernel_rfl) ?_
  simp -dsimp [g0,g27,g28,g29,g3,g4,hbx]
  repeat' (with_reducible first|refine And.intro ?_ ?_|refine Zd (cc _) ?_|(simp -dsimp [g0,g27,g28,g29,g3,g4,hbx];done)|simp -dsimp [g0,g27,g28,g29,g3,g4,hbx])
  ·exact⟨M.length+1,M.length+2,⟨_,rfl⟩,⟨by simp [Xq],by simp [Yg],by simp [Yg]⟩,by omega,by omega,by omega,by omega,by simp⟩
  ·exact⟨M.length+2,M.length+1,⟨_,rfl⟩,⟨by simp [Xq],by simp [Yg],by simp [Yg]⟩,by omega,by omega,by omega,by omega,by simp⟩
 clear g g0 g27 g28 g29 g3 g4
 rintro g W ⟨⟨a,kv,ka,hA,g5⟩,g0,g27,g28,g29,g4⟩
 --regions
 refine Zc (fun f W=>ZeG M W p i F M.length a kv ka all [] (YK rl [])∧f 5=.bp a 0∧f 0=.bp b 0∧f 27=Fc.sl p.funcs∧f 28=I p.funcs.length∧f 29=I i∧f 4=.bp M.length 0) (by kernel_rfl) ?_ ?_
 ·have hb0:=hMb W hA.ext []
  rw [List.append_nil] at hb0
  simp -dsimp [g0,g27,g28,g29,g4,g5,hb0]
  refine Zv (fun (j:Nat) f W=>ZeG M W p i F M.length a kv ka all [] (YK (rl.take j) [])∧f 5=.bp a 0∧f 0=.bp b 0∧f 27=Fc.sl p.funcs∧f 28=I p.funcs.length∧f 29=I i∧f 4=.bp M.length 0∧
   f 44=Rg.sl p.regions∧f 45=I p.regions.length∧f 46=I j∧j≤p.regions.length) (fun j=>p.regions.length-j) (by kernel_rfl) 0 (by simp [g0,g27,g28,g29,g4,g5,YK];exact hA) ?_
  clear g g0 g27 g28 g29 g4 g5 hb0 hA
  rintro j g W ⟨hA,g5,g0,g27,g28,g29,g4,g44,g45,g46,hj⟩
  simp -dsimp [g0,g27,g28,g29,g4,g5,g44,g45,g46]
  refine Zb (fun hjt=>?_) (fun hjt=>?_)
  ·have hltn:j<rl.length:=by rw [hrl];simpa using hjt
   have hT:=ZaW hltn []
   have hnm:rl[j]=p.regions[j].name:=by subst hrl;simp
   rw [hnm] at hT
   obtain⟨T,hTT⟩:∃T,T=YK (rl.take j) []:=⟨_,rfl⟩
   rw [←hTT] at hT hA
   have hst:=ZaK Xo p.regions[j].name true T
   have hbx:=fun L=>(hA.app L).ask.box
   have hme:∀L,Y3 (W++L) (.hm ka)=some (Yg Xo T):=fun L=>by simp only [Y3];rw [(hA.app L).ask.arr]
   simp only [Xq] at hbx
   simp -dsimp [g0,g27,g28,g29,g4,g5,g44,g45,g46,List.getElem?_eq_getElem,hjt,hbx,hme,hst]
   exact⟨j+1,by omega,by rw [hT];exact (hA.app _).setK _,ZC (by omega),by omega⟩
  ·have e:rl.take j=rl:=List.take_of_length_le (by subst hrl;simp;omega)
   rw [e] at hA
   simp -dsimp [g0,g27,g28,g29,g4,g5]
   exact hA
 clear g g0 g27 g28 g29 g4 g5 hA
 rintro g W ⟨hA,g5,g0,g27,g28,g29,g4⟩
 --variables
 refine Z4 (fun f W=>ZeG M W p i F M.length a kv ka all (Zap vs) (YK rl [])∧f 5=.bp a 0∧f 0=.bp b 0∧f 27=Fc.sl p.funcs∧f 28=I p.funcs.length∧f 29=I i∧f 4=.bp M.length 0) ?_ ?_
 ·refine J2 (fun d=>d==60||d==63) (fun id=>if id=17 then some [(0,[]),(1,[]),(3,[]),(4,[]),(7,[]),(2,[3,4,7]),(5,[7]),(6,[])] else none) (fun f W=>ZeG M W p i F M.length a kv ka all [] (YK rl [])∧Zd6 W (f 63) 120 4 (vs.map Vr.cells)∧f 5=.bp a 0∧f 0=.bp b 0∧f 27=Fc.sl p.funcs∧f 28=I p.funcs.length∧f 29=I i∧f 4=.bp M.length 0∧f 64=I vs.length∧f 65=I 0) (by kernel_rfl) ?_ ?_
  ·have hfb:=fun L=>(hA.app L).fb
   have hfb0:=hA.fb
   simp only [Fc.cells] at hfb hfb0
   simp -dsimp [g0,g27,g28,g29,g4,g5,hfb,hfb0]
   refine ZA (ZfL F.params hpp _) ?_
   rintro e H' (⟨hl,rfl,rfl⟩|⟨rfl,rfl⟩)
   ·simp -dsimp [g0,g27,g28,g29,g4,g5,hfb,hfb0]
    refine Zaa (by simp;omega) (by simp;omega) (fun hy=>?_) (fun hy=>?_)
    ·have hv:F.vars=[]:=by simpa using hy
     simp -dsimp [g0,g27,g28,g29,g4,g5,hl,hv,hvs]
     exact⟨hA,.inl ⟨rfl,rfl⟩⟩
    ·simp -dsimp [g0,g27,g28,g29,g4,g5,hl,hvs]
     exact⟨hA.app _,.inr ⟨H'.length,by simp,by simp⟩⟩
   ·simp -dsimp [g0,g27,g28,g29,g4,g5,hfb,hfb0]
    refine Jc (es:=F.params.map Vr.cells) (by simp) (by simp) (by simp) (by simp;omega) (by simp;omega) ?_
    simp -dsimp [g0,g27,g28,g29,g4,g5,hvs]
    exact⟨hA.app _,.inr ⟨W.length,by simp,by simp⟩⟩
  clear g g0 g27 g28 g29 g4 g5 hA
  rintro g W ⟨hA,hrow,g5,g0,g27,g28,g29,g4,g64,g65⟩
  refine Zk (by kernel_rfl) ?_
  simp -dsimp
  refine Zv (fun (j:Nat) f W=>ZeG M W p i F M.length a kv ka all (Zap (vs.take j)) (YK rl [])∧Zd6 W (f 63) 120 4 (vs.map Vr.cells)∧f 5=.bp a 0∧f 0=.bp b 0∧f 27=Fc.sl p.funcs∧f 28=I p.funcs.length∧f 29=I i∧f 4=.bp M.length 0∧f 64=I vs.length∧f 65=I j∧j≤vs.length) (fun j=>vs.length-j) (by kernel_rfl) 0 (by simp [g0,g27,g28,g29,g4,g5,g64,g65,hrow,Zap];exact hA) ?_
  clear g g0 g27 g28 g29 g4 g5 g64 g65 hA hrow
  rintro j g W ⟨hA,hrow,g5,g0,g27,g28,g29,g4,g64,g65,hj⟩
  simp -dsimp [g64,g65]
  refine Zb (fun hjt=>?_) (fun hjt=>?_)
  ·rcases hrow with ⟨g63,hes⟩|⟨n,g63,hn⟩
   ·have:vs=[]:=by simpa using hes
    rw [this] at hjt
    simp at hjt
   ·have hT:=ZmC hjt
    obtain⟨T,hTT⟩:∃T,T=Zap (vs.take j):=⟨_,rfl⟩
    rw [←hTT] at hT hA
    have hst:=ZaK Vr.av vs[j].name vs[j] T
    simp only [Vr.av,Vr.cells] at hst
    have hbx:=fun L=>(hA.app L).ask.box
    have hme:∀L,Y3 (W++L) (.hm kv)=some (Yg Vr.av T):=fun L=>by simp only [Y3];rw [(hA.app L).ask.vars]
    have hnL:=fun L=>ZG hn L
    simp only [Xq] at hbx
    simp -dsimp [g0,g27,g28,g29,g4,g5,g63,g64,g65,List.getElem?_eq_getElem,hjt,hbx,hme,hst,hn,hnL]
    exact⟨j+1,by omega,by rw [hT];exact (hA.app _).setV _,(Zd6.app (.inr ⟨n,by simp,hn⟩) _).set (hA.app _).ask.vars _,ZC (by omega),by omega⟩
  ·have e:vs.take j=vs:=List.take_of_length_le (by omega)
   rw [e] at hA
   simp -dsimp [g0,g27,g28,g29,g4,g5]
   exact hA
 clear g g0 g27 g28 g29 g4 g5 hA
 rintro g W ⟨hA,g5,g0,g27,g28,g29,g4⟩
 refine Zk (by kernel_rfl) ?_
 have hfb:=hA.fb
 simp only [Fc.cells] at hfb
 simp -dsimp [g0,g27,g28,g29,g4,g5,hfb]
 refine ZA (ZoE hp.ok hal hlt hF F.body hpb W hA.ask) ?_
 rintro e H' ⟨h1,h2,X,Y,rfl⟩
 have hex:∃L,W.set a X++[Y]=M++L:=by
  obtain⟨L,hL⟩:=Zkn hA.ext hA.la X
  exact⟨L++[Y],by rw [hL,List.append_assoc]⟩
 by_cases hc:YB p i F (Zap vs) (YK rl []) all 1 [] F.body=0
 ·obtain rfl:=h1 hc
  simp -dsimp [g0,g27,g28,g29,g4,g5]
  exact⟨hex,hc⟩
 ·obtain rfl:=h2 hc
  simp -dsimp
  rw [Zu hc] at hinv
  obtain⟨L',hL'⟩:=hMe _ hex []
  rw [List.append_nil] at hL'
  rw [hL']
  exact endP _ _ hinv hc
end Go.Proofs
namespace Go.Proofs
open Go.Mu
@[simp] theorem ZyD:Zgk Tryz.prog .eql 20 (.v .nilIface) (.v .nilIface)=some (.v (.bool true)):=by kernel_rfl
@[simp] theorem ZyE (t:Nat) (x:AV):Zgk Tryz.prog .eql 20 (.ifc t x) (.v .nilIface)=some (.v (.bool false)):=by kernel_rfl
theorem ZpA (t:Nat) (H:List Ze):Zd4 Tryz.prog ⟨172,[.bp t 0],none⟩ (.v .nilIface) H (fun H'=>H'=H):=by
 refine Zfh (hn:=fun _=>false) (od:=fun _=>none) Tryz.func172 rfl rfl (by kernel_rfl) ?_
 show vcC _ _ _ _ _ (Ztz _) _ _ _
 simp -dsimp
theorem ZoU (t:Nat) (H:List Ze) (n e:Int) (h:H[t]?=some (.box 35 [I n])):Zd4 Tryz.prog ⟨172,[.bp t 0],none⟩ (Zal e) H (fun H'=>∃L,H'=H.set t (.box 35 [I e])++L):=by
 refine Zfh (hn:=fun _=>false) (od:=fun _=>none) Tryz.func172 rfl rfl (by kernel_rfl) ?_
 show vcC _ _ _ _ _ (Ztz _) _ _ _
 have hl:=ZT h
 have hL:=fun L=>ZG h L
 have hs:∀L X,(H++L).set t X=H.set t X++L:=fun L X=>by rw [List.set_append,if_pos hl]
 simp -dsimp [Je,Zal,h,hL,hs]
theorem Zs8 (g:FuncId) (cap:List AV) (E:Int) (H:List Ze) (hok:ZL Tryz.prog g=true) (hg:∀L,Zi Tryz.prog g cap (H++L) (XO E (H++L))):Zi Tryz.prog 103 [.fn (.func g) [] cap] H (fun e H'=>e=.ret (I E)∧H'=H):=by
 refine Zf (ZiZ (hn:=fun _=>false) (od:=fun _=>none) Tryz.func103 rfl (by kernel_rfl) ?_)
 simp -dsimp [hok]
 refine Zb6 (hg _) (fun hz=>?_) (fun hz=>?_)
 ·subst hz
  simp -dsimp
  refine ZnE (ZpA _ _) ?_
  rintro H' rfl
  simp -dsimp
  exact Z2 rfl ⟨rfl,rfl⟩
 ·simp -dsimp
  refine ZnE (ZoU _ _ 0 _ (by simp)) ?_
  rintro H' ⟨L,rfl⟩
  simp -dsimp
  exact Z2 rfl ⟨rfl,rfl⟩
theorem ZrH (p:Pg) (hp:p.Ok2) (H:List Ze):Zi Tryz.prog 65 [.agg p.cells] H (fun e H'=>e=.ret (I (Zc2 p))∧H'=H):=by
 refine Zf (Zg Tryz.func65 rfl (by kernel_rfl) ?_)
 simp -dsimp
 refine Za (Zs8 104 [.bp H.length 0] (Zc2 p) (H++[.box 25 p.cells]) (by simp) (fun L=>Ztw p hp _ _ (by simp))) ?_
 simp -dsimp
 exact Z2 rfl ⟨rfl,rfl⟩
end Go.Proofs
