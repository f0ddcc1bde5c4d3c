import Derived.Test.YtpibcbilkpoomaaGreatm17
import Derived.Test.YtpibcbilkpoomaaGreatm9
set_option linter.all false
set_option maxHeartbeats 4000000
set_option maxRecDepth 100000
namespace Go.Mu
open Go.RowKit (Below)
section
variable {P:Program} {n:Nat} {c:Code} {Q:AQ}
theorem XN.mono' {cx cx':Cx} (hle:Le cx cx') {f:Fr} {a:Act} (h:XN cx n f a):XN cx' n f a:=⟨h.1,fun t ht=>(h.2 t ht).mono hle⟩
def Cx.less (cx:Cx) (b:Nat) (t:TypeId) (cs:List AV):Cx:={cx with H:=cx.H.set b (.box t cs)}
theorem ZkT {cx:Cx} {b:Nat} {t:TypeId} {cs cs':List AV} (hb:cx.H[b]?=some (.box t cs)):Le cx (cx.less b t cs'):=by
 have hlt:=(List.getElem?_eq_some_iff.1 hb).1
 refine⟨fun _ _ _ _ h=>h,fun _ h=>h,fun k bl h hf=>?_,fun k t' sz es h=>.inr ⟨es,?_,Nat.le_refl _,fun _=>⟨rfl,rfl⟩⟩⟩
 ·by_cases hk:b=k
  ·subst hk;exact⟨.box t cs',by simp [Cx.less,hlt],rfl,rfl⟩
  ·exact⟨bl,by simp only [Cx.less];rw [List.getElem?_set_ne hk];exact h,hf,rfl⟩
 ·have hk:b≠k:=fun e=>by subst e;rw [hb] at h;cases h
  simp only [Cx.less];rw [List.getElem?_set_ne hk];exact h
theorem Zpu {B:Nat} {w0:World} {cx:Cx} (h:Yl B w0 cx) {b:Nat} {t:TypeId} {cs cs':List AV} (hb:cx.H[b]?=some (.box t cs)) (hw:JZ cs cs'):Yl B w0 (cx.less b t cs'):=by
 have hle:=ZkT (cs':=cs') hb
 have hlt:=(List.getElem?_eq_some_iff.1 hb).1
 have key:∀ (i:Nat) (bl:Ze),(cx.less b t cs').H[i]?=some bl→(i=b∧bl=.box t cs')∨(i≠b∧cx.H[i]?=some bl):=by
  intro i bl hi
  by_cases hk:b=i
  ·subst hk;simp [Cx.less,hlt] at hi;exact .inl ⟨rfl,hi.symm⟩
  ·simp only [Cx.less] at hi;rw [List.getElem?_set_ne hk] at hi;exact .inr ⟨Ne.symm hk,hi⟩
 have key2:∀ (i:Nat) (bl:Ze),(cx.less b t cs').H[i]?=some bl→bl.live=true→∃bl',cx.H[i]?=some bl'∧bl'.live=true:=by
  intro i bl hi hl
  rcases key i bl hi with ⟨rfl,rfl⟩|⟨_,h2⟩
  ·exact⟨_,hb,rfl⟩
  ·exact⟨_,h2,hl⟩
 refine⟨h.below,h.base,h.frz,fun i bl hi=>?_,fun i j b1 b2 a1 a2 l1 l2 he=>?_⟩
 ·rcases key i bl hi with ⟨rfl,rfl⟩|⟨hne,hi'⟩
  ·obtain⟨h1,h2,vals,h3,h4⟩:=h.blk _ _ hb
   exact⟨h1,h2,vals,h3,(h4.mono hle).weakens hw⟩
  ·have hbr:=h.blk i bl hi'
   exact hbr.mono hle fun hl=>⟨rfl,rfl,rfl,(hbr.lt hl).2.2⟩
 ·obtain⟨b1',a1',l1'⟩:=key2 i b1 a1 l1
  obtain⟨b2',a2',l2'⟩:=key2 j b2 a2 l2
  exact h.inj i j b1' b2' a1' a2' l1' l2' he
theorem Zgw {f:Fr} {H:List Ze} (b:Nat) (t:TypeId) (cs cs':List AV) (hb:H[b]?=some (.box t cs)) (hw:JZ cs cs') (h:X6 P n c Q f (H.set b (.box t cs')) []):X6 P n c Q f H []:=by
 intro ro hro B w0 J1 cx a h1 h2 h3 h4 h5
 subst h3
 refine h ro hro B w0 J1 (cx.less b t cs') a (Zpu h1 hb hw) (h2.trans (ZkT hb)) rfl (h4.mono' (ZkT hb)) ?_
 cases hd:a.defers with
 |nil=>trivial
 |cons d l=>rw [hd] at h5;exact h5.elim
def AV.frzS (k sz:Nat) (es:List (List AV)) (a:AV):AV:=if es=[] then a else a.frz k sz es
def gvS (sz:Nat) (es:List (List AV)):AV:=if es=[] then .v (.slice none 0 0) else .vs sz es
theorem XP.gvS (sz:Nat) (es:List (List AV)):XP (Mu.gvS sz es) (.vs sz es):=by
 unfold Mu.gvS;split
 ·rename_i h;subst h;exact .nil sz
 ·exact .refl _
@[simp] theorem ZpX (k sz:Nat) (es:List (List AV)):(Yo k es).frzS k sz es=gvS sz es:=by
  unfold AV.frzS gvS
  by_cases h:es=[]
  ·subst h;simp
  ·rw [if_neg h,if_neg h,JV _ _ _ h]
theorem ZnG {k sz n:Nat} {es:List (List AV)} (hn:n≤k) (a:AV) (h:a.under n=true):a.frzS k sz es=a:=by
 unfold AV.frzS;split
 ·rfl
 ·exact Zh0 hn a h
@[simp] theorem Zm8 (k sz:Nat) (es:List (List AV)) (x:Value):(AV.v x).frzS k sz es=.v x:=ZnG (Nat.zero_le _) _ rfl
@[simp] theorem Zck (k sz sz':Nat) (es es':List (List AV)):(AV.vs sz' es').frzS k sz es=.vs sz' es':=ZnG (Nat.zero_le _) _ rfl
@[simp] theorem Zfq (k sz b o:Nat) (es:List (List AV)):(AV.bp b o).frzS k sz es=.bp b o:=by
  unfold AV.frzS;split<;>rfl
theorem ZeV {k k' sz:Nat} {es es':List (List AV)} (h:k≠k'):(Yo k es).frzS k' sz es'=Yo k es:=by
 unfold AV.frzS;split
 ·rfl
 ·exact Zgv h
def Ze.frzS (k sz:Nat) (es:List (List AV)) (b:Ze):Ze:=if es=[] then b else b.frz k sz es
theorem ZnR {k sz n:Nat} {es:List (List AV)} (hn:n≤k) (b:Ze) (h:b.under n=true):b.frzS k sz es=b:=by
 unfold Ze.frzS;split
 ·rfl
 ·exact Zfd hn b h
theorem Zr8 (k sz:Nat) (es:List (List AV)) (t:TypeId) (cs:List AV):(Ze.box t cs).frzS k sz es=.box t (cs.map (AV.frzS k sz es)):=by
 unfold Ze.frzS AV.frzS;split
 ·simp
 ·simp only [Ze.frz]
  congr 1
  induction cs with
  |nil=>rfl
  |cons a l ih=>simp only [Zam,List.map_cons,ih]
theorem ZjS {f:Fr} {N L:List Ze} (hu:YC N.length N=true) (j sz:Nat) (t:TypeId) (es:List (List AV)) (hj:L[j]?=some (Yn t sz es)) (hz:es.flatten.all AV.frzB=true)
 (h:X6 P n c Q (fun s=>(f s).frzS (N.length+j) sz es) (N++(L.map (Ze.frzS (N.length+j) sz es)).set j .gone) []):X6 P n c Q f (N++L) []:=by
 by_cases hes:es=[]
 ·subst hes
  rw [Zqz] at hj
  have h1:(fun s=>(f s).frzS (N.length+j) sz [])=f:=by funext s;simp [AV.frzS]
  have h2:L.map (Ze.frzS (N.length+j) sz [])=L:=by
   conv=>rhs;rw [←List.map_id L]
   exact List.map_congr_left fun b _=>by simp [Ze.frzS]
  rw [h1,h2] at h
  intro ro hro B w0 J1 cx a b1 b2 b3 b4 b5
  have hlt:=(List.getElem?_eq_some_iff.1 hj).1
  have hkj:cx.H[N.length+j]?=some .pend:=by rw [b3,List.getElem?_append_right (by omega)];simpa using hj
  --the free handle is forgotten
  have hle:Le cx {cx with H:=N++L.set j .gone}:=by
   have hs:N++L.set j .gone=cx.H.set (N.length+j) .gone:=by rw [b3,List.set_append,if_neg (by omega)];simp
   refine⟨fun _ _ _ _ h=>h,fun _ h=>h,fun k bl h hf=>?_,fun k t' sz es h=>.inr ⟨es,?_,Nat.le_refl _,fun _=>⟨rfl,rfl⟩⟩⟩
   ·have hk:N.length+j≠k:=fun e=>by subst e;rw [hkj] at h;cases h;cases hf
    exact⟨bl,by show (N++L.set j .gone)[k]?=_;rw [hs,List.getElem?_set_ne hk];exact h,hf,rfl⟩
   ·have hk:N.length+j≠k:=fun e=>by subst e;rw [hkj] at h;cases h
    show (N++L.set j .gone)[k]?=_
    rw [hs,List.getElem?_set_ne hk];exact h
  have key:∀ (i:Nat) (bl:Ze),(N++L.set j .gone)[i]?=some bl→bl=.gone∨cx.H[i]?=some bl:=by
   intro i bl hi
   have hs:N++L.set j .gone=cx.H.set (N.length+j) .gone:=by rw [b3,List.set_append,if_neg (by omega)];simp
   rw [hs] at hi
   by_cases hk:N.length+j=i
   ·subst hk
    rw [List.getElem?_set_self (by rw [b3,List.length_append];omega)] at hi
    cases hi;exact .inl rfl
   ·rw [List.getElem?_set_ne hk] at hi;exact .inr hi
  have hr:Yl B w0 {cx with H:=N++L.set j .gone}:=by
   refine⟨b1.below,b1.base,b1.frz,fun i bl hi=>?_,fun i k x1 x2 a1 a2 l1 l2 he=>?_⟩
   ·rcases key i bl hi with rfl|hi'
    ·trivial
    ·have hbr:=b1.blk i bl hi'
     exact hbr.mono hle fun hl=>⟨rfl,rfl,rfl,(hbr.lt hl).2.2⟩
   ·rcases key i x1 a1 with rfl|a1'
    ·cases l1
    ·rcases key k x2 a2 with rfl|a2'
     ·cases l2
     ·exact b1.inj i k x1 x2 a1' a2' l1 l2 he
  refine h ro hro B w0 J1 {cx with H:=N++L.set j .gone} a hr (b2.trans hle) rfl (b4.mono' hle) ?_
  cases hd:a.defers with
  |nil=>trivial
  |cons d l=>rw [hd] at b5;exact b5.elim
 ·rw [Yn,if_neg hes] at hj
  refine Zqk (N.length+j) sz t es (by rw [List.getElem?_append_right (by omega)];simpa using hj) hz ?_
  rw [Zfj j hu]
  have h1:(fun s=>(f s).frzS (N.length+j) sz es)=fun s=>(f s).frz (N.length+j) sz es:=by funext s;simp [AV.frzS,hes]
  have h2:L.map (Ze.frzS (N.length+j) sz es)=L.map (Ze.frz (N.length+j) sz es):=List.map_congr_left fun b _=>by simp [Ze.frzS,hes]
  rw [h1,h2] at h
  exact h
end
end Go.Mu
namespace Go.Mu
inductive FT where
 |lin (p:Y7)
 |fork (pre:List Nat) (ats:FT)
 |alt (i:Nat) (late:List Nat) (t more:FT)
 |none
def FT.heads:FT→List Nat
 | .alt i _ _ more=>i::more.heads
 |_=>[]
def FT.top:FT→Bool
 | .lin _| .fork .. =>true
 |_=>false
section
variable {P:Program} {n:Nat} {pu:Nat→Bool} {ops:Array Oper} {Q:AQ}
theorem ZkU {tab:List (Nat×Oper×Nat)} (htab:Zdm ops tab) {hf:Oper→Bool} (hsm:∀ (i:Nat) (o:Oper),ops[i]?=some o→YY n ops o=true)
 (hlt:∀ (j:Nat) (o:Oper),ops[j]?=some o→∀e∈o.after,Region.binds .any e=true→e.on<j) {ds:List ZO} {K:Fr→List Ze→Prop} {fuel:Nat} {done rem L:List Nat} {listed:Array Bool} {f fa:Fr} {H:List Ze} {i0:Nat} {lt:List Nat} {oi:Oper}
 (hi:Zdx P pu hf ops done rem L listed f fa H) (hir:i0∈Region.ready .any ops listed) (ho0:ops[i0]?=some oi) (hpu:pu i0=false) (hrd:JD ops rem i0=true)
 (hop2:(done.all fun j=>(Xa tab i0).testBit j|| !pu j||(match ops[j]? with|none=>false|some oj=>pu j&& !Zd9 ops oj oi&&(lt.contains j||hf oj)))=true)
 (hrest:∀ (L:List Nat) (listed:Array Bool) (f fa:Fr) (H:List Ze),Zdx P pu hf ops (i0::done) (rem.erase i0) L listed f fa H→(rem.erase i0).length+L.length≤fuel→K f H→AA P pu ops Q ds fuel listed fa H) (hfu:rem.length+L.length≤fuel+1)
 (hv:Zar P ops oi f H ds Q (fun f' H'=>(∀j∈lt,∀oj,ops[j]?=some oj→∃r,Xt P ops oj f' H' r∧∀d,oj.dst=some d→f' d=r)∧K f' H')):
 Zar P ops oi fa H ds Q (fun f' H'=>AA P pu ops Q ds fuel (listed.setIfInBounds i0 true) f' H'):=by
 have hrd':=hrd
 simp only [JD,Bool.and_eq_true,List.contains_iff_mem] at hrd'
 obtain⟨hi0r,hedges⟩:=hrd'
 have hi0l:=hi.remlt _ hi0r
 have hlen0:=List.length_erase_of_mem hi0r
 have hpos0:=List.length_pos_of_mem hi0r
 rw [ho0] at hedges
 simp only at hedges
 simp only [List.all_eq_true,Bool.or_eq_true] at hop2
 have hed:∀e∈oi.after,Region.binds .any e=true→e.on∉rem:=by
  intro e he hb hm
  have:=List.all_eq_true.1 hedges e (by simpa using he)
  simp only [hb,Bool.not_true,Bool.false_or,Bool.and_eq_true,Bool.not_eq_true'] at this
  rw [List.contains_iff_mem.2 hm] at this;exact absurd this.1 (by simp)
 have hdn:∀i,i<ops.size→(i∈i0::done↔i∉rem.erase i0):=by
  intro i hil
  rw [hi.rnodup.mem_erase_iff,List.mem_cons,hi.dn i hil]
  by_cases h:i=i0
  ·subst h;simp
  ·simp [h]
 have hdc:∀i o,ops[i]?=some o→i∉rem.erase i0→∀e∈o.after,Region.binds .any e=true→e.on∉rem.erase i0:=by
  intro i o ho hnm e he hb hm
  have hm':=List.mem_of_mem_erase hm
  by_cases h:i=i0
  ·subst h;rw [ho0] at ho;cases ho;exact hed e he hb hm'
  ·refine hi.dclosed i o ho (fun hir=>hnm (hi.rnodup.mem_erase_iff.2 ⟨h,hir⟩)) e he hb hm'
 obtain⟨m1,o,m2,m3⟩:=mem_ready.1 hir
 have hil:=(Array.getElem?_eq_some_iff.1 m2).1
 have hag:∀t∈oi.looksAt ops,f t=fa t:=by
  intro t ht
  refine (hi.agree t fun k hk ok hok hd=>?_).symm
  obtain⟨_,o2,ho2,_,g1,_⟩:=hi.good k hk
  rw [hok] at ho2;cases ho2
  have hre:=g1 i0 oi t ho0 hd ht
  have hkl:=YO hi.closed hre fun o3 h3 e he hb=>by rw [m2] at h3;cases h3;exact m3 e he hb
  have:=(hi.un k (Array.getElem?_eq_some_iff.1 hok).1).2 (.inr hk)
  rw [hkl] at this;cases this
 rw [ho0] at m2;cases m2
 have hmask:Xx ops f=Xx ops fa:=by
  funext t
  unfold Xx
  split
  ·rfl
  ·rename_i hno
   refine (hi.agree t fun j hj o ho hd=>hno ?_).symm
   rw [Array.any_eq_true']
   exact⟨o,Array.mem_of_getElem? ho,by simp [hd]⟩
 refine ZdF (hsm _ _ ho0) hag hmask (fun r H' hk=>?_) hv
 obtain⟨hlate,hv'⟩:=hk
 refine hrest L _ (ZS f oi.dst r) (ZS fa oi.dst r) H' ?_ (by omega) hv'
 refine⟨by simp [hi.size],fun k hkl=>?_,fun k h=>hi.remlt k (List.mem_of_mem_erase h),ZbU hi.closed hir,hdn,hdc,hi.nodup,hi.rnodup.erase i0,fun j hj=>?_,fun t ht=>?_⟩
 ·rw [Zdv (by rw [hi.size];exact hi0l),hi.rnodup.mem_erase_iff]
  by_cases h:k=i0
  ·subst h;simp;exact fun h=>(hi.good k h).1 hi0r
  ·rw [if_neg h,hi.un k hkl];simp [h]
 ·obtain⟨hjr,o,ho,g1,g2,g3,r',h1,h2,h3⟩:=hi.good j hj
  have hjl:=(Array.getElem?_eq_some_iff.1 ho).1
  have hjd:j∈done:=(hi.dn j hjl).2 hjr
  have hnre:(Xa tab i0).testBit j≠true:=fun h=>by
   have:=YO hi.closed (Jp htab h) fun o' ho' e he hb=>m3 e (by rw [ho0] at ho';cases ho';exact he) hb
   have h2:=(hi.un j hjl).2 (.inr hj)
   rw [this] at h2;cases h2
  have hcl:=(hop2 j hjd).resolve_left (fun h=>h.elim hnre fun h=>by rw [(hi.good j hj).2.choose_spec.2.1] at h;cases h)
  rw [ho] at hcl
  simp only [Bool.and_eq_true,Bool.or_eq_true,Bool.not_eq_true'] at hcl
  obtain⟨⟨_,hlook⟩,hlf⟩:=hcl
  have hun:∀t∈o.looksAt ops,f t=ZS f oi.dst r t:=by
   intro t ht
   refine (Za3 (l:=o.looksAt ops) (fun d hd hm=>?_) t ht).symm
   simp only [Zd9,hd] at hlook
   rw [List.contains_iff_mem.2 hm] at hlook;cases hlook
  have hdst:∀d,o.dst=some d→ZS f oi.dst r d=f d:=by
   intro d hd
   have hne:oi.dst≠some d:=g3 i0 oi d ho0 (fun e=>hjr (e▸hi0r)) hd
   cases hd0:oi.dst with
   |none=>rfl
   |some d0=>simp only [ZS,upd];rw [if_neg];rintro rfl;exact hne hd0
  refine⟨fun h=>hjr (List.mem_of_mem_erase h),o,ho,g1,g2,g3,?_⟩
  by_cases hh:hf o=true
  ·exact⟨r',Yw (hsm _ _ ho) hun (h2 hh H'),fun h H''=>Yw (hsm _ _ ho) hun (h2 h H''),fun d hd=>by rw [hdst d hd];exact h3 d hd⟩
  ·have hjlate:j∈lt:=List.contains_iff_mem.1 (hlf.resolve_right hh)
   obtain⟨r2,q1,q2⟩:=hlate j hjlate o ho
   exact⟨r2,q1,fun h=>absurd h hh,q2⟩
 ·cases hd0:oi.dst with
  |none=>exact hi.agree t ht
  |some d0=>
   simp only [ZS,upd]
   by_cases htd:t=d0
   ·rw [if_pos htd,if_pos htd]
   ·rw [if_neg htd,if_neg htd];exact hi.agree t ht
def ZiN (pu:Nat→Bool) (ops:Array Oper) (tab:List (Nat×Oper×Nat)) (k:List Nat→List Nat→Bool):List Nat→List Nat→List Nat→Bool
 |done,rem,[]=>k done rem
 |done,rem,i::rest=>JD ops rem i&&pu i&&(match ops[i]? with|none=>false|some oi=>Zcw ops tab i oi)&&ZiN pu ops tab k (i::done) (rem.erase i) rest
def VP (P:Program) (hf:Oper→Bool) (ops:Array Oper) (k:Fr→List Ze→Prop):List Nat→Fr→List Ze→Prop
 |[],f,H=>k f H
 |i::rest,f,H=>match ops[i]? with
  |none=>False
  |some o=>∃r,Xt P ops o f H r∧(hf o=true→∀H',Xt P ops o f H' r)∧VP P hf ops k rest (ZS f o.dst r) H
def Zf5 (pu:Nat→Bool) (hf:Oper→Bool) (ops:Array Oper) (tab:List (Nat×Oper×Nat)):FT→List Nat→List Nat→Bool
 | .lin p,done,rem=>ZaT pu hf ops tab done rem p
 | .fork pre ats,done,rem=>ZiN pu ops tab (fun done rem=>(rem.all fun x=>ats.heads.any fun h=>x==h||(Xa tab x).testBit h)&&ats.heads.all (fun h=>rem.contains h)&& !ats.heads.isEmpty&&Zf5 pu hf ops tab ats done rem) done rem pre
 | .alt i lt t more,done,rem=>JD ops rem i&& !pu i&&(match ops[i]? with
  |none=>false
  |some oi=>done.all fun j=>(Xa tab i).testBit j|| !pu j||(match ops[j]? with|none=>false|some oj=>pu j&& !Zd9 ops oj oi&&(lt.contains j||hf oj)))&&
  t.top&&Zf5 pu hf ops tab t (i::done) (rem.erase i)&&Zf5 pu hf ops tab more done rem
 | .none,_,_=>true
def VT (P:Program) (pu:Nat→Bool) (hf:Oper→Bool) (ops:Array Oper) (Q:AQ) (ds:List ZO):FT→Fr→List Ze→Prop
 | .lin p,f,H=>VX P pu hf ops Q ds p f H
 | .fork pre ats,f,H=>VP P hf ops (fun f H=>VT P pu hf ops Q ds ats f H) pre f H
 | .alt i lt t more,f,H=>(match ops[i]? with
  |none=>False
  |some o=>Zar P ops o f H ds Q (fun f' H'=>(∀j∈lt,∀oj,ops[j]?=some oj→∃r,Xt P ops oj f' H' r∧∀d,oj.dst=some d→f' d=r)∧VT P pu hf ops Q ds t f' H'))∧VT P pu hf ops Q ds more f H
 | .none,_,_=>True
theorem ZlQ {tab:List (Nat×Oper×Nat)} (htab:Zdm ops tab) {hf:Oper→Bool} (hsm:∀ (i:Nat) (o:Oper),ops[i]?=some o→YY n ops o=true)
 (hlt:∀ (j:Nat) (o:Oper),ops[j]?=some o→∀e∈o.after,Region.binds .any e=true→e.on<j) {ds:List ZO} {kb:List Nat→List Nat→Bool} {kv:Fr→List Ze→Prop}
 (hk:∀ (fuel:Nat) (done rem L:List Nat) (listed:Array Bool) (f fa:Fr) (H:List Ze),kb done rem=true→Zdx P pu hf ops done rem L listed f fa H→rem.length+L.length≤fuel→kv f H→AA P pu ops Q ds fuel listed fa H):
 ∀ (p:List Nat) (fuel:Nat) (done rem L:List Nat) (listed:Array Bool) (f fa:Fr) (H:List Ze),ZiN pu ops tab kb done rem p=true→Zdx P pu hf ops done rem L listed f fa H→rem.length+L.length≤fuel→
 VP P hf ops kv p f H→AA P pu ops Q ds fuel listed fa H:=by
 intro p
 induction p with
 |nil=>exact hk
 |cons i0 p ihp=>
  intro fuel done rem L listed f fa H hc hi hfu hv
  simp only [ZiN,Bool.and_eq_true] at hc
  obtain⟨⟨⟨hrd,hpu⟩,hop⟩,hrest⟩:=hc
  have hrd':=hrd
  simp only [JD,Bool.and_eq_true,List.contains_iff_mem] at hrd'
  obtain⟨hi0r,hedges⟩:=hrd'
  have hi0l:=hi.remlt _ hi0r
  have ho0:ops[i0]?=some (ops[i0]'hi0l):=Array.getElem?_eq_getElem hi0l
  generalize ops[i0]'hi0l=oi at ho0
  have hlen0:=List.length_erase_of_mem hi0r
  have hpos0:=List.length_pos_of_mem hi0r
  rw [ho0] at hop hedges
  simp only at hop hedges
  simp only [VP,ho0] at hv
  have hed:∀e∈oi.after,Region.binds .any e=true→e.on∉rem:=by
   intro e he hb hm
   have:=List.all_eq_true.1 hedges e (by simpa using he)
   simp only [hb,Bool.not_true,Bool.false_or,Bool.and_eq_true,Bool.not_eq_true'] at this
   rw [List.contains_iff_mem.2 hm] at this;exact absurd this.1 (by simp)
  have hdn:∀i,i<ops.size→(i∈i0::done↔i∉rem.erase i0):=by
   intro i hil
   rw [hi.rnodup.mem_erase_iff,List.mem_cons,hi.dn i hil]
   by_cases h:i=i0
   ·subst h;simp
   ·simp [h]
  have hdc:∀i o,ops[i]?=some o→i∉rem.erase i0→∀e∈o.after,Region.binds .any e=true→e.on∉rem.erase i0:=by
   intro i o ho hnm e he hb hm
   have hm':=List.mem_of_mem_erase hm
   by_cases h:i=i0
   ·subst h;rw [ho0] at ho;cases ho;exact hed e he hb hm'
   ·refine hi.dclosed i o ho (fun hir=>hnm (hi.rnodup.mem_erase_iff.2 ⟨h,hir⟩)) e he hb hm'
  obtain⟨r,hr1,hr2,hv'⟩:=hv
  have hal1:∀k ok d,ops[k]?=some ok→oi.dst=some d→d∈ok.looksAt ops→ZaA ops k i0:=by
   intro k ok d hok hd hm
   simp only [Zcw,hd,List.all_eq_true,List.mem_range] at hop
   have:=hop k (Array.getElem?_eq_some_iff.1 hok).1
   rw [hok] at this
   simp only [Bool.and_eq_true,Bool.or_eq_true,Bool.not_eq_true'] at this
   rcases this.1 with h|h
   ·rw [List.contains_iff_mem.2 hm] at h;cases h
   ·exact Jp htab h
  have hal2:∀k ok d,ops[k]?=some ok→k≠i0→oi.dst=some d→ok.dst≠some d:=by
   intro k ok d hok hne hd
   simp only [Zcw,hd,List.all_eq_true,List.mem_range] at hop
   have:=hop k (Array.getElem?_eq_some_iff.1 hok).1
   rw [hok] at this
   simp only [Bool.and_eq_true,Bool.or_eq_true,beq_iff_eq,bne_iff_ne] at this
   exact this.2.resolve_left hne
  have hun:∀o:Oper,(∃j,ops[j]?=some o∧ ¬ ZaA ops j i0)→∀t∈o.looksAt ops,f t=ZS f oi.dst r t:=by
   rintro o ⟨j,hj,hnr⟩ t ht
   refine (Za3 (l:=o.looksAt ops) (fun d hd hm=>hnr (hal1 j o d hj hd hm)) t ht).symm
  refine ihp fuel (i0::done) (rem.erase i0) (i0::L) listed (ZS f oi.dst r) fa H hrest ?_ (by simp;omega) hv'
  have hi0L:i0∉L:=fun h=>(hi.good i0 h).1 hi0r
  refine⟨hi.size,fun i hil=>?_,fun i h=>hi.remlt i (List.mem_of_mem_erase h),hi.closed,hdn,hdc,List.nodup_cons.2 ⟨hi0L,hi.nodup⟩,hi.rnodup.erase i0,fun j hj=>?_,fun t ht=>?_⟩
  ·rw [hi.un i hil,hi.rnodup.mem_erase_iff,List.mem_cons]
   by_cases h:i=i0
   ·subst h;simp [hi0r]
   ·simp [h]
  ·rcases List.mem_cons.1 hj with rfl|hj
   ·refine⟨fun h=>(hi.rnodup.mem_erase_iff.1 h).1 rfl,oi,ho0,hpu,hal1,hal2,r,?_,?_,?_⟩
    ·exact Yw (hsm _ _ ho0) (hun oi ⟨_,ho0,fun h=>Nat.lt_irrefl _ (Zc8 hlt h)⟩) hr1
    ·exact fun h H'=>Yw (hsm _ _ ho0) (hun oi ⟨_,ho0,fun h=>Nat.lt_irrefl _ (Zc8 hlt h)⟩) (hr2 h H')
    ·intro d hd;simp [ZS,upd,hd]
   ·obtain⟨hjr,o,ho,g1,g2,g3,r',h1,h2,h3⟩:=hi.good j hj
    have hnr: ¬ ZaA ops j i0:=fun h=>ZcP (S:=fun k=>k∉rem) (fun i o ho hn e he hb=>hi.dclosed i o ho hn e he hb) h hjr hi0r
    refine⟨fun h=>hjr (List.mem_of_mem_erase h),o,ho,g1,g2,g3,r',Yw (hsm _ _ ho) (hun o ⟨j,ho,hnr⟩) h1,fun h H'=>Yw (hsm _ _ ho) (hun o ⟨j,ho,hnr⟩) (h2 h H'),fun d hd=>?_⟩
    have hne:oi.dst≠some d:=g3 i0 oi d ho0 (fun e=>hjr (e▸hi0r)) hd
    rw [←h3 d hd]
    cases hd0:oi.dst with
    |none=>rfl
    |some d0=>simp only [ZS,upd];rw [if_neg];rintro rfl;exact hne hd0
  ·have e1:fa t=f t:=hi.agree t fun j hj o ho=>ht j (List.mem_cons_of_mem _ hj) o ho
   rw [e1]
   have e2:=ht i0 (by simp) oi ho0
   cases hd0:oi.dst with
   |none=>rfl
   |some d0=>simp only [ZS,upd];rw [if_neg];rintro rfl;exact e2 hd0
theorem Zrc {tab:List (Nat×Oper×Nat)} (htab:Zdm ops tab) {hf:Oper→Bool} (hsm:∀ (i:Nat) (o:Oper),ops[i]?=some o→YY n ops o=true)
 (hlt:∀ (j:Nat) (o:Oper),ops[j]?=some o→∀e∈o.after,Region.binds .any e=true→e.on<j) {ds:List ZO} (t:FT):
 (∀ (fuel:Nat) (done rem L:List Nat) (listed:Array Bool) (f fa:Fr) (H:List Ze),t.top=true→Zf5 pu hf ops tab t done rem=true→Zdx P pu hf ops done rem L listed f fa H→rem.length+L.length≤fuel→VT P pu hf ops Q ds t f H→AA P pu ops Q ds fuel listed fa H)∧
 (∀ (fuel:Nat) (done rem L:List Nat) (listed:Array Bool) (f fa:Fr) (H:List Ze) (x:Nat),x∈t.heads→Zf5 pu hf ops tab t done rem=true→Zdx P pu hf ops done rem L listed f fa H→rem.length+L.length≤fuel+1→VT P pu hf ops Q ds t f H→x∈Region.ready .any ops listed→
  ∃o,ops[x]?=some o∧pu x=false∧Zar P ops o fa H ds Q (fun f' H'=>AA P pu ops Q ds fuel (listed.setIfInBounds x true) f' H')):=by
 induction t with
 |lin p=>exact⟨fun fuel done rem L listed f fa H _ hc hi hfu hv=>Zdr htab hsm hlt p fuel done rem L listed f fa H hc hi hfu hv,fun fuel done rem L listed f fa H x hx=>(by cases hx)⟩
 |none=>exact⟨fun fuel done rem L listed f fa H ht=>(by cases ht),fun fuel done rem L listed f fa H x hx=>(by cases hx)⟩
 |alt i0 lt t more iht ihm=>
  refine⟨fun fuel done rem L listed f fa H ht=>(by cases ht),fun fuel done rem L listed f fa H x hx hc hi hfu hv hir=>?_⟩
  simp only [Zf5,Bool.and_eq_true,Bool.not_eq_true'] at hc
  obtain⟨⟨⟨⟨⟨c1,c2⟩,c3⟩,c4⟩,c5⟩,c6⟩:=hc
  obtain⟨v1,v2⟩:=hv
  rcases List.mem_cons.1 hx with rfl|hx
  ·cases ho:ops[x]? with
   |none=>rw [ho] at c3;cases c3
   |some o=>
    rw [ho] at c3 v1
    exact⟨o,rfl,c2,ZkU htab hsm hlt hi hir ho c2 c1 c3 (fun L' listed' f' fa' H' hi' hl' hk'=>iht.1 fuel _ _ L' listed' f' fa' H' c4 c5 hi' hl' hk') hfu v1⟩
  ·exact ihm.2 fuel done rem L listed f fa H x hx c6 hi hfu v2 hir
 |fork pre ats iha=>
  refine⟨fun fuel done rem L listed f fa H _ hc hi hfu hv=>?_,fun fuel done rem L listed f fa H x hx=>(by cases hx)⟩
  refine ZlQ htab hsm hlt ?_ pre fuel done rem L listed f fa H hc hi hfu hv
  clear hc hi hfu hv
  intro fuel
  induction fuel with
  |zero=>
   intro done rem L listed f fa H hc hi hfu hv
   exfalso
   simp only [Bool.and_eq_true,List.all_eq_true,Bool.not_eq_true',List.isEmpty_eq_false_iff_exists_mem] at hc
   obtain⟨⟨⟨_,h2⟩,x,h3⟩,_⟩:=hc
   have:=List.length_pos_of_mem (List.contains_iff_mem.1 (h2 x h3))
   omega
  |succ fuel ih=>
   intro done rem L listed f fa H hc hi hfu hv
   have hc0:=hc
   simp only [Bool.and_eq_true,List.all_eq_true,Bool.not_eq_true',List.isEmpty_eq_false_iff_exists_mem,List.any_eq_true,Bool.or_eq_true,beq_iff_eq] at hc
   obtain⟨⟨⟨hall,h2⟩,y,h3⟩,h4⟩:=hc
   refine⟨fun hn=>?_,fun x hir=>?_⟩
   ·obtain⟨rfl,_⟩:=Zdb hsm hlt hi hn
    cases List.contains_iff_mem.1 (h2 y h3)
   ·obtain⟨m1,o,m2,m3⟩:=mem_ready.1 hir
    have hil:=(Array.getElem?_eq_some_iff.1 m2).1
    rw [ZbF (by rw [hi.size];exact hil)] at m1
    rcases (hi.un x hil).1 m1 with hm|hm
    ·obtain⟨h,hh,hx⟩:=hall x hm
     rcases hx with rfl|hx
     ·obtain⟨o',g1,g2,g3⟩:=iha.2 fuel done rem L listed f fa H x hh h4 hi hfu hv hir
      refine⟨o',g1,?_⟩
      rw [if_neg (by simp [g2])]
      exact g3
     ·exfalso
      have hhr:=List.contains_iff_mem.1 (h2 h hh)
      have:=YO hi.closed (Jp htab hx) fun o' ho' e he hb=>m3 e (by rw [m2] at ho';cases ho';exact he) hb
      have h5:=(hi.un h (hi.remlt h hhr)).2 (.inl hhr)
      rw [this] at h5;cases h5
    ·obtain⟨o',r,ho,hpu',hst,hinv⟩:=Zeb hsm hlt hi hir hm
     refine⟨o',ho,?_⟩
     rw [if_pos hpu']
     have hlen:=List.length_erase_of_mem hm
     have hpos:=List.length_pos_of_mem hm
     exact⟨r,hst,ih done rem (L.erase x) _ f _ H hc0 hinv (by omega) hv⟩
variable {hn:Nat→Bool}
def vcT (P:Program) (hn:Nat→Bool) (ops:Array Oper) (Q:AQ) (ds:List ZO):FT→Fr→List Ze→Prop
 | .lin p,f,H=>vcX P hn ops Q ds p f H
 | .fork pre ats,f,H=>vcX P hn ops (fun x f' H' ds'=>match x with| .normal=>vcT P hn ops Q ds ats f' H'|x=>Q x f' H' ds') ds (pre.map fun i=>(i,[])) f H
 | .alt i lt t more,f,H=>vcL P hn true ops (YJ ops [i]) (JG (fun f' H' _=>Zcl P hn ops f' H' (YJ ops lt)∧vcT P hn ops Q ds t f' H') Q) f H ds∧vcT P hn ops Q ds more f H
 | .none,_,_=>True
def FT.lates:FT→Y7
 | .lin p=>p
 | .fork _ ats=>ats.lates
 | .alt i lt t more=>(i,lt)::(t.lates++more.lates)
 | .none=>[]
theorem Zgd {ops:Array Oper} {Q:AQ} {ds:List ZO} (hnd:ops.all Yk=true) {tab:List (Nat×Oper×Nat)} {kb:List Nat→List Nat→Bool} {kv kv':Fr→List Ze→Prop}:
 ∀ (p done rem:List Nat) (f:Fr) (H:List Ze),ZiN (JL (Ym hn) ops) ops tab kb done rem p=true→(∀done rem f H,kb done rem=true→kv' f H→kv f H)→vcX P hn ops (fun x f' H' ds'=>match x with| .normal=>kv' f' H'|x=>Q x f' H' ds') ds (p.map fun i=>(i,[])) f H→VP P YD ops kv p f H
 |[],done,rem,f,H,hc,hk,h=>hk done rem f H hc h
 |i::p,done,rem,f,H,hc,hk,h=>by
  simp only [ZiN,Bool.and_eq_true] at hc
  obtain⟨⟨⟨hrd,hpu⟩,hop⟩,hrest⟩:=hc
  simp only [List.map_cons,vcX] at h
  simp only [VP]
  cases ho:ops[i]? with
  |none=>rw [ho] at hop;cases hop
  |some o=>
   have hndo:Yk o=true:=Array.all_eq_true_iff_forall_mem.1 hnd _ (Array.mem_of_getElem? ho)
   have hone:YJ ops [i]=[o]:=by simp [YJ,ho]
   rw [hone] at h
   obtain⟨r,h1,h2,h3⟩:=ZbL hndo (Zac ho hpu) h
   exact⟨r,h1,h2,Zgd hnd p _ _ _ _ hrest hk h3.2⟩
theorem ZoN {ops:Array Oper} {Q:AQ} {ds:List ZO} (hnd:ops.all Yk=true) {tab:List (Nat×Oper×Nat)} (t:FT):∀ (done rem:List Nat) (f:Fr) (H:List Ze),Zf5 (JL (Ym hn) ops) YD ops tab t done rem=true→
 (∀x∈t.lates,∀j∈x.2,∀o,ops[j]?=some o→JL (Ym hn) ops j=true)→vcT P hn ops Q ds t f H→VT P (JL (Ym hn) ops) YD ops Q ds t f H:=by
 induction t with
 |lin p=>exact fun done rem f H hc hl h=>ZcF hnd p _ _ _ _ hc hl h
 |none=>exact fun done rem f H hc hl h=>trivial
 |fork pre ats iha=>
  intro done rem f H hc hl h
  refine Zgd hnd pre done rem f H hc (fun done rem f H hb hv=>?_) h
  simp only [Bool.and_eq_true] at hb
  exact iha done rem f H hb.2 hl hv
 |alt i lt t more iht ihm=>
  intro done rem f H hc hl h
  simp only [Zf5,Bool.and_eq_true,Bool.not_eq_true'] at hc
  obtain⟨⟨⟨⟨⟨c1,c2⟩,c3⟩,c4⟩,c5⟩,c6⟩:=hc
  obtain⟨v1,v2⟩:=h
  refine⟨?_,ihm done rem f H c6 (fun x hx=>hl x (by simp [FT.lates,hx])) v2⟩
  cases ho:ops[i]? with
  |none=>rw [ho] at c3;cases c3
  |some o=>
   have hndo:Yk o=true:=Array.all_eq_true_iff_forall_mem.1 hnd _ (Array.mem_of_getElem? ho)
   have hone:YJ ops [i]=[o]:=by simp [YJ,ho]
   rw [hone] at v1
   refine Zax (fun f' H' hk=>⟨fun j hj oj hoj=>?_,iht _ _ _ _ c5 (fun x hx=>hl x (by simp [FT.lates,hx])) hk.2⟩) (Zeh (Q:=Q) (Q':=JG (fun f' H' _=>Zcl P hn ops f' H' (YJ ops lt)∧vcT P hn ops Q ds t f' H') Q) (fun _ _ _ _ h=>h) hndo v1)
   have hpj:=hl (i,lt) (by simp [FT.lates]) j hj oj hoj
   have hndj:Yk oj=true:=Array.all_eq_true_iff_forall_mem.1 hnd _ (Array.mem_of_getElem? hoj)
   have hv:=ZbO hk.1 oj (by simp only [YJ,List.mem_filterMap];exact⟨j,hj,hoj⟩)
   obtain⟨r,h1,_,h3⟩:=ZbL hndj (Zac hoj hpj) hv
   refine⟨r,h1,fun d hd=>?_⟩
   simp only [Ze6,hd] at h3
   have:=h3.2
   simpa [ZS,upd] using this.symm
def ZtH (hn:Nat→Bool) (n:Nat) (ops:Array Oper) (t:FT):Bool:=
 ops.toList.all (YY n ops)&&t.top&&Zf5 (JL (Ym hn) ops) YD ops (Zdi ops [] (List.range ops.size)) t [] (List.range ops.size)&&Zcp (JL (Ym hn) ops) ops t.lates&&
 ((List.range ops.size).all fun j=>match ops[j]? with
   |none=>true
   |some o=>o.after.toList.all fun e=> !Region.binds .any e||decide (e.on<j))&&ops.all Yk
def Zki (P:Program) (hn:Nat→Bool) (t:FT) (ops:Array Oper) (Q:AQ) (f:Fr) (H:List Ze) (ds:List ZO) (_:ZQ (hn,ops,Q,f,H,ds)):Prop:=vcT P hn ops Q ds t f H
def Zrb (P:Program) (hn:Nat→Bool) (ops:Array Oper) (Q:AQ) (ds:List ZO) (ats:FT):AQ:=fun x f' H' ds'=>match x with| .normal=>vcT P hn ops Q ds ats f' H'|x=>Q x f' H' ds'
theorem Xb (hn:Nat→Bool) (t:FT) {id:Nat} {ops:Array Oper} {Q:AQ} {f:Fr} {H:List Ze} {ds:List ZO} (hs:(ZtH hn n ops t&&P.follows .mixedOrders)=true)
 (h:Zki P hn t ops Q f H ds (Z5 _)):X6 P n (.region id ops true) Q f H ds:=by
 simp only [ZtH,Bool.and_eq_true,List.all_eq_true] at hs
 obtain⟨⟨⟨⟨⟨⟨hs1,ht⟩,hs2⟩,hs3⟩,hs5⟩,hs6⟩,hm⟩:=hs
 have hsm:∀ (i:Nat) (o:Oper),ops[i]?=some o→YY n ops o=true:=fun i o ho=>hs1 o (by simpa using Array.mem_of_getElem? ho)
 have lt:∀p:Y7,Zcp (JL (Ym hn) ops) ops p=true→∀x∈p,∀j∈x.2,∀o,ops[j]?=some o→JL (Ym hn) ops j=true:=fun p hp x hx j hj o ho=>by
  simp only [Zcp,List.all_eq_true] at hp
  have:=hp x hx j hj
  rw [ho] at this;exact this
 have hv:=ZoN hs6 t [] (List.range ops.size) f H hs2 (lt _ hs3) h
 intro ro hro B w0 J1 cx a h1 h2 h3 h4 h5
 subst h3
 refine wpIn_region_any hm ?_
 refine Zc7 (P:=P) (pu:=JL (Ym hn) ops) (Q:=Q) (B:=B) (w0:=w0) (J1:=J1) (ro:=ro) (fun i o ho hs=>by have:=hro hs;simp only [JU,List.all_eq_true] at this;exact this o (by simpa using Array.mem_of_getElem? ho)) hsm ops.size (Array.replicate ops.size false) f cx.drew a ?_ (Za2 h1) (h2.trans (JO cx)) (h4.mono (JO cx)) (h5.mono (JO cx))
 refine (Zrc (hf:=YD) (Zcb (List.range ops.size) [] (fun d hd=>(by cases hd))) hsm (fun j o ho e he hb=>?_) t).1 ops.size [] (List.range ops.size) [] _ f f cx.H ht hs2 ⟨by simp,fun i hi=>?_,fun i hi=>by simpa using hi,fun i o ho hl=>?_,fun i hi=>by simp [hi],fun i o ho hn=>?_,List.nodup_nil,List.nodup_range,fun j hj=>(by cases hj),fun t _=>rfl⟩ (by simp) hv
 ·have:=hs5 j (List.mem_range.2 (Array.getElem?_eq_some_iff.1 ho).1)
  rw [ho] at this
  simp only [List.all_eq_true] at this
  have:=this e (by simpa using he)
  simpa [hb] using this
 ·simp [Array.getD_eq_getD_getElem?,Array.getElem?_replicate,hi]
 ·exfalso
  have hlt:i<ops.size:=(Array.getElem?_eq_some_iff.1 ho).1
  simp [Array.getD_eq_getD_getElem?,Array.getElem?_replicate,hlt] at hl
 ·exfalso
  exact hn (by simpa using (Array.getElem?_eq_some_iff.1 ho).1)
@[simp ↓] theorem Zxr (l:List Oper) (Q:AQ) (ds:List ZO) (p:Y7) (f:Fr) (H:List Ze) (w:ZQ (hn,l.toArray,Q,f,H,ds)):Zki P hn (.lin p) l.toArray Q f H ds w=ZfJ P hn p l.toArray Q f H ds (Z5 _):=(rfl)
@[simp ↓] theorem ZvZ (l:List Oper) (Q:AQ) (ds:List ZO) (pre:List Nat) (ats:FT) (f:Fr) (H:List Ze) (w:ZQ (hn,l.toArray,Q,f,H,ds)):Zki P hn (.fork pre ats) l.toArray Q f H ds w=ZfJ P hn (pre.map fun i=>(i,[])) l.toArray (Zrb P hn l.toArray Q ds ats) f H ds (Z5 _):=(rfl)
@[simp ↓] theorem Zwv (l:List Oper) (Q:AQ) (ds:List ZO) (f:Fr) (H:List Ze) (w:ZQ (hn,l.toArray,Q,f,H,ds)):Zki P hn .none l.toArray Q f H ds w=True:=(rfl)
@[simp ↓] theorem Zxp (l:List Oper) (Q:AQ) (ds:List ZO) (i:Nat) (lt:List Nat) (t more:FT) (f:Fr) (H:List Ze) (w:ZQ (hn,l.toArray,Q,f,H,ds)):Zki P hn (.alt i lt t more) l.toArray Q f H ds w=
   (Zht P hn (ZdM l [i]) l.toArray (JG (fun f' H' _=>ZdU P hn (ZdM l lt) l.toArray f' H' (Z5 _)∧Zki P hn t l.toArray Q f' H' ds (Z5 _)) Q) f H ds (Z5 _)∧Zki P hn more l.toArray Q f H ds (Z5 _)):=by
  simp only [Zki,vcT,Zht,ZdU,YJ,Zep,List.getElem?_toArray]
@[simp ↓] theorem Zxc (l:List Oper) (Q:AQ) (ds0:List ZO) (ats:FT) (f:Fr) (H:List Ze) (ds:List ZO) (w:ZQ (Zrb P hn l.toArray Q ds0 ats,AX.normal,f,H,ds)):QW (Zrb P hn l.toArray Q ds0 ats) .normal f H ds w=Zki P hn ats l.toArray Q f H ds0 (Z5 _):=(rfl)
end
end Go.Mu
namespace Go.Proofs
open Go.Mu
@[simp] theorem ZyF (a b:Bool):Zgk Tryz.prog .neq 4 (Bo a) (Bo b)=some (Bo (a != b)):=by cases a<;>cases b<;>kernel_rfl
mutual
def Ex.eqB:Ex→Ex→Bool
 | .mk o w n a,.mk o' w' n' a'=>decide (o=o')&&decide (w=w')&&decide (n=n')&&Y9 a a'
def Y9:List Ex→List Ex→Bool
 |[],[]=>true
 |x::a,y::b=>x.eqB y&&Y9 a b
 |_,_=>false
end
theorem Ex.eqB_eq (x y:Ex):x.eqB y=(decide (x.op=y.op)&&decide (x.word=y.word)&&decide (x.name=y.name)&&Y9 x.args y.args):=by cases x;cases y;rw [Ex.eqB];rfl
theorem Zoi (m:Nat):(∀x:Ex,x.count≤m→∀y,x.eqB y=true↔x=y)∧(∀a,ZE a≤m→∀b,Y9 a b=true↔a=b):=by
 induction m with
 |zero=>
  refine⟨fun x hx y=>?_,fun l hl b=>?_⟩
  ·rw [Ex.count_eq] at hx;omega
  ·have:=Yy l;obtain rfl:l=[]:=List.eq_nil_of_length_eq_zero (by omega);cases b<;>simp [Y9]
 |succ m ih=>
  have hx:∀x:Ex,x.count≤m+1→∀y,x.eqB y=true↔x=y:=fun x hx y=>by
   have hc:=Ex.count_eq x
   rw [Ex.eqB_eq,Bool.and_eq_true,ih.2 x.args (by omega)]
   cases x
   cases y
   simp only [Bool.and_eq_true,Ex.op,Ex.word,Ex.name,Ex.args,Ex.mk.injEq]
   constructor
   ·rintro ⟨⟨⟨a,b⟩,c⟩,d⟩;exact⟨of_decide_eq_true a,of_decide_eq_true b,of_decide_eq_true c,d⟩
   ·rintro ⟨a,b,c,d⟩;exact⟨⟨⟨decide_eq_true a,decide_eq_true b⟩,decide_eq_true c⟩,d⟩
  refine⟨hx,fun l=>?_⟩
  induction l with
  |nil=>intro _ b;cases b<;>simp [Y9]
  |cons x l ihl=>
   intro hl b
   simp only [ZE] at hl
   cases b with
   |nil=>simp [Y9]
   |cons y b=>rw [Y9,Bool.and_eq_true,ihl (by rw [Ex.count_eq] at hl;omega),hx x (by omega),List.cons.injEq]
theorem Zob (x y:Ex):x.eqB y=true↔x=y:=(Zoi _).1 x (Nat.le_refl _) y
theorem ZlK (a b:List Ex):Y9 a b=true↔a=b:=(Zoi _).2 a (Nat.le_refl _) b
theorem ZsQ (x:Ex):x.eqB x=true:=(Zob x x).2 rfl
theorem ZdV {a b:List Ex} (h:Y9 a b=true):a.length=b.length:=by rw [(ZlK a b).1 h]
theorem Zkt (m:Nat):∀ (x y:Ex),x.count<m→x.count≤2^40→y.count≤2^40→∀ (H:List Ze),Zi Tryz.prog 26 [.agg x.cells,.agg y.cells] H (fun e H'=>e=.ret (Bo (x.eqB y))∧H'=H):=by
 induction m with
 |zero=>intro a b h;omega
 |succ m ih=>
  intro x y hm hcx hcy H
  refine Zf (Z0 Tryz.func26 rfl (by kernel_rfl) ?_)
  have hx:=Ex.count_eq x
  have hy:=Ex.count_eq y
  have hlx:=Yy x.args
  have hly:=Yy y.args
  obtain⟨E,hE⟩:∃E,E=x.eqB y:=⟨_,rfl⟩
  rw [←hE]
  rw [Ex.eqB_eq] at hE
  obtain⟨V,hV⟩:∃V,V=H++[.box 73 x.cells,.box 73 y.cells]:=⟨_,rfl⟩
  have hVx:V[H.length]?=some (.box 73 x.cells):=by rw [hV];simp
  have hVy:V[H.length+1]?=some (.box 73 y.cells):=by rw [hV];simp
  have finV:∀b,b=E→ZW H (fun e H'=>e=.ret (Bo E)∧H'=H) (.ret (Bo b)) V:=fun b h=>by rw [h,hV];exact Z2 rfl ⟨rfl,rfl⟩
  refine Zc (fun f H'=>V=H'∧f 2=.bp H.length 0∧f 3=.bp (H.length+1) 0) (by kernel_rfl) ?_ ?_
  ·simp -dsimp [hV]
  simp only [Ex.cells_eq] at hVx hVy
  clear hV
  rintro g _ ⟨rfl,g2,g3⟩
  refine Zc (fun f H'=>V=H'∧f 2=.bp H.length 0∧f 3=.bp (H.length+1) 0∧x.args.length=y.args.length∧Y9 x.args y.args=E) (by kernel_rfl) ?_ ?_
  ·replace hE:=YE.mk hE
   by_cases h1:x.op=y.op
   rotate_left
   ·have hb:(x.op != y.op)=true:=by simpa using h1
    simp -dsimp [g2,g3,hVx,hVy,hb]
    exact finV false (by rw [hE.out,decide_eq_false h1];rfl)
   by_cases h2:x.word=y.word
   rotate_left
   ·have hb:(x.word != y.word)=true:=by simpa using h2
    simp -dsimp [g2,g3,hVx,hVy,h1,hb]
    exact finV false (by rw [hE.out,decide_eq_false h2,Bool.and_false];rfl)
   by_cases h3:x.name=y.name
   rotate_left
   ·simp -dsimp [g2,g3,hVx,hVy,h1,h2,h3]
    exact finV false (by rw [hE.out,decide_eq_false h3,Bool.and_false];rfl)
   by_cases h4:x.args.length=y.args.length
   rotate_left
   ·have hb:((x.args.length:Int) != (y.args.length:Int))=true:=by simp;omega
    simp -dsimp [g2,g3,hVx,hVy,h1,h2,h3,hb]
    exact finV false (by
     rw [hE.out]
     cases hh:Y9 x.args y.args
     ·rw [Bool.and_false]
     ·exact absurd (ZdV hh) h4)
   simp -dsimp [g2,g3,hVx,hVy,h1,h2,h3,h4]
   rw [hE.out,decide_eq_true h1,decide_eq_true h2,decide_eq_true h3]
   rfl
  clear g g2 g3 hE
  rintro g _ ⟨rfl,g2,g3,hl,hinv⟩
  refine Zk (by kernel_rfl) ?_
  simp -dsimp [g2,g3]
  refine Zv (fun (j:Nat) f H'=>V=H'∧f 2=.bp H.length 0∧f 3=.bp (H.length+1) 0∧f 5=I j∧j≤x.args.length∧Y9 (x.args.drop j) (y.args.drop j)=E) (fun j=>x.args.length-j) (by kernel_rfl) 0 (by
   simp [g2,g3]
   exact hinv) ?_
  clear g g2 g3 hinv
  rintro j g _ ⟨rfl,g2,g3,g5,hj,hinv⟩
  simp -dsimp [g2,g3,g5,hVx]
  refine Zb (fun hjt=>?_) (fun hjt=>?_)
  ·have hjt2:j<y.args.length:=by omega
   rw [Zo hjt,Zo hjt2,Y9] at hinv
   have hgs:=JN hjt
   have hgs2:=JN hjt2
   have e3:=List.getElem?_eq_getElem hjt
   have e4:=List.getElem?_eq_getElem hjt2
   obtain⟨w,hw⟩:∃w,w=x.args[j]:=⟨_,rfl⟩
   obtain⟨z,hz⟩:∃z,z=y.args[j]:=⟨_,rfl⟩
   rw [←hw] at hinv e3 hgs
   rw [←hz] at hinv e4 hgs2
   clear hw hz
   have cr:=ih w z (by omega) (by omega) (by omega) V
   simp only [Ex.cells_eq] at cr
   simp -dsimp [g2,g3,g5,hVx,hVy,e3,e4]
   refine Zd cr ?_
   cases hwz:w.eqB z
   ·rw [hwz] at hinv
    simp -dsimp
    exact finV false (by rw [←hinv];rfl)
   ·rw [hwz] at hinv
    simp -dsimp [g2,g3,g5]
    exact⟨j+1,by omega,ZC (by omega),by omega,by simpa using hinv⟩
  ·have h1:x.args.drop j=[]:=List.drop_eq_nil_of_le (by omega)
   have h2:y.args.drop j=[]:=List.drop_eq_nil_of_le (by omega)
   rw [h1,h2,Y9] at hinv
   simp -dsimp [g2,g3]
   exact finV true hinv
end Go.Proofs
namespace Go.Proofs
open Go.Mu
mutual
def Sm.eqB:Sm→Sm→Bool
 | .mk k n ns e a l lo hi b el,.mk k' n' ns' e' a' l' lo' hi' b' el'=>decide (k=k')&&decide (n=n')&&decide (lo=lo')&&decide (hi=hi')&&decide (ns=ns')&&Y9 l l'&&e.eqB e'&&a.eqB a'&&Yj b b'&&Yj el el'
def Yj:List Sm→List Sm→Bool
 |[],[]=>true
 |x::a,y::b=>x.eqB y&&Yj a b
 |_,_=>false
end
theorem Sm.eqB_eq (x y:Sm):x.eqB y=(decide (x.kind=y.kind)&&decide (x.name=y.name)&&decide (x.low=y.low)&&decide (x.high=y.high)&&decide (x.names=y.names)&&Y9 x.args y.args&&x.e.eqB y.e&&x.a.eqB y.a&&Yj x.body y.body&&Yj x.els y.els):=by cases x;cases y;rw [Sm.eqB];rfl
theorem Zte (m:Nat):∀a,Zh a≤m→∀b,Yj a b=true↔a=b:=by
 induction m with
 |zero=>intro l hl b;have:=Yi l;obtain rfl:l=[]:=List.eq_nil_of_length_eq_zero (by omega);cases b<;>simp [Yj]
 |succ m ih=>
  intro l
  induction l with
  |nil=>intro _ b;cases b<;>simp [Yj]
  |cons x l ihl=>
   intro hl b
   simp only [Zh] at hl
   have hc:=Sm.count_eq x
   cases b with
   |nil=>simp [Yj]
   |cons y b=>
    have h1:=ih x.body (by omega)
    have h2:=ih x.els (by omega)
    rw [Yj,Bool.and_eq_true,ihl (by omega),Sm.eqB_eq]
    simp only [Bool.and_eq_true,h1,h2,Zob,ZlK,decide_eq_true_eq]
    cases x
    cases y
    simp only [Sm.kind,Sm.name,Sm.low,Sm.high,Sm.names,Sm.args,Sm.e,Sm.a,Sm.body,Sm.els,List.cons.injEq,Sm.mk.injEq]
    constructor
    ·rintro ⟨⟨⟨⟨⟨⟨⟨⟨⟨⟨a,b⟩,c⟩,d⟩,e⟩,f⟩,g⟩,h⟩,i⟩,j⟩,k⟩;exact⟨⟨a,b,e,g,h,f,c,d,i,j⟩,k⟩
    ·rintro ⟨⟨a,b,e,g,h,f,c,d,i,j⟩,k⟩;exact⟨⟨⟨⟨⟨⟨⟨⟨⟨⟨a,b⟩,c⟩,d⟩,e⟩,f⟩,g⟩,h⟩,i⟩,j⟩,k⟩
theorem Zmp (a b:List Sm):Yj a b=true↔a=b:=Zte _ a (Nat.le_refl _) b
theorem Zgi {a b:List Sm} (h:Yj a b=true):a.length=b.length:=by rw [(Zmp a b).1 h]
def ZfX:FT:=.fork [0,1,2,3,4,5,6,7]
 (.alt 8 [2,3,6,7] (.lin [(9,[2,3,6,7]),(10,[6,7]),(11,[])])
 (.alt 9 [2,3,6,7] (.lin [(8,[2,3,6,7]),(10,[6,7]),(11,[])]) .none))
def Zn8 (H:List Ze) (x y:Sm) (f6 f7:AV) (H':List Ze):Prop:=∃u v R,H'=H++R∧H'[u]?=some (.box 82 x.cells)∧H'[v]?=some (.box 82 y.cells)∧f6=.bp u 0∧f7=.bp v 0
theorem Zse (m:Nat):∀ (a b:List Sm),Zh a<m→Zh a≤2^40→Zh b≤2^40→∀ (H:List Ze),Zi Tryz.prog 50 [Sm.sl a,Sm.sl b] H (fun e H'=>e=.ret (Bo (Yj a b))∧H'=H):=by
 induction m with
 |zero=>intro a b h;omega
 |succ m ih=>
  intro a b hm hca hcb H
  refine Zf (Z0 Tryz.func50 rfl (by kernel_rfl) ?_)
  have hla:=Yi a
  have hlb:=Yi b
  obtain⟨E,hE⟩:∃E,E=Yj a b:=⟨_,rfl⟩
  rw [←hE]
  have fin:∀b L,b=E→ZW H (fun e H'=>e=.ret (Bo E)∧H'=H) (.ret (Bo b)) (H++L):=fun b L h=>by rw [h];exact Z2 rfl ⟨rfl,rfl⟩
  have fin0:∀b,b=E→ZW H (fun e H'=>e=.ret (Bo E)∧H'=H) (.ret (Bo b)) H:=fun b h=>by have:=fin b [] h;simpa using this
  refine Zc (fun f H'=>H=H'∧f 0=Sm.sl a∧f 1=Sm.sl b) (by kernel_rfl) ?_ ?_
  ·simp -dsimp
  rintro g _ ⟨rfl,g0,g1⟩
  refine Zc (fun f H'=>H=H'∧f 0=Sm.sl a∧f 1=Sm.sl b∧a.length=b.length) (by kernel_rfl) ?_ ?_
  ·simp -dsimp [g0,g1]
   refine Zl (fun h1 h1a h1b=>?_) (fun h1=>?_)
   ·simp -dsimp
    exact fin0 _ (by rw [hE];cases hh:Yj a b;rfl;exact absurd (by rw [Zgi hh]) h1)
   ·simp -dsimp [g0,g1]
    omega
  clear g g0 g1
  rintro g _ ⟨rfl,g0,g1,hlen⟩
  refine Z4 (fun f H'=>(∃L,H'=H++L)∧E=true) ?_ ?_
  rotate_left
  ·clear g g0 g1
   rintro g _ ⟨⟨L,rfl⟩,h⟩
   refine Zk (by kernel_rfl) ?_
   simp -dsimp
   exact fin _ _ h.symm
  refine Zc (fun f H'=>H=H'∧f 0=Sm.sl a∧f 1=Sm.sl b∧f 5=I 0) (by kernel_rfl) ?_ ?_
  ·simp -dsimp [g0,g1]
  clear g g0 g1
  rintro g _ ⟨rfl,g0,g1,g5⟩
  refine Z9 ?_
  refine Yd (fun (i:Nat) f H'=>(∃L,H'=H++L)∧f 0=Sm.sl a∧f 1=Sm.sl b∧f 5=I i∧i≤a.length∧Yj (a.drop i) (b.drop i)=E) (fun i=>a.length-i) 0 ⟨⟨[],by simp⟩,g0,g1,g5,by omega,by rw [hE];simp⟩ ?_
  clear g g0 g1 g5 hE
  rintro i g _ ⟨⟨L,rfl⟩,g0,g1,g5,hi,hinv⟩
  refine Zc (fun f H'=>H'=H++L∧f 0=Sm.sl a∧f 1=Sm.sl b∧f 5=I i∧i<a.length) (by kernel_rfl) ?_ ?_
  ·simp -dsimp [g0,g1,g5]
   refine Zb (fun hlt=>?_) (fun hlt=>?_)
   ·simp -dsimp [g0,g1,g5]
    omega
   ·have h1:a.drop i=[]:=List.drop_eq_nil_of_le (by omega)
    have h2:b.drop i=[]:=List.drop_eq_nil_of_le (by omega)
    rw [h1,h2,Yj] at hinv
    simp -dsimp
    exact hinv.symm
  clear g g0 g1 g5
  rintro g _ ⟨rfl,g0,g1,g5,hlt⟩
  have hltb:i<b.length:=by omega
  rw [Zo hlt,Zo hltb,Yj,Sm.eqB_eq] at hinv
  have hgx:=JY hlt
  have hgy:=JY hltb
  have e1:=List.getElem?_eq_getElem hlt
  have e2:=List.getElem?_eq_getElem hltb
  obtain⟨x,hx⟩:∃x,x=a[i]:=⟨_,rfl⟩
  obtain⟨y,hy⟩:∃y,y=b[i]:=⟨_,rfl⟩
  rw [←hx] at hinv e1 hgx
  rw [←hy] at hinv e2 hgy
  clear hx hy
  have hcx:=Sm.count_eq x
  have hcy:=Sm.count_eq y
  have hxa:=Yy x.args
  have hya:=Yy y.args
  refine Z4 (fun f H'=>(∃L,H'=H++L)∧f 0=Sm.sl a∧f 1=Sm.sl b∧f 5=I i∧Yj (a.drop (i+1)) (b.drop (i+1))=E) ?_ ?_
  rotate_left
  ·clear g g0 g1 g5
   rintro g _ ⟨⟨L,rfl⟩,g0,g1,g5,hinv⟩
   refine Zk (by kernel_rfl) ?_
   simp -dsimp [g0,g1,g5]
   exact⟨i+1,by omega,ZC (by omega),by omega,hinv⟩
  refine Z9 ?_
  obtain⟨K,hK⟩:∃K,K=Yj (a.drop (i+1)) (b.drop (i+1)):=⟨_,rfl⟩
  rw [←hK] at hinv ⊢
  refine Z4 (fun f H'=>Zn8 H x y (f 6) (f 7) H'∧f 0=Sm.sl a∧f 1=Sm.sl b∧f 5=I i) ?_ ?_
  ·refine Xb (fun d=>false) ZfX (by kernel_rfl) ?_
   have fin2:∀u v R X Y,(H++(L++R))[u]?=some (Ze.box 82 X)→(H++(L++R))[v]?=some (Ze.box 82 Y)→X=x.cells→Y=y.cells→Zn8 H x y (.bp u 0) (.bp v 0) (H++(L++R)):=fun u v R X Y p q hX hY=>by
    subst hX hY
    exact⟨u,v,_,rfl,p,q,rfl,rfl⟩
   simp -dsimp [ZfX,g0,g1,g5,e1,e2]
   refine⟨fin2 _ _ _ _ _ ?_ ?_ (Sm.cells_eq x).symm (Sm.cells_eq y).symm,fin2 _ _ _ _ _ ?_ ?_ (Sm.cells_eq x).symm (Sm.cells_eq y).symm⟩
   ·rw [List.getElem?_append_right (by omega),Nat.add_sub_cancel_left,List.getElem?_append_right (by omega),Nat.sub_self];rfl
   ·rw [List.getElem?_append_right (by omega),Nat.add_sub_cancel_left,List.getElem?_append_right (by omega),Nat.add_sub_cancel_left];rfl
   ·rw [List.getElem?_append_right (by omega),Nat.add_sub_cancel_left,List.getElem?_append_right (by omega),Nat.add_sub_cancel_left];rfl
   ·rw [List.getElem?_append_right (by omega),Nat.add_sub_cancel_left,List.getElem?_append_right (by omega),Nat.sub_self];rfl
  clear g g0 g1 g5
  rintro g V ⟨⟨u,v,R,hV,hVx,hVy,g6,g7⟩,g0,g1,g5⟩
  have finV:∀b,b=E→ZW H (fun e H'=>e=.ret (Bo E)∧H'=H) (.ret (Bo b)) V:=fun b h=>by rw [hV];exact fin _ _ h
  have hVH:∃L',V=H++L':=⟨_,hV⟩
  clear hV
  simp only [Sm.cells_eq] at hVx hVy
  refine Zc (fun f H'=>V=H'∧f 0=Sm.sl a∧f 1=Sm.sl b∧f 5=I i∧f 6=.bp u 0∧f 7=.bp v 0∧(decide (x.names=y.names)&&Y9 x.args y.args&&x.e.eqB y.e&&x.a.eqB y.a&&Yj x.body y.body&&Yj x.els y.els&&K)=E∧x.names.length=y.names.length∧x.args.length=y.args.length) (by kernel_rfl) ?_ ?_
  ·replace hinv:=YE.mk hinv
   by_cases h1:x.kind=y.kind
   rotate_left
   ·have hkb:(x.kind != y.kind)=true:=by simpa using h1
    simp -dsimp [g0,g1,g5,g6,g7,hVx,hVy,hkb]
    exact finV false (by rw [←hinv.out,decide_eq_false h1];simp)
   by_cases h2:x.name=y.name
   rotate_left
   ·simp -dsimp [g0,g1,g5,g6,g7,hVx,hVy,h1,h2]
    exact finV false (by rw [←hinv.out,decide_eq_false h2];simp)
   by_cases h3:x.low=y.low
   rotate_left
   ·have hkb:(x.low != y.low)=true:=by simpa using h3
    simp -dsimp [g0,g1,g5,g6,g7,hVx,hVy,h1,h2,hkb]
    exact finV false (by rw [←hinv.out,decide_eq_false h3];simp)
   by_cases h4:x.high=y.high
   rotate_left
   ·have hkb:(x.high != y.high)=true:=by simpa using h4
    simp -dsimp [g0,g1,g5,g6,g7,hVx,hVy,h1,h2,h3,hkb]
    exact finV false (by rw [←hinv.out,decide_eq_false h4];simp)
   by_cases h5:x.names.length=y.names.length
   rotate_left
   ·have hkb:((x.names.length:Int) != (y.names.length:Int))=true:=by simp;omega
    simp -dsimp [g0,g1,g5,g6,g7,hVx,hVy,h1,h2,h3,h4,hkb]
    have hne: ¬ x.names=y.names:=fun h=>h5 (by rw [h])
    exact finV false (by rw [←hinv.out,decide_eq_false hne];simp)
   by_cases h6:x.args.length=y.args.length
   rotate_left
   ·have hkb:((x.args.length:Int) != (y.args.length:Int))=true:=by simp;omega
    simp -dsimp [g0,g1,g5,g6,g7,hVx,hVy,h1,h2,h3,h4,h5,hkb]
    have hne:Y9 x.args y.args=false:=by
     cases hh:Y9 x.args y.args
     ·rfl
     ·exact absurd (ZdV hh) h6
    exact finV false (by rw [←hinv.out,hne];simp)
   simp -dsimp [g0,g1,g5,g6,g7,hVx,hVy,h1,h2,h3,h4,h5,h6]
   rw [←hinv.out,decide_eq_true h1,decide_eq_true h2,decide_eq_true h3,decide_eq_true h4]
   rfl
  clear g g0 g1 g5 g6 g7 hinv
  rintro g _ ⟨rfl,g0,g1,g5,g6,g7,hinv,hln,hlargs⟩
  --names
  refine Z4 (fun f H'=>V=H'∧f 0=Sm.sl a∧f 1=Sm.sl b∧f 5=I i∧f 6=.bp u 0∧f 7=.bp v 0∧(Y9 x.args y.args&&x.e.eqB y.e&&x.a.eqB y.a&&Yj x.body y.body&&Yj x.els y.els&&K)=E) ?_ ?_
  ·refine Zk (by kernel_rfl) ?_
   obtain⟨Z,hZ⟩:∃Z,Z=(x.e.eqB y.e&&x.a.eqB y.a&&Yj x.body y.body&&Yj x.els y.els&&K):=⟨_,rfl⟩
   have hz1:(Y9 x.args y.args&&x.e.eqB y.e&&x.a.eqB y.a&&Yj x.body y.body&&Yj x.els y.els&&K)=(Y9 x.args y.args&&Z):=by rw [hZ];simp only [Bool.and_assoc]
   have hz2:(decide (x.names=y.names)&&Y9 x.args y.args&&x.e.eqB y.e&&x.a.eqB y.a&&Yj x.body y.body&&Yj x.els y.els&&K)=(decide (x.names=y.names)&&(Y9 x.args y.args&&Z)):=by rw [hZ];simp only [Bool.and_assoc]
   rw [hz1]
   rw [hz2] at hinv
   clear hz1 hz2 hZ
   obtain⟨Y,hY⟩:∃Y,Y=(Y9 x.args y.args&&Z):=⟨_,rfl⟩
   rw [←hY] at hinv ⊢
   clear hY
   simp -dsimp [g0,g1,g5,g6,g7]
   refine Zv (fun (j:Nat) f H'=>V=H'∧f 0=Sm.sl a∧f 1=Sm.sl b∧f 5=I i∧f 6=.bp u 0∧f 7=.bp v 0∧f 8=I j∧j≤x.names.length∧(decide (x.names.drop j=y.names.drop j)&&Y)=E) (fun j=>x.names.length-j) (by kernel_rfl) 0 (by
    simp [g0,g1,g5,g6,g7]
    simpa using hinv) ?_
   clear g g0 g1 g5 g6 g7 hinv
   rintro j g _ ⟨rfl,g0,g1,g5,g6,g7,g8,hj,hinv⟩
   simp -dsimp [g0,g1,g5,g6,g7,g8,hVx]
   refine Zb (fun hjt=>?_) (fun hjt=>?_)
   ·have hjt2:j<y.names.length:=by omega
    rw [Zo hjt,Zo hjt2] at hinv
    have e3:=List.getElem?_eq_getElem hjt
    have e4:=List.getElem?_eq_getElem hjt2
    obtain⟨w,hw⟩:∃w,w=x.names[j]:=⟨_,rfl⟩
    obtain⟨z,hz⟩:∃z,z=y.names[j]:=⟨_,rfl⟩
    rw [←hw] at hinv e3
    rw [←hz] at hinv e4
    clear hw hz
    by_cases hwz:w=z
    ·subst hwz
     simp -dsimp [g0,g1,g5,g6,g7,g8,hVx,hVy,e3,e4]
     exact⟨j+1,by omega,ZC (by omega),by omega,by simpa using hinv⟩
    ·simp -dsimp [g0,g1,g5,g6,g7,g8,hVx,hVy,e3,e4,hwz]
     exact finV false (by rw [←hinv,decide_eq_false (by simp [hwz])];rfl)
   ·have h1:x.names.drop j=[]:=List.drop_eq_nil_of_le (by omega)
    have h2:y.names.drop j=[]:=List.drop_eq_nil_of_le (by omega)
    rw [h1,h2] at hinv
    simp -dsimp [g0,g1,g5,g6,g7]
    simpa using hinv
  clear g g0 g1 g5 g6 g7 hinv
  rintro g _ ⟨rfl,g0,g1,g5,g6,g7,hinv⟩
  --arguments
  refine Z4 (fun f H'=>V=H'∧f 0=Sm.sl a∧f 1=Sm.sl b∧f 5=I i∧f 6=.bp u 0∧f 7=.bp v 0∧(x.e.eqB y.e&&x.a.eqB y.a&&Yj x.body y.body&&Yj x.els y.els&&K)=E) ?_ ?_
  ·refine Zk (by kernel_rfl) ?_
   obtain⟨Z,hZ⟩:∃Z,Z=(x.e.eqB y.e&&x.a.eqB y.a&&Yj x.body y.body&&Yj x.els y.els&&K):=⟨_,rfl⟩
   have hz1:(Y9 x.args y.args&&x.e.eqB y.e&&x.a.eqB y.a&&Yj x.body y.body&&Yj x.els y.els&&K)=(Y9 x.args y.args&&Z):=by rw [hZ];simp only [Bool.and_assoc]
   rw [←hZ]
   rw [hz1] at hinv
   clear hz1 hZ
   simp -dsimp [g0,g1,g5,g6,g7]
   refine Zv (fun (j:Nat) f H'=>V=H'∧f 0=Sm.sl a∧f 1=Sm.sl b∧f 5=I i∧f 6=.bp u 0∧f 7=.bp v 0∧f 9=I j∧j≤x.args.length∧(Y9 (x.args.drop j) (y.args.drop j)&&Z)=E) (fun j=>x.args.length-j) (by kernel_rfl) 0 (by
    simp [g0,g1,g5,g6,g7]
    simpa using hinv) ?_
   clear g g0 g1 g5 g6 g7 hinv
   rintro j g _ ⟨rfl,g0,g1,g5,g6,g7,g9,hj,hinv⟩
   simp -dsimp [g0,g1,g5,g6,g7,g9,hVx]
   refine Zb (fun hjt=>?_) (fun hjt=>?_)
   ·have hjt2:j<y.args.length:=by omega
    rw [Zo hjt,Zo hjt2,Y9] at hinv
    have e3:=List.getElem?_eq_getElem hjt
    have e4:=List.getElem?_eq_getElem hjt2
    have hgw:=JN hjt
    have hgz:=JN hjt2
    obtain⟨w,hw⟩:∃w,w=x.args[j]:=⟨_,rfl⟩
    obtain⟨z,hz⟩:∃z,z=y.args[j]:=⟨_,rfl⟩
    rw [←hw] at hinv e3 hgw
    rw [←hz] at hinv e4 hgz
    clear hw hz
    have cr:=Zkt _ w z (Nat.lt_succ_self _) (by omega) (by omega) V
    simp only [Ex.cells_eq] at cr
    simp -dsimp [g0,g1,g5,g6,g7,g9,hVx,hVy,e3,e4]
    refine Zd cr ?_
    cases hwz:w.eqB z
    ·rw [hwz] at hinv
     simp -dsimp
     exact finV false (by rw [←hinv];rfl)
    ·rw [hwz] at hinv
     simp -dsimp [g0,g1,g5,g6,g7,g9]
     exact⟨j+1,by omega,ZC (by omega),by omega,by simpa using hinv⟩
   ·have h1:x.args.drop j=[]:=List.drop_eq_nil_of_le (by omega)
    have h2:y.args.drop j=[]:=List.drop_eq_nil_of_le (by omega)
    rw [h1,h2,Y9] at hinv
    simp -dsimp [g0,g1,g5,g6,g7]
    simpa using hinv
  clear g g0 g1 g5 g6 g7 hinv
  rintro g _ ⟨rfl,g0,g1,g5,g6,g7,hinv⟩
  have c1:=Zkt _ x.e y.e (Nat.lt_succ_self _) (by omega) (by omega) V
  have c2:=Zkt _ x.a y.a (Nat.lt_succ_self _) (by omega) (by omega) V
  have c3:=ih x.body y.body (by omega) (by omega) (by omega) V
  have c4:=ih x.els y.els (by omega) (by omega) (by omega) V
  simp only [Ex.cells_eq] at c1 c2
  refine Zk (by kernel_rfl) ?_
  replace hinv:=YE.mk hinv
  simp -dsimp [g0,g1,g5,g6,g7,hVx,hVy]
  refine Za c1 ?_
  cases k1:x.e.eqB y.e
  ·simp -dsimp
   exact finV false (by rw [←hinv.out,k1];rfl)
  simp -dsimp [g0,g1,g5,g6,g7,hVx,hVy]
  refine Za c2 ?_
  cases k2:x.a.eqB y.a
  ·simp -dsimp
   exact finV false (by rw [←hinv.out,k2];simp)
  simp -dsimp [g0,g1,g5,g6,g7,hVx,hVy]
  refine Za c3 ?_
  cases k3:Yj x.body y.body
  ·simp -dsimp
   exact finV false (by rw [←hinv.out,k3];simp)
  simp -dsimp [g0,g1,g5,g6,g7,hVx,hVy]
  refine Za c4 ?_
  cases k4:Yj x.els y.els
  ·simp -dsimp
   exact finV false (by rw [←hinv.out,k4];simp)
  simp -dsimp [g0,g1,g5]
  exact⟨hVH,by rw [←hinv.out,k1,k2,k3,k4];rfl⟩
end Go.Proofs
namespace Go.Proofs
open Go.Mu
theorem Zj3 (a b:List Vr) (ha:a.length≤2^40) (hb:b.length≤2^40) (H:List Ze):Zi Tryz.prog 49 [Vr.sl a,Vr.sl b] H (fun e H'=>e=.ret (Bo (decide (a=b)))∧H'=H):=by
 refine Zf (Zg Tryz.func49 rfl (by kernel_rfl) ?_)
 obtain⟨E,hE⟩:∃E,E=decide (a=b):=⟨_,rfl⟩
 rw [←hE]
 have fin0:∀ (b:Bool),b=E→ZW H (fun e H'=>e=.ret (Bo E)∧H'=H) (.ret (Bo b)) H:=fun b h=>by rw [h];exact Z7 rfl ⟨rfl,rfl⟩
 simp -dsimp
 refine Zl (fun h1 h1a h1b=>?_) (fun h1=>?_)
 ·simp -dsimp
  exact fin0 _ (by rw [hE,eq_comm];exact decide_eq_false (fun h=>h1 (by rw [h])))
 have hl:a.length=b.length:=by omega
 simp -dsimp
 refine Zv (fun (i:Nat) f H'=>H=H'∧f 0=Vr.sl a∧f 1=Vr.sl b∧f 5=I i∧i≤a.length∧E=decide (a.drop i=b.drop i)) (fun i=>a.length-i) (by kernel_rfl) 0 (by simp;exact hE) ?_
 rintro i f _ ⟨rfl,h0,h1',h5,hi,hinv⟩
 simp -dsimp [h0,h1',h5]
 refine Zb (fun hlt=>?_) (fun hlt=>?_)
 ·have hltb:i<b.length:=by omega
  rw [Zo hlt,Zo hltb] at hinv
  have e1:=List.getElem?_eq_getElem hlt
  have e2:=List.getElem?_eq_getElem hltb
  obtain⟨x,hx⟩:∃x,x=a[i]:=⟨_,rfl⟩
  obtain⟨y,hy⟩:∃y,y=b[i]:=⟨_,rfl⟩
  rw [←hx] at hinv e1
  rw [←hy] at hinv e2
  clear hx hy
  obtain⟨xn,xk,xs,xt⟩:=x
  obtain⟨yn,yk,ys,yt⟩:=y
  by_cases hxy:xn=yn∧xk=yk∧xs=ys∧xt=yt
  ·obtain⟨rfl,rfl,rfl,rfl⟩:=hxy
   simp -dsimp [h0,h1',h5,e1,e2]
   exact⟨i+1,by omega,ZC (by omega),by omega,by rw [hinv];simp⟩
  ·have hbb:(!decide (xn=yn)||(!xk==yk||(!xs==ys|| !xt==yt)))=true:=by
    by_cases p:xn=yn
    ·by_cases q:xk=yk
     ·by_cases r:xs=ys
      ·by_cases u:xt=yt
       ·exact absurd ⟨p,q,r,u⟩ hxy
       ·simp [u]
      ·simp [r]
     ·simp [q]
    ·simp [p]
   simp -dsimp [h0,h1',h5,e1,e2,hbb]
   exact fin0 _ (by rw [hinv];simp;intro a b c d;exact absurd ⟨a,b,c,d⟩ hxy)
 ·have h1:a.drop i=[]:=List.drop_eq_nil_of_le (by omega)
  have h2:b.drop i=[]:=List.drop_eq_nil_of_le (by omega)
  rw [h1,h2] at hinv
  simp -dsimp
  exact fin0 _ hinv.symm
def Fc.eqB (f g:Fc):Bool:=decide (f.name=g.name)&&decide (f.params=g.params)&&decide (f.vars=g.vars)&&Yj f.body g.body&&decide (f.rets=g.rets)
def J9:List Fc→List Fc→Bool
 |[],[]=>true
 |x::a,y::b=>x.eqB y&&J9 a b
 |_,_=>false
def Pg.eqB (a b:Pg):Bool:=decide (a.regions=b.regions)&&J9 a.funcs b.funcs
theorem ZrZ (f g:Fc):f.eqB g=true↔f=g:=by
 unfold Fc.eqB
 simp only [Bool.and_eq_true,decide_eq_true_eq,Zmp]
 cases f
 cases g
 simp only [Fc.mk.injEq]
 constructor
 ·rintro ⟨⟨⟨⟨a,b⟩,c⟩,d⟩,e⟩;exact⟨a,b,c,e,d⟩
 ·rintro ⟨a,b,c,e,d⟩;exact⟨⟨⟨⟨a,b⟩,c⟩,d⟩,e⟩
theorem Zfa:∀a b:List Fc,J9 a b=true↔a=b
 |[],[]=>by simp [J9]
 |[],_::_=>by simp [J9]
 |_::_,[]=>by simp [J9]
 |x::a,y::b=>by rw [J9,Bool.and_eq_true,Zfa a b,ZrZ,List.cons.injEq]
theorem Zjx {a b:List Fc} (h:J9 a b=true):a.length=b.length:=by rw [(Zfa a b).1 h]
theorem Zs7 (a b:Pg):a.eqB b=true↔a=b:=by
 unfold Pg.eqB
 rw [Bool.and_eq_true,decide_eq_true_eq,Zfa]
 cases a
 cases b
 simp only [Pg.mk.injEq]
theorem Zod (a:Pg):a.eqB a=true:=(Zs7 a a).2 rfl
structure Pg.OkS (p:Pg):Prop where
 regions:p.regions.length≤2^40
 funcs:p.funcs.length≤2^40
 params:∀f∈p.funcs,f.params.length≤2^40
 vars:∀f∈p.funcs,f.vars.length≤2^40
 rets:∀f∈p.funcs,f.rets.length≤2^40
 body:∀f∈p.funcs,Zh f.body≤2^40
def ZkN:FT:=.fork [0,1,2,3,4,5,6,7,8,9]
 (.alt 10 [0,1,3,4,5,6,8,9] (.lin [(11,[0,1,3,4,5,6,8,9]),(12,[5,6,8,9]),(13,[])])
 (.alt 11 [0,1,3,4,5,6,8,9] (.lin [(10,[0,1,3,4,5,6,8,9]),(12,[5,6,8,9]),(13,[])]) .none))
def Zog (H:List Ze) (x y:Fc) (f6 f7:AV) (H':List Ze):Prop:=∃u v R,H'=H++R∧H'[u]?=some (.box 56 x.cells)∧H'[v]?=some (.box 56 y.cells)∧f6=.bp u 0∧f7=.bp v 0
theorem Zre (a b:Pg) (ha:a.OkS) (hb:b.OkS) (H:List Ze):Zi Tryz.prog 20 [.agg a.cells,.agg b.cells] H (fun e H'=>e=.ret (Bo (a.eqB b))∧H'=H):=by
 refine Zf (Z0 Tryz.func20 rfl (by kernel_rfl) ?_)
 have har:=ha.regions
 have haf:=ha.funcs
 have hbr:=hb.regions
 have hbf:=hb.funcs
 obtain⟨E,hE⟩:∃E,E=a.eqB b:=⟨_,rfl⟩
 rw [←hE]
 unfold Pg.eqB at hE
 obtain⟨bA,hbA⟩:∃bA,bA=Ze.box 25 a.cells:=⟨_,rfl⟩
 obtain⟨bB,hbB⟩:∃bB,bB=Ze.box 25 b.cells:=⟨_,rfl⟩
 obtain⟨M,hM⟩:∃M:List Ze→List Ze,M=fun L=>H++bA::bB::L:=⟨_,rfl⟩
 have hMe:∀L,M L=H++bA::bB::L:=fun L=>by rw [hM]
 have hMa:∀L R,M L++R=M (L++R):=fun L R=>by rw [hMe,hMe];simp
 have hVx:∀L,(M L)[H.length]?=some (.box 25 a.cells):=fun L=>by rw [hMe,←hbA];simp
 have hVy:∀L,(M L)[H.length+1]?=some (.box 25 b.cells):=fun L=>by rw [hMe,←hbB];simp
 have finV:∀b L,b=E→ZW H (fun e H'=>e=.ret (Bo E)∧H'=H) (.ret (Bo b)) (M L):=fun b L h=>by rw [h,hMe];exact Z2 rfl ⟨rfl,rfl⟩
 clear hM
 refine Zc (fun f H'=>H'=M []∧f 2=.bp H.length 0∧f 3=.bp (H.length+1) 0) (by kernel_rfl) ?_ ?_
 ·rw [hMe,hbA,hbB]
  simp -dsimp
 simp only [Pg.cells] at hVx hVy
 clear hbA hbB hMe
 rintro g _ ⟨rfl,g2,g3⟩
 refine Zc (fun f H'=>H'=M []∧f 2=.bp H.length 0∧f 3=.bp (H.length+1) 0∧a.regions.length=b.regions.length∧a.funcs.length=b.funcs.length) (by kernel_rfl) ?_ ?_
 ·replace hE:=YE.mk hE
  by_cases h1:a.regions.length=b.regions.length
  rotate_left
  ·have hkb:((a.regions.length:Int) != (b.regions.length:Int))=true:=by simp;omega
   simp -dsimp [g2,g3,hVx,hVy,hkb]
   have hne: ¬ a.regions=b.regions:=fun h=>h1 (by rw [h])
   exact finV false _ (by rw [hE.out,decide_eq_false hne];rfl)
  by_cases h2:a.funcs.length=b.funcs.length
  rotate_left
  ·have hkb:((a.funcs.length:Int) != (b.funcs.length:Int))=true:=by simp;omega
   simp -dsimp [g2,g3,hVx,hVy,h1,hkb]
   have hne:J9 a.funcs b.funcs=false:=by
    cases hh:J9 a.funcs b.funcs
    ·rfl
    ·exact absurd (Zjx hh) h2
   exact finV false _ (by rw [hE.out,hne,Bool.and_false])
  simp -dsimp [g2,g3,hVx,hVy,h1,h2]
 clear g g2 g3
 rintro g _ ⟨rfl,g2,g3,hl1,hl2⟩
 --regions
 refine Z4 (fun f H'=>H'=M []∧f 2=.bp H.length 0∧f 3=.bp (H.length+1) 0∧J9 a.funcs b.funcs=E) ?_ ?_
 ·refine Zk (by kernel_rfl) ?_
  obtain⟨K,hK⟩:∃K,K=J9 a.funcs b.funcs:=⟨_,rfl⟩
  rw [←hK] at hE ⊢
  clear hK
  simp -dsimp [g2,g3]
  refine Zv (fun (i:Nat) f H'=>H'=M []∧f 2=.bp H.length 0∧f 3=.bp (H.length+1) 0∧f 5=I i∧i≤a.regions.length∧E=(decide (a.regions.drop i=b.regions.drop i)&&K)) (fun i=>a.regions.length-i) (by kernel_rfl) 0 (by simp [g2,g3];exact hE) ?_
  clear g g2 g3 hE
  rintro i g _ ⟨rfl,g2,g3,g5,hi,hinv⟩
  simp -dsimp [g2,g3,g5,hVx]
  refine Zb (fun hlt=>?_) (fun hlt=>?_)
  ·have hltb:i<b.regions.length:=by omega
   rw [Zo hlt,Zo hltb] at hinv
   have e1:=List.getElem?_eq_getElem hlt
   have e2:=List.getElem?_eq_getElem hltb
   obtain⟨x,hx⟩:∃x,x=a.regions[i]:=⟨_,rfl⟩
   obtain⟨y,hy⟩:∃y,y=b.regions[i]:=⟨_,rfl⟩
   rw [←hx] at hinv e1
   rw [←hy] at hinv e2
   clear hx hy
   obtain⟨xn,xk,xs,xt⟩:=x
   obtain⟨yn,yk,ys,yt⟩:=y
   by_cases hxy:xn=yn∧xk=yk∧xs=ys∧xt=yt
   ·obtain⟨rfl,rfl,rfl,rfl⟩:=hxy
    simp -dsimp [g2,g3,g5,hVx,hVy,e1,e2]
    exact⟨i+1,by omega,ZC (by omega),by omega,by rw [hinv];simp⟩
   ·have hbb:(!decide (xn=yn)||(!xk==yk||(!xs==ys|| !xt==yt)))=true:=by
     by_cases p:xn=yn
     ·by_cases q:xk=yk
      ·by_cases r:xs=ys
       ·by_cases u:xt=yt
        ·exact absurd ⟨p,q,r,u⟩ hxy
        ·simp [u]
       ·simp [r]
      ·simp [q]
     ·simp [p]
    simp -dsimp [g2,g3,g5,hVx,hVy,e1,e2,hbb]
    exact finV false [] (by rw [hinv,decide_eq_false];rfl;simp;intro a b c d;exact absurd ⟨a,b,c,d⟩ hxy)
  ·have h1:a.regions.drop i=[]:=List.drop_eq_nil_of_le (by omega)
   have h2:b.regions.drop i=[]:=List.drop_eq_nil_of_le (by omega)
   rw [h1,h2] at hinv
   simp -dsimp [g2,g3]
   simpa using hinv.symm
 clear g g2 g3 hE
 rintro g _ ⟨rfl,g2,g3,hinv0⟩
 --functions
 refine Z4 (fun f H'=>(∃L,H'=M L)∧E=true) ?_ ?_
 rotate_left
 ·clear g g2 g3
  rintro g _ ⟨⟨L,rfl⟩,h⟩
  refine Zk (by kernel_rfl) ?_
  simp -dsimp
  exact finV _ _ h.symm
 refine Zc (fun f H'=>H'=M []∧f 2=.bp H.length 0∧f 3=.bp (H.length+1) 0∧f 6=I 0) (by kernel_rfl) ?_ ?_
 ·simp -dsimp [g2,g3]
 clear g g2 g3
 rintro g _ ⟨rfl,g2,g3,g6⟩
 refine Z9 ?_
 refine Yd (fun (i:Nat) f H'=>(∃L,H'=M L)∧f 2=.bp H.length 0∧f 3=.bp (H.length+1) 0∧f 6=I i∧i≤a.funcs.length∧J9 (a.funcs.drop i) (b.funcs.drop i)=E) (fun i=>a.funcs.length-i) 0 ⟨⟨[],rfl⟩,g2,g3,g6,by omega,by simpa using hinv0⟩ ?_
 clear g g2 g3 g6 hinv0
 rintro i g _ ⟨⟨L,rfl⟩,g2,g3,g6,hi,hinv⟩
 refine Zc (fun f H'=>H'=M L∧f 2=.bp H.length 0∧f 3=.bp (H.length+1) 0∧f 6=I i∧i<a.funcs.length) (by kernel_rfl) ?_ ?_
 ·simp -dsimp [g2,g3,g6,hVx]
  refine Zb (fun hlt=>?_) (fun hlt=>?_)
  ·simp -dsimp [g2,g3,g6]
   omega
  ·have h1:a.funcs.drop i=[]:=List.drop_eq_nil_of_le (by omega)
   have h2:b.funcs.drop i=[]:=List.drop_eq_nil_of_le (by omega)
   rw [h1,h2,J9] at hinv
   simp -dsimp
   exact⟨⟨L,rfl⟩,hinv.symm⟩
 clear g g2 g3 g6
 rintro g _ ⟨rfl,g2,g3,g6,hlt⟩
 have hltb:i<b.funcs.length:=by omega
 rw [Zo hlt,Zo hltb,J9] at hinv
 have e1:=List.getElem?_eq_getElem hlt
 have e2:=List.getElem?_eq_getElem hltb
 have hmx:=List.getElem_mem hlt
 have hmy:=List.getElem_mem hltb
 obtain⟨x,hx⟩:∃x,x=a.funcs[i]:=⟨_,rfl⟩
 obtain⟨y,hy⟩:∃y,y=b.funcs[i]:=⟨_,rfl⟩
 rw [←hx] at hinv e1 hmx
 rw [←hy] at hinv e2 hmy
 clear hx hy
 have p1:=ha.params x hmx
 have p2:=ha.vars x hmx
 have p3:=ha.rets x hmx
 have p4:=ha.body x hmx
 have q1:=hb.params y hmy
 have q2:=hb.vars y hmy
 have q3:=hb.rets y hmy
 have q4:=hb.body y hmy
 unfold Fc.eqB at hinv
 refine Z4 (fun f H'=>(∃L,H'=M L)∧f 2=.bp H.length 0∧f 3=.bp (H.length+1) 0∧f 6=I i∧J9 (a.funcs.drop (i+1)) (b.funcs.drop (i+1))=E) ?_ ?_
 rotate_left
 ·clear g g2 g3 g6
  rintro g _ ⟨⟨L,rfl⟩,g2,g3,g6,hinv⟩
  refine Zk (by kernel_rfl) ?_
  simp -dsimp [g2,g3,g6]
  exact⟨i+1,by omega,⟨L,rfl⟩,ZC (by omega),by omega,hinv⟩
 refine Z9 ?_
 obtain⟨K,hK⟩:∃K,K=J9 (a.funcs.drop (i+1)) (b.funcs.drop (i+1)):=⟨_,rfl⟩
 rw [←hK] at hinv ⊢
 obtain⟨V,hV⟩:∃V,V=M L:=⟨_,rfl⟩
 have hVx':=hVx L
 have hVy':=hVy L
 rw [←hV] at hVx' hVy' ⊢
 have hWx:∀R,(V++R)[H.length]?=some (.box 25 [Rg.sl a.regions,Fc.sl a.funcs]):=fun R=>ZG hVx' R
 have hWy:∀R,(V++R)[H.length+1]?=some (.box 25 [Rg.sl b.regions,Fc.sl b.funcs]):=fun R=>ZG hVy' R
 have hVR:∀R,V++R=M (L++R):=fun R=>by rw [hV,hMa]
 clear hV
 refine Z4 (fun f H'=>Zog V x y (f 7) (f 8) H'∧f 2=.bp H.length 0∧f 3=.bp (H.length+1) 0∧f 6=I i) ?_ ?_
 ·refine Xb (fun d=>false) ZkN (by kernel_rfl) ?_
  have fin2:∀u v R X' Y',(V++R)[u]?=some (Ze.box 56 X')→(V++R)[v]?=some (Ze.box 56 Y')→X'=x.cells→Y'=y.cells→Zog V x y (.bp u 0) (.bp v 0) (V++R):=fun u v R X' Y' p q h1 h2=>by
   subst h1 h2
   exact⟨u,v,_,rfl,p,q,rfl,rfl⟩
  simp -dsimp [ZkN,g2,g3,g6,hVx',hVy',hWx,hWy,e1,e2]
  refine⟨fin2 _ _ _ _ _ ?_ ?_ rfl rfl,fin2 _ _ _ _ _ ?_ ?_ rfl rfl⟩
  ·rw [List.getElem?_append_right (Nat.le_refl _),Nat.sub_self];rfl
  ·rw [List.getElem?_append_right (by omega),Nat.add_sub_cancel_left];rfl
  ·rw [List.getElem?_append_right (by omega),Nat.add_sub_cancel_left];rfl
  ·rw [List.getElem?_append_right (Nat.le_refl _),Nat.sub_self];rfl
 clear g g2 g3 g6
 rintro g W ⟨⟨u,v,R,hW,hWu,hWv,g7,g8⟩,g2,g3,g6⟩
 rw [hVR] at hW
 have finW:∀b,b=E→ZW H (fun e H'=>e=.ret (Bo E)∧H'=H) (.ret (Bo b)) W:=fun b h=>by rw [hW];exact finV _ _ h
 have hWH:∃L',W=M L':=⟨_,hW⟩
 clear hW hVR hWx hWy
 simp only [Fc.cells] at hWu hWv
 have c1:=Zj3 x.params y.params (by omega) (by omega) W
 have c2:=Zj3 x.vars y.vars (by omega) (by omega) W
 have c3:=Zse _ x.body y.body (Nat.lt_succ_self _) (by omega) (by omega) W
 refine Zc (fun f H'=>W=H'∧f 2=.bp H.length 0∧f 3=.bp (H.length+1) 0∧f 6=I i∧f 7=.bp u 0∧f 8=.bp v 0∧(decide (x.rets=y.rets)&&K)=E∧x.rets.length=y.rets.length) (by kernel_rfl) ?_ ?_
 ·replace hinv:=YE.mk hinv
  by_cases h1:x.name=y.name
  rotate_left
  ·simp -dsimp [g2,g3,g6,g7,g8,hWu,hWv,h1]
   exact finW false (by rw [←hinv.out,decide_eq_false h1];simp)
  simp -dsimp [g2,g3,g6,g7,g8,hWu,hWv,h1]
  refine Za c1 ?_
  by_cases h2:x.params=y.params
  rotate_left
  ·rw [decide_eq_false h2]
   simp -dsimp
   exact finW false (by rw [←hinv.out,decide_eq_false h2];simp)
  rw [decide_eq_true h2]
  simp -dsimp [g2,g3,g6,g7,g8,hWu,hWv,h1]
  refine Za c2 ?_
  by_cases h3:x.vars=y.vars
  rotate_left
  ·rw [decide_eq_false h3]
   simp -dsimp
   exact finW false (by rw [←hinv.out,decide_eq_false h3];simp)
  rw [decide_eq_true h3]
  by_cases h4:x.rets.length=y.rets.length
  rotate_left
  ·have hkb:((x.rets.length:Int) != (y.rets.length:Int))=true:=by simp;omega
   have hne: ¬ x.rets=y.rets:=fun h=>h4 (by rw [h])
   simp -dsimp [g2,g3,g6,g7,g8,hWu,hWv,h1,hkb]
   exact finW false (by rw [←hinv.out,decide_eq_false hne];simp)
  simp -dsimp [g2,g3,g6,g7,g8,hWu,hWv,h1,h4]
  refine Za c3 ?_
  cases h5:Yj x.body y.body
  ·simp -dsimp
   exact finW false (by rw [←hinv.out,h5];simp)
  simp -dsimp [g2,g3,g6,g7,g8,hWu,hWv,h1,h4]
  rw [←hinv.out,h5,decide_eq_true h1,decide_eq_true h2,decide_eq_true h3]
  rfl
 clear g g2 g3 g6 g7 g8 hinv
 rintro g _ ⟨rfl,g2,g3,g6,g7,g8,hinv,hlr⟩
 refine Zk (by kernel_rfl) ?_
 simp -dsimp [g2,g3,g6,g7,g8]
 refine Zv (fun (j:Nat) f H'=>W=H'∧f 2=.bp H.length 0∧f 3=.bp (H.length+1) 0∧f 6=I i∧f 7=.bp u 0∧f 8=.bp v 0∧f 9=I j∧j≤x.rets.length∧(decide (x.rets.drop j=y.rets.drop j)&&K)=E) (fun j=>x.rets.length-j) (by kernel_rfl) 0 (by
  simp [g2,g3,g6,g7,g8]
  simpa using hinv) ?_
 clear g g2 g3 g6 g7 g8 hinv
 rintro j g _ ⟨rfl,g2,g3,g6,g7,g8,g9,hj,hinv⟩
 simp -dsimp [g2,g3,g6,g7,g8,g9,hWu]
 refine Zb (fun hjt=>?_) (fun hjt=>?_)
 ·have hjt2:j<y.rets.length:=by omega
  rw [Zo hjt,Zo hjt2] at hinv
  have e3:=List.getElem?_eq_getElem hjt
  have e4:=List.getElem?_eq_getElem hjt2
  obtain⟨w,hw⟩:∃w,w=x.rets[j]:=⟨_,rfl⟩
  obtain⟨z,hz⟩:∃z,z=y.rets[j]:=⟨_,rfl⟩
  rw [←hw] at hinv e3
  rw [←hz] at hinv e4
  clear hw hz
  by_cases hwz:w=z
  ·subst hwz
   simp -dsimp [g2,g3,g6,g7,g8,g9,hWu,hWv,e3,e4]
   exact⟨j+1,by omega,ZC (by omega),by omega,by simpa using hinv⟩
  ·simp -dsimp [g2,g3,g6,g7,g8,g9,hWu,hWv,e3,e4,hwz]
   exact finW false (by rw [←hinv,decide_eq_false (by simp [hwz])];rfl)
 ·have h1:x.rets.drop j=[]:=List.drop_eq_nil_of_le (by omega)
  have h2:y.rets.drop j=[]:=List.drop_eq_nil_of_le (by omega)
  rw [h1,h2] at hinv
  simp -dsimp [g2,g3,g6]
  exact⟨hWH,by simpa using hinv⟩
end Go.Proofs
namespace Go.Proofs
open Go.Mu
theorem ZjV {H:List Ze} {R:AE→List Ze→Prop} (hu:YC H.length H=true) (sz:Nat) (t:TypeId) (es:List (List AV)) (L:List Ze) (hz:es.flatten.all AV.frzB=true) (h:R (.ret (.vs sz es)) H):Zao (ZW H R) (.ret (Yo H.length es)) (H++Yn t sz es::L):=by
 by_cases hw:es=[]
 ·subst hw
  rw [Xd]
  refine ZR (.nil sz) ?_
  exact Z2 rfl h
 ·refine ZR (.refl _) ?_
  rw [Yn,if_neg hw]
  refine Zav hu sz _ _ hz ?_ ?_
  ·rw [JV _ _ _ hw];rfl
  ·rw [JV _ _ _ hw];exact h
theorem XQ {α:Type} (cells:α→List AV) (h:∀a,(cells a).all AV.frzB=true) (l:List α):(l.map cells).flatten.all AV.frzB=true:=by
 rw [List.all_eq_true]
 intro c hc
 obtain⟨e,he,hce⟩:=List.mem_flatten.1 hc
 obtain⟨x,_,rfl⟩:=List.mem_map.1 he
 exact List.all_eq_true.1 (h x) c hce
theorem Zhk (l:List Ex):(l.map Ex.cells).flatten.all AV.frzB=true:=XQ _ (fun x=>by simp [AV.frzB]) l
theorem ZdD (l:List Sm):(l.map Sm.cells).flatten.all AV.frzB=true:=XQ _ (fun x=>by simp [AV.frzB]) l
theorem Zi0 (l:List Fc):(l.map Fc.cells).flatten.all AV.frzB=true:=XQ _ (fun x=>by simp [AV.frzB]) l
theorem ZrA (l:List Vr):(l.map Vr.cells).flatten.all AV.frzB=true:=XQ _ (fun x=>by simp [AV.frzB]) l
theorem ZqF (l:List Rg):(l.map Rg.cells).flatten.all AV.frzB=true:=XQ _ (fun x=>by simp [AV.frzB]) l
theorem Zo6 (l:List ByteArray):(l.map fun s=>[St s]).flatten.all AV.frzB=true:=XQ _ (fun x=>by simp [AV.frzB]) l
theorem ZeQ {α:Type} {l:List α} {i:Nat} (h:i<l.length):l.take (i+1)=l.take i++[l[i]]:=List.take_succ_eq_append_getElem h
def Zpz (t sz:Nat) (H:List Ze) (es:List (List AV)) (x:AV) (H':List Ze):Prop:=∃L,H'=H++Yn t sz es::L∧x=Yo H.length es
theorem Zcx (m:Nat):∀ (l:List Ex),ZE l<m→ZE l≤2^40→∀ (H:List Ze),Zi Tryz.prog 112 [Ex.sl l] H (fun e H'=>e=.ret (Ex.sl l)∧H'=H):=by
 induction m with
 |zero=>intro l h;omega
 |succ m ih=>
  intro l hm hc H
  refine Ya fun hu _=>Zf (ZU (Yv 1 (Z0 Tryz.func112 rfl (by kernel_rfl) ?_)))
  have hlen:=Yy l
  have hrg:∀X L,(H++X::L)[H.length]?=some X:=fun X L=>by simp
  have hrs:∀X Y L,(H++X::L).set H.length Y=H++Y::L:=fun X Y L=>by simp
  refine Zc (fun f H'=>H'=H++[Ze.pend]∧f 0=Ex.sl l) (by kernel_rfl) ?_ ?_
  ·simp -dsimp
  rintro g _ ⟨rfl,g0⟩
  refine Zc (fun f H'=>H'=H++[Ze.pend]∧f 0=Ex.sl l∧f 3=Yp) (by kernel_rfl) ?_ ?_
  ·simp -dsimp [g0]
  clear g g0
  rintro g _ ⟨rfl,g0,g3⟩
  refine Z4 (fun f H'=>Zpz 73 4 H (l.map Ex.cells) (f 3) H') ?_ ?_
  rotate_left
  ·clear g g0 g3
   rintro g _ ⟨L,rfl,g3⟩
   refine Zk (by kernel_rfl) ?_
   simp -dsimp [g3]
   exact ZjV hu 4 73 _ L (Zhk l) ⟨rfl,rfl⟩
  refine Zc (fun f H'=>H'=H++[Ze.pend]∧f 6=Ex.sl l∧f 3=Yp∧f 7=I l.length∧f 8=I 0) (by kernel_rfl) ?_ ?_
  ·simp -dsimp [g0,g3]
  clear g g0 g3
  rintro g _ ⟨rfl,g6,g3,g7,g8⟩
  refine Z9 ?_
  refine Yd (fun (i:Nat) f H'=>Zpz 73 4 H ((l.map Ex.cells).take i) (f 3) H'∧f 6=Ex.sl l∧f 7=I l.length∧f 8=I i∧i≤l.length) (fun i=>l.length-i) 0
   ⟨⟨[],by simp [Yn],by rw [g3];exact (Xd _).symm⟩,g6,g7,g8,by omega⟩ ?_
  clear g g6 g3 g7 g8
  rintro i g _ ⟨⟨L,rfl,g3⟩,g6,g7,g8,hi⟩
  obtain⟨out,hout⟩:∃out,out=(l.map Ex.cells).take i:=⟨_,rfl⟩
  have hol:out.length=i:=by rw [hout];simp;omega
  rw [←hout] at g3 ⊢
  refine Zc (fun f H'=>H'=H++Yn 73 4 out::L∧f 6=Ex.sl l∧f 7=I l.length∧f 8=I i∧f 3=Yo H.length out∧f 9=Bo (decide ((i:Int)<l.length))) (by kernel_rfl) ?_ ?_
  ·simp -dsimp [g6,g7,g8,g3]
  clear g g6 g7 g8 g3
  rintro g _ ⟨rfl,g6,g7,g8,g3,g9⟩
  refine Zc (fun f H'=>H'=H++Yn 73 4 out::L∧f 6=Ex.sl l∧f 7=I l.length∧f 8=I i∧f 3=Yo H.length out∧i<l.length) (by kernel_rfl) ?_ ?_
  ·simp -dsimp [g9]
   refine Zb (fun hlt=>?_) (fun hlt=>?_)
   ·simp -dsimp [g6,g7,g8,g3]
    omega
   ·have:out=l.map Ex.cells:=by rw [hout];exact List.take_of_length_le (by simp;omega)
    simp -dsimp [g3]
    exact⟨L,by rw [this],by rw [this]⟩
  clear g g6 g7 g8 g3 g9
  rintro g _ ⟨rfl,g6,g7,g8,g3,hlt⟩
  have hgx:=JN hlt
  have hcx:=Ex.count_eq l[i]
  have hlx:l[i]?=some l[i]:=List.getElem?_eq_getElem hlt
  have htk:(l.map Ex.cells).take (i+1)=out++[l[i].cells]:=by rw [ZeQ (by simpa using hlt),List.getElem_map,hout]
  obtain⟨x,hx⟩:∃x,x=l[i]:=⟨_,rfl⟩
  rw [←hx] at hgx hcx hlx htk
  clear hx hout
  have cr:=fun H=>ih x.args (by omega) (by omega) H
  simp only [Ex.cells_eq] at htk
  refine Z4 (fun f H'=>Zpz 73 4 H ((l.map Ex.cells).take (i+1)) (f 3) H'∧f 6=Ex.sl l∧f 7=I l.length∧f 8=I i) ?_ ?_
  rotate_left
  ·clear g g6 g7 g8 g3
   rintro g H' ⟨ho,g6,g7,g8⟩
   replace ho:=YE.mk ho
   refine Zk (by kernel_rfl) ?_
   simp -dsimp [g6,g7,g8]
   exact⟨i+1,by omega,ho.out,ZC (by omega),by omega⟩
  refine Z9 ?_
  rw [htk]
  refine YH (fun d=>d==19) (fun _=>none) (by kernel_rfl) ?_
  simp -dsimp [g6,g7,g8,g3,hlx]
  refine Za (cr _) ?_
  simp -dsimp [g6,g7,g8,g3,hlx]
  refine ZD (k:=H.length) (es:=out) (by rw [hrg]) (by simp;omega) (by simp;omega) ?_
  rw [hrs]
  simp -dsimp [g6,g7,g8,g3,hlx]
  exact⟨_,rfl,rfl⟩
end Go.Proofs
namespace Go.Proofs
open Go.Mu
theorem Zju (l:List Vr) (hl:l.length≤2^40) (H:List Ze):Zi Tryz.prog 68 [Vr.sl l] H (fun e H'=>e=.ret (Vr.sl l)∧H'=H):=by
 refine Ya fun hu _=>Zf (ZU (J4 (hn:=fun d=>d==5||d==7) (od:=fun _=>none) Tryz.func68 rfl (by kernel_rfl) ?_))
 have fin:∀L,Zao (ZW H fun e H'=>e=AE.ret (Vr.sl l)∧H'=H) (.ret (.hs H.length 0 l.length l.length)) (H++.row 120 4 (l.map Vr.cells)::L):=fun L=>by
  refine ZR (.refl _) ?_
  refine Zav hu 4 _ _ (ZrA l) ?_ ?_
  ·simp [AV.frz,AV.under]
  ·have:(AV.hs H.length 0 l.length l.length).frz H.length 4 (l.map Vr.cells)=Vr.sl l:=by
    simp [AV.frz]
    exact List.take_of_length_le (by simp)
   rw [this]
   exact⟨rfl,rfl⟩
 simp -dsimp
 refine ZdZ (fun hne=>?_) (fun he=>⟨?_,?_⟩)
 ·simp -dsimp
  refine Jc (es:=[]) (by simp) rfl rfl (by simp;omega) (by simp;omega) ?_
  simp -dsimp
  simpa using fin []
 ·have:l=[]:=by simpa using he
  simp -dsimp
  subst this
  refine ZR (.nil 4) ?_
  exact Z7 rfl ⟨rfl,rfl⟩
 ·simp -dsimp
  refine Jc (es:=[]) (by simp) rfl rfl (by simp;omega) (by simp;omega) ?_
  simp -dsimp
  simpa using fin []
theorem ZoG (l:List Rg) (hl:l.length≤2^40) (H:List Ze):Zi Tryz.prog 67 [Rg.sl l] H (fun e H'=>e=.ret (Rg.sl l)∧H'=H):=by
 refine Ya fun hu _=>Zf (ZU (J4 (hn:=fun d=>d==5||d==7) (od:=fun _=>none) Tryz.func67 rfl (by kernel_rfl) ?_))
 have fin:∀L,Zao (ZW H fun e H'=>e=AE.ret (Rg.sl l)∧H'=H) (.ret (.hs H.length 0 l.length l.length)) (H++.row 96 4 (l.map Rg.cells)::L):=fun L=>by
  refine ZR (.refl _) ?_
  refine Zav hu 4 _ _ (ZqF l) ?_ ?_
  ·simp [AV.frz,AV.under]
  ·have:(AV.hs H.length 0 l.length l.length).frz H.length 4 (l.map Rg.cells)=Rg.sl l:=by
    simp [AV.frz]
    exact List.take_of_length_le (by simp)
   rw [this]
   exact⟨rfl,rfl⟩
 simp -dsimp
 refine ZdZ (fun hne=>?_) (fun he=>⟨?_,?_⟩)
 ·simp -dsimp
  refine Jc (es:=[]) (by simp) rfl rfl (by simp;omega) (by simp;omega) ?_
  simp -dsimp
  simpa using fin []
 ·have:l=[]:=by simpa using he
  simp -dsimp
  subst this
  refine ZR (.nil 4) ?_
  exact Z7 rfl ⟨rfl,rfl⟩
 ·simp -dsimp
  refine Jc (es:=[]) (by simp) rfl rfl (by simp;omega) (by simp;omega) ?_
  simp -dsimp
  simpa using fin []
theorem ZjG (l:List ByteArray) (hl:l.length≤2^40) (H:List Ze):Zi Tryz.prog 69 [St.sl l] H (fun e H'=>e=.ret (St.sl l)∧H'=H):=by
 refine Ya fun hu _=>Zf (ZU (J4 (hn:=fun d=>d==5||d==7) (od:=fun _=>none) Tryz.func69 rfl (by kernel_rfl) ?_))
 have fin:∀L,Zao (ZW H fun e H'=>e=AE.ret (St.sl l)∧H'=H) (.ret (.hs H.length 0 l.length l.length)) (H++.row 9 1 (l.map (fun s=>[St s]))::L):=fun L=>by
  refine ZR (.refl _) ?_
  refine Zav hu 1 _ _ (Zo6 l) ?_ ?_
  ·simp [AV.frz,AV.under]
  ·have:(AV.hs H.length 0 l.length l.length).frz H.length 1 (l.map (fun s=>[St s]))=St.sl l:=by
    simp [AV.frz]
    exact List.take_of_length_le (by simp)
   rw [this]
   exact⟨rfl,rfl⟩
 simp -dsimp
 refine ZdZ (fun hne=>?_) (fun he=>⟨?_,?_⟩)
 ·simp -dsimp
  refine Jc (es:=[]) (by simp) rfl rfl (by simp;omega) (by simp;omega) ?_
  simp -dsimp
  simpa using fin []
 ·have:l=[]:=by simpa using he
  simp -dsimp
  subst this
  refine ZR (.nil 1) ?_
  exact Z7 rfl ⟨rfl,rfl⟩
 ·simp -dsimp
  refine Jc (es:=[]) (by simp) rfl rfl (by simp;omega) (by simp;omega) ?_
  simp -dsimp
  simpa using fin []
end Go.Proofs
namespace Go.Proofs
open Go.Mu
theorem Zjk (m:Nat):∀ (l:List Sm),Zh l<m→Zh l≤2^36→∀ (H:List Ze),Zi Tryz.prog 70 [Sm.sl l] H (fun e H'=>e=.ret (Sm.sl l)∧H'=H):=by
 induction m with
 |zero=>intro l h;omega
 |succ m ih=>
  intro l hm hc H
  refine Ya fun hu _=>Zf (ZU (Yv 1 (Z0 Tryz.func70 rfl (by kernel_rfl) ?_)))
  have hlen:=Yi l
  have hrg:∀X L,(H++X::L)[H.length]?=some X:=fun X L=>by simp
  have hrs:∀X Y L,(H++X::L).set H.length Y=H++Y::L:=fun X Y L=>by simp
  refine Zc (fun f H'=>H'=H++[Ze.pend]∧f 0=Sm.sl l) (by kernel_rfl) ?_ ?_
  ·simp -dsimp
  rintro g _ ⟨rfl,g0⟩
  refine Zc (fun f H'=>H'=H++[Ze.pend]∧f 0=Sm.sl l∧f 3=Yp) (by kernel_rfl) ?_ ?_
  ·simp -dsimp [g0]
  clear g g0
  rintro g _ ⟨rfl,g0,g3⟩
  refine Z4 (fun f H'=>Zpz 82 16 H (l.map Sm.cells) (f 3) H') ?_ ?_
  rotate_left
  ·clear g g0 g3
   rintro g _ ⟨L,rfl,g3⟩
   refine Zk (by kernel_rfl) ?_
   simp -dsimp [g3]
   exact ZjV hu 16 82 _ L (ZdD l) ⟨rfl,rfl⟩
  refine Zc (fun f H'=>H'=H++[Ze.pend]∧f 6=Sm.sl l∧f 3=Yp∧f 7=I l.length∧f 8=I 0) (by kernel_rfl) ?_ ?_
  ·simp -dsimp [g0,g3]
  clear g g0 g3
  rintro g _ ⟨rfl,g6,g3,g7,g8⟩
  refine Z9 ?_
  refine Yd (fun (i:Nat) f H'=>Zpz 82 16 H ((l.map Sm.cells).take i) (f 3) H'∧f 6=Sm.sl l∧f 7=I l.length∧f 8=I i∧i≤l.length) (fun i=>l.length-i) 0
   ⟨⟨[],by simp [Yn],by rw [g3];exact (Xd _).symm⟩,g6,g7,g8,by omega⟩ ?_
  clear g g6 g3 g7 g8
  rintro i g _ ⟨⟨L,rfl,g3⟩,g6,g7,g8,hi⟩
  obtain⟨out,hout⟩:∃out,out=(l.map Sm.cells).take i:=⟨_,rfl⟩
  have hol:out.length=i:=by rw [hout];simp;omega
  rw [←hout] at g3 ⊢
  refine Zc (fun f H'=>H'=H++Yn 82 16 out::L∧f 6=Sm.sl l∧f 7=I l.length∧f 8=I i∧f 3=Yo H.length out∧f 9=Bo (decide ((i:Int)<l.length))) (by kernel_rfl) ?_ ?_
  ·simp -dsimp [g6,g7,g8,g3]
  clear g g6 g7 g8 g3
  rintro g _ ⟨rfl,g6,g7,g8,g3,g9⟩
  refine Zc (fun f H'=>H'=H++Yn 82 16 out::L∧f 6=Sm.sl l∧f 7=I l.length∧f 8=I i∧f 3=Yo H.length out∧i<l.length) (by kernel_rfl) ?_ ?_
  ·simp -dsimp [g9]
   refine Zb (fun hlt=>?_) (fun hlt=>?_)
   ·simp -dsimp [g6,g7,g8,g3]
    omega
   ·have:out=l.map Sm.cells:=by rw [hout];exact List.take_of_length_le (by simp;omega)
    simp -dsimp [g3]
    exact⟨L,by rw [this],by rw [this]⟩
  clear g g6 g7 g8 g3 g9
  rintro g _ ⟨rfl,g6,g7,g8,g3,hlt⟩
  have hgx:=JY hlt
  have hcx:=Sm.count_eq l[i]
  have hlx:l[i]?=some l[i]:=List.getElem?_eq_getElem hlt
  have htk:(l.map Sm.cells).take (i+1)=out++[l[i].cells]:=by rw [ZeQ (by simpa using hlt),List.getElem_map,hout]
  obtain⟨x,hx⟩:∃x,x=l[i]:=⟨_,rfl⟩
  rw [←hx] at hgx hcx hlx htk
  clear hx hout
  have hxa:=Yy x.args
  have c1:=fun H=>ZjG x.names (by omega) H
  have c2:=fun H=>Zcx _ x.e.args (Nat.lt_succ_self _) (by have:=Ex.count_eq x.e;omega) H
  have c3:=fun H=>Zcx _ x.a.args (Nat.lt_succ_self _) (by have:=Ex.count_eq x.a;omega) H
  have c4:=fun H=>Zcx _ x.args (Nat.lt_succ_self _) (by omega) H
  have c5:=fun H=>ih x.body (by omega) (by omega) H
  have c6:=fun H=>ih x.els (by omega) (by omega) H
  simp only [Sm.cells_eq] at htk
  refine Z4 (fun f H'=>Zpz 82 16 H ((l.map Sm.cells).take (i+1)) (f 3) H'∧f 6=Sm.sl l∧f 7=I l.length∧f 8=I i) ?_ ?_
  rotate_left
  ·clear g g6 g7 g8 g3
   rintro g H' ⟨ho,g6,g7,g8⟩
   replace ho:=YE.mk ho
   refine Zk (by kernel_rfl) ?_
   simp -dsimp [g6,g7,g8]
   exact⟨i+1,by omega,ho.out,ZC (by omega),by omega⟩
  refine Z9 ?_
  rw [htk]
  obtain⟨bX,hbX⟩:∃bX,bX=Ze.box 82 x.cells:=⟨_,rfl⟩
  simp only [Sm.cells_eq] at hbX
  obtain⟨V,hV⟩:∃V,V=H++Yn 82 16 out::(L++[bX]):=⟨_,rfl⟩
  obtain⟨u,hu2⟩:∃u,u=H.length+(L.length+1):=⟨_,rfl⟩
  have hVu:V[u]?=some (.box 82 [I x.kind,St x.name,St.sl x.names,I x.e.op,U x.e.word,St x.e.name,Ex.sl x.e.args,I x.a.op,U x.a.word,St x.a.name,Ex.sl x.a.args,Ex.sl x.args,U x.low,U x.high,Sm.sl x.body,Sm.sl x.els]):=by
   rw [hV,hu2,List.getElem?_append_right (by omega),Nat.add_sub_cancel_left,List.getElem?_cons_succ,List.getElem?_append_right (Nat.le_refl _),Nat.sub_self,hbX];rfl
  have hVs:=Zbm hVu
  refine Zc (fun f H'=>V=H'∧f 6=Sm.sl l∧f 7=I l.length∧f 8=I i∧f 3=Yo H.length out∧f 5=.bp u 0) (by kernel_rfl) ?_ ?_
  ·simp -dsimp [g6,g7,g8,g3,hlx,hV,hbX,hu2]
  clear g g6 g7 g8 g3
  rintro g _ ⟨rfl,g6,g7,g8,g3,g5⟩
  refine Zc (fun f H'=>V=H'∧f 6=Sm.sl l∧f 7=I l.length∧f 8=I i∧f 3=Yo H.length out∧f 5=.bp u 0) (by kernel_rfl) ?_ ?_
  ·simp -dsimp [g6,g7,g8,g3,g5,hVu]
   refine Za (c1 _) ?_
   simp -dsimp [g6,g7,g8,g3,g5,hVu,hVs]
  clear g g6 g7 g8 g3 g5
  rintro g _ ⟨rfl,g6,g7,g8,g3,g5⟩
  refine Zc (fun f H'=>V=H'∧f 6=Sm.sl l∧f 7=I l.length∧f 8=I i∧f 3=Yo H.length out∧f 5=.bp u 0) (by kernel_rfl) ?_ ?_
  ·simp -dsimp [g6,g7,g8,g3,g5,hVu]
   refine Zd (c2 _) ?_
   simp -dsimp [g6,g7,g8,g3,g5,hVu]
   refine Zd (c3 _) ?_
   simp -dsimp [g6,g7,g8,g3,g5,hVu]
   refine Zd (c4 _) ?_
   simp -dsimp [g6,g7,g8,g3,g5,hVu,hVs]
  clear g g6 g7 g8 g3 g5
  rintro g _ ⟨rfl,g6,g7,g8,g3,g5⟩
  refine Zc (fun f H'=>V=H'∧f 6=Sm.sl l∧f 7=I l.length∧f 8=I i∧f 3=Yo H.length out∧f 5=.bp u 0) (by kernel_rfl) ?_ ?_
  ·simp -dsimp [g6,g7,g8,g3,g5,hVu]
   refine Zd (c5 _) ?_
   simp -dsimp [g6,g7,g8,g3,g5,hVu]
   refine Zd (c6 _) ?_
   simp -dsimp [g6,g7,g8,g3,g5,hVu,hVs]
  clear g g6 g7 g8 g3 g5
  rintro g _ ⟨rfl,g6,g7,g8,g3,g5⟩
  refine YH (fun d=>d==43) (fun _=>none) (by kernel_rfl) ?_
  simp -dsimp [g6,g7,g8,g3,g5,hVu]
  refine ZD (k:=H.length) (es:=out) (by rw [hV,hrg]) (by simp;omega) (by simp;omega) ?_
  rw [hV,hrs]
  simp -dsimp [g6,g7,g8,g3]
  exact⟨_,rfl,rfl⟩
end Go.Proofs
namespace Go.Proofs
open Go.Mu
structure Pg.OkC (p:Pg):Prop where
 regions:p.regions.length≤2^36
 funcs:p.funcs.length≤2^36
 params:∀f∈p.funcs,f.params.length≤2^36
 vars:∀f∈p.funcs,f.vars.length≤2^36
 rets:∀f∈p.funcs,f.rets.length≤2^36
 body:∀f∈p.funcs,Zh f.body≤2^36
mutual
theorem ZbT {n m:Nat} (h:n≤m):∀ (a:AV),a.under n=true→a.under m=true
 | .v _,_=>rfl
 | .vs _ _,_=>rfl
 | .vx _ _,_=>rfl
 | .vp _,_=>rfl
 | .bp k _,hu=>by simp only [AV.under,decide_eq_true_eq] at hu ⊢;omega
 | .rp k _ _ _,hu=>by simp only [AV.under,decide_eq_true_eq] at hu ⊢;omega
 | .hs k _ _ _,hu=>by simp only [AV.under,decide_eq_true_eq] at hu ⊢;omega
 | .hm k,hu=>by simp only [AV.under,decide_eq_true_eq] at hu ⊢;omega
 | .hg k,hu=>by simp only [AV.under,decide_eq_true_eq] at hu ⊢;omega
 | .hi k,hu=>by simp only [AV.under,decide_eq_true_eq] at hu ⊢;omega
 | .yl k,hu=>by simp only [AV.under,decide_eq_true_eq] at hu ⊢;omega
 | .fn _ a b,hu=>by simp only [AV.under,Bool.and_eq_true] at hu ⊢;exact⟨XR h a hu.1,XR h b hu.2⟩
 | .ifc _ x,hu=>by simp only [AV.under] at hu ⊢;exact ZbT h x hu
 | .agg a,hu=>by simp only [AV.under] at hu ⊢;exact XR h a hu
 | .tup a,hu=>by simp only [AV.under] at hu ⊢;exact XR h a hu
 | .junk,_=>rfl
theorem XR {n m:Nat} (h:n≤m):∀ (l:List AV),YZ n l=true→YZ m l=true
 |[],_=>rfl
 |a::l,hu=>by simp only [YZ,Bool.and_eq_true] at hu ⊢;exact⟨ZbT h a hu.1,XR h l hu.2⟩
end
theorem Zhz {n m:Nat} (h:n≤m) (b:Ze) (hu:b.under n=true):b.under m=true:=by
 cases b with
 |box t cs=>exact XR h cs hu
 |row t z rs=>
  simp only [Ze.under,List.all_eq_true] at hu ⊢
  exact fun r hr=>XR h r (hu r hr)
 |map ms=>
  simp only [Ze.under,List.all_eq_true] at hu ⊢
  exact fun p hp=>ZbT h p.2 (hu p hp)
 |mapg ms=>
  simp only [Ze.under,List.all_eq_true] at hu ⊢
  exact fun p hp=>ZbT h p.2 (hu p hp)
 |lp st pend n f ps assign body=>
  simp only [Ze.under,List.all_eq_true,List.mem_range] at hu ⊢
  exact fun t ht=>ZbT h _ (hu t ht)
 |it km q seen=>
  cases km with
  |none=>rfl
  |some k=>simp only [Ze.under,decide_eq_true_eq] at hu ⊢;omega
 |_=>rfl
theorem Zln {n m:Nat} {A B:List Ze} (h:n≤m) (ha:YC n A=true) (hb:∀b∈B,b.under m=true):YC m (A++B)=true:=by
 simp only [YC,List.all_eq_true,List.mem_append] at ha ⊢
 rintro b (hm|hm)
 ·exact Zhz h b (ha b hm)
 ·exact hb b hm
abbrev fcB (l:List Fc):Ze:=Yn 56 5 (l.map Fc.cells)
abbrev fcS (k:Nat) (l:List Fc):AV:=Yo k (l.map Fc.cells)
theorem ZjX (p:Pg) (hp:p.OkC) (H:List Ze):Zi Tryz.prog 38 [.agg p.cells] H (fun e H'=>e=.ret (.agg [Rg.sl p.regions,fcS H.length p.funcs])∧H'=H++[fcB p.funcs]):=by
 refine Ya fun hu _=>Zf (Yv 1 (Z0 Tryz.func38 rfl (by kernel_rfl) ?_))
 have hpr:=hp.regions
 have hpf:=hp.funcs
 obtain⟨b1,hb1⟩:∃b1,b1=Ze.box 25 [Rg.sl p.regions,Fc.sl p.funcs]:=⟨_,rfl⟩
 obtain⟨b2,hb2⟩:∃b2,b2=Ze.box 25 [Yp,Yp]:=⟨_,rfl⟩
 obtain⟨M,hM⟩:∃M:List (List AV)→List Ze→List Ze,M=fun out R=>H++Yn 56 5 out::b1::b2::.box 25 [Rg.sl p.regions,Yo H.length out]::R:=⟨_,rfl⟩
 have hMe:∀out R,M out R=H++Yn 56 5 out::b1::b2::.box 25 [Rg.sl p.regions,Yo H.length out]::R:=fun out R=>by rw [hM]
 have hMa:∀out R X,M out R++X=M out (R++X):=fun out R X=>by rw [hMe,hMe];simp
 have hM0:∀out R,(M out R)[H.length]?=some (Yn 56 5 out):=fun out R=>by rw [hMe];simp
 have hM1:∀out R,(M out R)[H.length+1]?=some (.box 25 [Rg.sl p.regions,Fc.sl p.funcs]):=fun out R=>by rw [hMe,←hb1];simp
 have hM2:∀out R,(M out R)[H.length+2]?=some b2:=fun out R=>by rw [hMe];simp
 have hM3:∀out R,(M out R)[H.length+3]?=some (.box 25 [Rg.sl p.regions,Yo H.length out]):=fun out R=>by rw [hMe];simp
 have hMs:∀out R out',((M out R).set H.length (Yn 56 5 out')).set (H.length+3) (.box 25 [Rg.sl p.regions,Yo H.length out'])=M out' R:=fun out R out'=>by rw [hMe,hMe];simp
 have hMg:∀out R X,((M out R).set H.length X)[H.length+3]?=some (.box 25 [Rg.sl p.regions,Yo H.length out]):=fun out R X=>by rw [List.getElem?_set_ne (by omega)];exact hM3 _ _
 have hMl:∀out R,(M out R).length=H.length+4+R.length:=fun out R=>by rw [hMe];simp;omega
 refine Zc (fun f H'=>H'=H++[Ze.pend,b1,b2]∧f 1=.bp (H.length+1) 0∧f 2=.bp (H.length+2) 0) (by kernel_rfl) ?_ ?_
 ·rw [hb1,hb2]
  simp -dsimp
 rintro g _ ⟨rfl,g1,g2⟩
 refine Zc (fun f H'=>H'=M [] []∧f 1=.bp (H.length+1) 0∧f 2=.bp (H.length+2) 0∧f 3=.bp (H.length+3) 0) (by kernel_rfl) ?_ ?_
 ·have cr:=fun H=>ZoG p.regions (by omega) H
  have hg:(H++[Ze.pend,b1,b2])[H.length+1]?=some (.box 25 [Rg.sl p.regions,Fc.sl p.funcs]):=by rw [←hb1];simp
  obtain⟨N,hN⟩:∃N,N=H++[Ze.pend,b1,b2]:=⟨_,rfl⟩
  have hNl:N.length=H.length+3:=by rw [hN];simp
  have hNM:N++[.box 25 [Rg.sl p.regions,Yp]]=M [] []:=by rw [hMe,hN];simp [Yn]
  rw [←hN] at hg ⊢
  clear hN
  simp -dsimp [g1,g2,hg]
  refine Za (cr _) ?_
  simp -dsimp [g1,g2,hg,hNl]
  exact hNM
 clear g g1 g2
 rintro g _ ⟨rfl,g1,g2,g3⟩
 refine Z4 (fun f H'=>(∃R,H'=M (p.funcs.map Fc.cells) R)∧f 2=.bp (H.length+2) 0∧f 3=.bp (H.length+3) 0) ?_ ?_
 rotate_left
 ·clear g g1 g2 g3
  rintro g _ ⟨⟨R,rfl⟩,g2,g3⟩
  refine Zk (by kernel_rfl) ?_
  have hMr:∀out R X,((M out R).set (H.length+2) X)[H.length+2]?=some X:=fun out R X=>by
   rw [List.getElem?_set_self (by rw [hMl];omega)]
  simp -dsimp [g2,g3,hM3,hM2,hb2,hMr]
  have hme:∀out X,(M out R).set (H.length+2) X=(H++[Yn 56 5 out])++(b1::X::.box 25 [Rg.sl p.regions,Yo H.length out]::R):=fun out X=>by rw [hMe];simp
  rw [hme]
  refine Zer (by simp) (fun h=>Zln (n:=H.length) (by simp) hu (fun b hb=>by
   obtain rfl:=List.mem_singleton.1 hb
   exact YR (Zi0 p.funcs))) (by
    have:=ZeS (H++[Yn 56 5 (p.funcs.map Fc.cells)]).length H.length (p.funcs.map Fc.cells) (by simp)
    simp only [AV.under,YZ,this];rfl) ⟨rfl,rfl⟩
 refine Zc (fun f H'=>H'=M [] []∧f 2=.bp (H.length+2) 0∧f 3=.bp (H.length+3) 0∧f 11=Fc.sl p.funcs∧f 12=I p.funcs.length∧f 13=I 0) (by kernel_rfl) ?_ ?_
 ·simp -dsimp [g1,g2,g3,hM1]
 clear g g1 g2 g3
 rintro g _ ⟨rfl,g2,g3,g11,g12,g13⟩
 refine Z9 ?_
 refine Yd (fun (i:Nat) f H'=>(∃R,H'=M ((p.funcs.map Fc.cells).take i) R)∧f 2=.bp (H.length+2) 0∧f 3=.bp (H.length+3) 0∧f 11=Fc.sl p.funcs∧f 12=I p.funcs.length∧f 13=I i∧i≤p.funcs.length) (fun i=>p.funcs.length-i) 0
  ⟨⟨[],by simp⟩,g2,g3,g11,g12,g13,by omega⟩ ?_
 clear g g2 g3 g11 g12 g13
 rintro i g _ ⟨⟨R,rfl⟩,g2,g3,g11,g12,g13,hi⟩
 obtain⟨out,hout⟩:∃out,out=(p.funcs.map Fc.cells).take i:=⟨_,rfl⟩
 have hol:out.length=i:=by rw [hout];simp;omega
 rw [←hout]
 refine Zc (fun f H'=>H'=M out R∧f 2=.bp (H.length+2) 0∧f 3=.bp (H.length+3) 0∧f 11=Fc.sl p.funcs∧f 12=I p.funcs.length∧f 13=I i∧f 14=Bo (decide ((i:Int)<p.funcs.length))) (by kernel_rfl) ?_ ?_
 ·simp -dsimp [g2,g3,g11,g12,g13]
 clear g g2 g3 g11 g12 g13
 rintro g _ ⟨rfl,g2,g3,g11,g12,g13,g14⟩
 refine Zc (fun f H'=>H'=M out R∧f 2=.bp (H.length+2) 0∧f 3=.bp (H.length+3) 0∧f 11=Fc.sl p.funcs∧f 12=I p.funcs.length∧f 13=I i∧i<p.funcs.length) (by kernel_rfl) ?_ ?_
 ·simp -dsimp [g14]
  refine Zb (fun hlt=>?_) (fun hlt=>?_)
  ·simp -dsimp [g2,g3,g11,g12,g13]
   omega
  ·have:out=p.funcs.map Fc.cells:=by rw [hout];exact List.take_of_length_le (by simp;omega)
   simp -dsimp [g2,g3]
   exact⟨R,by rw [this]⟩
 clear g g2 g3 g11 g12 g13 g14
 rintro g _ ⟨rfl,g2,g3,g11,g12,g13,hlt⟩
 have hlx:p.funcs[i]?=some p.funcs[i]:=List.getElem?_eq_getElem hlt
 have hmx:=List.getElem_mem hlt
 have htk:(p.funcs.map Fc.cells).take (i+1)=out++[p.funcs[i].cells]:=by rw [ZeQ (by simpa using hlt),List.getElem_map,hout]
 obtain⟨x,hx⟩:∃x,x=p.funcs[i]:=⟨_,rfl⟩
 rw [←hx] at hlx htk hmx
 clear hx hout
 simp only [Fc.cells] at htk
 have c1:=fun H=>Zju x.params (by have:=hp.params x hmx;omega) H
 have c2:=fun H=>Zju x.vars (by have:=hp.vars x hmx;omega) H
 have c3:=fun H=>ZjG x.rets (by have:=hp.rets x hmx;omega) H
 have c4:=fun H=>Zjk _ x.body (Nat.lt_succ_self _) (hp.body x hmx) H
 refine Z4 (fun f H'=>(∃R,H'=M ((p.funcs.map Fc.cells).take (i+1)) R)∧f 2=.bp (H.length+2) 0∧f 3=.bp (H.length+3) 0∧f 11=Fc.sl p.funcs∧f 12=I p.funcs.length∧f 13=I i) ?_ ?_
 rotate_left
 ·clear g g2 g3 g11 g12 g13
  rintro g _ ⟨⟨R,rfl⟩,g2,g3,g11,g12,g13⟩
  refine Zk (by kernel_rfl) ?_
  simp -dsimp [g2,g3,g11,g12,g13]
  exact⟨i+1,by omega,⟨R,rfl⟩,ZC (by omega),by omega⟩
 refine Z9 ?_
 rw [htk]
 obtain⟨u,hu2⟩:∃u,u=(M out R).length:=⟨_,rfl⟩
 obtain⟨bF,hbF⟩:∃bF,bF=Ze.box 56 [St x.name,Vr.sl x.params,Vr.sl x.vars,St.sl x.rets,Sm.sl x.body]:=⟨_,rfl⟩
 obtain⟨R',hR'⟩:∃R',R'=R++[bF]:=⟨_,rfl⟩
 have hVu:(M out R')[u]?=some (.box 56 [St x.name,Vr.sl x.params,Vr.sl x.vars,St.sl x.rets,Sm.sl x.body]):=by
  rw [hR',←hMa,hu2,List.getElem?_append_right (Nat.le_refl _),Nat.sub_self,←hbF];rfl
 have hVs:=Zbm hVu
 refine Zc (fun f H'=>H'=M out R'∧f 2=.bp (H.length+2) 0∧f 3=.bp (H.length+3) 0∧f 11=Fc.sl p.funcs∧f 12=I p.funcs.length∧f 13=I i∧f 5=.bp u 0) (by kernel_rfl) ?_ ?_
 ·rw [hR',←hMa,hbF,hu2]
  simp -dsimp [g2,g3,g11,g12,g13,hlx]
 clear g g2 g3 g11 g12 g13
 rintro g _ ⟨rfl,g2,g3,g11,g12,g13,g5⟩
 refine Zc (fun f H'=>H'=M out R'∧f 2=.bp (H.length+2) 0∧f 3=.bp (H.length+3) 0∧f 11=Fc.sl p.funcs∧f 12=I p.funcs.length∧f 13=I i∧f 5=.bp u 0) (by kernel_rfl) ?_ ?_
 ·simp -dsimp [g2,g3,g11,g12,g13,g5,hVu]
  refine Zd (c1 _) ?_
  simp -dsimp [g2,g3,g11,g12,g13,g5,hVu]
  refine Zd (c2 _) ?_
  simp -dsimp [g2,g3,g11,g12,g13,g5,hVu]
  refine Zd (c3 _) ?_
  simp -dsimp [g2,g3,g11,g12,g13,g5,hVu]
  refine Zd (c4 _) ?_
  simp -dsimp [g2,g3,g11,g12,g13,g5,hVu,hVs]
 clear g g2 g3 g11 g12 g13 g5
 rintro g _ ⟨rfl,g2,g3,g11,g12,g13,g5⟩
 refine YH (fun d=>d==37) (fun _=>none) (by kernel_rfl) ?_
 simp -dsimp [g2,g3,g11,g12,g13,g5,hVu,hM3]
 refine ZD (k:=H.length) (es:=out) (by rw [hM0]) (by simp;omega) (by simp;omega) ?_
 simp -dsimp [g2,g3,g11,g12,g13,hMg,hMs]
 exact⟨R',rfl⟩
end Go.Proofs
namespace Go.Proofs.YtpibcbilkpoomaaGreat.Lift
open Go.ChangeShapes Go.WideShapes Go.ChangeAt Go.RowKit Go.Mu Go.Proofs
section
variable {H:Type} {enc:TypeId×Value→H} {cx:Cx}
theorem Zek (t:TypeId) (h:Tryz.prog.underlying t=some (.int .i64)) (n:Nat):Xk enc Tryz.prog cx n t (fun i:Int=>[I i]) (fun _=>1) (fun i=>inI i=true):=(Zj1 h).map id (fun _=>rfl) (fun _=>Nat.le_refl _) (fun i hi=>by simp only [IntKind.min,IntKind.max] at hi;simp only [inI,id,Bool.and_eq_true,decide_eq_true_eq];exact hi)
theorem Zk4 (n:Nat):Xk enc Tryz.prog cx n 48 (fun i:Int=>[U i]) (fun _=>1) (fun i=>inU i=true):=(Zj1 (by kernel_rfl)).map id (fun _=>rfl) (fun _=>Nat.le_refl _) (fun i hi=>by simp only [IntKind.min,IntKind.max] at hi;simp only [inU,id,Bool.and_eq_true,decide_eq_true_eq];exact hi)
theorem ZnH (n:Nat):Xk enc Tryz.prog cx n 4 (fun b:Bool=>[Bo b]) (fun _=>1) (fun _=>True):=Zm7 (by kernel_rfl)
theorem Zee (n:Nat):Xk enc Tryz.prog cx n 9 (fun s:ByteArray=>[St s]) (fun s=>s.size+1) (fun _=>True):=ZkQ (by kernel_rfl)
theorem ZbQ {α:Type} {size:α→Nat} {l:List α} {a:α} (h:a∈l):size a≤Xl size l:=by
 induction l with
 |nil=>cases h
 |cons b l ih=>
  simp only [Xl,List.map_cons,List.sum_cons] at ih ⊢
  rcases List.mem_cons.1 h with rfl|h
  ·omega
  ·have:=ih h;omega
theorem Zpo (l:List Ex):Xl Ex.count l=ZE l:=by
 induction l with
 |nil=>rfl
 |cons e l ih=>simp only [Xl,List.map_cons,List.sum_cons,ZE] at ih ⊢;omega
theorem Zo3 (l:List Sm):Xl Sm.count l=Zh l:=by
 induction l with
 |nil=>rfl
 |cons e l ih=>simp only [Xl,List.map_cons,List.sum_cons,Zh] at ih ⊢;omega
theorem ZhB (hΦ:∀b,b<cx.w.heap.size→cx.Φ b):∀n,Xk enc Tryz.prog cx n 54 (fun l:List ByteArray=>[St.sl l]) (Xl fun s=>s.size+1) (fun _=>True)
 |0=>JE
 |n+1=>(Za7 (e:=9) (sz:=1) (by kernel_rfl) (by kernel_rfl) (by omega) hΦ (Zee n)).map id (fun _=>rfl) (fun l=>Nat.le_succ _) (fun _ _=>trivial)
theorem Zii (hΦ:∀b,b<cx.w.heap.size→cx.Φ b):∀n,Xk enc Tryz.prog cx n 73 Ex.cells Ex.count (fun e=>e.rng=true)∧Xk enc Tryz.prog cx n 71 (fun l:List Ex=>[Ex.sl l]) ZE (fun l=>Xz l=true)
 |0=>⟨JE,JE⟩
 |n+1=>by
  obtain⟨h1,h2⟩:=Zii hΦ n
  refine⟨(Zab (fl:=[(70,0,1),(48,1,1),(9,2,1),(71,3,1)]) (by kernel_rfl) (by kernel_rfl)
   (ZV (Zek 70 (by kernel_rfl) n) (ZV (Zk4 n) (ZV (Zee n) (ZV h2 Zbc))))).map (fun (a0,a1,a2,a3,_)=>Ex.mk a0 a1 a2 a3) (fun _=>Ex.cells_eq _) (fun ⟨a0,a1,a2,a3,_⟩=>by simp only [Ex.count];omega) (fun ⟨a0,a1,a2,a3,_⟩ ⟨h0,h1,_,h3,_⟩=>by rw [Ex.rng,h0,h1,h3];rfl),?_⟩
  exact (Za7 (e:=73) (sz:=4) (by kernel_rfl) (by kernel_rfl) (by omega) hΦ h1).map id (fun _=>rfl) (fun l=>by rw [Zpo];exact Nat.le_succ _) (fun l h=>Zsc h)
theorem Zi5 (hΦ:∀b,b<cx.w.heap.size→cx.Φ b):∀n,Xk enc Tryz.prog cx n 82 Sm.cells Sm.count (fun e=>e.rng=true)∧Xk enc Tryz.prog cx n 52 (fun l:List Sm=>[Sm.sl l]) Zh (fun l=>Jh l=true)
 |0=>⟨JE,JE⟩
 |n+1=>by
  obtain⟨h1,h2⟩:=Zi5 hΦ n
  obtain⟨e1,e2⟩:=Zii (enc:=enc) hΦ n
  refine⟨(Zab (fl:=[(80,0,1),(9,1,1),(54,2,1),(73,3,4),(73,7,4),(71,11,1),(48,12,1),(48,13,1),(52,14,1),(52,15,1)]) (by kernel_rfl) (by kernel_rfl)
   (ZV (Zek 80 (by kernel_rfl) n) (ZV (Zee n) (ZV (ZhB hΦ n) (ZV e1 (ZV e1 (ZV e2 (ZV (Zk4 n) (ZV (Zk4 n) (ZV h2 (ZV h2 Zbc))))))))))).map
   (fun (a0,a1,a2,a3,a4,a5,a6,a7,a8,a9,_)=>Sm.mk a0 a1 a2 a3 a4 a5 a6 a7 a8 a9) (fun ⟨a0,a1,a2,a3,a4,a5,a6,a7,a8,a9,_⟩=>by rw [Sm.cells_eq,Ex.cells_eq,Ex.cells_eq];rfl)
   (fun ⟨a0,a1,a2,a3,a4,a5,a6,a7,a8,a9,_⟩=>by have:=XZ (size:=fun s:ByteArray=>s.size+1) (fun _=>by omega) a2;simp only [Sm.count];omega) (fun ⟨a0,a1,a2,a3,a4,a5,a6,a7,a8,a9,_⟩ ⟨h0,_,_,h3,h4,h5,h6,h7,h8,h9,_⟩=>by rw [Sm.rng,h0,h3,h4,h5,h6,h7,h8,h9];rfl),?_⟩
  exact (Za7 (e:=82) (sz:=16) (by kernel_rfl) (by kernel_rfl) (by omega) hΦ h1).map id (fun _=>rfl) (fun l=>by rw [Zo3];exact Nat.le_succ _) (fun l h=>Zok h)
def ZaX (v:Vr):Nat:=v.name.size+1
def Zcy (r:Rg):Nat:=r.name.size+1
def JP (f:Fc):Nat:=f.name.size+Xl ZaX f.params+Xl ZaX f.vars+Xl (fun s=>s.size+1) f.rets+Zh f.body+1
def XY (p:Pg):Nat:=Xl Zcy p.regions+Xl JP p.funcs
theorem ZqL:∀n,Xk enc Tryz.prog cx n 120 Vr.cells ZaX (fun v=>v.rng=true)
 |0=>JE
 |n+1=>(Zab (fl:=[(9,0,1),(118,1,1),(3,2,1),(4,3,1)]) (by kernel_rfl) (by kernel_rfl)
   (ZV (Zee n) (ZV (Zek 118 (by kernel_rfl) n) (ZV (Zek 3 (by kernel_rfl) n) (ZV (ZnH n) Zbc))))).map (fun (a0,a1,a2,a3,_)=>⟨a0,a1,a2,a3⟩) (fun _=>rfl) (fun ⟨a0,a1,a2,a3,_⟩=>by simp only [ZaX];omega) (fun ⟨a0,a1,a2,a3,_⟩ ⟨_,h1,h2,_⟩=>by show (inI a1&&inI a2)=true;rw [h1,h2];rfl)
theorem ZqV:∀n,Xk enc Tryz.prog cx n 96 Rg.cells Zcy (fun v=>v.rng=true)
 |0=>JE
 |n+1=>(Zab (fl:=[(9,0,1),(3,1,1),(3,2,1),(4,3,1)]) (by kernel_rfl) (by kernel_rfl)
   (ZV (Zee n) (ZV (Zek 3 (by kernel_rfl) n) (ZV (Zek 3 (by kernel_rfl) n) (ZV (ZnH n) Zbc))))).map (fun (a0,a1,a2,a3,_)=>⟨a0,a1,a2,a3⟩) (fun _=>rfl) (fun ⟨a0,a1,a2,a3,_⟩=>by simp only [Zcy];omega) (fun ⟨a0,a1,a2,a3,_⟩ ⟨_,h1,h2,_⟩=>by show (inI a1&&inI a2)=true;rw [h1,h2];rfl)
theorem ZjB (hΦ:∀b,b<cx.w.heap.size→cx.Φ b):∀n,Xk enc Tryz.prog cx n 53 (fun l:List Vr=>[Vr.sl l]) (Xl ZaX) (fun l=>l.all Vr.rng=true)
 |0=>JE
 |n+1=>(Za7 (e:=120) (sz:=4) (by kernel_rfl) (by kernel_rfl) (by omega) hΦ (ZqL n)).map id (fun _=>rfl) (fun l=>Nat.le_succ _) (fun l h=>List.all_eq_true.2 h)
theorem Zpt (hΦ:∀b,b<cx.w.heap.size→cx.Φ b):∀n,Xk enc Tryz.prog cx n 22 (fun l:List Rg=>[Rg.sl l]) (Xl Zcy) (fun l=>l.all Rg.rng=true)
 |0=>JE
 |n+1=>(Za7 (e:=96) (sz:=4) (by kernel_rfl) (by kernel_rfl) (by omega) hΦ (ZqV n)).map id (fun _=>rfl) (fun l=>Nat.le_succ _) (fun l h=>List.all_eq_true.2 h)
theorem Zqa (hΦ:∀b,b<cx.w.heap.size→cx.Φ b):∀n,Xk enc Tryz.prog cx n 56 Fc.cells JP (fun f=>f.rng=true)
 |0=>JE
 |n+1=>(Zab (fl:=[(9,0,1),(53,1,1),(53,2,1),(54,3,1),(52,4,1)]) (by kernel_rfl) (by kernel_rfl)
   (ZV (Zee n) (ZV (ZjB hΦ n) (ZV (ZjB hΦ n) (ZV (ZhB hΦ n) (ZV (Zi5 hΦ n).2 Zbc)))))).map (fun (a0,a1,a2,a3,a4,_)=>⟨a0,a1,a2,a3,a4⟩) (fun _=>rfl) (fun ⟨a0,a1,a2,a3,a4,_⟩=>by simp only [JP];omega) (fun ⟨a0,a1,a2,a3,a4,_⟩ ⟨_,h1,h2,_,h4,_⟩=>by show (a1.all Vr.rng&&a2.all Vr.rng&&Jh a4)=true;rw [h1,h2,h4];rfl)
theorem Zpv (hΦ:∀b,b<cx.w.heap.size→cx.Φ b):∀n,Xk enc Tryz.prog cx n 23 (fun l:List Fc=>[Fc.sl l]) (Xl JP) (fun l=>l.all Fc.rng=true)
 |0=>JE
 |n+1=>(Za7 (e:=56) (sz:=5) (by kernel_rfl) (by kernel_rfl) (by omega) hΦ (Zqa hΦ n)).map id (fun _=>rfl) (fun l=>Nat.le_succ _) (fun l h=>List.all_eq_true.2 h)
theorem Zrg (hΦ:∀b,b<cx.w.heap.size→cx.Φ b):∀n,Xk enc Tryz.prog cx n 25 Pg.cells XY (fun p=>p.rng=true)
 |0=>JE
 |n+1=>(Zab (fl:=[(22,0,1),(23,1,1)]) (by kernel_rfl) (by kernel_rfl)
   (ZV (Zpt hΦ n) (ZV (Zpv hΦ n) Zbc))).map (fun (a0,a1,_)=>⟨a0,a1⟩) (fun _=>rfl) (fun ⟨a0,a1,_⟩=>by simp only [XY];omega) (fun ⟨a0,a1,_⟩ ⟨h0,h1,_⟩=>by show (a0.all Rg.rng&&a1.all Fc.rng)=true;rw [h0,h1];rfl)
theorem pg_ok {p:Pg} (h:XY p≤1048576):p.Ok3:=by
 have hr:p.regions.length≤XY p:=by have:=XZ (size:=Zcy) (fun _=>by simp [Zcy]) p.regions;unfold XY;omega
 have hf:p.funcs.length≤XY p:=by have:=XZ (size:=JP) (fun _=>by simp [JP]) p.funcs;unfold XY;omega
 have hF:∀f∈p.funcs,JP f≤1048576:=fun f hf=>by have:=ZbQ (size:=JP) hf;unfold XY at h;omega
 have hn:∀l:List Fc,JH l≤Xl JP l:=by
  intro l
  induction l with
  |nil=>simp [JH,Xl]
  |cons f l ih=>
   simp only [JH,Xl,List.map_cons,List.sum_cons] at ih ⊢
   have:=ZjD _ f.body 1 (Nat.le_refl _)
   have:Zh f.body≤JP f:=by unfold JP;omega
   omega
 refine⟨⟨⟨by omega,by omega,fun f hf=>?_,fun f hf=>?_,fun f hf=>?_,fun f hf=>?_⟩,⟨fun r hr=>?_,fun f hf=>⟨?_,fun v hv=>?_,fun s hs=>?_⟩⟩,fun f hf=>?_⟩,?_⟩
 ·have:=hF f hf;unfold JP at this;omega
 ·have:=hF f hf;have h2:=XZ (size:=ZaX) (fun _=>by simp [ZaX]) f.params;unfold JP at this;omega
 ·have:=hF f hf;have h2:=XZ (size:=ZaX) (fun _=>by simp [ZaX]) f.vars;unfold JP at this;omega
 ·have:=hF f hf;have h2:=XZ (size:=fun s:ByteArray=>s.size+1) (fun _=>by omega) f.rets;unfold JP at this;omega
 ·have h2:=ZbQ (size:=Zcy) hr;have h3:Zcy r=r.name.size+1:=rfl;unfold XY at h;omega
 ·have:=hF f hf;unfold JP at this;omega
 ·have:=hF f hf
  unfold JP at this
  rcases List.mem_append.1 hv with hv|hv
  ·have h2:=ZbQ (size:=ZaX) hv;simp only [ZaX] at h2 this;omega
  ·have h2:=ZbQ (size:=ZaX) hv;simp only [ZaX] at h2 this;omega
 ·have:=hF f hf;have h2:s.size+1≤Xl (fun s:ByteArray=>s.size+1) f.rets:=ZbQ (size:=fun s:ByteArray=>s.size+1) hs;unfold JP at this;omega
 ·have:=hF f hf;unfold JP at this;omega
 ·have:=hn p.funcs;unfold XY at h;omega
theorem pg_okC {p:Pg} (h:XY p≤1048576):p.OkC:=by
 have h3:=pg_ok h
 have hrl:p.regions.length≤XY p:=by have:=XZ (size:=Zcy) (fun _=>by simp [Zcy]) p.regions;unfold XY;omega
 have hfl:p.funcs.length≤XY p:=by have:=XZ (size:=JP) (fun _=>by simp [JP]) p.funcs;unfold XY;omega
 have hF:∀f∈p.funcs,JP f≤1048576:=fun f hf=>by have:=ZbQ (size:=JP) hf;unfold XY at h;omega
 refine⟨by omega,by omega,h3.ok.ok.params,h3.ok.ok.vars,fun f hf=>?_,h3.ok.body36⟩
 have:=hF f hf;have h2:=XZ (size:=fun s:ByteArray=>s.size+1) (fun _=>by omega) f.rets;unfold JP at this;omega
end
theorem arg_pg {H:Type} {enc:TypeId×Value→H} {W:World} {base:Nat}:ZpY enc Tryz.prog W base 25 (fun a=>.agg (Pg.cells a)) XY (fun p=>p.rng=true):=ZmD Tryz.underlying25 (Zrg fun _ h=>h)
end Go.Proofs.YtpibcbilkpoomaaGreat.Lift
