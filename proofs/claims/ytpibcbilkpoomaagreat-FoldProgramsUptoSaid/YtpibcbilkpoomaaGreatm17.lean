import Derived.Test.YtpibcbilkpoomaaGreatm16
set_option linter.all false
set_option maxHeartbeats 4000000
set_option maxRecDepth 100000
namespace Go.Mu
open Go.RowKit (Below)
section
variable {P:Program} {n:Nat} {c:Code} {Q:AQ}
theorem Zqk {f:Fr} {H:List Ze} (k sz:Nat) (t:TypeId) (es:List (List AV)) (hk:H[k]?=some (.row t sz es)) (hz:es.flatten.all AV.frzB=true)
 (h:X6 P n c Q (fun t=>(f t).frz k sz es) (ZeU k sz es H) []):X6 P n c Q f H []:=by
 intro ro hro B w0 J1 cx a h1 h2 h3 h4 h5
 subst h3
 refine h ro hro B w0 J1 (cx.frz k sz es) a (ZeX h1 hk hz) (h2.trans (Zgc hk)) rfl ⟨h4.1,fun t ht=>Zfv h1 hk hz (h4.2 t ht)⟩ ?_
 cases hd:a.defers with
 |nil=>trivial
 |cons d l=>rw [hd] at h5;exact h5.elim
theorem Zq6 {f f':Fr} {H:List Ze} (hw:∀t,XP (f t) (f' t)) (h:X6 P n c Q f' H []):X6 P n c Q f H []:=by
 intro ro hro B w0 J1 cx a h1 h2 h3 h4 h5
 exact h ro hro B w0 J1 cx a h1 h2 h3 ⟨h4.1,fun t ht=>(h4.2 t ht).weakens (hw t)⟩ h5
end
end Go.Mu
namespace Go.Proofs
open Go.Mu
def inB (l:List ByteArray) (s:ByteArray):Bool:=l.any fun x=>decide (s=x)
theorem Zca (l:List ByteArray) (a s:ByteArray):inB (l++[a]) s=(inB l s||decide (s=a)):=by simp [inB]
def Zjg (seen:List ByteArray) (s:ByteArray):Int:=ZM (XV s&& !inB seen s) 8
def JT (seen:List ByteArray):List ByteArray→Int
 |[]=>0
 |s::l=>ZK (Zjg seen s) (JT (seen++[s]) l)
def Zdj (words done:List ByteArray):List ByteArray→Int
 |[]=>0
 |s::l=>ZK (ZM (inB words s&& !inB done s) 8) (Zdj words (done++[s]) l)
def YV (vs:List Vr):List ByteArray:=(vs.filter fun v=>v.kind==1).map Vr.name
def Zgz (rl:List ByteArray) (f:Fc):Int:=ZK (JT rl ((f.params++f.vars).map Vr.name)) (Zdj (YV (f.params++f.vars)) [] f.rets)
theorem Zej (s n:ByteArray) (b:Bool) (T:Tab):Xc s (Jw n b T)=if s=n then b else Xc s T:=by
 unfold Xc;rw [ZbP];split<;>rfl
theorem Zfu:∀ (l:List ByteArray) (seen:List ByteArray) (T:Tab),(∀s,Xc s T=inB seen s)→JT seen l=ZbA l T∧(∀s,Xc s (YK l T)=inB (seen++l) s)
 |[],seen,T,h=>⟨rfl,fun s=>by rw [List.append_nil];exact h s⟩
 |a::l,seen,T,h=>by
  have h2:∀s,Xc s (Jw a true T)=inB (seen++[a]) s:=fun s=>by
   rw [Zej,Zca,h]
   by_cases e:s=a
   ·simp [e]
   ·simp [e]
  obtain⟨q1,q2⟩:=Zfu l (seen++[a]) (Jw a true T) h2
  refine⟨?_,fun s=>?_⟩
  ·rw [JT,ZbA,q1,Zjg,oneE,h]
  ·have:=q2 s
   rw [List.append_assoc] at this
   exact this
theorem JW {a b:Int} (h:ZK a b=0):a=0∧b=0:=by
 unfold ZK at h
 split at h
 ·rename_i ha;exact⟨ha,h⟩
 ·rename_i ha;exact absurd h ha
theorem Zco {b:Bool} {e:Int} (he:e≠0) (h:ZM b e=0):b=true:=by
 unfold ZM at h
 split at h
 ·assumption
 ·exact absurd h he
theorem Ztc {s:ByteArray} {T:Tab} (h:oneE s T=0):XV s=true∧Xc s T=false:=by
 have:=Zco (by decide) h
 simpa using this
theorem ZnT:∀ (vs done:List Vr) (seen:List ByteArray) (O R:Tab),(∀s,Xc s O=inB seen s)→(∀v∈done,inB seen v.name=true)→(∀v∈done,XV v.name=true)→(∀s,Xc s R=inB (YV done) s)→
 Zcq vs O R=JT seen (vs.map Vr.name)∧(Zcq vs O R=0→(∀s,Xc s (ZgG vs R)=inB (YV (done++vs)) s)∧∀v∈done++vs,XV v.name=true)
 |[],done,seen,O,R,h1,h2,h3,h4=>⟨rfl,fun _=>⟨fun s=>by rw [List.append_nil];exact h4 s,by simpa using h3⟩⟩
 |v::vs,done,seen,O,R,h1,h2,h3,h4=>by
  have hone:Zjg seen v.name=oneE v.name O:=by rw [Zjg,oneE,h1]
  by_cases hz:oneE v.name O=0
  ·obtain⟨n1,n2⟩:=Ztc hz
   have h1':∀s,Xc s (Jw v.name true O)=inB (seen++[v.name]) s:=fun s=>by
    rw [Zej,Zca,h1]
    by_cases e:s=v.name<;>simp [e]
   have hw:YV (done++[v])=if v.kind==1 then YV done++[v.name] else YV done:=by
    unfold YV
    rw [List.filter_append,List.map_append]
    by_cases e:(v.kind==1)=true
    ·rw [if_pos e];simp [List.filter_cons,e]
    ·rw [if_neg e];simp [List.filter_cons,e]
   have hnd:inB (YV done) v.name=false:=by
    cases hh:inB (YV done) v.name with
    |false=>rfl
    |true=>
     exfalso
     unfold inB YV at hh
     rw [List.any_eq_true] at hh
     obtain⟨x,hx,he⟩:=hh
     obtain⟨u,hu,rfl⟩:=List.mem_map.1 hx
     have hu':=(List.mem_filter.1 hu).1
     have:=h2 u hu'
     rw [←h1,←of_decide_eq_true he,n2] at this
     cases this
   have h4':∀s,Xc s (Jw v.name (v.kind==1) R)=inB (YV (done++[v])) s:=fun s=>by
    rw [Zej,hw,h4]
    by_cases e:s=v.name
    ·rw [if_pos e]
     split
     ·rename_i hk;rw [Zca,hk];simp [e]
     ·rename_i hk;rw [e,hnd];simpa using hk
    ·rw [if_neg e]
     split
     ·rw [Zca];simp [e]
     ·rfl
   obtain⟨q1,q2⟩:=ZnT vs (done++[v]) (seen++[v.name]) (Jw v.name true O) (Jw v.name (v.kind==1) R) h1' (fun u hu=>by
    rw [Zca]
    rcases List.mem_append.1 hu with h|h
    ·rw [h2 u h];rfl
    ·obtain rfl:=List.mem_singleton.1 h;simp) (fun u hu=>by
    rcases List.mem_append.1 hu with h|h
    ·exact h3 u h
    ·obtain rfl:=List.mem_singleton.1 h;exact n1) h4'
   refine⟨?_,fun h0=>?_⟩
   ·rw [Zcq,List.map_cons,JT,hone,hz,Zj,Zj,q1]
   ·rw [Zcq,hz,Zj] at h0
    obtain⟨r1,r2⟩:=q2 h0
    rw [List.append_assoc] at r1 r2
    exact⟨r1,r2⟩
  ·refine⟨?_,fun h0=>?_⟩
   ·rw [Zcq,List.map_cons,JT,hone,Zu hz,Zu hz]
   ·rw [Zcq,Zu hz] at h0;exact absurd h0 hz
theorem ZnK (words:List ByteArray) (hn:∀s,inB words s=true→XV s=true) (R:Tab) (hR:∀s,Xc s R=inB words s):∀ (l done:List ByteArray) (T:Tab),(∀s,Xc s T=inB done s)→Zdj words done l=Zfl R l T
 |[],done,T,h=>rfl
 |s::l,done,T,h=>by
  rw [Zdj,Zfl,hR]
  have h2:∀a,Xc a (Jw s true T)=inB (done++[s]) a:=fun a=>by
   rw [Zej,Zca,h]
   by_cases e:a=s<;>simp [e]
  rw [ZnK words hn R hR l (done++[s]) (Jw s true T) h2]
  cases hw:inB words s
  ·rw [Bool.false_and,Y2,Zu (by decide),Zu (by decide)]
  ·rw [Bool.true_and,Y0,Zj,oneE,hn s hw,Bool.true_and,h]
theorem Zsv (rs:List Rg) (f:Fc):Zgz (rs.map Rg.name) f=Zdh rs f:=by
 obtain⟨_,o2⟩:=Zfu (rs.map Rg.name) [] [] (fun s=>rfl)
 simp only [List.nil_append] at o2
 obtain⟨q1,q2⟩:=ZnT (f.params++f.vars) [] (rs.map Rg.name) _ [] o2 (by simp) (by simp) (fun s=>rfl)
 rw [Zgz,Zdh,←q1]
 by_cases hz:Zcq (f.params++f.vars) (YK (rs.map Rg.name) []) []=0
 ·obtain⟨r1,r2⟩:=q2 hz
  rw [hz,Zj,Zj]
  simp only [List.nil_append] at r1 r2
  refine ZnK _ (fun s hs=>?_) _ r1 _ _ _ (fun s=>rfl)
  unfold inB YV at hs
  rw [List.any_eq_true] at hs
  obtain⟨x,hx,he⟩:=hs
  obtain⟨u,hu,rfl⟩:=List.mem_map.1 hx
  rw [of_decide_eq_true he]
  exact r2 u (List.mem_filter.1 hu).1
 ·rw [Zu hz,Zu hz]
theorem Zi1 {α:Type} {p q:α→Int}:∀ {l:List α},(∀a∈l,p a=q a)→YI p l=YI q l
 |[],_=>rfl
 |a::l,h=>by rw [YI,YI,h a (by simp),Zi1 fun b hb=>h b (by simp [hb])]
theorem Zvr (p:Pg):ZK (JT [] (p.regions.map Rg.name)) (ZK (JT (p.regions.map Rg.name) (p.funcs.map Fc.name)) (YI (Zgz (p.regions.map Rg.name)) p.funcs))=Xw p:=by
 obtain⟨o1,o2⟩:=Zfu (p.regions.map Rg.name) [] [] (fun s=>rfl)
 simp only [List.nil_append] at o2
 obtain⟨o3,_⟩:=Zfu (p.funcs.map Fc.name) (p.regions.map Rg.name) _ o2
 rw [Xw,o1,o3,Zi1 fun f _=>Zsv p.regions f]
def ZgE (B:Nat) (H:List Ze) (h:Option Nat) (x:AV) (l:List ByteArray):Prop:=match h with
 |none=>x=Yp∧l=[]
 |some k=>B≤k∧x=.hs k 0 l.length l.length∧H[k]?=some (.row 9 1 (l.map fun s=>[St s]))
structure Zvv (B:Nat) (H:List Ze) (h:Option Nat) (H':List Ze) (h':Option Nat):Prop where
 pre:∀M:List Ze,M.length=B→(∃L,H=M++L)→∃L,H'=M++L
 old:∀i b,H[i]?=some b→h≠some i→H'[i]?=some b
 apart:∀j,j<H.length→h≠some j→h'≠some j
theorem Zvv.row {B:Nat} {H H':List Ze} {h h' g:Option Nat} {y:AV} {m:List ByteArray} (k:Zvv B H h H' h') (hr:ZgE B H g y m) (hne:∀j,g=some j→h≠some j):ZgE B H' g y m∧∀j,g=some j→h'≠some j:=by
 cases g with
 |none=>exact⟨hr,fun j hj=>by cases hj⟩
 |some i=>
  obtain⟨h1,h2,h3⟩:=hr
  exact⟨⟨h1,h2,k.old i _ h3 (hne i rfl)⟩,fun j hj=>by cases hj;exact k.apart i (ZT h3) (hne i rfl)⟩
theorem ZcG {B:Nat} {H:List Ze} {h:Option Nat} {x:AV} {l ys:List ByteArray} {sl:TypeId×Nat×List Value×Nat} {K:AV→List Ze→Prop} {w:ZQ K} (hr:ZgE B H h x l) (hB:B≤H.length) (h1:sl.1=9) (h2:sl.2.1=1) (hs:sl.2.2.2≤16) (hb:l.length+ys.length≤2^39)
 (k:∀h' x' H',ZgE B H' h' x' (l++ys)→Zvv B H h H' h'→K x' H'):XA H sl x (ys.map fun s=>[St s]) K w:=by
 obtain⟨s1,s2,s3,s4⟩:=sl
 simp only at h1 h2 hs
 subst h1 h2
 have hbd:(l.length+ys.length)*s4≤140737488355328:=by
  have:(l.length+ys.length)*s4≤(l.length+ys.length)*16:=Nat.mul_le_mul_left _ hs
  omega
 cases h with
 |none=>
  obtain⟨rfl,rfl⟩:=hr
  simp only [List.length_nil,Nat.zero_add] at hbd
  refine Zaa (by simpa using hbd) (by simp at hb ⊢;omega) (fun hy=>?_) (fun hy=>?_)
  ·have:ys=[]:=by simpa using hy
   subst this
   exact k none _ H ⟨rfl,rfl⟩ ⟨fun M _ h=>h,fun i b h _=>h,fun j _ h=>h⟩
  ·refine k (some H.length) _ _ ⟨hB,?_,by simp⟩ ⟨fun M hM hL=>?_,fun i b h _=>ZG h _,fun j hj _ e=>by cases e;omega⟩
   ·simp
   ·obtain⟨L,rfl⟩:=hL;exact⟨L++_,by rw [List.append_assoc]⟩
 |some i=>
  obtain⟨q1,rfl,q3⟩:=hr
  refine Jc (es:=l.map fun s=>[St s]) q3 (by simp) (by simp) (by simpa using hbd) (by simp;omega) ?_
  have hil:=ZT q3
  have e:l.map (fun s=>[St s])++ys.map (fun s=>[St s])=(l++ys).map fun s=>[St s]:=by simp
  rw [e]
  refine k (some i) _ _ ⟨q1,by simp,by simp [hil]⟩ ⟨fun M hM hL=>?_,fun j b h hne=>?_,fun j _ h=>h⟩
  ·obtain⟨L,rfl⟩:=hL
   exact⟨_,by rw [List.set_append,if_neg (by omega)]⟩
  ·rw [List.getElem?_set_ne (fun e=>hne (by rw [e]))];exact h
def Zmw (B:Nat) (H:List Ze) (x:AV) (l:List ByteArray):Prop:=∃h,ZgE B H h x l
def Zs5 (B:Nat) (H:List Ze) (x:AV) (l:List ByteArray) (y:AV) (m:List ByteArray):Prop:=∃h q,ZgE B H h x l∧ZgE B H q y m∧∀j,q=some j→h≠some j
def Zqb (B:Nat) (H:List Ze) (x:AV) (l:List ByteArray) (y:AV) (m:List ByteArray) (z:AV) (n:List ByteArray):Prop:=
 ∃h q r,ZgE B H h x l∧ZgE B H q y m∧ZgE B H r z n∧(∀j,q=some j→h≠some j)∧(∀j,r=some j→h≠some j)∧(∀j,r=some j→q≠some j)
theorem ZjI {B:Nat} {H:List Ze} {h:Option Nat} {x:AV} {l:List ByteArray} (hr:ZgE B H h x l):ZaV H 1 x=some (l.map fun s=>[St s]):=by
 cases h with
 |none=>obtain⟨rfl,rfl⟩:=hr;rfl
 |some k=>
  obtain⟨q1,rfl,q3⟩:=hr
  simp only [ZaV,q3,List.length_map,and_self,if_true,List.drop_zero]
  rw [List.take_of_length_le (by simp)]
theorem Zft {B:Nat} {H:List Ze} {h:Option Nat} {x:AV} {l:List ByteArray} (hr:ZgE B H h x l) (hl:l.length≤2^40) (s:ByteArray):Zi Tryz.prog 62 [x,St s] H (fun e H'=>e=.ret (Bo (inB l s))∧H'=H):=by
 cases h with
 |none=>
  obtain⟨rfl,rfl⟩:=hr
  exact XT (args':=[St.sl [],St s]) (.cons (.nil _) (.cons (.refl _) .nil)) (Zcn [] s (by simp) H)
 |some k=>
  obtain⟨q1,rfl,q3⟩:=hr
  refine Zda (args':=[St.sl l,St s]) ?_ rfl (Zcn l s hl [])
  refine .row k 1 9 _ q3 (Zh4 _) ?_
  have e:Zam k 1 (l.map fun s=>[St s]) [.hs k 0 l.length l.length,St s]=[St.sl l,St s]:=by
   simp only [Zam,AV.frz,List.length_map,and_self,if_true,List.drop_zero]
   rw [List.take_of_length_le (by simp)]
  rw [e]
  exact .refl _ _
theorem Zj9:∀ (l seen:List ByteArray),JT seen l=0→(∀x∈l,inB seen x=false)∧l.Pairwise (fun a b=>a≠b)
 |[],seen,_=>⟨nofun,.nil⟩
 |s::l,seen,h=>by
  rw [JT] at h
  obtain⟨h1,h2⟩:=JW h
  have h3:=Zco (by decide) h1
  simp only [Bool.and_eq_true,Bool.not_eq_true'] at h3
  obtain⟨q1,q2⟩:=Zj9 l (seen++[s]) h2
  have q3:∀x∈l,inB seen x=false∧x≠s:=fun x hx=>by
   have:=q1 x hx
   rw [Zca] at this
   simpa using this
  refine⟨fun x hx=>?_,.cons (fun x hx e=>(q3 x hx).2 e.symm) q2⟩
  rcases List.mem_cons.1 hx with rfl|hx
  ·exact h3.2
  ·exact (q3 x hx).1
def Zfr (n:ByteArray):List Vr→Option Vr
 |[]=>none
 |v::l=>if v.name=n then some v else Zfr n l
theorem ZhY {n:ByteArray}:∀ {l:List Vr},(∀x∈l,x.name≠n)→Zfr n l=none
 |[],_=>rfl
 |v::l,h=>by rw [Zfr,if_neg (h v (by simp))];exact ZhY fun x hx=>h x (by simp [hx])
theorem Zj6 (n:ByteArray):∀ (l:List Vr) (t:List (ByteArray×Vr)),(l.map Vr.name).Pairwise (fun a b=>a≠b)→Yq n (l.foldl (fun t v=>Jw v.name v t) t)=(match Zfr n l with|some v=>some v|none=>Yq n t)
 |[],t,_=>rfl
 |v::l,t,h=>by
  rw [List.map_cons,List.pairwise_cons] at h
  rw [List.foldl_cons,Zj6 n l _ h.2,Zfr]
  by_cases e:v.name=n
  ·have:Zfr n l=none:=ZhY fun x hx he=>h.1 x.name (List.mem_map.2 ⟨x,hx,rfl⟩) (e.trans he.symm)
   rw [if_pos e,this,ZbP,if_pos e.symm]
  ·rw [if_neg e,ZbP,if_neg (fun h=>e h.symm)]
theorem Ziq (n:ByteArray):∀l:List Vr,ZeA l n=match Zfr n l with|some v=>if v.kind=1 then 1 else 2|none=>0
 |[]=>rfl
 |v::l=>by
  rw [ZeA,Zfr]
  by_cases e:v.name=n
  ·rw [if_pos e,if_pos e]
  ·rw [if_neg e,if_neg e,Ziq n l]
theorem Zm1 (n:ByteArray):∀l:List Rg,Zhr l n=if inB (l.map Rg.name) n then 3 else 0
 |[]=>rfl
 |r::l=>by
  rw [Zhr,Zm1 n l]
  by_cases e:r.name=n
  ·rw [if_pos e,if_pos];simp [inB,e]
  ·rw [if_neg e]
   have:inB ((r::l).map Rg.name) n=inB (l.map Rg.name) n:=by simp [inB];exact fun h=>absurd h.symm e
   rw [this]
theorem ZpS (p:Pg) (k:Nat) (hk:k<p.funcs.length) (h:JT (p.regions.map Rg.name) ((p.funcs[k].params++p.funcs[k].vars).map Vr.name)=0):Zel p k hk (Zap (p.funcs[k].params++p.funcs[k].vars)) (YK (p.regions.map Rg.name) []):=by
 obtain⟨_,hnd⟩:=Zj9 _ _ h
 have hl:=fun n=>Zj6 n (p.funcs[k].params++p.funcs[k].vars) [] hnd
 obtain⟨_,o2⟩:=Zfu (p.regions.map Rg.name) [] [] (fun s=>rfl)
 simp only [List.nil_append] at o2
 have key:∀n,ZdJ p.regions (p.funcs[k].params++p.funcs[k].vars) n=(if isV n (Zap (p.funcs[k].params++p.funcs[k].vars)) then (if Ze4 n (Zap (p.funcs[k].params++p.funcs[k].vars))=1 then 1 else 2) else if Xc n (YK (p.regions.map Rg.name) []) then 3 else 0):=fun n=>by
  have hh:=hl n
  unfold isV Ze4 Zap
  rw [ZdJ,Ziq,Zm1,o2,hh]
  cases Zfr n (p.funcs[k].params++p.funcs[k].vars) with
  |none=>simp [Yq]
  |some v=>
   simp only [Option.isSome_some,if_true,Option.getD_some]
   rw [if_neg (by split<;>decide)]
 constructor
 ·intro n
  rw [key,ZaL,Zou]
  cases isV n (Zap (p.funcs[k].params++p.funcs[k].vars))<;>cases Xc n (YK (p.regions.map Rg.name) [])<;>by_cases e:Ze4 n (Zap (p.funcs[k].params++p.funcs[k].vars))=1<;>simp [e,ZM,ZK]
 ·intro n
  rw [key,Zbb,Zka]
  cases isV n (Zap (p.funcs[k].params++p.funcs[k].vars))<;>cases Xc n (YK (p.regions.map Rg.name) [])<;>by_cases e:Ze4 n (Zap (p.funcs[k].params++p.funcs[k].vars))=1<;>simp [e,ZM,ZK]
end Go.Proofs
namespace Go.Proofs
open Go.Mu
def Zjh (x:Int):Prop:=x=0∨x=13
theorem Zi9 (b:Bool):Zjh (ZM b 13):=by unfold ZM Zjh;split<;>simp
theorem Zq1 {a b:Int} (ha:Zjh a) (hb:Zjh b):Zjh (ZK a b):=by
 rcases ha with rfl|rfl
 ·exact hb
 ·exact .inr rfl
theorem Zof {α:Type} {q:α→Int} (h:∀a,Zjh (q a)):∀l:List α,Zjh (YI q l)
 |[]=>.inl rfl
 |a::l=>Zq1 (h a) (Zof h l)
theorem Zts (v:Vr):Zjh (Zbl v):=by unfold Zbl;split;exact Zi9 _;exact .inl rfl
theorem ZrW (f:Fc):Zjh (Zag f):=Zq1 (Zi9 _) (Zof Zts _)
def Zg3 (p:Pg):Int:=ZM (decide ((p.regions.length:Int)≤16)&&decide (1≤(p.funcs.length:Int))&&decide ((p.funcs.length:Int)≤32)&&decide (ZaS p≤65536)) 13
theorem ZxD (p:Pg):ZK (Zg3 p) (ZK (YI (fun r=>Xf r.size) p.regions) (YI Zag p.funcs))=ZaB p:=by
 have h1:=Zi9 (decide ((p.regions.length:Int)≤16)&&decide (1≤(p.funcs.length:Int))&&decide ((p.funcs.length:Int)≤32))
 have h2:=Zi9 (decide (ZaS p≤65536))
 have h3:Zjh (YI (fun (r:Rg)=>Xf r.size) p.regions):=Zof (fun r=>Zi9 _) _
 have h4:=Zof ZrW p.funcs
 have h5:Zg3 p=ZK (ZM (decide ((p.regions.length:Int)≤16)&&decide (1≤(p.funcs.length:Int))&&decide ((p.funcs.length:Int)≤32)) 13) (ZM (decide (ZaS p≤65536)) 13):=by
  unfold Zg3 ZM
  cases decide ((p.regions.length:Int)≤16)&&decide (1≤(p.funcs.length:Int))&&decide ((p.funcs.length:Int)≤32)<;>rfl
 rw [h5,ZaB]
 generalize ZM (decide ((p.regions.length:Int)≤16)&&decide (1≤(p.funcs.length:Int))&&decide ((p.funcs.length:Int)≤32)) 13=a at h1 ⊢
 generalize ZM (decide (ZaS p≤65536)) 13=b at h2 ⊢
 generalize YI (fun (r:Rg)=>Xf r.size) p.regions=c at h3 ⊢
 generalize YI Zag p.funcs=d at h4 ⊢
 rcases h1 with rfl|rfl<;>rcases h2 with rfl|rfl<;>rcases h3 with rfl|rfl<;>rcases h4 with rfl|rfl<;>rfl
theorem ZsE {p:Pg} (h:Zg3 p=0):p.regions.length≤16∧p.funcs.length≤32:=by
 have:=Zco (by decide) h
 simp only [Bool.and_eq_true,decide_eq_true_eq] at this
 omega
theorem ZkP {α:Type} {q:α→Int}:∀ {l:List α},YI q l=0→∀a∈l,q a=0
 |[],_,a,h=>by cases h
 |b::l,h0,a,h=>by
  rw [YI] at h0
  obtain⟨h1,h2⟩:=JW h0
  rcases List.mem_cons.1 h with rfl|h
  ·exact h1
  ·exact ZkP h2 a h
theorem Zrf {l:List Fc} (h:YI Zag l=0):∀f∈l,f.params.length+f.vars.length≤64∧f.rets.length≤64:=fun f hf=>by
 have h1:=ZkP h f hf
 unfold Zag at h1
 have:=Zco (by decide) (JW h1).1
 simp only [Bool.and_eq_true,decide_eq_true_eq] at this
 omega
theorem Zrx {r:Rg} (h:Xf r.size=0):ZeT r:=by
 have:=Zco (by decide) h
 simpa [ZeT] using this
theorem ZrD {r:Rg} (h:0≤r.addr∧r.addr.tmod 8=0∧r.addr≤49152-8*r.size):Zcc r=0:=by
 unfold Zcc;rw [decide_eq_true h.1,decide_eq_true h.2.2,h.2.1];rfl
theorem ZdX {r:Rg} (h: ¬(0≤r.addr∧r.addr.tmod 8=0∧r.addr≤49152-8*r.size)):Zcc r=14:=by
 unfold Zcc ZM
 rw [if_neg]
 simpa [and_assoc] using h
theorem Zlf {r q:Rg} (h:q.addr+8*q.size≤r.addr∨r.addr+8*r.size≤q.addr):ZaC r q=0:=by
 unfold ZaC ZM;rw [if_pos];simpa using h
theorem Zpp {r q:Rg} (h: ¬(q.addr+8*q.size≤r.addr∨r.addr+8*r.size≤q.addr)):ZaC r q=14:=by
 unfold ZaC ZM;rw [if_neg];simpa using h
structure Pg.Ok3 (p:Pg):Prop where
 ok:p.Ok2
 total:JH p.funcs≤2^50
theorem ZsB (p:Pg) (hp:p.Ok3) (H:List Ze):Zi Tryz.prog 35 [.agg p.cells] H (fun e H'=>e=.ret (I (Zc2 p))∧H'=H):=by
 refine Zf (Z0 Tryz.func35 rfl (by kernel_rfl) ?_)
 obtain⟨M,hM⟩:∃M,M=H++[.box 25 p.cells]:=⟨_,rfl⟩
 have hMp:M[H.length]?=some (.box 25 p.cells):=by rw [hM];simp
 obtain⟨E,hE⟩:∃E,E=Zc2 p:=⟨_,rfl⟩
 have fin:∀c L,c=E→ZW H (fun x H'=>x=.ret (I E)∧H'=H) (.ret (I c)) (M++L):=fun c L hc=>by rw [hM,hc,List.append_assoc];exact Z2 rfl ⟨rfl,rfl⟩
 have fin0:∀c,c=E→ZW H (fun x H'=>x=.ret (I E)∧H'=H) (.ret (I c)) M:=fun c hc=>by have:=fin c [] hc;simpa using this
 rw [←hE]
 replace hE:=hE.symm
 rw [Zc2,←ZxD,←Zvr,Ys,Ys,Ys,Ys] at hE
 have hpf:=hp.ok.ok.funcs
 have hpr:=hp.ok.ok.regions
 have csz:=fun H=>Zq2 p hp.ok hp.total H
 simp only [Pg.cells] at hM hMp csz
 have hMl:YE (M.length=H.length+1):=⟨by rw [hM];simp⟩
 have hMpL:=fun L=>ZG hMp L
 refine Zc (fun f H'=>M=H'∧f 1=.bp H.length 0) (by kernel_rfl) ?_ ?_
 ·simp -dsimp [hM]
 clear hM
 rintro g _ ⟨rfl,g1⟩
 --how many
 refine Zc (fun f H'=>M=H'∧f 1=.bp H.length 0∧Zg3 p=0) (by kernel_rfl) ?_ ?_
 ·replace hE:=YE.mk hE
  replace fin:=YE.mk fin
  replace fin0:=YE.mk fin0
  replace hp:=YE.mk hp
  simp -dsimp [g1,hMp]
  repeat' ((with_reducible first|refine And.intro ?_ ?_|refine Zm (fun _=>?_) (fun _=>?_)|refine Zn (fun _=>?_) (fun _=>?_)|refine Zb (fun _=>?_) (fun _=>?_)|refine Zr (fun _=>?_) (fun _ _ _=>?_)|refine Zt (fun _=>?_) (fun _ _ _=>?_)|refine Zq (fun _=>?_) (fun _ _ _=>?_)|refine Zs (fun _ _ _=>?_) (fun _=>?_)|refine Zp (fun _ _ _=>?_) (fun _=>?_)|refine Zl (fun _ _ _=>?_) (fun _=>?_)|refine Zz (fun _=>?_) (fun _=>?_)|refine Zy (fun _=>?_) (fun _=>?_)|refine Z6 (fun _=>?_) (fun _=>?_)|refine Zw (fun _=>?_) (fun _=>?_)|refine Zx (fun _=>?_) (fun _=>?_)|refine Z3 (fun _=>?_) (fun _=>?_)|refine Za (csz _) ?_|refine Zd (csz _) ?_)<;>simp -dsimp [g1,hMp, *])
  all_goals first
   |(unfold Zg3;rw [decide_eq_true (by omega),decide_eq_true (by omega),decide_eq_true (by omega),decide_eq_true (by omega)];rfl)
   |(refine fin0.out 13 ?_
     have h:=hE.out
     have e:Zg3 p=13:=by
      unfold Zg3
      first
       |(rw [decide_eq_false (show ¬((p.regions.length:Int)≤16) by omega)];rfl)
       |(rw [decide_eq_false (show ¬(1≤(p.funcs.length:Int)) by omega),Bool.and_false];rfl)
       |(rw [decide_eq_false (show ¬((p.funcs.length:Int)≤32) by omega),Bool.and_false];rfl)
       |(rw [decide_eq_false (show ¬(ZaS p≤65536) by omega),Bool.and_false];rfl)
     rw [e,Zu (by decide)] at h
     exact h)
   |trace_state
 clear g g1
 rintro g _ ⟨rfl,g1,hz⟩
 rw [hz,Zj] at hE
 obtain⟨h16,h32⟩:=ZsE hz
 clear hz csz
 --regions' Xl
 refine Zc (fun f H'=>M=H'∧f 1=.bp H.length 0∧YI (fun r=>Xf r.size) p.regions=0) (by kernel_rfl) ?_ ?_
 ·simp -dsimp [g1]
  refine Zv (fun (i:Nat) f H'=>M=H'∧f 1=.bp H.length 0∧f 3=I i∧i≤p.regions.length∧YI (fun r=>Xf r.size) (p.regions.drop i)=YI (fun r=>Xf r.size) p.regions) (fun i=>p.regions.length-i) (by kernel_rfl) 0 (by simp [g1]) ?_
  clear g g1
  rintro i g _ ⟨rfl,g1,g3,hi,hinv⟩
  simp -dsimp [g1,g3,hMp]
  refine Zb (fun hlt=>?_) (fun hlt=>?_)
  ·rw [Jn _ hlt] at hinv
   have err:Xf p.regions[i].size=13→ZW H (fun x H'=>x=.ret (I E)∧H'=H) (.ret (I 13)) M:=fun h=>fin0 13 (by
    rw [h,Zu (by decide)] at hinv
    rw [←hinv,Zu (by decide)] at hE;exact hE)
   replace err:=YE.mk err
   replace hE:=YE.mk hE
   replace hinv:=YE.mk hinv
   replace fin:=YE.mk fin
   replace fin0:=YE.mk fin0
   replace hp:=YE.mk hp
   have hri:p.regions[i]?=some p.regions[i]:=List.getElem?_eq_getElem hlt
   simp -dsimp [g1,g3,hMp,hri]
   repeat' ((with_reducible first|refine And.intro ?_ ?_|refine Zm (fun _=>?_) (fun _=>?_)|refine Zn (fun _=>?_) (fun _=>?_)|refine Zb (fun _=>?_) (fun _=>?_)|refine Zr (fun _=>?_) (fun _ _ _=>?_)|refine Zt (fun _=>?_) (fun _ _ _=>?_)|refine Zq (fun _=>?_) (fun _ _ _=>?_)|refine Zs (fun _ _ _=>?_) (fun _=>?_)|refine Zp (fun _ _ _=>?_) (fun _=>?_)|refine Zl (fun _ _ _=>?_) (fun _=>?_)|refine Zz (fun _=>?_) (fun _=>?_)|refine Zy (fun _=>?_) (fun _=>?_)|refine Z6 (fun _=>?_) (fun _=>?_)|refine Zw (fun _=>?_) (fun _=>?_)|refine Zx (fun _=>?_) (fun _=>?_)|refine Z3 (fun _=>?_) (fun _=>?_))<;>simp -dsimp [g1,g3,hMp,hri, *])
   all_goals first
    |exact err.out (by unfold Xf;first|(rw [decide_eq_false (show ¬(1≤p.regions[i].size) by omega)];rfl)|(rw [decide_eq_false (show ¬(p.regions[i].size≤512) by omega),Bool.and_false];rfl))
    |(have e:Xf p.regions[i].size=0:=by unfold Xf;rw [decide_eq_true (by omega),decide_eq_true (by omega)];rfl
      have hinv:=hinv.out
      rw [e,Zj] at hinv
      exact⟨i+1,by omega,ZC (by omega),by omega,hinv⟩)
    |trace_state
  ·rw [JI _ hlt] at hinv
   simp -dsimp [g1]
   exact hinv.symm
 clear g g1
 rintro g _ ⟨rfl,g1,hz⟩
 rw [hz,Zj] at hE
 --functions' numbers
 refine Z4 (fun f H'=>M=H'∧f 1=.bp H.length 0∧YI Zag p.funcs=0) ?_ ?_
 ·refine Zc (fun f H'=>M=H'∧f 1=.bp H.length 0∧f 4=I 0) (by kernel_rfl) ?_ ?_
  ·simp -dsimp [g1]
  clear g g1
  rintro g _ ⟨rfl,g1,g4⟩
  refine Z9 ?_
  refine Yd (fun (i:Nat) f H'=>M=H'∧f 1=.bp H.length 0∧f 4=I i∧i≤p.funcs.length∧YI Zag (p.funcs.drop i)=YI Zag p.funcs) (fun i=>p.funcs.length-i) 0 ⟨rfl,g1,g4,by omega,by simp⟩ ?_
  clear g g1 g4
  rintro i g _ ⟨rfl,g1,g4,hi,hinv⟩
  refine Zc (fun f H'=>M=H'∧f 1=.bp H.length 0∧f 4=I i∧i<p.funcs.length) (by kernel_rfl) ?_ ?_
  ·simp -dsimp [g1,g4,hMp]
   refine Zb (fun hlt=>?_) (fun hlt=>?_)
   ·simp -dsimp [g1,g4]
    omega
   ·rw [JI _ (by omega)] at hinv
    simp -dsimp [g1]
    exact hinv.symm
  clear g g1 g4
  rintro g _ ⟨rfl,g1,g4,hlt⟩
  rw [Jn _ hlt] at hinv
  have hpp:=hp.ok.ok.params _ (List.getElem_mem hlt)
  have hpv:=hp.ok.ok.vars _ (List.getElem_mem hlt)
  obtain⟨F,hF⟩:∃F,F=p.funcs[i]:=⟨_,rfl⟩
  rw [←hF] at hinv hpp hpv
  have cv:=fun H=>Zhn F hpp hpv H
  obtain⟨vs,hvs⟩:∃vs,vs=F.params++F.vars:=⟨_,rfl⟩
  have hvl:vs.length=F.params.length+F.vars.length:=by rw [hvs];simp
  simp only [Fc.cells] at cv
  rw [←hvs] at cv
  have err:∀M',M'=M→Zag F=13→ZW H (fun x H'=>x=.ret (I E)∧H'=H) (.ret (I 13)) M':=fun M' hM' h=>by
   subst hM'
   refine fin0 13 ?_
   rw [h,Zu (by decide)] at hinv
   rw [←hinv,Zu (by decide)] at hE;exact hE
  refine Z4 (fun f H'=>M=H'∧f 1=.bp H.length 0∧f 4=I i∧Zag F=0) ?_ ?_
  rotate_left
  ·clear g g1 g4
   rintro g _ ⟨rfl,g1,g4,h0⟩
   rw [h0,Zj] at hinv
   refine Zk (by kernel_rfl) ?_
   simp -dsimp [g1,g4]
   exact⟨i+1,by omega,ZC (by omega),by omega,hinv⟩
  refine Z9 ?_
  refine Zc (fun f H'=>M=H'∧f 1=.bp H.length 0∧f 4=I i∧f 5=Vr.sl vs) (by kernel_rfl) ?_ ?_
  ·simp -dsimp [g1,g4,hMp,List.getElem?_eq_getElem,hlt,←hF]
   refine Za (cv _) ?_
   simp -dsimp [g1,g4]
  clear g g1 g4
  rintro g _ ⟨rfl,g1,g4,g5⟩
  refine Zc (fun f H'=>M=H'∧f 1=.bp H.length 0∧f 4=I i∧f 5=Vr.sl vs∧ZM (decide ((F.params.length:Int)+F.vars.length≤64)&&decide ((F.rets.length:Int)≤64)) 13=0) (by kernel_rfl) ?_ ?_
  ·replace err:=YE.mk err
   replace hE:=YE.mk hE
   replace hinv:=YE.mk hinv
   replace fin:=YE.mk fin
   replace fin0:=YE.mk fin0
   replace hp:=YE.mk hp
   replace hvs:=YE.mk hvs
   replace hvl:=YE.mk hvl
   have hfi:p.funcs[i]?=some F:=by rw [hF];exact List.getElem?_eq_getElem hlt
   have hrl:YE (F.rets.length=p.funcs[i].rets.length):=⟨by rw [hF]⟩
   replace hF:=YE.mk hF
   simp -dsimp [g1,g4,g5,hMp,hfi]
   repeat' ((with_reducible first|refine And.intro ?_ ?_|refine Zm (fun _=>?_) (fun _=>?_)|refine Zn (fun _=>?_) (fun _=>?_)|refine Zb (fun _=>?_) (fun _=>?_)|refine Zr (fun _=>?_) (fun _ _ _=>?_)|refine Zt (fun _=>?_) (fun _ _ _=>?_)|refine Zq (fun _=>?_) (fun _ _ _=>?_)|refine Zs (fun _ _ _=>?_) (fun _=>?_)|refine Zp (fun _ _ _=>?_) (fun _=>?_)|refine Zl (fun _ _ _=>?_) (fun _=>?_)|refine Zz (fun _=>?_) (fun _=>?_)|refine Zy (fun _=>?_) (fun _=>?_)|refine Z6 (fun _=>?_) (fun _=>?_)|refine Zw (fun _=>?_) (fun _=>?_)|refine Zx (fun _=>?_) (fun _=>?_)|refine Z3 (fun _=>?_) (fun _=>?_))<;>simp -dsimp [g1,g4,g5,hMp,hfi, *])
   all_goals have hvl:=hvl.out
   all_goals have hrl:=hrl.out
   all_goals first
    |exact err.out _ rfl (by unfold Zag;first|(rw [decide_eq_false (show ¬((F.params.length:Int)+F.vars.length≤64) by omega)];rfl)|(rw [decide_eq_false (show ¬((F.rets.length:Int)≤64) by omega),Bool.and_false];rfl))
    |(rw [decide_eq_true (by omega),decide_eq_true (by omega)];rfl)
    |trace_state
  clear g g1 g4 g5
  rintro g _ ⟨rfl,g1,g4,g5,hz2⟩
  have hmf:Zag F=YI Zbl vs:=by rw [Zag,hz2,Zj,hvs]
  clear hz2
  refine Zk (by kernel_rfl) ?_
  simp -dsimp [g1,g4,g5]
  refine Zv (fun (j:Nat) f H'=>M=H'∧f 1=.bp H.length 0∧f 4=I i∧f 5=Vr.sl vs∧f 6=I j∧j≤vs.length∧YI Zbl (vs.drop j)=YI Zbl vs) (fun j=>vs.length-j) (by kernel_rfl) 0 (by simp [g1,g4,g5]) ?_
  clear g g1 g4 g5
  rintro j g _ ⟨rfl,g1,g4,g5,g6,hj,hinv2⟩
  simp -dsimp [g1,g4,g5,g6]
  refine Zb (fun hjt=>?_) (fun hjt=>?_)
  ·rw [Jn _ hjt] at hinv2
   have err2:Zbl vs[j]=13→ZW H (fun x H'=>x=.ret (I E)∧H'=H) (.ret (I 13)) M:=fun h=>err _ rfl (by rw [hmf,←hinv2,h];rfl)
   replace err:=YE.mk err
   replace err2:=YE.mk err2
   replace hE:=YE.mk hE
   replace hinv:=YE.mk hinv
   replace hinv2:=YE.mk hinv2
   replace fin:=YE.mk fin
   replace fin0:=YE.mk fin0
   replace hp:=YE.mk hp
   replace hmf:=YE.mk hmf
   replace hvs:=YE.mk hvs
   replace hF:=YE.mk hF
   replace hvl:=YE.mk hvl
   clear cv
   have hvj:vs[j]?=some vs[j]:=List.getElem?_eq_getElem hjt
   simp -dsimp [g1,g4,g5,g6,hvj]
   repeat' ((with_reducible first|refine And.intro ?_ ?_|refine Zm (fun _=>?_) (fun _=>?_)|refine Zn (fun _=>?_) (fun _=>?_)|refine Zb (fun _=>?_) (fun _=>?_)|refine Zr (fun _=>?_) (fun _ _ _=>?_)|refine Zt (fun _=>?_) (fun _ _ _=>?_)|refine Zq (fun _=>?_) (fun _ _ _=>?_)|refine Zs (fun _ _ _=>?_) (fun _=>?_)|refine Zp (fun _ _ _=>?_) (fun _=>?_)|refine Zl (fun _ _ _=>?_) (fun _=>?_)|refine Zz (fun _=>?_) (fun _=>?_)|refine Zy (fun _=>?_) (fun _=>?_)|refine Z6 (fun _=>?_) (fun _=>?_)|refine Zw (fun _=>?_) (fun _=>?_)|refine Zx (fun _=>?_) (fun _=>?_)|refine Z3 (fun _=>?_) (fun _=>?_))<;>simp -dsimp [g1,g4,g5,g6,hvj, *])
   all_goals have hvl:=hvl.out
   all_goals first
    |(refine err2.out ?_
      unfold Zbl Xf
      rw [if_pos (by omega)]
      first|(rw [decide_eq_false (show ¬(1≤vs[j].size) by omega)];rfl)|(rw [decide_eq_false (show ¬(vs[j].size≤512) by omega),Bool.and_false];rfl))
    |(have e:Zbl vs[j]=0:=by
       unfold Zbl Xf
       first
        |(rw [if_pos (by omega),decide_eq_true (by omega),decide_eq_true (by omega)];rfl)
        |rw [if_neg (by omega)]
      have hinv2:=hinv2.out
      rw [e,Zj] at hinv2
      exact⟨j+1,by omega,ZC (by omega),by omega,hinv2⟩)
    |trace_state
  ·rw [JI _ hjt] at hinv2
   simp -dsimp [g1,g4]
   rw [hmf];exact hinv2.symm
 clear g g1
 rintro g _ ⟨rfl,g1,hz3⟩
 rw [hz3,Zj] at hE
 have hz4:=hz3
 have hsz0:∀r∈p.regions,ZeT r:=fun r hr=>Zrx (ZkP hz r hr)
 clear hz hz3
 obtain⟨rl,hrl⟩:∃rl,rl=p.regions.map Rg.name:=⟨_,rfl⟩
 obtain⟨fl,hfl⟩:∃fl,fl=p.funcs.map Fc.name:=⟨_,rfl⟩
 have hrll:rl.length=p.regions.length:=by rw [hrl];simp
 have hfll:fl.length=p.funcs.length:=by rw [hfl];simp
 rw [←hrl,←hfl] at hE
 have hMb:∀W,(∃L,W=M++L)→W[H.length]?=some (.box 25 [Rg.sl p.regions,Fc.sl p.funcs]):=fun W hW=>by obtain⟨L,rfl⟩:=hW;exact hMpL L
 have finW:∀c W,(∃L,W=M++L)→c=E→ZW H (fun x H'=>x=.ret (I E)∧H'=H) (.ret (I c)) W:=fun c W hW hc=>by obtain⟨L,rfl⟩:=hW;exact fin c L hc
 have hWl:∀W,(∃L,W=M++L)→M.length≤W.length:=fun W hW=>by obtain⟨L,rfl⟩:=hW;simp
 clear hMpL hMp fin fin0
 refine Zc (fun f H'=>M=H'∧f 1=.bp H.length 0∧f 7=Yp) (by kernel_rfl) ?_ ?_
 ·simp -dsimp [g1]
 clear g g1
 rintro g _ ⟨rfl,g1,g7⟩
 --regions' names
 refine J2 (fun d=>d==167) (fun _=>none) (fun f W=>(∃L,W=M++L)∧f 1=.bp H.length 0∧Zmw M.length W (f 7) rl∧JT [] rl=0) (by kernel_rfl) ?_ ?_
 ·simp -dsimp [g1,g7]
  refine Ju (hn:=fun d=>d==167) (od:=fun _=>none) (fun (i:Nat) f W=>(∃L,W=M++L)∧f 1=.bp H.length 0∧f 8=I i∧i≤p.regions.length∧Zmw M.length W (f 7) (rl.take i)∧JT (rl.take i) (rl.drop i)=JT [] rl) (fun i=>p.regions.length-i) (by kernel_rfl) 0 (by simp [g1,g7];exact⟨none,rfl,rfl⟩) ?_
  clear g g1 g7
  rintro i g W ⟨hW,g1,g8,hi,⟨h,hr⟩,hinv⟩
  obtain⟨x,g7⟩:∃x,g 7=x:=⟨_,rfl⟩
  rw [g7] at hr
  have hb:=hMb W hW
  simp -dsimp [g1,g7,g8,hb]
  refine Zb (fun hlt=>?_) (fun hlt=>?_)
  ·have hlr:i<rl.length:=by omega
   rw [Zo hlr,JT] at hinv
   have hnm:rl[i]=p.regions[i].name:=by subst hrl;simp
   obtain⟨nm,hnme⟩:∃nm,nm=p.regions[i].name:=⟨_,rfl⟩
   rw [hnm,←hnme] at hinv
   have hsz:=hp.ok.nok.regions _ (List.getElem_mem hlt)
   rw [←hnme] at hsz
   have cn:=fun H=>Zid nm hsz H
   have chs:=Zft hr (by simp;omega) nm
   have err:∀W,(∃L,W=M++L)→Zjg (rl.take i) nm=8→ZW H (fun x H'=>x=.ret (I E)∧H'=H) (.ret (I 8)) W:=fun W hW h8=>finW 8 W hW (by
    rw [h8,Zu (by decide)] at hinv
    rw [←hinv,Zu (by decide)] at hE;exact hE)
   have hri:p.regions[i]?=some p.regions[i]:=List.getElem?_eq_getElem hlt
   simp -dsimp [g1,g7,g8,hb,hri,←hnme]
   refine Za (cn _) ?_
   simp -dsimp
   unfold Zjg at hinv err
   cases hnb:XV nm
   ·simp -dsimp
    exact err _ hW (by rw [hnb];rfl)
   ·simp -dsimp [g1,g7,g8,hb,hri,←hnme]
    refine Za chs ?_
    simp -dsimp
    cases hib:inB (rl.take i) nm
    ·simp -dsimp [g1,g7,g8,hb,hri,←hnme]
     refine ZcG (ys:=[nm]) hr (hWl W hW) rfl rfl (by decide) (by simp;omega) (fun h' x' W' hr' hk=>?_)
     rw [hnb,hib] at hinv
     simp only [Bool.not_false,Bool.and_self,Y0,Zj] at hinv
     have htk:rl.take (i+1)=rl.take i++[nm]:=by rw [Y1 hlr,hnm,hnme]
     simp -dsimp [g1,g7,g8]
     exact⟨i+1,by omega,hk.pre M rfl hW,ZC (by omega),by omega,⟨h',by rw [htk];exact hr'⟩,by rw [htk];exact hinv⟩
    ·simp -dsimp
     exact err _ hW (by rw [hnb,hib];rfl)
  ·rw [ZI (by omega),JT] at hinv
   rw [List.take_of_length_le (by omega)] at hr
   simp -dsimp [g1,g7]
   exact⟨hW,⟨h,hr⟩,hinv.symm⟩
 clear g g1 g7
 rintro g W ⟨hW,g1,⟨h,hr⟩,hz⟩
 rw [hz,Zj] at hE
 clear hz
 obtain⟨x,g7⟩:∃x,g 7=x:=⟨_,rfl⟩
 rw [g7] at hr
 --a copy
 refine J2 (fun d=>d==169) (fun _=>none) (fun f W=>(∃L,W=M++L)∧f 1=.bp H.length 0∧Zs5 M.length W (f 7) rl (f 9) rl) (by kernel_rfl) ?_ ?_
 ·have hsrc:=ZjI hr
  simp -dsimp [g1,g7,hsrc]
  refine ZcG (ys:=rl) (l:=[]) (h:=none) ⟨rfl,rfl⟩ (hWl W hW) rfl rfl (by decide) (by simp;omega) (fun q y W' hr' hk=>?_)
  obtain⟨r1,r2⟩:=hk.row hr (fun j hj=>by simp)
  simp -dsimp [g1,g7]
  exact⟨hk.pre M rfl hW,⟨h,q,r1,hr',fun j hj he=>r2 j he hj⟩⟩
 clear g g1 g7 hr hW W x h
 rintro g W ⟨hW,g1,⟨h,q,hr,hq,hap⟩⟩
 --functions' names
 refine J2 (fun d=>d==203) (fun _=>none) (fun f W=>(∃L,W=M++L)∧f 1=.bp H.length 0∧Zmw M.length W (f 9) rl∧JT rl fl=0) (by kernel_rfl) ?_ ?_
 ·simp -dsimp [g1]
  refine Ju (hn:=fun d=>d==203) (od:=fun _=>none) (fun (i:Nat) f W=>(∃L,W=M++L)∧f 1=.bp H.length 0∧f 10=I i∧i≤p.funcs.length∧Zs5 M.length W (f 7) (rl++fl.take i) (f 9) rl∧JT (rl++fl.take i) (fl.drop i)=JT rl fl) (fun i=>p.funcs.length-i) (by kernel_rfl) 0 (by simp [g1];exact⟨hW,⟨h,q,hr,hq,hap⟩⟩) ?_
  clear g g1 hr hq hap hW W h q
  rintro i g W ⟨hW,g1,g10,hi,⟨h,q,hr,hq,hap⟩,hinv⟩
  obtain⟨x,g7⟩:∃x,g 7=x:=⟨_,rfl⟩
  obtain⟨y,g9⟩:∃y,g 9=y:=⟨_,rfl⟩
  rw [g7] at hr
  rw [g9] at hq
  have hb:=hMb W hW
  simp -dsimp [g1,g7,g9,g10,hb]
  refine Zb (fun hlt=>?_) (fun hlt=>?_)
  ·have hlr:i<fl.length:=by omega
   rw [Zo hlr,JT] at hinv
   have hnm:fl[i]=p.funcs[i].name:=by subst hfl;simp
   obtain⟨nm,hnme⟩:∃nm,nm=p.funcs[i].name:=⟨_,rfl⟩
   rw [hnm,←hnme] at hinv
   have hsz:=(hp.ok.nok.funcs _ (List.getElem_mem hlt)).1
   rw [←hnme] at hsz
   have cn:=fun H=>Zid nm hsz H
   have chs:=Zft hr (by simp;omega) nm
   have err:∀W,(∃L,W=M++L)→Zjg (rl++fl.take i) nm=8→ZW H (fun x H'=>x=.ret (I E)∧H'=H) (.ret (I 8)) W:=fun W hW h8=>finW 8 W hW (by
    rw [h8,Zu (by decide)] at hinv
    rw [←hinv,Zu (by decide)] at hE;exact hE)
   have hri:p.funcs[i]?=some p.funcs[i]:=List.getElem?_eq_getElem hlt
   simp -dsimp [g1,g7,g9,g10,hb,hri,←hnme]
   refine Za (cn _) ?_
   simp -dsimp
   unfold Zjg at hinv err
   cases hnb:XV nm
   ·simp -dsimp
    exact err _ hW (by rw [hnb];rfl)
   ·simp -dsimp [g1,g7,g9,g10,hb,hri,←hnme]
    refine Za chs ?_
    simp -dsimp
    cases hib:inB (rl++fl.take i) nm
    ·simp -dsimp [g1,g7,g9,g10,hb,hri,←hnme]
     refine ZcG (ys:=[nm]) hr (hWl W hW) rfl rfl (by decide) (by simp;omega) (fun h' x' W' hr' hk=>?_)
     rw [hnb,hib] at hinv
     simp only [Bool.not_false,Bool.and_self,Y0,Zj] at hinv
     have htk:rl++fl.take (i+1)=rl++fl.take i++[nm]:=by rw [Y1 hlr,hnm,hnme,List.append_assoc]
     obtain⟨r1,r2⟩:=hk.row hq hap
     simp -dsimp [g1,g7,g9,g10]
     exact⟨i+1,by omega,hk.pre M rfl hW,ZC (by omega),by omega,⟨h',q,by rw [htk];exact hr',r1,r2⟩,by rw [htk];exact hinv⟩
    ·simp -dsimp
     exact err _ hW (by rw [hnb,hib];rfl)
  ·rw [ZI (by omega),JT] at hinv
   simp -dsimp [g1,g9]
   exact⟨hW,⟨q,hq⟩,hinv.symm⟩
 clear g g1 hr hq hap hW W h q
 rintro g W ⟨hW,g1,⟨q,hq⟩,hz⟩
 rw [hz,Zj] at hE
 clear hz
 --variables' names
 obtain⟨y,hy⟩:∃y,g 9=y:=⟨_,rfl⟩
 rw [hy] at hq
 refine Z4 (fun f W=>(∃L,W=M++L)∧f 1=.bp H.length 0∧YI (Zgz rl) p.funcs=0) ?_ ?_
 ·refine Zc (fun f W=>(∃L,W=M++L)∧f 1=.bp H.length 0∧Zmw M.length W (f 9) rl∧f 11=I 0) (by kernel_rfl) ?_ ?_
  ·simp -dsimp [g1,hy]
   exact⟨hW,q,hq⟩
  clear g g1 hy hq hW W y q
  rintro g W ⟨hW,g1,hq,g11⟩
  refine Z9 ?_
  refine Yd (fun (i:Nat) f W=>(∃L,W=M++L)∧f 1=.bp H.length 0∧Zmw M.length W (f 9) rl∧f 11=I i∧i≤p.funcs.length∧YI (Zgz rl) (p.funcs.drop i)=YI (Zgz rl) p.funcs) (fun i=>p.funcs.length-i) 0 ⟨hW,g1,hq,g11,by omega,by simp⟩ ?_
  clear g g1 g11 hq hW W
  rintro i g W ⟨hW,g1,hq,g11,hi,hinv⟩
  refine Zc (fun f W=>(∃L,W=M++L)∧f 1=.bp H.length 0∧Zmw M.length W (f 9) rl∧f 11=I i∧i<p.funcs.length) (by kernel_rfl) ?_ ?_
  ·have hb:=hMb W hW
   simp -dsimp [g1,g11,hb]
   refine Zb (fun hlt=>?_) (fun hlt=>?_)
   ·simp -dsimp [g1,g11]
    exact⟨hW,hq,by omega⟩
   ·rw [JI _ (by omega)] at hinv
    simp -dsimp [g1]
    exact⟨hW,hinv.symm⟩
  clear g g1 g11 hq hW W
  rintro g W ⟨hW,g1,hq,g11,hlt⟩
  rw [Jn _ hlt] at hinv
  have hpp:=hp.ok.ok.params _ (List.getElem_mem hlt)
  have hpv:=hp.ok.ok.vars _ (List.getElem_mem hlt)
  obtain⟨_,hnv,hnr⟩:=hp.ok.nok.funcs _ (List.getElem_mem hlt)
  have hfb:=Zrf hz4 _ (List.getElem_mem hlt)
  have hfi:p.funcs[i]?=some p.funcs[i]:=List.getElem?_eq_getElem hlt
  obtain⟨F,hF⟩:∃F,F=p.funcs[i]:=⟨_,rfl⟩
  rw [←hF] at hinv hpp hpv hnv hnr hfb hfi
  clear hF
  have cv:=fun H=>Zhn F hpp hpv H
  obtain⟨vs,hvs⟩:∃vs,vs=F.params++F.vars:=⟨_,rfl⟩
  have hvl:vs.length≤64:=by rw [hvs,List.length_append];omega
  simp only [Fc.cells] at cv
  rw [←hvs] at cv hnv
  obtain⟨ns,hns⟩:∃ns,ns=vs.map Vr.name:=⟨_,rfl⟩
  have hnl:ns.length=vs.length:=by rw [hns];simp
  have hnF:Zgz rl F=ZK (JT rl ns) (Zdj (YV vs) [] F.rets):=by rw [Zgz,←hvs,hns]
  rw [hnF] at hinv
  have errE:∀c W,c≠0→(∃L,W=M++L)→ZK (JT rl ns) (Zdj (YV vs) [] F.rets)=c→ZW H (fun x H'=>x=.ret (I E)∧H'=H) (.ret (I c)) W:=fun c W hc hW h=>finW c W hW (by
   rw [h,Zu hc] at hinv
   rw [←hinv,Zu hc] at hE;exact hE)
  refine Z4 (fun f W=>(∃L,W=M++L)∧f 1=.bp H.length 0∧Zmw M.length W (f 9) rl∧f 11=I i∧ZK (JT rl ns) (Zdj (YV vs) [] F.rets)=0) ?_ ?_
  rotate_left
  ·clear g g1 g11 hq hW W
   rintro g W ⟨hW,g1,hq,g11,h0⟩
   rw [h0,Zj] at hinv
   obtain⟨y,hy⟩:∃y,g 9=y:=⟨_,rfl⟩
   refine Zk (by kernel_rfl) ?_
   simp -dsimp [g1,g11]
   exact⟨i+1,by omega,hW,hq,ZC (by omega),by omega,hinv⟩
  refine Z9 ?_
  refine Zc (fun f W=>(∃L,W=M++L)∧f 1=.bp H.length 0∧Zmw M.length W (f 9) rl∧f 11=I i∧f 12=Vr.sl vs) (by kernel_rfl) ?_ ?_
  ·have hb:=hMb W hW
   simp -dsimp [g1,g11,hb,hfi]
   refine Za (cv _) ?_
   simp -dsimp [g1,g11]
   exact⟨hW,hq⟩
  clear g g1 g11 hq hW W cv
  rintro g W ⟨hW,g1,⟨q,hq⟩,g11,g12⟩
  obtain⟨y,hy⟩:∃y,g 9=y:=⟨_,rfl⟩
  rw [hy] at hq
  refine J2 (fun d=>d==218) (fun _=>none) (fun f W=>(∃L,W=M++L)∧f 1=.bp H.length 0∧Zs5 M.length W (f 9) rl (f 13) rl∧f 11=I i∧f 12=Vr.sl vs) (by kernel_rfl) ?_ ?_
  ·have hsrc:=ZjI hq
   simp -dsimp [g1,g11,g12,hy,hsrc]
   refine ZcG (ys:=rl) (l:=[]) (h:=none) ⟨rfl,rfl⟩ (hWl W hW) rfl rfl (by decide) (by simp;omega) (fun h y' W' hr' hk=>?_)
   obtain⟨r1,r2⟩:=hk.row hq (fun j hj=>by simp)
   simp -dsimp [g1,g11,g12,hy]
   exact⟨hk.pre M rfl hW,q,h,r1,hr',fun j hj he=>r2 j he hj⟩
  clear g g1 g11 g12 hy hq hW W y q
  rintro g W ⟨hW,g1,⟨q,h,hq,hh,hap⟩,g11,g12⟩
  obtain⟨y,hy⟩:∃y,g 9=y:=⟨_,rfl⟩
  obtain⟨u,hu⟩:∃u,g 13=u:=⟨_,rfl⟩
  rw [hy] at hq
  rw [hu] at hh
  refine Zc (fun f W=>(∃L,W=M++L)∧f 1=.bp H.length 0∧Zqb M.length W (f 9) rl (f 13) rl (f 14) []∧f 11=I i∧f 12=Vr.sl vs) (by kernel_rfl) ?_ ?_
  ·simp -dsimp [g1,g11,g12,hy,hu]
   exact⟨hW,⟨q,h,none,hq,hh,⟨rfl,rfl⟩,hap,nofun,nofun⟩⟩
  clear g g1 g11 g12 hy hu hq hh hap hW W y u q h
  rintro g W ⟨hW,g1,h3,g11,g12⟩
  refine J2 (fun d=>d==248||d==262) (fun _=>none) (fun f W=>(∃L,W=M++L)∧f 1=.bp H.length 0∧Zs5 M.length W (f 9) rl (f 14) (YV vs)∧f 11=I i∧JT rl ns=0) (by kernel_rfl) ?_ ?_
  ·simp -dsimp [g1,g11,g12]
   refine Ju (hn:=fun d=>d==248||d==262) (od:=fun _=>none) (fun (j:Nat) f W=>(∃L,W=M++L)∧f 1=.bp H.length 0∧Zqb M.length W (f 9) rl (f 13) (rl++ns.take j) (f 14) (YV (vs.take j))∧f 11=I i∧f 12=Vr.sl vs∧f 15=I j∧j≤vs.length∧JT (rl++ns.take j) (ns.drop j)=JT rl ns) (fun j=>vs.length-j) (by kernel_rfl) 0 (by simp [g1,g11,g12,YV];exact⟨hW,h3⟩) ?_
   clear g g1 g11 g12 h3 hW W
   rintro j g W ⟨hW,g1,⟨q,h,r,hq,hh,hr,a1,a2,a3⟩,g11,g12,g15,hj,hinv2⟩
   obtain⟨y,hy⟩:∃y,g 9=y:=⟨_,rfl⟩
   obtain⟨u,hu⟩:∃u,g 13=u:=⟨_,rfl⟩
   obtain⟨v,hv⟩:∃v,g 14=v:=⟨_,rfl⟩
   rw [hy] at hq
   rw [hu] at hh
   rw [hv] at hr
   simp -dsimp [g1,g11,g12,g15,hy,hu,hv]
   refine Zb (fun hjt=>?_) (fun hjt=>?_)
   ·have hlr:j<ns.length:=by omega
    rw [Zo hlr,JT] at hinv2
    have hnm:ns[j]=vs[j].name:=by subst hns;simp
    have hsz:=hnv _ (List.getElem_mem hjt)
    have hvj:vs[j]?=some vs[j]:=List.getElem?_eq_getElem hjt
    have hwv:YV (vs.take (j+1))=if vs[j].kind==1 then YV (vs.take j)++[vs[j].name] else YV (vs.take j):=by
     rw [Y1 hjt]
     unfold YV
     rw [List.filter_append,List.map_append]
     by_cases e:(vs[j].kind==1)=true
     ·rw [if_pos e];simp [List.filter_cons,e]
     ·rw [if_neg e];simp [List.filter_cons,e]
    obtain⟨V,hV⟩:∃V,V=vs[j]:=⟨_,rfl⟩
    rw [←hV] at hnm hsz hvj hwv
    rw [hnm] at hinv2
    have cn:=fun H=>Zid V.name hsz H
    have hlen1:(rl++ns.take j).length≤2^20:=by simp;omega
    have hlen2:(YV (vs.take j)).length≤2^20:=by
     have:(YV (vs.take j)).length≤(vs.take j).length:=by unfold YV;rw [List.length_map];exact List.length_filter_le _ _
     have h2:(vs.take j).length≤vs.length:=by rw [List.length_take];omega
     omega
    have chs:=Zft hh (by omega) V.name
    have err:∀W,(∃L,W=M++L)→Zjg (rl++ns.take j) V.name=8→ZW H (fun x H'=>x=.ret (I E)∧H'=H) (.ret (I 8)) W:=fun W hW h8=>errE 8 W (by decide) hW (by
     rw [←hinv2,h8];rfl)
    simp -dsimp [g1,g11,g12,g15,hy,hu,hv,hvj]
    refine Za (cn _) ?_
    simp -dsimp
    unfold Zjg at hinv2 err
    cases hnb:XV V.name
    ·simp -dsimp
     exact err _ hW (by rw [hnb];rfl)
    ·simp -dsimp [g1,g11,g12,g15,hy,hu,hv,hvj]
     refine Za chs ?_
     simp -dsimp
     cases hib:inB (rl++ns.take j) V.name
     ·simp -dsimp [g1,g11,g12,g15,hy,hu,hv,hvj]
      refine ZcG (ys:=[V.name]) hh (hWl W hW) rfl rfl (by decide) (by simp only [List.length_cons,List.length_nil];omega) (fun h' x' W' hr' hk=>?_)
      rw [hnb,hib] at hinv2
      simp only [Bool.not_false,Bool.and_self,Y0,Zj] at hinv2
      have htk:rl++ns.take (j+1)=rl++ns.take j++[V.name]:=by rw [Y1 hlr,hnm,List.append_assoc]
      obtain⟨b1,b2⟩:=hk.row hq (fun j hj he=>a1 j he hj)
      obtain⟨b3,b4⟩:=hk.row hr a3
      have hW':=hk.pre M rfl hW
      simp -dsimp [g1,g11,g12,g15,hy,hu,hv,hvj]
      refine Zq (fun hk1=>?_) (fun hk1 hk1b _=>?_)
      ·simp -dsimp [g1,g11,g12,g15,hy,hu,hv,hvj]
       refine ZcG (ys:=[V.name]) b3 (hWl W' hW') rfl rfl (by decide) (by simp only [List.length_cons,List.length_nil];omega) (fun r' x'' W'' hr'' hk2=>?_)
       obtain⟨c1,c2⟩:=hk2.row b1 (fun j hj he=>a2 j he hj)
       obtain⟨c3,c4⟩:=hk2.row hr' (fun j hj he=>b4 j he hj)
       rw [if_pos (by simpa using hk1)] at hwv
       simp -dsimp [g1,g11,g12,g15,hy]
       exact⟨j+1,by omega,hk2.pre M rfl hW',⟨q,h',r',c1,by rw [htk];exact c3,by rw [hwv];exact hr'',fun j hj he=>b2 j he hj,fun j hj he=>c2 j he hj,fun j hj he=>c4 j he hj⟩,ZC (by omega),by omega,by rw [htk];exact hinv2⟩
      ·rw [if_neg (by simpa using hk1)] at hwv
       simp -dsimp [g1,g11,g12,g15,hy,hv]
       exact⟨j+1,by omega,hW',⟨q,h',r,b1,by rw [htk];exact hr',by rw [hwv];exact b3,fun j hj he=>b2 j he hj,a2,b4⟩,ZC (by omega),by omega,by rw [htk];exact hinv2⟩
     ·simp -dsimp
      exact err _ hW (by rw [hnb,hib];rfl)
   ·rw [ZI (by omega),JT] at hinv2
    rw [List.take_of_length_le (by omega)] at hr
    simp -dsimp [g1,g11,hy,hv]
    exact⟨hW,⟨q,r,hq,hr,a2⟩,hinv2.symm⟩
  clear g g1 g11 g12 h3 hW W
  rintro g W ⟨hW,g1,h2,g11,hz5⟩
  simp only [hz5,Zj] at hnF hinv errE ⊢
  obtain⟨q,r,hq,hr,hap⟩:=h2
  obtain⟨y,hy⟩:∃y,g 9=y:=⟨_,rfl⟩
  obtain⟨v,hv⟩:∃v,g 14=v:=⟨_,rfl⟩
  rw [hy] at hq
  rw [hv] at hr
  have hwl:(YV vs).length≤2^20:=by
   have:(YV vs).length≤vs.length:=by unfold YV;rw [List.length_map];exact List.length_filter_le _ _
   omega
  have hb:=hMb W hW
  refine Zk (by kernel_rfl) ?_
  simp -dsimp [g1,g11,hy,hv]
  refine Zv (fun (j:Nat) f W'=>W=W'∧f 1=.bp H.length 0∧f 9=y∧f 14=v∧f 11=I i∧f 16=I j∧j≤F.rets.length∧Zdj (YV vs) (F.rets.take j) (F.rets.drop j)=Zdj (YV vs) [] F.rets) (fun j=>F.rets.length-j) (by kernel_rfl) 0 (by simp [g1,g11,hy,hv]) ?_
  clear g g1 g11 hy hv
  rintro j g _ ⟨rfl,g1,hy,hv,g11,g16,hj,hinv2⟩
  simp -dsimp [g1,g11,g16,hy,hv,hb,hfi]
  refine Zb (fun hjt=>?_) (fun hjt=>?_)
  ·rw [Zo hjt,Zdj] at hinv2
   obtain⟨nm,hnm⟩:∃nm,nm=F.rets[j]:=⟨_,rfl⟩
   have hrj:F.rets[j]?=some nm:=by rw [hnm];exact List.getElem?_eq_getElem hjt
   rw [←hnm] at hinv2
   have chs:=Zft hr (by omega) nm
   have cc:=fun H=>Zcn (F.rets.take j) nm (by simp;omega) H
   simp only [St.sl,List.map_take] at cc
   have hile:j≤F.rets.length:=hj
   have err:ZM (inB (YV vs) nm&& !inB (F.rets.take j) nm) 8=8→ZW H (fun x H'=>x=.ret (I E)∧H'=H) (.ret (I 8)) W:=fun h8=>errE 8 W (by decide) hW (by rw [←hinv2,h8];rfl)
   simp -dsimp [g1,g11,g16,hy,hv,hb,hfi,hrj]
   refine Zd chs ?_
   simp -dsimp
   cases hib:inB (YV vs) nm
   ·simp -dsimp
    exact err (by rw [hib];rfl)
   ·simp -dsimp [g1,g11,g16,hy,hv,hb,hfi,hrj,hile]
    refine Zd (cc _) ?_
    simp -dsimp
    cases hdb:inB (F.rets.take j) nm
    ·have hdb2:((F.rets.take j).any fun x=>decide (nm=x))=false:=hdb
     rw [hib,hdb] at hinv2
     simp only [Bool.not_false,Bool.and_self,Y0,Zj] at hinv2
     rw [hdb2]
     simp -dsimp [g1,g11,g16,hy,hv]
     exact⟨j+1,by omega,ZC (by omega),by omega,by rw [Y1 hjt,←hnm];exact hinv2⟩
    ·have hdb2:((F.rets.take j).any fun x=>decide (nm=x))=true:=hdb
     rw [hdb2]
     simp -dsimp
     exact err (by rw [hib,hdb];rfl)
  ·rw [ZI hjt,Zdj] at hinv2
   simp -dsimp [g1,g11,hy]
   exact⟨hW,⟨q,hq⟩,hinv2.symm⟩
 clear g g1 hy hq hW W y q
 rintro g W ⟨hW,g1,hz6⟩
 rw [hz6,Zj] at hE
 --where regions lie
 refine Z4 (fun f W=>(∃L,W=M++L)∧f 1=.bp H.length 0∧Xp [] p.regions=0) ?_ ?_
 ·refine Zc (fun f W=>(∃L,W=M++L)∧f 1=.bp H.length 0∧f 17=I 0) (by kernel_rfl) ?_ ?_
  ·simp -dsimp [g1]
   exact hW
  clear g g1 hW W
  rintro g W ⟨hW,g1,g17⟩
  refine Z9 ?_
  refine Yd (fun (i:Nat) f W=>(∃L,W=M++L)∧f 1=.bp H.length 0∧f 17=I i∧i≤p.regions.length∧Xp (p.regions.take i) (p.regions.drop i)=Xp [] p.regions∧(∀r∈p.regions.take i,0≤r.addr∧r.addr≤49152)) (fun i=>p.regions.length-i) 0 ⟨hW,g1,g17,by omega,by simp,by simp⟩ ?_
  clear g g1 g17 hW W
  rintro i g W ⟨hW,g1,g17,hi,hinv,hin⟩
  refine Zc (fun f W=>(∃L,W=M++L)∧f 1=.bp H.length 0∧f 17=I i∧i<p.regions.length) (by kernel_rfl) ?_ ?_
  ·have hb:=hMb W hW
   simp -dsimp [g1,g17,hb]
   refine Zb (fun hlt=>?_) (fun hlt=>?_)
   ·simp -dsimp [g1,g17]
    exact⟨hW,by omega⟩
   ·rw [ZI (by omega),Xp] at hinv
    simp -dsimp [g1]
    exact⟨hW,hinv.symm⟩
  clear g g1 g17 hW W
  rintro g W ⟨hW,g1,g17,hlt⟩
  rw [Zo hlt,Xp] at hinv
  obtain⟨hs1,hs2⟩:=hsz0 _ (List.getElem_mem hlt)
  have hri:p.regions[i]?=some p.regions[i]:=List.getElem?_eq_getElem hlt
  have htk:=Y1 hlt
  obtain⟨r,hr⟩:∃r,r=p.regions[i]:=⟨_,rfl⟩
  rw [←hr] at hinv hs1 hs2 hri htk
  clear hr
  have errE:∀W,(∃L,W=M++L)→Xp [] p.regions=14→ZW H (fun x H'=>x=.ret (I E)∧H'=H) (.ret (I 14)) W:=fun W hW h=>finW 14 W hW (by rw [h,Zu (by decide)] at hE;exact hE)
  refine Z4 (fun f W=>(∃L,W=M++L)∧f 1=.bp H.length 0∧f 17=I i∧Xp (p.regions.take (i+1)) (p.regions.drop (i+1))=Xp [] p.regions∧0≤r.addr∧r.addr≤49152) ?_ ?_
  rotate_left
  ·clear g g1 g17 hW W
   rintro g W ⟨hW,g1,g17,h0,h1,h2⟩
   refine Zk (by kernel_rfl) ?_
   simp -dsimp [g1,g17]
   refine⟨i+1,by omega,hW,ZC (by omega),by omega,h0,fun q hq=>?_⟩
   rw [htk] at hq
   rcases List.mem_append.1 hq with hq|hq
   ·exact hin q hq
   ·obtain rfl:=List.mem_singleton.1 hq;exact⟨h1,h2⟩
  refine Z9 ?_
  obtain⟨V,hV⟩:∃V,V=W++[.box 96 r.cells]:=⟨_,rfl⟩
  refine Zc (fun f W'=>V=W'∧f 1=.bp H.length 0∧f 17=I i∧f 18=.bp W.length 0) (by kernel_rfl) ?_ ?_
  ·have hb:=hMb W hW
   simp -dsimp [g1,g17,hb,hri,hV]
  clear g g1 g17
  rintro g _ ⟨rfl,g1,g17,g18⟩
  have hVr:∀L,(V++L)[W.length]?=some (.box 96 r.cells):=fun L=>by rw [hV];simp
  have hVr0:V[W.length]?=some (.box 96 r.cells):=by rw [hV];simp
  have hVW:∀L,∃L',V++L=M++L':=fun L=>by obtain⟨L1,rfl⟩:=hW;rw [hV];exact⟨L1++([.box 96 r.cells]++L),by simp⟩
  have hVW0:∃L',V=M++L':=by have:=hVW [];simpa using this
  obtain⟨w,hw⟩:∃w,w=W.length:=⟨_,rfl⟩
  rw [←hw] at g18 hVr hVr0
  clear hV hW hw
  have w1:IntKind.i64.wrap (8*r.size)=8*r.size:=YG (by omega) (by omega)
  refine Zc (fun f W'=>V=W'∧f 1=.bp H.length 0∧f 17=I i∧f 18=.bp w 0∧Zcc r=0∧0≤r.addr∧r.addr≤49152-8*r.size) (by kernel_rfl) ?_ ?_
  ·have w5:0≤r.addr→r.addr≤49152→IntKind.i64.wrap (r.addr+8*r.size)=r.addr+8*r.size:=fun h1 h2=>YG (by omega) (by omega)
   have err:Zcc r=14→ZW H (fun x H'=>x=.ret (I E)∧H'=H) (.ret (I 14)) V:=fun h=>errE V hVW0 (by rw [←hinv,h];rfl)
   replace hE:=YE.mk hE
   replace hinv:=YE.mk hinv
   replace hin:=YE.mk hin
   replace hp:=YE.mk hp
   replace hsz0:=YE.mk hsz0
   replace hz4:=YE.mk hz4
   replace err:=YE.mk err
   replace errE:=YE.mk errE
   replace finW:=YE.mk finW
   replace hWl:=YE.mk hWl
   replace hMb:=YE.mk hMb
   replace hrl:=YE.mk hrl
   replace hfl:=YE.mk hfl
   replace htk:=YE.mk htk
   replace hVW:=YE.mk hVW
   replace hVW0:=YE.mk hVW0
   simp only [Rg.cells] at hVr0 hVr
   simp -dsimp [g1,g17,g18,hVr0,w1]
   refine Zn (fun h1=>?_) (fun h1=>?_)
   ·simp -dsimp [g1,g17,g18,hVr0,w1,h1]
    exact err.out (ZdX (by omega))
   simp -dsimp [g1,g17,g18,hVr0,w1,h1]
   refine Zn (fun h2=>?_) (fun h2=>?_)
   ·simp -dsimp [g1,g17,g18,hVr0,w1,h1,h2]
    exact err.out (ZdX (by omega))
   have w6:=w5 (by omega) (by omega)
   simp -dsimp [g1,g17,g18,hVr0,w1,h1,h2,w6]
   refine Zp (fun h3 h3a h3b=>?_) (fun h3=>?_)
   ·simp -dsimp [g1,g17,g18,hVr0,w1,w6,h1,h2,h3a,h3b]
    exact err.out (ZdX (by omega))
   simp -dsimp [g1,g17,g18,hVr0,w1,w6,h1,h2,h3]
   refine Zb (fun h4=>?_) (fun h4=>?_)
   ·simp -dsimp
    exact err.out (ZdX (by omega))
   ·simp -dsimp [g1,g17,g18]
    exact⟨ZrD (by omega),by omega,by omega⟩
  clear g g1 g17 g18
  rintro g _ ⟨rfl,g1,g17,g18,hb0,ha1,ha2⟩
  rw [hb0,Zj] at hinv
  clear hb0
  have w5:IntKind.i64.wrap (r.addr+8*r.size)=r.addr+8*r.size:=YG (by omega) (by omega)
  simp only [Rg.cells] at hVr0 hVr
  have hVb:∀L,(V++L)[H.length]?=some (.box 25 [Rg.sl p.regions,Fc.sl p.funcs]):=fun L=>hMb _ (hVW L)
  refine Zk (by kernel_rfl) ?_
  simp -dsimp [g1,g17,g18]
  refine Zv (fun (k:Nat) f W'=>(∃L,W'=V++L)∧f 1=.bp H.length 0∧f 17=I i∧f 18=.bp w 0∧f 19=I k∧k≤i∧YI (ZaC r) ((p.regions.take i).drop k)=YI (ZaC r) (p.regions.take i)) (fun k=>i-k) (by kernel_rfl) 0 (by simp [g1,g17,g18]) ?_
  clear g g1 g17 g18
  rintro k g _ ⟨⟨L2,rfl⟩,g1,g17,g18,g19,hk,hinv2⟩
  have hlt2:(p.regions.take i).length=i:=by rw [List.length_take];omega
  simp -dsimp [g1,g17,g18,g19]
  refine Zb (fun hkt=>?_) (fun hkt=>?_)
  ·have hkl:k<(p.regions.take i).length:=by omega
   rw [Jn _ hkl] at hinv2
   have hqk:(p.regions.take i)[k]=p.regions[k]'(by omega):=List.getElem_take
   obtain⟨q,hq⟩:∃q,q=(p.regions.take i)[k]:=⟨_,rfl⟩
   have hqm:q∈p.regions.take i:=by rw [hq];exact List.getElem_mem _
   obtain⟨hq1,hq2⟩:=hin q hqm
   obtain⟨hq3,hq4⟩:=hsz0 q (List.mem_of_mem_take hqm)
   have hqe:p.regions[k]?=some q:=by rw [hq,hqk];exact List.getElem?_eq_getElem (by omega)
   rw [←hq] at hinv2
   clear hq hqk
   have w3:IntKind.i64.wrap (8*q.size)=8*q.size:=YG (by omega) (by omega)
   have w4:IntKind.i64.wrap (q.addr+8*q.size)=q.addr+8*q.size:=YG (by omega) (by omega)
   have err:∀L,ZaC r q=14→ZW H (fun x H'=>x=.ret (I E)∧H'=H) (.ret (I 14)) (V++L):=fun L h=>errE _ (hVW L) (by rw [←hinv,←hinv2,h];rfl)
   simp -dsimp [g1,g17,g18,g19,hVb,hqe,hVr,w1,w3,w4,w5]
   refine Zm (fun h1=>?_) (fun h1=>?_)
   ·simp -dsimp [g1,g17,g18,g19,hVb,hqe,hVr,w1,w3,w4,w5,h1]
    refine Zb (fun h2=>?_) (fun h2=>?_)
    ·simp -dsimp
     exact err _ (Zpp (by omega))
    ·simp -dsimp [g1,g17,g18,g19]
     rw [Zlf (by omega),Zj] at hinv2
     exact⟨k+1,by omega,ZC (by omega),by omega,hinv2⟩
   ·simp -dsimp [g1,g17,g18,g19,h1]
    rw [Zlf (by omega),Zj] at hinv2
    exact⟨k+1,by omega,ZC (by omega),by omega,hinv2⟩
  ·rw [JI _ (by omega)] at hinv2
   rw [←hinv2,Zj] at hinv
   simp -dsimp [g1,g17]
   exact⟨hVW L2,by rw [htk];exact hinv,by omega,by omega⟩
 clear g g1 hW W
 rintro g W ⟨hW,g1,hz7⟩
 rw [hz7,Zj] at hE
 clear hz7
 --variables' kinds
 refine Z4 (fun f W=>(∃L,W=M++L)∧f 1=.bp H.length 0∧YI Zan p.funcs=0) ?_ ?_
 ·refine Zc (fun f W=>(∃L,W=M++L)∧f 1=.bp H.length 0∧f 21=I 0) (by kernel_rfl) ?_ ?_
  ·simp -dsimp [g1]
   exact hW
  clear g g1 hW W
  rintro g W ⟨hW,g1,g21⟩
  refine Z9 ?_
  refine Yd (fun (i:Nat) f W=>(∃L,W=M++L)∧f 1=.bp H.length 0∧f 21=I i∧i≤p.funcs.length∧YI Zan (p.funcs.drop i)=YI Zan p.funcs) (fun i=>p.funcs.length-i) 0 ⟨hW,g1,g21,by omega,by simp⟩ ?_
  clear g g1 g21 hW W
  rintro i g W ⟨hW,g1,g21,hi,hinv⟩
  refine Zc (fun f W=>(∃L,W=M++L)∧f 1=.bp H.length 0∧f 21=I i∧i<p.funcs.length) (by kernel_rfl) ?_ ?_
  ·have hb:=hMb W hW
   simp -dsimp [g1,g21,hb]
   refine Zb (fun hlt=>?_) (fun hlt=>?_)
   ·simp -dsimp [g1,g21]
    exact⟨hW,by omega⟩
   ·rw [JI _ (by omega)] at hinv
    simp -dsimp [g1]
    exact⟨hW,hinv.symm⟩
  clear g g1 g21 hW W
  rintro g W ⟨hW,g1,g21,hlt⟩
  rw [Jn _ hlt] at hinv
  have hfi:p.funcs[i]?=some p.funcs[i]:=List.getElem?_eq_getElem hlt
  have hpp:=hp.ok.ok.params _ (List.getElem_mem hlt)
  have hpv:=hp.ok.ok.vars _ (List.getElem_mem hlt)
  obtain⟨F,hF⟩:∃F,F=p.funcs[i]:=⟨_,rfl⟩
  rw [←hF] at hinv hfi hpp hpv
  clear hF
  have errE:∀W,(∃L,W=M++L)→Zan F=9→ZW H (fun x H'=>x=.ret (I E)∧H'=H) (.ret (I 9)) W:=fun W hW h=>finW 9 W hW (by
   rw [h,Zu (by decide)] at hinv
   rw [←hinv,Zu (by decide)] at hE;exact hE)
  refine Z4 (fun f W=>(∃L,W=M++L)∧f 1=.bp H.length 0∧f 21=I i∧Zan F=0) ?_ ?_
  rotate_left
  ·clear g g1 g21 hW W
   rintro g W ⟨hW,g1,g21,h0⟩
   rw [h0,Zj] at hinv
   refine Zk (by kernel_rfl) ?_
   simp -dsimp [g1,g21]
   exact⟨i+1,by omega,hW,ZC (by omega),by omega,hinv⟩
  refine Z9 ?_
  obtain⟨V,hV⟩:∃V,V=W++[.box 56 F.cells]:=⟨_,rfl⟩
  refine Zc (fun f W'=>V=W'∧f 1=.bp H.length 0∧f 21=I i∧f 22=.bp W.length 0) (by kernel_rfl) ?_ ?_
  ·have hb:=hMb W hW
   simp -dsimp [g1,g21,hb,hfi,hV]
  clear g g1 g21
  rintro g _ ⟨rfl,g1,g21,g22⟩
  have hVr:∀L,(V++L)[W.length]?=some (.box 56 F.cells):=fun L=>by rw [hV];simp
  have hVr0:V[W.length]?=some (.box 56 F.cells):=by rw [hV];simp
  have hVW:∀L,∃L',V++L=M++L':=fun L=>by obtain⟨L1,rfl⟩:=hW;rw [hV];exact⟨L1++([.box 56 F.cells]++L),by simp⟩
  have hVW0:∃L',V=M++L':=by have:=hVW [];simpa using this
  obtain⟨w,hw⟩:∃w,w=W.length:=⟨_,rfl⟩
  rw [←hw] at g22 hVr hVr0
  clear hV hW hw
  simp only [Fc.cells] at hVr hVr0
  refine Zc (fun f W'=>V=W'∧f 1=.bp H.length 0∧f 21=I i∧f 22=.bp w 0∧YI ZbD F.params=0) (by kernel_rfl) ?_ ?_
  ·simp -dsimp [g1,g21,g22]
   refine Zv (fun (k:Nat) f W'=>V=W'∧f 1=.bp H.length 0∧f 21=I i∧f 22=.bp w 0∧f 23=I k∧k≤F.params.length∧YI ZbD (F.params.drop k)=YI ZbD F.params) (fun k=>F.params.length-k) (by kernel_rfl) 0 (by simp [g1,g21,g22]) ?_
   clear g g1 g21 g22
   rintro k g _ ⟨rfl,g1,g21,g22,g23,hk,hinv2⟩
   simp -dsimp [g1,g21,g22,g23,hVr0]
   refine Zb (fun hkt=>?_) (fun hkt=>?_)
   ·rw [Jn _ hkt] at hinv2
    have hvk:F.params[k]?=some F.params[k]:=List.getElem?_eq_getElem hkt
    obtain⟨v,hv⟩:∃v,v=F.params[k]:=⟨_,rfl⟩
    rw [←hv] at hinv2 hvk
    clear hv
    have err:ZbD v=9→ZW H (fun x H'=>x=.ret (I E)∧H'=H) (.ret (I 9)) V:=fun h=>errE V hVW0 (by rw [Zan,←hinv2,h];rfl)
    simp -dsimp [g1,g21,g22,g23,hVr0,hvk]
    refine Zp (fun h1 h1a h1b=>?_) (fun h1=>?_)
    ·simp -dsimp [g1,g21,g22,g23,hVr0,h1a,h1b]
     exact err (by unfold ZbD ZM;rw [if_neg];simp [h1])
    simp -dsimp [g1,g21,g22,g23,hVr0,hvk,h1]
    refine Zl (fun h2 _ _=>?_) (fun h2=>?_)
    ·simp -dsimp
     exact err (by unfold ZbD ZM;rw [if_neg];simp [h2])
    ·simp -dsimp [g1,g21,g22,g23]
     have e0:ZbD v=0:=by unfold ZbD ZM;rw [if_pos];simp [h1,h2]
     rw [e0,Zj] at hinv2
     exact⟨k+1,by omega,ZC (by omega),by omega,hinv2⟩
   ·rw [JI _ hkt] at hinv2
    simp -dsimp [g1,g21,g22]
    exact hinv2.symm
  clear g g1 g21 g22
  rintro g _ ⟨rfl,g1,g21,g22,hz8⟩
  have hkF:Zan F=YI ZaU F.vars:=by rw [Zan,hz8,Zj]
  rw [hkF] at errE ⊢
  clear hz8 hkF hinv
  refine Zk (by kernel_rfl) ?_
  simp -dsimp [g1,g21,g22]
  refine Zv (fun (k:Nat) f W'=>(∃L,W'=V++L)∧f 1=.bp H.length 0∧f 21=I i∧f 22=.bp w 0∧f 24=I k∧k≤F.vars.length∧YI ZaU (F.vars.drop k)=YI ZaU F.vars) (fun k=>F.vars.length-k) (by kernel_rfl) 0 (by simp [g1,g21,g22]) ?_
  clear g g1 g21 g22
  rintro k g _ ⟨⟨L2,rfl⟩,g1,g21,g22,g24,hk,hinv2⟩
  simp -dsimp [g1,g21,g22,g24,hVr]
  refine Zb (fun hkt=>?_) (fun hkt=>?_)
  ·rw [Jn _ hkt] at hinv2
   have hvk:F.vars[k]?=some F.vars[k]:=List.getElem?_eq_getElem hkt
   obtain⟨v,hv⟩:∃v,v=F.vars[k]:=⟨_,rfl⟩
   rw [←hv] at hinv2 hvk
   clear hv
   have err:∀L,ZaU v=9→ZW H (fun x H'=>x=.ret (I E)∧H'=H) (.ret (I 9)) (V++L):=fun L h=>errE _ (hVW L) (by rw [←hinv2,h];rfl)
   have ok:ZaU v=0→YI ZaU (F.vars.drop (k+1))=YI ZaU F.vars:=fun h=>by rw [h,Zj] at hinv2;exact hinv2
   simp -dsimp [g1,g21,g22,g24,hVr,hvk]
   refine Zn (fun h1=>?_) (fun h1=>?_)
   ·simp -dsimp [g1,g21,g22,g24,hVr,h1]
    exact err _ (by unfold ZaU;rw [decide_eq_false (show ¬(1≤v.kind) by omega)];rfl)
   simp -dsimp [g1,g21,g22,g24,hVr,h1]
   refine Zn (fun h2=>?_) (fun h2=>?_)
   ·simp -dsimp [g1,g21,g22,g24,hVr,h1,h2]
    exact err _ (by unfold ZaU;rw [decide_eq_false (show ¬(v.kind≤3) by omega),Bool.and_false];rfl)
   simp -dsimp [g1,g21,g22,g24,hVr,h1,h2]
   have kq:ZaU v=ZM (v.kind != 1||v.size==0&& !v.secret) 9:=by unfold ZaU;rw [decide_eq_true (by omega),decide_eq_true (by omega)];rfl
   rw [kq] at err ok
   refine Zr (fun h3=>?_) (fun h3 h3a h3b=>?_)
   ·simp -dsimp [g1,g21,g22,g24,hVr,h1,h2,h3]
    refine Zp (fun h4 h4a h4b=>?_) (fun h4=>?_)
    ·simp -dsimp [g1,g21,g22,g24,hVr,h1,h2,h3,h4a,h4b]
     exact err _ (by rw [h3,h4a];rfl)
    simp -dsimp [g1,g21,g22,g24,hVr,h1,h2,h3,h4]
    rw [h3,h4] at err ok
    cases hsb:v.secret
    ·rw [hsb] at ok
     simp -dsimp [g1,g21,g22,g24]
     exact⟨k+1,by omega,ZC (by omega),by omega,ok rfl⟩
    ·rw [hsb] at err
     simp -dsimp
     exact err _ rfl
   ·simp -dsimp [g1,g21,g22,g24,hVr,h1,h2,h3a,h3b]
    exact⟨k+1,by omega,ZC (by omega),by omega,ok (by rw [h3b];rfl)⟩
  ·rw [JI _ hkt] at hinv2
   simp -dsimp [g1,g21]
   exact⟨hVW L2,hinv2.symm⟩
 clear g g1 hW W
 rintro g W ⟨hW,g1,hz9⟩
 rw [hz9,Zj] at hE
 clear hz9
 --statements
 refine Zk (by kernel_rfl) ?_
 simp -dsimp [g1]
 refine Zv (fun (i:Nat) f W'=>W=W'∧f 1=.bp H.length 0∧f 26=I i∧i≤p.funcs.length∧ZfC p i (p.funcs.drop i)=E) (fun i=>p.funcs.length-i) (by kernel_rfl) 0 (by simp [g1];exact hE) ?_
 clear g g1 hE
 have hb:=hMb W hW
 rintro i g _ ⟨rfl,g1,g26,hi,hinv⟩
 simp -dsimp [g1,g26,hb]
 refine Zb (fun hlt=>?_) (fun hlt=>?_)
 ·rw [Zhx hlt] at hinv
  have hfi:p.funcs[i]?=some p.funcs[i]:=List.getElem?_eq_getElem hlt
  have hbd:=hp.ok.body36 _ (List.getElem_mem hlt)
  have hnl:=ZkP hz6 _ (List.getElem_mem hlt)
  have hon:=(JW (show ZK (JT rl ((p.funcs[i].params++p.funcs[i].vars).map Vr.name)) (Zdj (YV (p.funcs[i].params++p.funcs[i].vars)) [] p.funcs[i].rets)=0 from hnl)).1
  rw [hrl] at hon
  have hNA:=ZpS p i hlt hon
  have cs:=fun H=>XT (args:=[.agg p.cells,I i,Sm.sl p.funcs[i].body,I 1,Yp]) (args':=[.agg p.cells,I i,Sm.sl p.funcs[i].body,I 1,St.sl []]) (.cons (.refl _) (.cons (.refl _) (.cons (.refl _) (.cons (.refl _) (.cons (.nil _) .nil))))) (Zp0 p i hp.ok hlt p.funcs[i] rfl _ _ hNA p.funcs[i].body 1 [] (by omega) (by omega) (by simp;omega) H)
  have ea:YB p i p.funcs[i] (Zap (p.funcs[i].params++p.funcs[i].vars)) (YK (p.regions.map Rg.name) []) (ZF 1 p.funcs[i].body) 1 [] p.funcs[i].body=Zqj p i p.funcs[i]:=rfl
  simp only [ea,Pg.cells] at cs
  obtain⟨A,hA⟩:∃A,A=Zqj p i p.funcs[i]:=⟨_,rfl⟩
  rw [←hA] at hinv
  simp only [←hA] at cs
  obtain⟨F,hF⟩:∃F,F=p.funcs[i]:=⟨_,rfl⟩
  rw [←hF] at hfi cs
  simp -dsimp [g1,g26,hb,hfi]
  refine Zd (cs _) ?_
  simp -dsimp [g1,g26]
  refine Zl (fun hz _ _=>?_) (fun hz=>?_)
  ·rw [Zu hz] at hinv
   simp -dsimp
   exact finW _ W hW hinv
  ·rw [hz,Zj] at hinv
   simp -dsimp [g1,g26]
   exact⟨i+1,by omega,ZC (by omega),by omega,hinv⟩
 ·rw [Zj4 hlt] at hinv
  simp -dsimp
  exact finW _ W hW hinv
end Go.Proofs
