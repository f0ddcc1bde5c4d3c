import Derived.Recover
import Derived.Test.YtpibcbilkpoomaaGreatm7
set_option linter.all false
namespace Go.Mu
open Go.RowKit (Below)
def Zd4 (P:Program) (d:ZO) (v:AV) (H:List Ze) (K:List Ze→Prop):Prop:=
 d.mark=none∧ZL P d.fid=true∧∃fn id t ty ty' pos aft ts rest,P.funcs[d.fid]?=some fn∧fn.body=some (.seq (.region id #[⟨some t,.call ⟨.builtin .recover,#[],ts⟩,ty,pos,aft,none⟩] false) rest)∧ty'=ty∧
  d.args.length≤fn.ntmps∧t<fn.ntmps∧fn.results.toList=[]∧
  X6 P fn.ntmps rest (fun x _ H' ds=>match x with| .normal=>ds=[]∧K H'| .ret=>ds=[]∧K H'|_=>False) (upd (frm d.args 0) t v) H []
def ZcW (P:Program) (rs:List ResultVar) (R:AE→List Ze→Prop):List ZO→Option AV→Fr→List Ze→Prop
 |[],none,f,H=>Z1 (ZaD P H f rs) fun xs=>R (.ret (Zba xs)) H
 |[],some x,f,H=>R (.pan x) H
 |d::ds,st,f,H=>Zd4 P d (st.getD (.v .nilIface)) H fun H'=>ZcW P rs R ds none f H'
def Zmv (P:Program) (rs:List ResultVar) (R:AE→List Ze→Prop):AQ:=fun x f H ds=>
 match x with
 | .normal=>ZcW P rs R ds none f H
 | .ret=>ZcW P rs R ds none f H
 | .pan x=>ZcW P rs R ds (some x) f H
 |_=>False
def Zxl (cx:Cx):FrameMode→Option AV→Prop
 | .returning,none=>True
 | .panicking ch,some x=>∃y,ch=[{v:=y,recovered:=false}]∧Yx cx false x y
 |_,_=>False
theorem ZgR {cx:Cx} {n:Nat} {args:List AV} {vals:List Value} (h3:ZN cx false args vals) (hs3:args.length≤n):XN cx n (frm args 0) {tmps:=vals.toArray++Array.replicate (n-vals.toArray.size) undef,defers:=[]}:=by
 have hlen:vals.length=args.length:=h3.len.symm
 refine⟨by simp;omega,fun t ht=>?_⟩
 rw [Zkp]
 simp only [Nat.zero_le,if_true,Nat.sub_zero]
 rw [Array.getD_eq_getD_getElem?,Array.getElem?_append]
 by_cases htl:t<vals.length
 ·have e1:args.getD t (.tup [])=args[t]'(by omega):=by simp [List.getD_eq_getElem?_getD,List.getElem?_eq_getElem (show t<args.length by omega)]
  rw [e1,if_pos (by simpa using htl)]
  simp only [List.getElem?_toArray,List.getElem?_eq_getElem htl,Option.getD_some]
  exact h3.rep t _ _ (List.getElem?_eq_getElem (by omega)) (List.getElem?_eq_getElem htl)
 ·have e1:args.getD t (.tup [])=.tup []:=by simp [List.getD_eq_getElem?_getD,List.getElem?_eq_none (show args.length≤t by omega)]
  rw [e1,if_neg (by simpa using htl)]
  have:((Array.replicate (n-vals.toArray.size) undef)[t-vals.toArray.size]?).getD undef=undef:=by
   rw [Array.getElem?_replicate];split<;>rfl
  rw [this];exact J3 _ _
section
variable {P:Program}
theorem Zkw {d:ZO} {st:Option AV} {H:List Ze} {K:List Ze→Prop} (h:Zd4 P d (st.getD (.v .nilIface)) H K) {B:Nat} {w0:World} {J1 cx:Cx} {vals:List Value} {u:FrameMode}
 (h1:Yl B w0 cx) (h2:Le J1 cx) (h3:cx.H=H) (h4:ZN cx false d.args vals) (hu:Zxl cx u st):
 CallsD P d.fid vals.toArray u cx.w fun e u' w'=>match e with
  | .returned _=>settle u'=.returning∧∃cx',cx'.w=w'∧Yl B w0 cx'∧Le J1 cx'∧Le cx cx'∧K cx'.H
  |_=>False:=by
 obtain⟨hmk,hok,fn,id,t,ty,ty',pos,aft,ts,rest,hf,hb,rfl,hn,ht,hres,h⟩:=h
 refine callsD_of_wpS hf hb fun c₀ cs hc=>?_
 have hfr:=ZgR h4 hn
 refine wpS_seq (wpS_region ?_)
 have hexec:(execOp ({tmps:=vals.toArray++Array.replicate (fn.ntmps-vals.toArray.size) undef,defers:=[]}:Act).eval ⟨some t,.call ⟨.builtin .recover,#[],ts⟩,ty',pos,aft,none⟩).run P cx.w=.ok .recover cx.w:=by
  simp [execOp,resolve,invoke,builtin]
 have fin:∀ (v:Value) (u':FrameMode),settle u'=.returning→Yx cx false (st.getD (.v .nilIface)) v→
  Code.wpS P rest (bodyPostS P fn c₀ cs fun e u' w'=>match e with
   | .returned _=>settle u'=.returning∧∃cx',cx'.w=w'∧Yl B w0 cx'∧Le J1 cx'∧Le cx cx'∧K cx'.H
   |_=>False) (({tmps:=vals.toArray++Array.replicate (fn.ntmps-vals.toArray.size) undef,defers:=[]}:Act).put (some t) v) ({c₀ with mode:=u'}::cs) cx.w:=by
  intro v u' hs hv
  refine wpS_of_wp (wp_mono (ZjW.1 (h none (fun hs=>by cases hs) B w0 cx cx _ h1 (Le.refl _) h3 (ZcB (d:=some t) hfr (fun _ e=>by cases e;exact ht) hv) (ZdP (d:=some t) (ds:=[]) trivial))) fun e a' w' hp=>?_)
  obtain⟨cx',x,f',ds',rfl,b1,b2,b3,b4,b5,b6⟩:=hp
  have dnil:ds'=[]→a'.defers=[]:=fun hd=>by
   subst hd
   cases hdd:a'.defers with
   |nil=>rfl
   |cons d l=>rw [hdd] at b4;exact b4.elim
  have hrs:(results fn a'.tmps).run P cx'.w=.ok (.tuple #[]) cx'.w:=by
   have:fn.results= #[]:=by rw [←Array.toArray_toList (xs:=fn.results),hres]
   simp [results,this]
  cases e<;>cases x<;>first|exact b5.elim|exact b6.elim|skip
  ·exact⟨dnil b6.1,u',rfl,_,hrs,hs,cx',rfl,b1,h2.trans b2,b2,b6.2⟩
  ·exact⟨dnil b6.1,u',rfl,_,hrs,hs,cx',rfl,b1,h2.trans b2,b2,b6.2⟩
 show wpOpsS P _ _ [0] _ _ _
 simp only [wpOpsS,List.getElem?_toArray,List.getElem?_cons_zero,Region.wanted,if_true,hexec]
 cases st with
 |none=>
  cases u with
  |returning=>
   have hr:recoverD (c₀::cs)=none:=by simp [recoverD,hc]
   simp only [hr]
   have:=fin .nilIface .returning rfl (.v _)
   have e:({c₀ with mode:=.returning}:Frame)=c₀:=by rw [←hc]
   rw [e] at this
   exact this
  |run=>exact hu.elim
  |panicking ch=>exact hu.elim
 |some x=>
  cases u with
  |returning=>exact hu.elim
  |run=>exact hu.elim
  |panicking ch=>
   obtain⟨y,rfl,hy⟩:=hu
   have hr:recoverD (c₀::cs)=some (y,{c₀ with mode:=.panicking [{v:=y,recovered:=true}]}::cs):=by simp [recoverD,hc]
   simp only [hr]
   exact fin y _ (by simp [settle]) hy
theorem ZbE {fn:Func} {n:Nat} {rs:List ResultVar} (hrs:fn.results.toList=rs) (hok:rs.all (ZdE n)=true) {R:AE→List Ze→Prop}:∀ {ds:List ZO} {st:Option AV} {f:Fr} {H:List Ze} {B:Nat} {w0:World} {J1 cx:Cx} {a:Act} {es:List Deferred} {u:FrameMode},
 ZcW P rs R ds st f H→Yl B w0 cx→Le J1 cx→cx.H=H→XN cx n f a→Zci cx ds es→Zxl cx u st→Leaves P fn a.tmps (Zc0 B w0 J1 R) es u cx.w
 |[],none,f,H,B,w0,J1,cx,a,es,u,h,h1,h2,h3,h4,h5,hu=>by
  subst h3
  cases es with
  |cons=>exact h5.elim
  |nil=>
   cases u with
   |returning=>
    obtain⟨xs,hx,hR⟩:=h
    obtain⟨y,hy,hr⟩:=Za6 (P:=P) (fn:=fn) h1 h4 (by rw [hrs];exact hok) (by rw [hrs];exact hx)
    exact⟨y,hy,cx,_,rfl,h1,h2,hr,hR⟩
   |run=>exact hu.elim
   |panicking ch=>exact hu.elim
 |[],some x,f,H,B,w0,J1,cx,a,es,u,h,h1,h2,h3,h4,h5,hu=>by
  subst h3
  cases es with
  |cons=>exact h5.elim
  |nil=>
   cases u with
   |returning=>exact hu.elim
   |run=>exact hu.elim
   |panicking ch=>
    obtain⟨y,rfl,hy⟩:=hu
    exact⟨cx,x,y,rfl,h1,h2,rfl,hy,h⟩
 |d::ds,st,f,H,B,w0,J1,cx,a,es,u,h,h1,h2,h3,h4,h5,hu=>by
  cases es with
  |nil=>exact h5.elim
  |cons e es=>
   have hmk:d.mark=none:=by cases st<;>exact h.1
   obtain⟨h51,h5'⟩:=h5
   rw [hmk] at h51
   obtain⟨cap,ht,hargs⟩:=h51
   obtain⟨target,dargs⟩:=e
   simp only at ht hargs
   subst ht
   have hne:u≠.run:=by rintro rfl;cases st<;>exact hu.elim
   have h':Zd4 P d (st.getD (.v .nilIface)) H fun H'=>ZcW P rs R ds none f H':=by cases st<;>exact h
   have hinv:(invoke (.fn (.func d.fid) cap) dargs).run P cx.w=.ok (.enter d.fid (dargs++cap)) cx.w:=by
    have hokf:=h'.2.1
    unfold ZL at hokf
    split at hokf
    ·rename_i fn' hf'
     simp only [Bool.and_eq_true,Bool.not_eq_true',Option.isSome_iff_exists] at hokf
     obtain⟨⟨bd,hbd⟩,hnm⟩:=hokf
     have hbn:fn'.body.isNone=false:=by rw [hbd];rfl
     simp only [Sem.run_bind,Sem.run_pure,Result.andThen_ok,invoke,callFunc,run_program,hf',hnm,Bool.false_eq_true,if_false,hbn]
    ·cases hokf
   refine leaves_cons hne hinv ?_
   have hcall:=Zkw (P:=P) h' h1 h2 h3 hargs hu
   rw [Array.toArray_toList] at hcall
   refine hcall.mono fun e u' w' he=>?_
   cases e with
   |returned v=>
    obtain⟨hs,cx',rfl,c1,c2,c3,c4⟩:=he
    show Leaves P fn a.tmps (Zc0 B w0 J1 R) es (settle u') cx'.w
    rw [hs]
    exact ZbE hrs hok c4 c1 c2 rfl (h4.mono c3) (h5'.mono c3) trivial
   |panicked ch=>exact he.elim
   |outgrown=>exact he.elim
theorem ZiZ {hn:Nat→Bool} {od:Nat→Option Y7} {fid:FuncId} {fn:Func} {c:Code} {args:List AV} {H:List Ze} {R:AE→List Ze→Prop} (hf:P.funcs[fid]?=some fn) (hb:fn.body=some c)
 (hs:(JM hn od fn.ntmps c&&fn.results.toList.all (ZdE fn.ntmps)&&decide (args.length≤fn.ntmps)&&P.follows .mixedOrders)=true)
 (h:vcC P hn od fn.ntmps c (Zmv P fn.results.toList R) (frm args 0) H []):Zi P fid args H R:=by
 simp only [Bool.and_eq_true,decide_eq_true_eq] at hs
 obtain⟨⟨⟨hs1,hs2⟩,hs3⟩,hm⟩:=hs
 intro B w0 cx vals h1 h2 h3
 refine calls_of_wp_defers hf hb ?_
 refine wp_mono (ZjW.1 (JR hm hs1 h none (fun hs=>by cases hs) B w0 cx cx _ h1 (Le.refl _) h2 (ZgR h3 hs3) trivial)) fun e a' w' hp=>?_
 obtain⟨cx',x,f',ds',rfl,b1,b2,b3,b4,b5,b6⟩:=hp
 cases e<;>cases x<;>first|exact b5.elim|exact b6.elim|skip
 ·exact ZbE rfl hs2 b6 b1 b2 rfl b3 b4 trivial
 ·exact ZbE rfl hs2 b6 b1 b2 rfl b3 b4 trivial
 ·exact ZbE rfl hs2 b6 b1 b2 rfl b3 b4 b5
theorem Zfh {hn:Nat→Bool} {od:Nat→Option Y7} {d:ZO} {v:AV} {H:List Ze} {K:List Ze→Prop} {fn:Func} {id t:Nat} {ty:TypeId} {pos:String} {aft:Array Edge} {ts:Array TypeId} {rest:Code}
 (hf:P.funcs[d.fid]?=some fn) (hb:fn.body=some (.seq (.region id #[⟨some t,.call ⟨.builtin .recover,#[],ts⟩,ty,pos,aft,none⟩] false) rest))
 (hmk:d.mark=none) (hs:(ZL P d.fid&&JM hn od fn.ntmps rest&&fn.results.toList.isEmpty&&decide (d.args.length≤fn.ntmps)&&decide (t<fn.ntmps)&&P.follows .mixedOrders)=true)
 (h:vcC P hn od fn.ntmps rest (fun x _ H' ds=>match x with| .normal=>ds=[]∧K H'| .ret=>ds=[]∧K H'|_=>False) (upd (frm d.args 0) t v) H []):Zd4 P d v H K:=by
 simp only [Bool.and_eq_true,decide_eq_true_eq,List.isEmpty_iff] at hs
 obtain⟨⟨⟨⟨⟨hs1,hs2⟩,hs3⟩,hs4⟩,hs5⟩,hm⟩:=hs
 exact⟨hmk,hs1,fn,id,t,ty,ty,pos,aft,ts,rest,hf,hb,rfl,hs4,hs5,hs3,JR hm hs2 h⟩
end
def Ztz (K:List Ze→Prop):AQ:=fun x _ H' ds=>match x with| .normal=>ds=[]∧K H'| .ret=>ds=[]∧K H'|_=>False
@[simp ↓] theorem Zym (K:List Ze→Prop) (f:Fr) (H:List Ze) (ds:List ZO) (w:ZQ (Ztz K,AX.normal,f,H,ds)):QW (Ztz K) .normal f H ds w=(ds=[]∧K H):=(rfl)
def Zde (P:Program) (rs:List ResultVar) (R:AE→List Ze→Prop) (ds:List ZO) (st:Option AV) (f:Fr) (H:List Ze) (_:ZQ (rs,R,f)):Prop:=ZcW P rs R ds st f H
@[simp ↓] theorem Zxs (P:Program) (rs:List ResultVar) (R:AE→List Ze→Prop) (f:Fr) (H:List Ze) (ds:List ZO) (w:ZQ (Zmv P rs R,AX.ret,f,H,ds)):QW (Zmv P rs R) .ret f H ds w=Zde P rs R ds none f H (Z5 _):=(rfl)
@[simp ↓] theorem ZxH (P:Program) (rs:List ResultVar) (R:AE→List Ze→Prop) (x:AV) (f:Fr) (H:List Ze) (ds:List ZO) (w:ZQ (Zmv P rs R,AX.pan x,f,H,ds)):QW (Zmv P rs R) (.pan x) f H ds w=Zde P rs R ds (some x) f H (Z5 _):=(rfl)
@[simp ↓] theorem ZtW (P:Program) (rs:List ResultVar) (R:AE→List Ze→Prop) (f:Fr) (H:List Ze) (w:ZQ (rs,R,f)):Zde P rs R [] none f H w=Z8 (ZiM P H rs f (Z5 _)) (fun xs=>Jm (Zba xs) (fun x=>R (.ret x) H) (Z5 _)) (Z5 _):=(rfl)
def Zu6 (P:Program) (d:ZO) (v:AV) (H:List Ze) (K:List Ze→Prop) (_:ZQ K):Prop:=Zd4 P d v H K
theorem ZnE {P:Program} {d:ZO} {v:AV} {H:List Ze} {K K':List Ze→Prop} {w:ZQ K} (h:Zd4 P d v H K') (hk:∀H',K' H'→K H'):Zu6 P d v H K w:=by
 obtain⟨h0,h1,fn,id,t,ty,ty',pos,aft,ts,rest,a1,a2,a3,a4,a5,a6,a7⟩:=h
 exact⟨h0,h1,fn,id,t,ty,ty',pos,aft,ts,rest,a1,a2,a3,a4,a5,a6,a7.mono fun x f H ds hq=>by cases x<;>first|exact⟨hq.1,hk _ hq.2⟩|exact hq⟩
@[simp ↓] theorem ZrT (P:Program) (rs:List ResultVar) (R:AE→List Ze→Prop) (d:ZO) (ds:List ZO) (f:Fr) (H:List Ze) (w:ZQ (rs,R,f)):Zde P rs R (d::ds) none f H w=Zu6 P d (.v .nilIface) H (fun H'=>Zde P rs R ds none f H' (Z5 _)) (Z5 _):=(rfl)
@[simp ↓] theorem ZrS (P:Program) (rs:List ResultVar) (R:AE→List Ze→Prop) (d:ZO) (ds:List ZO) (x:AV) (f:Fr) (H:List Ze) (w:ZQ (rs,R,f)):Zde P rs R (d::ds) (some x) f H w=Zu6 P d x H (fun H'=>Zde P rs R ds none f H' (Z5 _)) (Z5 _):=(rfl)
theorem Ya {P:Program} {fid:FuncId} {args:List AV} {H:List Ze} {R:AE→List Ze→Prop} (h:YC H.length H=true→YZ H.length args=true→Zi P fid args H R):Zi P fid args H R:=by
 intro B w0 cx vals h1 h2 h3
 have hu:=h1.under
 have ha:=h3.under
 rw [h2] at hu ha
 exact h hu ha B w0 cx vals h1 h2 h3
mutual
theorem Zh0 {k sz n:Nat} {es:List (List AV)} (hn:n≤k):∀ (a:AV),a.under n=true→a.frz k sz es=a
 | .hs k' off m ver,h=>by
   simp only [AV.under,decide_eq_true_eq] at h
   simp only [AV.frz]
   rw [if_neg (by omega)]
 | .fn f a b,h=>by
   simp only [AV.under,Bool.and_eq_true] at h
   simp only [AV.frz,ZcH hn a h.1,ZcH hn b h.2]
 | .ifc t x,h=>by simp only [AV.under] at h;simp only [AV.frz,Zh0 hn x h]
 | .agg cs,h=>by simp only [AV.under] at h;simp only [AV.frz,ZcH hn cs h]
 | .tup cs,h=>by simp only [AV.under] at h;simp only [AV.frz,ZcH hn cs h]
 | .v x,_=>rfl
 | .vs _ _,_=>rfl
 | .vx _ _,_=>rfl
 | .vp _,_=>rfl
 | .bp _ _,_=>rfl
 | .rp _ _ _ _,_=>rfl
 | .hm _,_=>rfl
 | .hg _,_=>rfl
 | .hi _,_=>rfl
 | .yl _,_=>rfl
 | .junk,_=>rfl
theorem ZcH {k sz n:Nat} {es:List (List AV)} (hn:n≤k):∀ (l:List AV),YZ n l=true→Zam k sz es l=l
 |[],_=>rfl
 |c::cs,h=>by
  simp only [YZ,Bool.and_eq_true] at h
  simp only [Zam,Zh0 hn c h.1,ZcH hn cs h.2]
end
theorem Zfd {k sz n:Nat} {es:List (List AV)} (hn:n≤k) (b:Ze) (h:b.under n=true):b.frz k sz es=b:=by
 cases b with
 |box t cs=>simp only [Ze.under] at h;simp only [Ze.frz,ZcH hn cs h]
 |row t z rs=>
  simp only [Ze.under,List.all_eq_true] at h
  simp only [Ze.frz]
  congr 1
  exact (List.map_congr_left fun r hr=>ZcH hn r (h r hr)).trans (List.map_id _)
 |map ms=>
  simp only [Ze.under,List.all_eq_true] at h
  simp only [Ze.frz]
  congr 1
  exact (List.map_congr_left (g:=id) fun p hp=>by rw [Zh0 hn p.2 (h p hp)];rfl).trans (List.map_id _)
 |mapg ms=>
  simp only [Ze.under,List.all_eq_true] at h
  simp only [Ze.frz]
  congr 1
  exact (List.map_congr_left (g:=id) fun p hp=>by rw [Zh0 hn p.2 (h p hp)];rfl).trans (List.map_id _)
 |pend=>rfl
 |gone=>rfl
 |dfr _=>rfl
 |lp _ _ _ _ _ _ _=>rfl
 |it _ _ _=>rfl
theorem Zfj {sz:Nat} {es:List (List AV)} {H L:List Ze} (j:Nat) (hu:YC H.length H=true):ZeU (H.length+j) sz es (H++L)=H++(L.map (Ze.frz (H.length+j) sz es)).set j .gone:=by
 unfold ZeU
 rw [List.map_append,List.set_append,if_neg (by simp)]
 have:H.map (Ze.frz (H.length+j) sz es)=H:=(List.map_congr_left fun b hb=>Zfd (Nat.le_add_right _ _) b (List.all_eq_true.1 hu b hb)).trans (List.map_id _)
 rw [this]
 simp
theorem ZjE {H L:List Ze} {R:AE→List Ze→Prop} {r:AV} (hu:YC H.length H=true) (j sz:Nat) (t:TypeId) (es:List (List AV)) (hj:L[j]?=some (.row t sz es)) (hz:es.flatten.all AV.frzB=true)
 (h:ZW H R (.ret (r.frz (H.length+j) sz es)) (H++(L.map (Ze.frz (H.length+j) sz es)).set j .gone)):ZW H R (.ret r) (H++L):=by
 obtain⟨H1,r1,g,rest⟩:=h
 rw [←Zfj j hu] at g
 exact⟨H1,r1,.step _ _ (H.length+j) sz t es _ _ (by rw [List.getElem?_append_right (by omega)];simpa using hj) hz g,rest⟩
def Yo (k:Nat) (es:List (List AV)):AV:=if es=[] then .v (.slice none 0 0) else .hs k 0 es.length es.length
def Yn (t:TypeId) (sz:Nat) (es:List (List AV)):Ze:=if es=[] then .pend else .row t sz es
@[simp] theorem ZcI (k:Nat) (es:List (List AV)):YA (Yo k es)=some [Yo k es]:=by unfold Yo;split<;>rfl
@[simp] theorem ZdH (k:Nat) (es:List (List AV)):AV.one (Yo k es)=true:=by unfold Yo;split<;>rfl
@[simp] theorem Xd (k:Nat):Yo k []=.v (.slice none 0 0):=by simp [Yo]
@[simp] theorem Zqz (t:TypeId) (sz:Nat):Yn t sz []=.pend:=by simp [Yn]
theorem ZeS (n k:Nat) (es:List (List AV)) (h:k<n):(Yo k es).under n=true:=by unfold Yo;split<;>simp [AV.under,h]
theorem Zpm {H:List Ze} {k:Nat} {t sz:Nat} {es:List (List AV)} (hk:H[k]?=some (Yn t sz es)):Zev H 1 (Yo k es)=some (es.length:Int):=by
 unfold Yo Yn at*
 split at hk
 ·rename_i h;subst h;simp [Zev]
 ·rename_i h;simp [h,Zev,hk]
theorem Zbm {α:Type} {l:List α} {k:Nat} {x:α} (h:l[k]?=some x):l.set k x=l:=by
 apply List.ext_getElem?
 intro i
 by_cases hi:k=i
 ·subst hi;rw [ZY h,h]
 ·rw [Xs hi]
theorem ZD {H:List Ze} {sl:TypeId×Nat×List Value×Nat} {k:Nat} {es ys:List (List AV)} {K:AV→List Ze→Prop} {w:ZQ K} (hk:H[k]?=some (Yn sl.1 sl.2.1 es))
 (hb:(es.length+ys.length)*sl.2.2.2≤140737488355328) (h63:es.length+ys.length≤9223372036854775807) (h:K (Yo k (es++ys)) (H.set k (Yn sl.1 sl.2.1 (es++ys)))):XA H sl (Yo k es) ys K w:=by
 unfold XA ZbH
 by_cases he:es=[]
 ·subst he
  simp only [Yo,Yn,if_true,List.nil_append,List.length_nil,Nat.zero_add] at*
  refine⟨fun hy=>?_,fun hy=>⟨hb,h63,.inr ⟨k,hk,?_⟩⟩⟩
  ·subst hy;simp only [if_true] at h;rwa [Zbm hk] at h
  ·simpa only [if_neg hy] using h
 ·have he2:es++ys≠[]:=by simp [he]
  have hk2:H[k]?=some (.row sl.1 sl.2.1 es):=by rw [hk,Yn,if_neg he]
  have h2:K (.hs k 0 (es.length+ys.length) (es.length+ys.length)) (H.set k (.row sl.1 sl.2.1 (es++ys))):=by
   rw [Yo,if_neg he2,Yn,if_neg he2,List.length_append] at h;exact h
  rw [Yo,if_neg he]
  show (match H[k]? with|some (.row t z es')=>_|_=>False)
  rw [hk2]
  exact⟨⟨rfl,rfl,rfl⟩,.inl ⟨⟨rfl,hb,h63⟩,h2⟩⟩
theorem Zdl {H:List Ze} {sl:TypeId×Nat×List Value×Nat} (k:Nat) {ys:List (List AV)} {K:AV→List Ze→Prop} {w:ZQ K} (hk:H[k]?=some .pend)
 (hb:ys.length*sl.2.2.2≤140737488355328) (h63:ys.length≤9223372036854775807) (h:K (Yo k ys) (H.set k (Yn sl.1 sl.2.1 ys))):XA H sl (.v (.slice none 0 0)) ys K w:=by
 have:=ZD (es:=[]) (w:=w) (k:=k) (ys:=ys) (by simpa using hk) (by simpa using hb) (by simpa using h63) (by simpa using h)
 simpa using this
def Cx.spare (cx:Cx) (m:Nat):Cx:={cx with H:=cx.H++List.replicate m .pend}
theorem ZfE (cx:Cx) (m:Nat):Le cx (cx.spare m):=
 ⟨fun _ _ _ _ h=>h,fun _ h=>h,fun k bl h hf=>⟨bl,Xh h,hf,rfl⟩,fun k t sz es h=>.inr ⟨es,Xh h,Nat.le_refl _,fun _=>⟨rfl,rfl⟩⟩⟩
theorem Znx {B:Nat} {w0:World} {cx:Cx} (h:Yl B w0 cx) (m:Nat):Yl B w0 (cx.spare m):=by
 have hle:=ZfE cx m
 have key:∀ (i:Nat) (bl:Ze),(cx.spare m).H[i]?=some bl→cx.H[i]?=some bl∨bl=Ze.pend:=by
  intro i bl hi
  simp only [Cx.spare,List.getElem?_append] at hi
  split at hi
  ·exact .inl hi
  ·rw [List.getElem?_replicate] at hi
   split at hi
   ·cases hi;exact .inr rfl
   ·cases hi
 refine⟨h.below,h.base,h.frz,fun i bl hi=>?_,fun i j b1 b2 a1 a2 l1 l2 he=>?_⟩
 ·rcases key i bl hi with hi'|rfl
  ·have hb:=h.blk i bl hi'
   exact hb.mono hle fun hl=>⟨rfl,rfl,rfl,(hb.lt hl).2.2⟩
  ·trivial
 ·rcases key i b1 a1 with a1'|rfl
  ·rcases key j b2 a2 with a2'|rfl
   ·exact h.inj i j b1 b2 a1' a2' l1 l2 he
   ·simp [Ze.live] at l2
  ·simp [Ze.live] at l1
theorem Yv (m:Nat) {P:Program} {fid:FuncId} {args:List AV} {H:List Ze} {R:AE→List Ze→Prop} (h:Zi P fid args (H++List.replicate m .pend) R):Zi P fid args H R:=by
 intro B w0 cx vals h1 h2 h3
 subst h2
 refine (h B w0 (cx.spare m) vals (Znx h1 m) rfl (h3.mono (ZfE cx m))).mono fun e w' he=>?_
 cases e with
 |returned y=>obtain⟨cx',r,b0,b1,b2,b3,b4⟩:=he;exact⟨cx',r,b0,b1,(ZfE cx m).trans b2,b3,b4⟩
 |panicked ch=>obtain⟨cx',x,y,b0,b1,b2,b3,b4,b5⟩:=he;exact⟨cx',x,y,b0,b1,(ZfE cx m).trans b2,b3,b4,b5⟩
 |outgrown=>exact he
theorem Zer {H H2 L:List Ze} {R:AE→List Ze→Prop} {r:AV} (hl:H.length≤H2.length) (hu2:YC H.length H=true→YC H2.length H2=true) (hu:r.under H2.length=true) (h:R (.ret r) H2):ZW H R (.ret r) (H2++L):=
 ⟨_,_,.refl _ _,H2,L,rfl,hl,hu2,hu,h⟩
theorem Zrk {H H2 L:List Ze} {R:AE→List Ze→Prop} {r:AV} (hl:H.length≤H2.length) (hu2:YC H.length H=true→YC H2.length H2=true) (hu:r.under H2.length=true) (h:R (.pan r) H2):ZW H R (.pan r) (H2++L):=
 ⟨_,_,.refl _ _,H2,L,rfl,hl,hu2,hu,h⟩
theorem ZcS {n k:Nat} {H:List Ze} {b:Ze} (h:YC n H=true) (hb:b.under n=true):YC n (H.set k b)=true:=by
 simp only [YC,List.all_eq_true] at h ⊢
 intro x hx
 rcases List.mem_or_eq_of_mem_set hx with hx|rfl
 ·exact h x hx
 ·exact hb
theorem Zij (n t sz:Nat) (es:List (List AV)) (h:es.all (YZ n)=true):(Yn t sz es).under n=true:=by unfold Yn;split;rfl;exact h
theorem ZT {α:Type} {l:List α} {k:Nat} {x:α} (h:l[k]?=some x):k<l.length:=(List.getElem?_eq_some_iff.1 h).1
def Zbk (H:List Ze) (a:Nat) (X:Ze) (b:Nat) (Y:Ze):List Ze:=(H.set a X).set b Y
@[simp] theorem ZlJ (H:List Ze) (a:Nat) (X:Ze) (b:Nat) (Y:Ze):(Zbk H a X b Y).length=H.length:=by simp [Zbk]
theorem Ztm {H:List Ze} {a b:Nat} (ha:a<H.length) (hab:a≠b) (X Y:Ze) (L:List Ze):(Zbk H a X b Y++L)[a]?=some X:=by
 rw [List.getElem?_append_left (by simpa using ha),Zbk,List.getElem?_set_ne (fun e=>hab e.symm)];simp [ha]
theorem ZsU {H:List Ze} {a b:Nat} (hb:b<H.length) (X Y:Ze) (L:List Ze):(Zbk H a X b Y++L)[b]?=some Y:=by
 rw [List.getElem?_append_left (by simpa using hb),Zbk];simp [hb]
theorem Zsa {H:List Ze} {a b:Nat} (ha:a<H.length) (hab:a≠b) (X Y Z:Ze) (L:List Ze):(Zbk H a X b Y++L).set a Z=Zbk H a Z b Y++L:=by
 rw [List.set_append,if_pos (by simpa using ha),Zbk,Zbk,List.set_comm _ _ (fun e=>hab e.symm)];simp
theorem ZsG {H:List Ze} {a b:Nat} (hb:b<H.length) (X Y Z:Ze) (L:List Ze):(Zbk H a X b Y++L).set b Z=Zbk H a X b Z++L:=by
 rw [List.set_append,if_pos (by simpa using hb),Zbk,Zbk];simp
theorem Zpk {H:List Ze} {a b:Nat} {X Y:Ze} (ha:H[a]?=some X) (hb:H[b]?=some Y):Zbk H a X b Y=H:=by rw [Zbk,Zbm ha,Zbm hb]
theorem ZlZ {n a b:Nat} {H:List Ze} {X Y:Ze} (h:YC n H=true) (hX:X.under n=true) (hY:Y.under n=true):YC n (Zbk H a X b Y)=true:=ZcS (ZcS h hX) hY
structure YE (p:Prop):Prop where
 out:p
theorem Zsl {H:List Ze} {a b:Nat} (ha:a<H.length) (hb:b<H.length) (hab:a≠b) (X Y X' Y':Ze) (L:List Ze):Zbk (Zbk H a X b Y++L) a X' b Y'=Zbk H a X' b Y'++L:=by
 rw [Zbk,Zsa ha hab,ZsG hb]
inductive XP:AV→AV→Prop
 |refl (a:AV):XP a a
 |nil (sz:Nat):XP (.v (.slice none 0 0)) (.vs sz [])
 |vx (sz:Nat) (es:List (List AV)):XP (.vx sz es) (.vs sz es)
 |agg (cs cs':List AV) (hl:cs.length=cs'.length) (h:∀ (j:Nat) c c',cs[j]?=some c→cs'[j]?=some c'→XP c c'):XP (.agg cs) (.agg cs')
 |tup (cs cs':List AV) (hl:cs.length=cs'.length) (h:∀ (j:Nat) c c',cs[j]?=some c→cs'[j]?=some c'→XP c c'):XP (.tup cs) (.tup cs')
 |ifc (t:TypeId) (a a':AV) (h:XP a a'):XP (.ifc t a) (.ifc t a')
 |vs (sz:Nat) (es es':List (List AV)) (hl:es.length=es'.length) (he:∀ (j:Nat) e e',es[j]?=some e→es'[j]?=some e'→e.length=e'.length)
  (h:∀ (j:Nat) c c',es.flatten[j]?=some c→es'.flatten[j]?=some c'→XP c c'):XP (.vs sz es) (.vs sz es')
structure JZ (cs cs':List AV):Prop where
 len:cs.length=cs'.length
 weak:∀ (j:Nat) c c',cs[j]?=some c→cs'[j]?=some c'→XP c c'
theorem JZ.nil:JZ [] []:=⟨rfl,fun j c c' h=>by simp at h⟩
theorem JZ.refl (cs:List AV):JZ cs cs:=⟨rfl,fun j c c' h h'=>by rw [h] at h';cases h';exact .refl _⟩
theorem JZ.cons {a a':AV} {cs cs':List AV} (h:XP a a') (hs:JZ cs cs'):JZ (a::cs) (a'::cs'):=by
 refine⟨by simp [hs.len],fun j c c' h1 h2=>?_⟩
 cases j with
 |zero=>simp at h1 h2;subst h1;subst h2;exact h
 |succ j=>exact hs.weak j c c' (by simpa using h1) (by simpa using h2)
theorem JZ.append {as as' cs cs':List AV} (h:JZ as as') (hs:JZ cs cs'):JZ (as++cs) (as'++cs'):=by
 induction as generalizing as' with
 |nil=>cases as' with
  |nil=>exact hs
  |cons a l=>have:=h.len;simp at this
 |cons a l ih=>cases as' with
  |nil=>have:=h.len;simp at this
  |cons a' l'=>
   exact (JZ.cons (h.weak 0 _ _ rfl rfl) (ih ⟨by simpa using h.len,fun j c c' h1 h2=>h.weak (j+1) c c' (by simpa using h1) (by simpa using h2)⟩))
theorem XP.aggL {cs cs':List AV} (h:JZ cs cs'):XP (.agg cs) (.agg cs'):=.agg _ _ h.len h.weak
theorem XP.tupL {cs cs':List AV} (h:JZ cs cs'):XP (.tup cs) (.tup cs'):=.tup _ _ h.len h.weak
inductive ZbC:List (List AV)→List (List AV)→Prop
 |nil:ZbC [] []
 |cons {e e':List AV} {es es':List (List AV)} (h:JZ e e') (hs:ZbC es es'):ZbC (e::es) (e'::es')
theorem XP.vsR {sz:Nat} {es es':List (List AV)} (h:ZbC es es'):XP (.vs sz es) (.vs sz es'):=by
 suffices h2:es.length=es'.length∧(∀ (j:Nat) e e',es[j]?=some e→es'[j]?=some e'→e.length=e'.length)∧JZ es.flatten es'.flatten from .vs _ _ _ h2.1 h2.2.1 h2.2.2.weak
 induction h with
 |nil=>exact⟨rfl,fun j e e' h=>by simp at h,JZ.nil⟩
 |cons h hs ih=>
  refine⟨by simp [ih.1],fun j e e' h1 h2=>?_,by simpa using h.append ih.2.2⟩
  cases j with
  |zero=>simp at h1 h2;subst h1;subst h2;exact h.len
  |succ j=>exact ih.2.1 j e e' (by simpa using h1) (by simpa using h2)
theorem Yx.weakens {cx:Cx} {a a':AV} (hw:XP a a'):∀ {z:Bool} {y:Value},Yx cx z a y→Yx cx z a' y:=by
 induction hw with
 |refl a=>exact fun h=>h
 |nil sz=>intro z y h;obtain rfl:y=.slice none 0 0:=by cases h;rfl
          exact .vs0 sz none 0
 |vx sz es=>
  intro z y hr
  cases hr with
  |vx _ _ b o vals hf hz hll hn ho hc hv=>exact .vs sz es b o es.length vals hf hz (Nat.le_refl _) hll hn ho hc hv
 |agg cs cs' hl h ih=>
  intro z y hr
  cases hr with
  |agg _ vals hn hv=>
   refine .agg cs' vals (by omega) fun j c x h1 h2=>?_
   have hj:j<cs.length:=by have:=(List.getElem?_eq_some_iff.1 h1).1;omega
   exact ih j _ c (List.getElem?_eq_getElem hj) h1 (hv j _ x (List.getElem?_eq_getElem hj) h2)
 |tup cs cs' hl h ih=>
  intro z y hr
  cases hr with
  |tup _ vals hn hv=>
   refine .tup cs' vals (by omega) fun j c x h1 h2=>?_
   have hj:j<cs.length:=by have:=(List.getElem?_eq_some_iff.1 h1).1;omega
   exact ih j _ c (List.getElem?_eq_getElem hj) h1 (hv j _ x (List.getElem?_eq_getElem hj) h2)
 |ifc t a a' h ih=>
  intro z y hr
  cases hr with
  |ifc _ _ y hr=>exact .ifc t a' y (ih hr)
 |vs sz es es' hl he h ih=>
  intro z y hr
  have hflat:es.flatten.length=es'.flatten.length:=by
   clear h ih hr
   induction es generalizing es' with
   |nil=>cases es' with
    |nil=>rfl
    |cons a l=>simp at hl
   |cons a l ihl=>cases es' with
    |nil=>simp at hl
    |cons a' l'=>
     simp only [List.flatten_cons,List.length_append]
     rw [he 0 a a' rfl rfl,ihl l' (by simpa using hl) (fun j e e' h1 h2=>he (j+1) e e' (by simpa using h1) (by simpa using h2))]
  generalize hx:AV.vs sz es=x at hr
  cases hr<;>first|(cases hx;done)|skip
  ·cases hx
   obtain rfl:es'=[]:=List.eq_nil_of_length_eq_zero (by simpa using hl.symm)
   exact .vs0 sz _ _
  ·rename_i b off cap vals hf hz hcap hll hn ho hc hv
   cases hx
   have:=Yx.vs (cx:=cx) (z:=z) sz es' b off cap vals hf hz (by omega) (fun e' hm=>by
    obtain⟨j,hj,rfl⟩:=List.getElem_of_mem hm
    rw [←he j _ _ (List.getElem?_eq_getElem (by omega)) (List.getElem?_eq_getElem hj)]
    exact hll _ (List.getElem_mem _)) (by omega) ho hc (fun j c x h1 h2=>by
    have hj:j<es.flatten.length:=by have:=(List.getElem?_eq_some_iff.1 h1).1;omega
    exact ih j _ c (List.getElem?_eq_getElem hj) h1 (hv j _ x (List.getElem?_eq_getElem hj) h2))
   rw [hl];exact this
theorem ZN.weakens {cx:Cx} {z:Bool} {cs cs':List AV} {vals:List Value} (hw:JZ cs cs') (h:ZN cx z cs vals):ZN cx z cs' vals:=by
 refine⟨by rw [←hw.len];exact h.len,fun j c x h1 h2=>?_⟩
 have hj:j<cs.length:=by have:=(List.getElem?_eq_some_iff.1 h1).1;have:=hw.len;omega
 exact Yx.weakens (hw.weak j _ c (List.getElem?_eq_getElem hj) h1) (h.rep j _ x (List.getElem?_eq_getElem hj) h2)
theorem XT {P:Program} {fid:FuncId} {args args':List AV} {H:List Ze} {R:AE→List Ze→Prop} (hw:JZ args args') (h:Zi P fid args' H R):Zi P fid args H R:=
 fun B w0 cx vals h1 h2 h3=>h B w0 cx vals h1 h2 (h3.weakens hw)
def Zao (R:AE→List Ze→Prop):AE→List Ze→Prop:=fun e H'=>match e with| .ret r=>∃r',XP r r'∧R (.ret r') H'| .pan x=>R (.pan x) H'
theorem ZU {P:Program} {fid:FuncId} {args:List AV} {H:List Ze} {R:AE→List Ze→Prop} (h:Zi P fid args H (Zao R)):Zi P fid args H R:=by
 intro B w0 cx vals h1 h2 h3
 refine (h B w0 cx vals h1 h2 h3).mono fun e w' he=>?_
 cases e with
 |returned y=>obtain⟨cx',r,b0,b1,b2,b3,r',hw,b4⟩:=he;exact⟨cx',r',b0,b1,b2,b3.weakens hw,b4⟩
 |panicked ch=>obtain⟨cx',x,y,b0,b1,b2,b3,b4,b5⟩:=he;exact⟨cx',x,y,b0,b1,b2,b3,b4,b5⟩
 |outgrown=>exact he
end Go.Mu
namespace Go.Mu
open Go.RowKit (Below)
theorem Jc {H:List Ze} {sl:TypeId×Nat×List Value×Nat} {k n m:Nat} {es ys:List (List AV)} {K:AV→List Ze→Prop} {w:ZQ K} (hk:H[k]?=some (.row sl.1 sl.2.1 es)) (hn:n=es.length) (hm:m=es.length)
 (hb:(es.length+ys.length)*sl.2.2.2≤140737488355328) (h63:es.length+ys.length≤9223372036854775807) (h:K (.hs k 0 (es.length+ys.length) (es.length+ys.length)) (H.set k (.row sl.1 sl.2.1 (es++ys)))):XA H sl (.hs k 0 n m) ys K w:=by
 subst hn;subst hm
 unfold XA ZbH
 show (match H[k]? with|some (.row t z es')=>_|_=>False)
 rw [hk]
 exact⟨⟨rfl,rfl,rfl⟩,.inl ⟨⟨rfl,hb,h63⟩,h⟩⟩
theorem ZR {R:AE→List Ze→Prop} {r r':AV} {H':List Ze} (hw:XP r r') (h:R (.ret r') H'):Zao R (.ret r) H':=⟨r',hw,h⟩
theorem Z7 {H:List Ze} {R:AE→List Ze→Prop} {r:AV} (hu:r.under H.length=true) (h:R (.ret r) H):ZW H R (.ret r) H:=⟨_,_,.refl _ _,H,[],by simp,Nat.le_refl _,id,hu,h⟩
theorem Zj0 {H:List Ze} {R:AE→List Ze→Prop} {r:AV} (hu:r.under H.length=true) (h:R (.pan r) H):ZW H R (.pan r) H:=⟨_,_,.refl _ _,H,[],by simp,Nat.le_refl _,id,hu,h⟩
theorem ZmP {H L:List Ze} {R:AE→List Ze→Prop} {r:AV} (hu:r.under H.length=true) (h:R (.pan r) H):ZW H R (.pan r) (H++L):=⟨_,_,.refl _ _,H,L,rfl,Nat.le_refl _,id,hu,h⟩
@[simp] theorem Zwd (P:Program) (g:FuncId) (first cap args:List AV) (k:ZO→Prop):ZfT P (.fn (.func g) first cap) args k=k ⟨g,first++args++cap,none⟩:=rfl
theorem Zav {H:List Ze} {L:List Ze} {R:AE→List Ze→Prop} {r:AV} (hu:YC H.length H=true) (sz:Nat) (t:TypeId) (es:List (List AV)) (hz:es.flatten.all AV.frzB=true)
 (hun:(r.frz H.length sz es).under H.length=true) (h:R (.ret (r.frz H.length sz es)) H):ZW H R (.ret r) (H++.row t sz es::L):=by
 refine ZjE hu 0 sz t es rfl hz ?_
 exact Z2 (by simpa using hun) (by simpa using h)
theorem JV (k sz:Nat) (es:List (List AV)) (he:es≠[]):(Yo k es).frz k sz es=.vs sz es:=by
 rw [Yo,if_neg he]
 simp [AV.frz]
end Go.Mu
