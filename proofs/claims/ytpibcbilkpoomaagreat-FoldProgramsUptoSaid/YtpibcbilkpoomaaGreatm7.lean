import Derived.Test.YtpibcbilkpoomaaGreatm6
set_option linter.all false
namespace Go.Mu
open Go.RowKit (Below)
def ZfF:TypeDesc→Bool
 | .int _| .string| .bool=>true
 |_=>false
def ZcQ (P:Program):Nat→List Field→Option (List TypeDesc)
 |_,[]=>some []
 |i,f::fs=>match P.underlying f.type,ZcQ P (i+1) fs with
  |some d,some ds=>if ZfF d=true∧f.offset=i∧f.name≠ "_" ∧Yt P f.type=some 1 then some (d::ds) else none
  |_,_=>none
def ZhN (P:Program) (kt:TypeId):Option (List TypeDesc):=
 match P.underlying kt with
 |some (.struct fs)=>if P.stoodInHeld kt then none else ZcQ P 0 fs.toList
 |some (.array n e)=>match P.underlying e with
  |some d=>if ZfF d=true∧Yt P e=some 1 then some (List.replicate n d) else none
  |none=>none
 |_=>none
def XJ:List TypeDesc→List Value→List Value→Option Bool
 |[],[],[]=>some true
 |d::ds,a::as,b::bs=>match Instr.sameNow d a b,XJ ds as bs with
  |some p,some q=>some (p&&q)
  |_,_=>none
 |_,_,_=>none
def Zp1 (ks:List TypeDesc):Value→Value→Option Bool
 | .agg a,.agg b=>XJ ks a.toList b.toList
 |_,_=>none
theorem Zgy {P:Program} {t:TypeId} {d:TypeDesc} {a b:Value} {r:Bool} (hu:P.underlying t=some d) (hd:ZfF d=true) (h:Instr.sameNow d a b=some r) (D:Nat) (w:World):(Op.equalIn (D+1) t a b).run P w=.ok r w:=by
 unfold Instr.sameNow at h
 split at h
 ·split at h
  ·rename_i hk;subst hk;simp at h;subst h;exact run_equalIn_int w D t _ _ _ _ hu
  ·cases h
 ·simp at h;subst h;simp [Op.equalIn,run_underlying hu]
 ·simp at h;subst h;exact run_equalIn_bool w D t _ _ hu
 ·cases h
theorem Zk7 {d:TypeDesc} {a b:Value} {r:Bool} (h:Instr.sameNow d a b=some r):a.oneCell'=true∧b.oneCell'=true∧(∀n,a=b→Instr.sameBits (n+1) a a=true):=by
 unfold Instr.sameNow at h
 split at h
 ·simp [Value.oneCell',Instr.sameBits]
 ·rename_i a b
  refine⟨rfl,rfl,fun n _=>?_⟩
  simp only [Instr.sameBits]
  rw [beq_toListBytes]
  simp
 ·simp [Value.oneCell',Instr.sameBits]
 ·cases h
theorem Zg6:∀ {ds:List TypeDesc} {as bs:List Value},XJ ds as bs=some true→as=bs∧∀n,∀x∈as.zip as,Instr.sameBits (n+1) x.1 x.2=true
 |[],[],[],_=>⟨rfl,by simp⟩
 |d::ds,a::as,b::bs,h=>by
  unfold XJ at h
  split at h
  ·rename_i p q hp hq
   simp at h
   obtain⟨rfl,rfl⟩:=h
   obtain⟨e1,e2⟩:=Zg6 hq
   obtain⟨e3,_⟩:=Zfm hp
   obtain⟨_,_,e4⟩:=Zk7 hp
   refine⟨by rw [e1,e3],fun n x hx=>?_⟩
   simp only [List.zip_cons_cons,List.mem_cons] at hx
   rcases hx with rfl|hx
   ·exact e4 n e3
   ·exact e2 n x hx
  ·cases h
 |[],_::_,_,h=>by simp [XJ] at h
 |[],[],_::_,h=>by simp [XJ] at h
 |_::_,[],_,h=>by simp [XJ] at h
 |_::_,_::_,[],h=>by simp [XJ] at h
theorem Zpx {ks:List TypeDesc} {a b:Value} (h:Zp1 ks a b=some true):a=b∧Instr.sameBits 10000 b a=true:=by
 unfold Zp1 at h
 split at h
 ·rename_i a b
  obtain⟨e1,e2⟩:=Zg6 h
  obtain⟨a⟩:=a
  obtain⟨b⟩:=b
  simp only at e1 e2
  subst e1
  refine⟨rfl,?_⟩
  rw [show (10000:Nat)=9999+1 from rfl]
  simp only [Instr.sameBits,beq_self_eq_true,Bool.true_and,List.all_eq_true]
  intro x hx
  exact e2 9998 x hx
 ·cases h
section
variable {P:Program}
theorem XE {t:TypeId} {d:TypeDesc} (hu:P.underlying t=some d) (hd:ZfF d=true) (hz:Yt P t=some 1) {xs:Array Value} {off:Nat} {v:Value} (hx:xs[off]?=some v) (w:World):(part t xs off).run P w=.ok v w:=by
 have hb:Y4 P t=some false:=by unfold Y4;rw [hu];cases d<;>simp [ZfF] at hd<;>rfl
 have hr:ZN (⟨w,fun _=>True,id,id,[]⟩:Cx) false (xs.toList.map .v) xs.toList:=ZN.of_v _ _ _
 obtain⟨y,h1,h2⟩:=ZbV (P:=P) (w:=w) hz hb hr (r:=.v v) (off:=off) (by simp only [Zc6,Bool.false_eq_true,if_false,List.getElem?_map,Array.getElem?_toList,hx,Option.map_some])
 rw [Array.toArray_toList] at h1
 rw [h1,h2.v_inv]
theorem Zoq {d:Nat} {w:World} {xs ys:List Value}:∀ (fs:List Field) (i:Nat) (ds:List TypeDesc) (r:Bool),ZcQ P i fs=some ds→XJ ds (xs.drop i) (ys.drop i)=some r→(Op.eqFields (d+1) xs.toArray ys.toArray fs).run P w=.ok r w
 |[],i,ds,r,h,hs=>by
  simp only [ZcQ,Option.some.injEq] at h
  subst h
  generalize xs.drop i=a at hs
  generalize ys.drop i=b at hs
  cases a<;>cases b<;>simp [XJ] at hs
  subst hs;simp [Op.eqFields]
 |f::fs,i,ds,r,h,hs=>by
  unfold ZcQ at h
  split at h
  ·rename_i dd ds' hu hks
   split at h
   ·rename_i hc
    cases h
    cases hx:xs.drop i with
    |nil=>rw [hx] at hs;simp [XJ] at hs
    |cons x xs'=>
     cases hy:ys.drop i with
     |nil=>rw [hx,hy] at hs;simp [XJ] at hs
     |cons y ys'=>
      rw [hx,hy] at hs
      unfold XJ at hs
      split at hs
      ·rename_i p q hp hq
       simp at hs;subst hs
       have gx:xs.toArray[f.offset]?=some x:=by rw [hc.2.1];simp;have:=congrArg (·[0]?) hx;simpa using this
       have gy:ys.toArray[f.offset]?=some y:=by rw [hc.2.1];simp;have:=congrArg (·[0]?) hy;simpa using this
       have dx:xs.drop (i+1)=xs':=by rw [←List.drop_drop,hx];rfl
       have dy:ys.drop (i+1)=ys':=by rw [←List.drop_drop,hy];rfl
       have ih:=Zoq (d:=d) (w:=w) (xs:=xs) (ys:=ys) fs (i+1) ds' q hks (by rw [dx,dy];exact hq)
       have hn:=hc.2.2.1
       simp only [Op.eqFields,ne_eq,hn,not_false_eq_true,if_true,Sem.run_bind,XE hu hc.1 hc.2.2.2 gx,XE hu hc.1 hc.2.2.2 gy,Zgy hu hc.1 hp,Result.andThen_ok,Sem.run_ite,ih,Sem.run_pure]
       cases p<;>simp
      ·cases hs
   ·cases h
  ·cases h
theorem Zn6 {d:Nat} {w:World} {e:TypeId} {dd:TypeDesc} (hu:P.underlying e=some dd) (hd:ZfF dd=true) (hz:Yt P e=some 1) (hc1:P.cellsOf e=1) {xs ys:List Value}:∀ (n i:Nat) (r:Bool),XJ (List.replicate n dd) (xs.drop i) (ys.drop i)=some r→
 (Op.eqItems (d+1) e (P.cellsOf e) xs.toArray ys.toArray (List.range' i n)).run P w=.ok r w
 |0,i,r,hs=>by
  simp only [List.replicate_zero] at hs
  generalize xs.drop i=a at hs
  generalize ys.drop i=b at hs
  cases a<;>cases b<;>simp [XJ] at hs
  subst hs;simp [Op.eqItems]
 |n+1,i,r,hs=>by
  rw [List.replicate_succ] at hs
  cases hx:xs.drop i with
  |nil=>rw [hx] at hs;simp [XJ] at hs
  |cons x xs'=>
   cases hy:ys.drop i with
   |nil=>rw [hx,hy] at hs;simp [XJ] at hs
   |cons y ys'=>
    rw [hx,hy] at hs
    unfold XJ at hs
    split at hs
    ·rename_i p q hp hq
     simp at hs;subst hs
     have gx:xs.toArray[i*P.cellsOf e]?=some x:=by rw [hc1,Nat.mul_one];simp;have:=congrArg (·[0]?) hx;simpa using this
     have gy:ys.toArray[i*P.cellsOf e]?=some y:=by rw [hc1,Nat.mul_one];simp;have:=congrArg (·[0]?) hy;simpa using this
     have dx:xs.drop (i+1)=xs':=by rw [←List.drop_drop,hx];rfl
     have dy:ys.drop (i+1)=ys':=by rw [←List.drop_drop,hy];rfl
     have ih:=Zn6 (d:=d) (w:=w) hu hd hz hc1 (xs:=xs) (ys:=ys) n (i+1) q (by rw [dx,dy];exact hq)
     rw [List.range'_succ]
     simp only [Op.eqItems,Sem.run_bind,XE hu hd hz gx,XE hu hd hz gy,Zgy hu hd hp,Result.andThen_ok,Sem.run_ite,ih,Sem.run_pure]
     cases p<;>simp
    ·cases hs
theorem ZlB {e:TypeId} (hz:Yt P e=some 1):P.cellsOf e=1:=by
 unfold Yt at hz
 cases hi:P.info? e with
 |none=>rw [hi] at hz;cases hz
 |some i=>rw [hi] at hz;simp at hz;simp [Program.cellsOf,hi,hz]
theorem ZfK {kt:TypeId} {ks:List TypeDesc} (hk:ZhN P kt=some ks) {a b:Value} {r:Bool} (h:Zp1 ks a b=some r) (w:World):(Op.equal kt a b).run P w=.ok r w:=by
 unfold Zp1 at h
 split at h
 ·rename_i xs ys
  unfold ZhN at hk
  show (Op.equalIn (9999+1) kt _ _).run P w=_
  split at hk
  ·rename_i fs hu
   split at hk
   ·cases hk
   ·rename_i hp
    rw [run_equalIn_struct w 9999 kt _ _ (by simp [Program.fieldsOf,hu]) (by simpa using hp)]
    simp only [Program.fieldsOf,hu]
    have:=Zoq (P:=P) (d:=9998) (w:=w) (xs:=xs.toList) (ys:=ys.toList) fs.toList 0 ks r hk (by simpa using h)
    simpa using this
  ·rename_i n e hu
   split at hk
   ·rename_i d hue
    split at hk
    ·rename_i hc
     cases hk
     obtain⟨i,hi⟩:=info_of_underlying hue
     rw [run_equalIn_array w 9999 xs ys hu hi]
     have:=Zn6 (P:=P) (d:=9998) (w:=w) hue hc.1 hc.2 (ZlB hc.2) (xs:=xs.toList) (ys:=ys.toList) n 0 r (by simpa using h)
     rw [List.range_eq_range']
     simpa using this
    ·cases hk
   ·cases hk
  ·cases hk
 ·cases h
def ZlD:List TypeDesc→List Value→Bool
 |[],[]=>true
 |d::ds,a::as=>(Instr.sameNow d a a).isSome&&ZlD ds as
 |_,_=>false
def okK (ks:List TypeDesc):Value→Bool
 | .agg a=>ZlD ks a.toList
 |_=>false
theorem ZnL {t:TypeId} {d:TypeDesc} (hu:P.underlying t=some d) (hd:ZfF d=true) (b:Bool) (n:Nat) (v:Value) (w:World):(Instr.checkKey b (n+1) t v).run P w=.ok () w:=by
 unfold Instr.checkKey
 cases d<;>simp [ZfF] at hd<;>simp [run_underlying hu]
theorem Zoy {b:Bool} {n:Nat} {w:World} {xs:List Value}:∀ (fs:List Field) (i:Nat) (ds:List TypeDesc),ZcQ P i fs=some ds→ZlD ds (xs.drop i)=true→
 (forIn fs PUnit.unit fun f _=>(if f.name≠ "_" then (do let v ←part f.type xs.toArray f.offset;Instr.checkKey b (n+1) f.type v;pure (ForInStep.yield PUnit.unit)) else pure (ForInStep.yield PUnit.unit):Sem (ForInStep PUnit))).run P w=.ok PUnit.unit w
 |[],i,ds,h,hs=>by simp
 |f::fs,i,ds,h,hs=>by
  unfold ZcQ at h
  split at h
  ·rename_i dd ds' hu hks
   split at h
   ·rename_i hc
    cases h
    cases hx:xs.drop i with
    |nil=>rw [hx] at hs;simp [ZlD] at hs
    |cons x xs'=>
     rw [hx] at hs
     unfold ZlD at hs
     rw [Bool.and_eq_true] at hs
     have gx:xs.toArray[f.offset]?=some x:=by rw [hc.2.1];simp;have:=congrArg (·[0]?) hx;simpa using this
     have dx:xs.drop (i+1)=xs':=by rw [←List.drop_drop,hx];rfl
     have ih:=Zoy (b:=b) (n:=n) (w:=w) (xs:=xs) fs (i+1) ds' hks (by rw [dx];exact hs.2)
     have hn:=hc.2.2.1
     simp only [List.forIn_cons,Sem.run_bind,ne_eq,hn,not_false_eq_true,if_true,XE hu hc.1 hc.2.2.2 gx,ZnL hu hc.1,Result.andThen_ok,Sem.run_pure]
     exact ih
   ·cases h
  ·cases h
theorem Zom {b:Bool} {m:Nat} {w:World} {e:TypeId} {dd:TypeDesc} (hu:P.underlying e=some dd) (hd:ZfF dd=true) (hz:Yt P e=some 1) {xs:List Value}:∀ (n i:Nat),ZlD (List.replicate n dd) (xs.drop i)=true→
 (forIn (List.range' i n) PUnit.unit fun j _=>(do Instr.checkKey b (m+1) e (←part e xs.toArray (j*(←sizeOf e)));pure (ForInStep.yield PUnit.unit):Sem (ForInStep PUnit))).run P w=.ok PUnit.unit w
 |0,i,hs=>by simp
 |n+1,i,hs=>by
  rw [List.replicate_succ] at hs
  cases hx:xs.drop i with
  |nil=>rw [hx] at hs;simp [ZlD] at hs
  |cons x xs'=>
   rw [hx] at hs
   unfold ZlD at hs
   rw [Bool.and_eq_true] at hs
   have gx:xs.toArray[i*1]?=some x:=by rw [Nat.mul_one];simp;have:=congrArg (·[0]?) hx;simpa using this
   have dx:xs.drop (i+1)=xs':=by rw [←List.drop_drop,hx];rfl
   have ih:=Zom (b:=b) (m:=m) (w:=w) hu hd hz (xs:=xs) n (i+1) (by rw [dx];exact hs.2)
   rw [List.range'_succ]
   simp only [List.forIn_cons,Sem.run_bind,J0 hz,XE hu hd hz gx,ZnL hu hd,Result.andThen_ok,Sem.run_pure]
   exact ih
theorem Zov {kt:TypeId} {ks:List TypeDesc} (hk:ZhN P kt=some ks) {a:Value} (h:okK ks a=true) (b:Bool) (w:World):(Instr.checkKey b 10000 kt a).run P w=.ok () w:=by
 unfold okK at h
 split at h
 ·rename_i xs
  obtain⟨xs⟩:=xs
  simp only at h
  unfold ZhN at hk
  rw [show (10000:Nat)=9998+1+1 from rfl,Instr.checkKey]
  split at hk
  ·rename_i fs hu
   split at hk
   ·cases hk
   ·have:=Zoy (P:=P) (b:=b) (n:=9998) (w:=w) (xs:=xs) fs.toList 0 ks hk (by simpa using h)
    simp only [Sem.run_bind,run_underlying hu,Result.andThen_ok]
    rw [←Array.forIn_toList]
    have h2:∀ {α:Type} {m:Sem α} {a:α} {w':World} {g:α→World→Result Unit},m.run P w=.ok a w'→(m.run P w).andThen g=g a w':=fun h=>by rw [h];rfl
    first
     |exact h2 this
     |(rw [Sem.run_bind];exact h2 this)
  ·rename_i n e hu
   split at hk
   ·rename_i d hue
    split at hk
    ·rename_i hc
     cases hk
     have:=Zom (P:=P) (b:=b) (m:=9998) (w:=w) hue hc.1 hc.2 (xs:=xs) n 0 (by simpa using h)
     simp only [Sem.run_bind,run_underlying hu,Result.andThen_ok,Std.Legacy.Range.forIn_eq_forIn_range',Std.Legacy.Range.size,Nat.sub_zero,Nat.add_one_sub_one,Nat.div_one]
     have h2:∀ {α:Type} {m:Sem α} {a:α} {w':World} {g:α→World→Result Unit},m.run P w=.ok a w'→(m.run P w).andThen g=g a w':=fun h=>by rw [h];rfl
     exact h2 this
    ·cases hk
   ·cases hk
  ·cases hk
 ·cases h
end
def Zgf (P:Program) (t:TypeId):Option (TypeId×List TypeDesc×Value):=
 match P.underlying t with
 |some (.map k e)=>match ZhN P k,Jq P e with
  |some ks,some z=>some (k,ks,z)
  |_,_=>none
 |_=>none
theorem Zg5 {P:Program} {t k:TypeId} {ks:List TypeDesc} {z:Value} (h:Zgf P t=some (k,ks,z)):∃e,P.underlying t=some (.map k e)∧ZhN P k=some ks∧Jq P e=some z:=by
 unfold Zgf at h
 split at h
 ·rename_i k' e hu
  split at h
  ·rename_i ks' z' hk hz
   simp only [Option.some.injEq,Prod.mk.injEq] at h
   obtain⟨rfl,rfl,rfl⟩:=h
   exact⟨e,hu,hk,hz⟩
  ·cases h
 ·cases h
def Zgq (ks:List TypeDesc) (key:Value):List (Value×AV)→Option (Option AV)
 |[]=>some none
 |(k,v)::rest=>match Zp1 ks key k with
  |some true=>some (some v)
  |some false=>Zgq ks key rest
  |none=>none
def ZjU (ks:List TypeDesc) (key:Value) (x:AV):List (Value×AV)→Option (List (Value×AV))
 |[]=>some [(key,x)]
 |(k,v)::rest=>match Zp1 ks key k with
  |some true=>some ((key,x)::rest)
  |some false=>(ZjU ks key x rest).map ((k,v):: ·)
  |none=>none
def Zrw:AV→Option Value
 | .v x=>some x
 |_=>none
def Zo8:AV→Option Value
 | .agg cs=>(cs.mapM Zrw).map fun l=>.agg l.toArray
 |_=>none
theorem ZlH {cx:Cx} {a:AV} {k y:Value} (h:Zo8 a=some k) (hr:Yx cx false a y):y=k:=by
 cases a<;>simp only [Zo8] at h<;>try (cases h;done)
 rename_i cs
 rw [Option.map_eq_some_iff] at h
 obtain⟨l,hl,rfl⟩:=h
 obtain⟨vals,rfl,hv⟩:=hr.agg_inv
 have:vals=l:=by
  clear hr
  induction cs generalizing l vals with
  |nil=>simp at hl;subst hl;exact hv.nil_inv
  |cons c cs ih=>
   obtain⟨x,xs,rfl,h1,h2⟩:=hv.cons_inv
   rw [List.mapM_cons] at hl
   simp only [bind,Option.bind_eq_some_iff,pure,Option.some.injEq] at hl
   obtain⟨b,hb,l',hl',rfl⟩:=hl
   cases c<;>simp [Zrw] at hb
   subst hb
   rw [h1.v_inv,ih l' hl' xs h2]
 rw [this]
theorem ZjF {P:Program} {cx:Cx} {kt:TypeId} {ks:List TypeDesc} (hk:ZhN P kt=some ks) {key:Value}:∀ {es:List (Value×AV)} {ents:List MapEntry} {r:Option AV} (i:Nat),es.length=ents.length→
 (∀ (j:Nat) p e,es[j]?=some p→ents[j]?=some e→p.1=e.key∧Yx cx false p.2 e.val)→Zgq ks key es=some r→
 (r=none∧(Instr.findAsking kt key ents i).run P cx.w=.ok none cx.w)∨∃x v n,r=some x∧(Instr.findAsking kt key ents i).run P cx.w=.ok (some (n,v)) cx.w∧Yx cx false x v
 |[],[],r,i,_,_,h=>by simp [Zgq] at h;subst h;exact .inl ⟨rfl,by simp [Instr.findAsking]⟩
 |[],_::_,_,_,hl,_,_=>by simp at hl
 |_::_,[],_,_,hl,_,_=>by simp at hl
 |(k,v)::es,e::ents,r,i,hl,hr,h=>by
  obtain⟨h1,h2⟩:=hr 0 _ _ rfl rfl
  simp only at h1 h2
  subst h1
  unfold Zgq at h
  unfold Instr.findAsking
  split at h
  ·rename_i hs;simp at h;subst h
   exact .inr ⟨v,e.val,i,rfl,by simp only [Sem.run_bind,ZfK hk hs,Result.andThen_ok,if_true,Sem.run_pure],h2⟩
  ·rename_i hs
   simp only [Sem.run_bind,ZfK hk hs,Result.andThen_ok,Bool.false_eq_true,if_false]
   exact ZjF hk (i+1) (by simpa using hl) (fun j p q a b=>hr (j+1) p q (by simpa using a) (by simpa using b)) h
  ·cases h
theorem Zmf {P:Program} {cx:Cx} {kt:TypeId} {ks:List TypeDesc} (hk:ZhN P kt=some ks) {key:Value} {x:AV} {vx:Value} (hx:Yx cx false x vx):∀ {es out:List (Value×AV)} {ents:List MapEntry} (i:Nat),es.length=ents.length→
 (∀ (j:Nat) p e,es[j]?=some p→ents[j]?=some e→p.1=e.key∧Yx cx false p.2 e.val)→ZjU ks key x es=some out→
 (∃n v e,(Instr.findAsking kt key ents i).run P cx.w=.ok (some (i+n,v)) cx.w∧ents[n]?=some e∧Instr.sameBits 10000 e.key key=true∧out.length=ents.length∧(∀ (j:Nat) p e',out[j]?=some p→(ents.modify n fun e=>{e with key:=key,val:=vx})[j]?=some e'→p.1=e'.key∧Yx cx false p.2 e'.val))∨
 ((Instr.findAsking kt key ents i).run P cx.w=.ok none cx.w∧out=es++[(key,x)])
 |[],out,[],i,_,_,h=>by simp [ZjU] at h;subst h;exact .inr ⟨by simp [Instr.findAsking],rfl⟩
 |[],_,_::_,_,hl,_,_=>by simp at hl
 |_::_,_,[],_,hl,_,_=>by simp at hl
 |(k,v)::es,out,e::ents,i,hl,hr,h=>by
  obtain⟨h1,h2⟩:=hr 0 _ _ rfl rfl
  simp only at h1 h2
  subst h1
  unfold ZjU at h
  unfold Instr.findAsking
  split at h
  ·rename_i hs;simp at h;subst h
   obtain⟨e1,e2⟩:=Zpx hs
   refine .inl ⟨0,e.val,e,by simp only [Sem.run_bind,ZfK hk hs,Result.andThen_ok,if_true,Sem.run_pure];rfl,rfl,e2,by simpa using hl,fun j p e' a b=>?_⟩
   cases j with
   |zero=>simp at a b;subst a;subst b;exact⟨rfl,hx⟩
   |succ j=>simp at a b;exact hr (j+1) p e' (by simpa using a) (by simpa using b)
  ·rename_i hs
   rw [Option.map_eq_some_iff] at h
   obtain⟨out',ho,rfl⟩:=h
   have hstep:∀r,(Instr.findAsking kt key ents (i+1)).run P cx.w=r→((do if ←Op.equal kt key e.key then pure (some (i,e.val)) else Instr.findAsking kt key ents (i+1):Sem (Option (Nat×Value)))).run P cx.w=r:=fun r hh=>by
    simp only [Sem.run_bind,ZfK hk hs,Result.andThen_ok,Bool.false_eq_true,if_false];exact hh
   rcases Zmf hk hx (i+1) (by simpa using hl) (fun j p q a b=>hr (j+1) p q (by simpa using a) (by simpa using b)) ho with ⟨n,v',e',a1,a2,a3,a4,a5⟩|⟨a1,a2⟩
   ·refine .inl ⟨n+1,v',e',by rw [hstep _ a1,show i+1+n=i+(n+1) by omega],a2,a3,by simpa using a4,fun j p e'' a b=>?_⟩
    cases j with
    |zero=>simp at a b;subst a;subst b;exact⟨rfl,h2⟩
    |succ j=>simp at a b;exact a5 j p e'' a b
   ·exact .inr ⟨hstep _ a1,by rw [a2];rfl⟩
  ·cases h
theorem ZqH {P:Program} {kt:TypeId} {ks:List TypeDesc} (h:ZhN P kt=some ks):∃d,P.underlying kt=some d∧∀a b,Instr.sameNow d a b=none:=by
 unfold ZhN at h
 split at h
 ·rename_i fs hu;exact⟨_,hu,fun a b=>by cases a<;>cases b<;>rfl⟩
 ·rename_i n e hu;exact⟨_,hu,fun a b=>by cases a<;>cases b<;>rfl⟩
 ·cases h
theorem Zcu {P:Program} {kt:TypeId} {ks:List TypeDesc} (h:ZhN P kt=some ks) {key:Value} {ents:List MapEntry} {r:Option (Nat×Value)} {w:World} (hr:(Instr.findAsking kt key ents 0).run P w=.ok r w):(Instr.findKey kt key ents).run P w=.ok r w:=by
 obtain⟨d,hu,hd⟩:=ZqH h
 unfold Instr.findKey
 simp only [Sem.run_bind,run_underlying hu,Result.andThen_ok]
 cases ents with
 |nil=>simp [Instr.findNow];simpa [Instr.findAsking] using hr
 |cons e ents=>simp only [Instr.findNow,hd];exact hr
section
variable {P:Program} {o:Oper} {ρ:Operand→AV} {H:List Ze} {K pan:AV→List Ze→Prop}
theorem Zjd {t:TypeId} {x i:Operand} {ok:Bool} (ho:o.op=.lookup t x i ok)
 (h:Z1 (Zgf P t) fun m=>Z1 (Y3 H (ρ x)) fun es=>Z1 (Zo8 (ρ i)) fun k=>YF (okK m.2.1 k=true) (Z1 (Zgq m.2.1 k es) fun r=>
  K (if ok then .tup [r.getD (Je.avZ m.2.2),.v (.bool r.isSome)] else r.getD (Je.avZ m.2.2)) H)):Ye P o ρ H K pan:=by
 obtain⟨⟨kt,ks,z⟩,hm,es,hes,k,hk,hok,r,hr,hK⟩:=h
 obtain⟨e,hu,hku,hz⟩:=Zg5 hm
 refine Yh fun cx ρc B w0 h1 h2 h3=>?_
 have hx:=h3 x (by simp [Op.operands,ho])
 have hi:=h3 i (by simp [Op.operands,ho])
 have hi':ρc i=k:=ZlH hk hi
 have hents:∃ (ents:List MapEntry),es.length=ents.length∧(∀ (j:Nat) p e,es[j]?=some p→ents[j]?=some e→p.1=e.key∧Yx cx false p.2 e.val)∧
  ∃m,ρc x=.map m∧((m=none∧ents=[])∨∃r c,m=some r∧cx.w.heap[r]?=some (.map ents.toArray c)):=by
  unfold Y3 at hes
  split at hes
  ·rename_i h' e'
   split at hes
   ·rename_i es' hk'
    cases hes
    rw [e'] at hx
    generalize hy:ρc x=y at hx
    cases hx with
    |hm _ bl hk'' hf=>
     obtain⟨b1,b2,ents,b3,b4,b5⟩:=h1.blk h' _ (h2▸hk')
     exact⟨ents,b4,fun j p e a b=>let ⟨c1,c2,c3⟩:=b5 j p e a b;⟨c1,c2⟩,_,rfl,.inr ⟨_,ents.length,rfl,b3⟩⟩
   ·cases hes
  ·rename_i h' e'
   split at hes
   ·rename_i es' hk'
    cases hes
    rw [e'] at hx
    generalize hy:ρc x=y at hx
    cases hx with
    |hg _ bl hk'' hf=>
     obtain⟨b1,b2,ents,c,b3,b4,b5,b6⟩:=h1.blk h' _ (h2▸hk')
     exact⟨ents,b4,b5,_,rfl,.inr ⟨_,c,rfl,b3⟩⟩
   ·cases hes
  ·rename_i e'
   cases hes
   rw [e'] at hx
   exact⟨[],rfl,fun j p e a b=>by simp at a,none,hx.v_inv,.inl ⟨rfl,rfl⟩⟩
  ·cases hes
 obtain⟨ents,hl,hrel,m,hy,hm'⟩:=hents
 have hck:=Zov hku hok ents.toArray.isEmpty cx.w
 have hfin:∃rr,(Instr.findKey kt k ents).run P cx.w=.ok rr cx.w∧((rr=none∧r=none)∨∃n v xx,rr=some (n,v)∧r=some xx∧Yx cx false xx v):=by
  rcases ZjF hku 0 hl hrel hr with ⟨rfl,hf⟩|⟨xx,v,n,rfl,hf,hv⟩
  ·exact⟨none,Zcu hku hf,.inl ⟨rfl,rfl⟩⟩
  ·exact⟨some (n,v),Zcu hku hf,.inr ⟨n,v,xx,rfl,rfl,hv⟩⟩
 obtain⟨rr,hfk,hcase⟩:=hfin
 have hnt:∀ (a b:AV) (ya yb:Value),Yx cx false a ya→Yx cx false b yb→Yx cx false (.tup [a,b]) (.tuple #[ya,yb]):=fun a b ya yb ha hb=>ZbM (((ZN.nil cx false).cons hb).cons ha)
 have hrun:∀v b,(match rr with|some (_,v)=>(v,true)|none=>(z,false))=(v,b)→(execOp ρc o).run P cx.w=.ok (.value (if ok then .tuple #[v,.bool b] else v)) cx.w:=by
  intro v b hvb
  rcases hm' with ⟨rfl,rfl⟩|⟨r',c,rfl,hh⟩
  ·have hck':(Instr.checkKey true 10000 kt k).run P cx.w=.ok () cx.w:=hck
   rcases hcase with ⟨rfl,rfl⟩|⟨n,v',xx,rfl,rfl,hv⟩
   ·simp at hvb;obtain⟨rfl,rfl⟩:=hvb
    simp [execOp,ho,Instr.lookup,run_underlying hu,hy,hi',hck',hfk,XU hz]
   ·simp at hvb;obtain⟨rfl,rfl⟩:=hvb
    simp [execOp,ho,Instr.lookup,run_underlying hu,hy,hi',hck',hfk]
  ·rcases hcase with ⟨rfl,rfl⟩|⟨n,v',xx,rfl,rfl,hv⟩
   ·simp at hvb;obtain⟨rfl,rfl⟩:=hvb
    simp only [execOp,ho,Instr.lookup,Sem.run_bind,run_underlying hu,Result.andThen_ok,hy,run_getObj_map P hh,Sem.run_pure,hi',hck,hfk,List.toList_toArray,XU hz]
   ·simp at hvb;obtain⟨rfl,rfl⟩:=hvb
    simp only [execOp,ho,Instr.lookup,Sem.run_bind,run_underlying hu,Result.andThen_ok,hy,run_getObj_map P hh,Sem.run_pure,hi',hck,hfk,List.toList_toArray]
 rcases hcase with ⟨rfl,rfl⟩|⟨n,v',xx,rfl,rfl,hv⟩
 ·refine⟨_,_,hrun z false rfl,?_,hK⟩
  cases ok
  ·simpa using Zeq cx false z
  ·simpa using hnt _ _ _ _ (Zeq cx false z) (.v (.bool false))
 ·refine⟨_,_,hrun v' true rfl,?_,hK⟩
  cases ok
  ·simpa using hv
  ·simpa using hnt _ _ _ _ hv (.v (.bool true))
theorem Zc5 {t:TypeId} {m i x:Operand} (ho:o.op=.mapUpdate t m i x∨o.op=.insert t m i x)
 (h:Z1 (Zgf P t) fun mm=>match ρ m with
  | .hm h=>Z1 (Y3 H (.hm h)) fun es=>Z1 (Zo8 (ρ i)) fun k=>YF (okK mm.2.1 k=true) (Z1 (ZjU mm.2.1 k (ρ x) es) fun es'=>K (.tup []) (H.set h (.map es')))
  |_=>False):Ye P o ρ H K pan:=by
 obtain⟨⟨kt,ks,z⟩,hm,h⟩:=h
 obtain⟨e,hu,hku,hz⟩:=Zg5 hm
 split at h
 ·rename_i h' e'
  obtain⟨es,hes,k,hk,hok,es',hset,hK⟩:=h
  refine ZcX fun B w0 cx ρc h1 h2 h3=>?_
  have hops:m∈o.op.operands∧i∈o.op.operands∧x∈o.op.operands:=by rcases ho with ho|ho<;>simp [Op.operands,ho]
  have hmr:=h3 m hops.1
  have hir:=h3 i hops.2.1
  have hxr:=h3 x hops.2.2
  have hi':ρc i=k:=ZlH hk hir
  simp only [Y3] at hes
  split at hes
  ·rename_i es0 hk'
   cases hes
   rw [e'] at hmr
   generalize hy:ρc m=y at hmr
   cases hmr with
   |hm _ bl hk'' hf=>
    obtain⟨b1,b2,ents,b3,b4,b5⟩:=h1.blk h' _ (h2▸hk')
    have hkk:cx.H[h']?=some (.map es):=h2▸hk'
    have hck:=Zov hku hok false cx.w
    have base:(execOp ρc o).run P cx.w=((Instr.mapUpdate t (.map (some (cx.κ h'))) k (ρc x)).run P cx.w).andThen fun _ w=>.ok .skip w:=by
     rcases ho with ho|ho<;>simp [execOp,ho,hy,hi']
    have setObj_run:∀ (es2:Array MapEntry) (c2:Nat),(setObj (cx.κ h') (.map es2 c2)).run P cx.w=.ok () {cx.w with heap:=cx.w.heap.setIfInBounds (cx.κ h') (.map es2 c2)}:=fun es2 c2=>by
     simp [setObj,Sem.run,b3]
    have fin:∀ (ents2:List MapEntry) (c2:Nat),c2=ents2.length→es'.length=ents2.length→(∀ (j:Nat) p e,es'[j]?=some p→ents2[j]?=some e→p.1=e.key∧Yx cx false p.2 e.val∧e.born=j)→
     (Instr.mapUpdate t (.map (some (cx.κ h'))) k (ρc x)).run P cx.w=.ok () {cx.w with heap:=cx.w.heap.setIfInBounds (cx.κ h') (.map ents2.toArray c2)}→
     ∃cx',(execOp ρc o).run P cx.w=.ok .skip cx'.w∧Yl B w0 cx'∧Le cx cx'∧K (.tup []) cx'.H:=by
     intro ents2 c2 hc2 hl hrel hrun
     subst hc2
     have hlt:cx.κ h'<cx.w.heap.size:=(Array.getElem?_eq_some_iff.1 b3).1
     have hw:∀i,i≠cx.κ h'→i<cx.w.heap.size→(cx.w.heap.setIfInBounds (cx.κ h') (.map ents2.toArray ents2.length))[i]?=cx.w.heap[i]?:=fun i hi _=>Array.getElem?_setIfInBounds_ne (fun e=>hi e.symm)
     have hle:=Zc3 (cx:=cx) (bl:=.map es') (w':={cx.w with heap:=cx.w.heap.setIfInBounds (cx.κ h') (.map ents2.toArray ents2.length)}) hkk hw b2 (.inl ⟨rfl,rfl⟩)
     refine⟨cx.put h' {cx.w with heap:=cx.w.heap.setIfInBounds (cx.κ h') (.map ents2.toArray ents2.length)} (.map es'),?_,?_,hle,?_⟩
     ·rw [base,hrun];rfl
     ·refine Zaq h1 hkk rfl ⟨rfl,rfl,rfl,by simp,fun i hi=>hw i (by omega) (by have:=h1.base;omega)⟩ hw hle ⟨b1,b2,ents2,?_,hl,fun j p e a b=>?_⟩
      ·exact Array.getElem?_setIfInBounds_self_of_lt hlt
      ·obtain⟨q1,q2,q3⟩:=hrel j p e a b
       exact⟨q1,q2.mono hle,q3⟩
     ·show K _ (cx.H.set h' _);rw [h2];exact hK
    rcases Zmf (cx:=cx) hku hxr 0 b4 (fun j p e a b=>let ⟨c1,c2,c3⟩:=b5 j p e a b;⟨c1,c2⟩) hset with ⟨n,v,e0,a1,a2,a3,a4,a5⟩|⟨a1,a2⟩
    ·have hfk:(Instr.findKey kt k ents).run P cx.w=.ok (some (n,v)) cx.w:=Zcu hku (by simpa using a1)
     have hks:(Instr.keyThatStays e0.key k).run P cx.w=.ok k cx.w:=by simp [Instr.keyThatStays,a3]
     refine fin (ents.modify n fun e=>{e with key:=k,val:=ρc x}) ents.length (by simp) (by simpa using a4) (fun j p e a b=>?_) ?_
     ·obtain⟨q1,q2⟩:=a5 j p e a b
      refine⟨q1,q2,?_⟩
      rw [List.getElem?_modify,Option.map_eq_map,Option.map_eq_some_iff] at b
      obtain⟨e1,he1,rfl⟩:=b
      have hj:j<es.length:=by rw [b4];exact (List.getElem?_eq_some_iff.1 he1).1
      have:=(b5 j _ e1 (List.getElem?_eq_getElem hj) he1).2.2
      split<;>exact this
     ·simp only [Instr.mapUpdate,Sem.run_bind,run_underlying hu,Result.andThen_ok,run_getObj_map P b3,hck,List.toList_toArray,hfk,List.getElem?_toArray,a2,Option.map_some,Option.getD_some,hks,setObj_run]
      simp
    ·have hfk:(Instr.findKey kt k ents).run P cx.w=.ok none cx.w:=Zcu hku a1
     refine fin (ents++[{key:=k,val:=ρc x,born:=ents.length}]) (ents.length+1) (by simp) (by rw [a2];simp [b4]) (fun j p e a b=>?_) ?_
     ·rw [a2] at a
      rw [List.getElem?_append] at a b
      by_cases hj:j<es.length
      ·rw [if_pos hj] at a;rw [if_pos (by omega)] at b
       obtain⟨q1,q2,q3⟩:=b5 j p e a b
       exact⟨q1,q2,q3⟩
      ·rw [if_neg hj] at a;rw [if_neg (by omega)] at b
       rw [b4] at a
       cases hjj:j-ents.length with
       |zero=>rw [hjj] at a b;simp at a b;subst a;subst b;exact⟨rfl,hxr,by show ents.length=j;omega⟩
       |succ q=>rw [hjj] at a;simp at a
     ·simp only [Instr.mapUpdate,Sem.run_bind,run_underlying hu,Result.andThen_ok,run_getObj_map P b3,hck,List.toList_toArray,hfk,setObj_run]
      simp
  ·cases hes
 ·exact h.elim
end
end Go.Mu
namespace Go.Mu
open Go.RowKit (Below)
def ZbY (P:Program) (t:TypeId):Bool:=match P.underlying t with|some (.interface _)=>false|some _=>true|none=>false
def Znp (x:AV) (i:Nat):Option AV:=match x with| .tup xs=>xs[i]?|_=>none
def ZwN (x:AV) (k:Prop):Prop:=match x with| .ifc _ _=>k|_=>False
def Zke (H:List Ze) (m:AV) (k:Option Value) (x:AV) (d:TypeDesc) (K:List Ze→Prop):Prop:=
 match m with
 | .hm h=>Z1 (Y3 H (.hm h)) fun es=>Z1 k fun k=>Z1 (ZcY d k x es) fun es'=>K (H.set h (.map es'))
 | .hg h=>Z1 (Y3 H (.hg h)) fun es=>Z1 k fun k=>Z1 (ZcY d k x es) fun es'=>K (H.set h (.mapg es'))
 |_=>False
def ZmI (H:List Ze) (m:AV) (k:Option Value) (d:TypeDesc) (K:List Ze→Prop):Prop:=
 match m with
 | .hg h=>Z1 (Y3 H (.hg h)) fun es=>Z1 k fun k=>Z1 (ZkG d k es) fun es'=>K (H.set h (.mapg es'))
 |_=>False
def ZkV (H:List Ze) (m:AV) (k:Option Value) (x:AV) (ks:List TypeDesc) (K:List Ze→Prop):Prop:=
 match m with
 | .hm h=>Z1 (Y3 H (.hm h)) fun es=>Z1 k fun k=>YF (okK ks k=true) (Z1 (ZjU ks k x es) fun es'=>K (H.set h (.map es')))
 |_=>False
def bsR (b:Bool) (sz:Nat) (es:List (List AV)):AV:=match b with|true=>.vx sz es|false=>.vs sz es
@[simp] theorem Zy9 (sz:Nat) (es:List (List AV)):bsR true sz es=.vx sz es:=(rfl)
@[simp] theorem ZyA (sz:Nat) (es:List (List AV)):bsR false sz es=.vs sz es:=(rfl)
def Zjz (s x:AV) (sl:TypeId×Nat×List Value×Nat) (K:AV→Prop):Prop:=
 match s,x with
 | .v (.slice none 0 0),.vs sz ys=>YF (sz=sl.2.1) (YF (ys.length*sl.2.2.2≤140737488355328∧ys.length≤9223372036854775807) (K (.vs sz ys)))
 | .vx sz' xs,.vs sz ys=>YF (sz'=sl.2.1∧sz=sl.2.1) (YF ((xs.length+ys.length)*sl.2.2.2≤140737488355328∧xs.length+ys.length≤9223372036854775807) (K (.vs sz (xs++ys))))
 |_,_=>False
def Zop (P:Program) (hn:Nat→Bool) (H:List Ze) (ρ:Operand→AV) (dst:Option Tmp) (b:Builtin) (args:List Operand) (ts:List TypeId) (K:AV→List Ze→Prop):Prop:=
 match b,args,ts with
 | .len,[x],[t]=>Z1 (Zev H (ZaY P t) (ρ x)) fun n=>K (.v (.int .i64 n)) H
 | .append,[s,x],[t,t']=>YF (t=t') (Z1 (Xg P t) fun sl=>
  if hn (dst.getD 0) then YF (sl.2.2.1.all Value.oneCell'=true) (Z1 (ZaV H sl.2.1 (ρ x)) fun ys=>ZbH H sl (ρ s) ys K)
  else Zjz (ρ s) (ρ x) sl fun r=>K r H)
 | .min,[x,y],_=>Z1 (ZoA (ρ x) (ρ y)) fun r=>K r H
 | .max,[x,y],_=>Z1 (ZsN (ρ x) (ρ y)) fun r=>K r H
 | .delete,[m,i],[t,_]=>Z1 (Xu P t) fun mm=>ZmI H (ρ m) (Zdp (ρ i)) mm.1 fun H'=>K (.tup []) H'
 |_,_,_=>False
def Zhp (P:Program) (H:List Ze) (fv:AV) (args:List AV) (K:AV→List Ze→Prop):Prop:=
 match fv with
 | .fn (.func g) first cap=>YF (ZL P g=true) (∃r,Zi P g (first++args++cap) H (fun e H'=>e=.ret r∧H'=H)∧K r H)
 |_=>False
def ZeJ (P:Program) (hn:Nat→Bool) (dr:Bool) (H:List Ze) (dst:Option Tmp) (fv:AV) (args:List AV) (K pan:AV→List Ze→Prop):Prop:=
 if (dr&& !hn (dst.getD 0))=true then Zhp P H fv args K else Zjr P H fv args K pan
def Zlu (P:Program) (hn:Nat→Bool) (dr:Bool) (H:List Ze) (ρ:Operand→AV) (dst:Option Tmp) (c:Call) (K pan:AV→List Ze→Prop):Prop:=
 match c.callee with
 | .value fo=>ZeJ P hn dr H dst (ρ fo) (c.args.toList.map ρ) K pan
 | .builtin b=>Zop P hn H ρ dst b c.args.toList c.argTypes.toList K
 |_=>False
def Zbz (y:Operand):Bool:=match y with| .tmp _=>false| .const (.slice none 0 0)=>true|_=>false
def ZaQ (P:Program) (hn:Nat→Bool) (dr:Bool) (H:List Ze) (ρ:Operand→AV) (dst:Option Tmp) (op:Op) (K pan:AV→List Ze→Prop):Prop:=
 match op with
 | .move x| .assign x=>Zqe (ρ x) fun a=>K a H
 | .pick c a b=>Zbu (ρ c) (Zqe (ρ a) fun a=>K a H) (Zqe (ρ b) fun a=>K a H)
 | .alloc t=>Z1 (Jq P t) fun z=>K (.bp H.length 0) (H++[.box t (z.cells.toList.map .v)])
 | .box t x=>Z1 (YA (ρ x)) fun cs=>K (.bp H.length 0) (H++[.box t cs])
 | .load t x=>Z1 (Ja H (ρ x)) fun cs=>Z1 (Yt P t) fun sz=>Z1 (Y4 P t) fun b=>Z1 (ZdG b sz cs) fun r=>K r H
 | .store t a x=>Z1 (YA (ρ x)) fun xs=>YF (Yt P t=some xs.length∧xs.all AV.one=true) (Z1 (ZbZ H (ρ a) xs) fun H'=>K (.tup []) H')
 | .fieldAddr s x i=>Z1 (Y5 P s i) fun fl=>Z1 (Ja H (ρ x)) fun _=>YF (fl.2.1≠0) (Z1 (ZgD (ρ x) fl.1) fun p=>K p H)
 | .field s x i=>Z1 (Y5 P s i) fun fl=>Z1 (Zby (ρ x)) fun cs=>Z1 (Zc6 fl.2.2 fl.2.1 fl.1 cs) fun r=>K r H
 | .indexAddr t x i=>match ZfD P t with
   |some ar=>Z1 (Yt P ar.2) fun sz=>Z1 (Xe (ρ i)) fun n=>ZoY ar.1 sz (ρ x) n fun r=>K r H
   |none=>Z1 (ZaG P t) fun e=>Z1 (Yt P e) fun sz=>Z1 (Xe (ρ i)) fun n=>Zlp H sz (ρ x) n fun r=>K r H
 | .index t x i=>match ZfD P t with
   |some ar=>Z1 (Yt P ar.2) fun sz=>Z1 (Y4 P ar.2) fun agg=>Z1 (Xe (ρ i)) fun n=>Z1 (Zi4 (ρ x) agg ar.1 sz n) fun r=>K r H
   |none=>YF (ZaY P t=2) (Z1 (ZgJ (ρ x)) fun s=>Z1 (Xe (ρ i)) fun n=>YF (0≤n) (Z1 (s.data.toList[n.toNat]?) fun b=>K (.v (.int .u8 b.toNat)) H))
 | .slice t x lo hi none=>Z1 (ZaG P t) fun e=>Z1 (Yt P e) fun sz=>Z1 (Zgh (lo.map ρ)) fun l=>Z1 (Zgh (hi.map ρ)) fun hh=>ZfQ H sz (ρ x) l hh fun r=>K r H
 | .makeSlice t ln cp=>Z1 (Xg P t) fun sl=>Z1 (Xe (ρ ln)) fun n=>Z1 (Xe (ρ cp)) fun c=>YF (0≤n∧n≤c∧(sl.2.2.2:Int)*c≤281474976710656∧c≤9223372036854775807∧sl.2.2.1.all Value.oneCell'=true)
  (K (.hs H.length 0 n.toNat n.toNat) (H++[.row sl.1 sl.2.1 (List.replicate n.toNat (sl.2.2.1.map .v))]))
 | .binOp op t x y _=>if ZeW (ρ x) then Z1 (ZdA op (ρ x) (ρ y)) fun r=>K r H else if (Zbz y&&ZcJ (ρ y))=true then YF (Zm6 op=true∧(ZaG P t).isSome=true) (ZlG (ρ x) fun b=>K (.v (.bool (Zfi op b))) H) else YF (nnB (ρ x) (ρ y) (Zbe x||Zbe y)=true) (Z1 (Zgk P op t (ρ x) (ρ y)) fun r=>K r H)
 | .unOp op _ x=>Z1 (unA op (ρ x)) fun r=>K r H
 | .convert s t x=>Zfg P s t (kOf P t) (ρ x) fun r=>K r H
 | .nilCheck x=>Z1 (Ja H (ρ x)) fun _=>K (ρ x) H
 | .extract x i=>Z1 (Znp (ρ x) i) fun r=>K r H
 | .makeInterface t x=>YF (ZbY P t=true) (K (.ifc t (ρ x)) H)
 | .build t parts=>Z1 (Zbr P t) fun zp=>Z1 (Zdg (fun i=>zp.2[i]?) (zp.1.map .v) (parts.toList.map fun x=>(x.1,ρ x.2))) fun cs=>K (.agg cs) H
 | .buildSlice t len parts=>Z1 (Xg P t) fun sl=>YF (len*sl.2.1≤2^24) (Z1 (Zak sl.2.1 (List.replicate len (sl.2.2.1.map .v)) (parts.toList.map fun x=>(x.1,ρ x.2))) fun es=>
  if hn (dst.getD 0) then YF (es.flatten.all AV.one=true) (K (.hs H.length 0 len len) (H++[.row sl.1 sl.2.1 es]))
  else YF (es.flatten.all AV.frzB=true∧es.flatten.all AV.one=true) (K (bsR (hn (dst.getD 0+1000000)) sl.2.1 es) H))
 | .makeFunc fn first cap=>K (.fn fn (first.toList.map ρ) (cap.toList.map ρ)) H
 | .panic x=>ZwN (ρ x) (pan (ρ x) H)
 | .typeAssert x _ t ok=>YF (ZbY P t=true) (Z1 (Jq P t) fun z=>Z1 (Je (ρ x) t z ok) fun r=>K r H)
 | .makeMap _ none=>K (.hm H.length) (H++[.map []])
 | .lookup t x i ok=>if (Xu P t).isSome=true then (Z1 (Xu P t) fun m=>Z1 (Y3 H (ρ x)) fun es=>Z1 (Zdp (ρ i)) fun k=>Z1 (Zbw m.1 k es) fun r=>
  K (if ok then .tup [r.getD (Je.avZ m.2),.v (.bool r.isSome)] else r.getD (Je.avZ m.2)) H) else
  (Z1 (Zgf P t) fun m=>Z1 (Y3 H (ρ x)) fun es=>Z1 (Zo8 (ρ i)) fun k=>YF (okK m.2.1 k=true) (Z1 (Zgq m.2.1 k es) fun r=>
  K (if ok then .tup [r.getD (Je.avZ m.2.2),.v (.bool r.isSome)] else r.getD (Je.avZ m.2.2)) H))
 | .mapUpdate t m i x| .insert t m i x=>if (Xu P t).isSome=true then (Z1 (Xu P t) fun mm=>Zke H (ρ m) (Zdp (ρ i)) (ρ x) mm.1 fun H'=>K (.tup []) H') else
  (Z1 (Zgf P t) fun mm=>ZkV H (ρ m) (Zo8 (ρ i)) (ρ x) mm.2.1 fun H'=>K (.tup []) H')
 | .call c=>Zlu P hn dr H ρ dst c K pan
 | .range t x=>YF (Zgb P t=true) (Zkz H (ρ x) K)
 | .next x false=>Zlr H (ρ x) K
 | .entry x=>ZhE H (ρ x) K
 |_=>False
theorem ZkJ {P:Program} {H:List Ze} {fv:AV} {args:List AV} {K pan:AV→List Ze→Prop} (h:Zhp P H fv args K):Zjr P H fv args K pan:=by
 unfold Zhp at h
 unfold Zjr
 split at h
 ·obtain⟨h1,r,h2,h3⟩:=h
  exact⟨h1,h2.mono fun e H' he=>by obtain⟨rfl,rfl⟩:=he;exact h3⟩
 ·exact h.elim
theorem Zbg {P:Program} {hn:Nat→Bool} {dr:Bool} {H:List Ze} {ρ:Operand→AV} {o:Oper} {K pan:AV→List Ze→Prop} (h:ZaQ P hn dr H ρ o.dst o.op K pan):Ye P o ρ H K pan:=by
 unfold ZaQ at h
 split at h<;>rename_i ho
 ·exact Zi6 (.inl ho) h
 ·exact Zi6 (.inr ho) h
 ·exact ZmN ho h
 ·exact ZlU ho h
 ·exact Zpq ho h
 ·exact Zn1 ho h
 ·exact Zl7 ho h
 ·exact ZgH ho h
 ·exact Zm0 ho h
 ·split at h
  ·rename_i ar ha;exact Zgo ho ⟨ar,ha,h⟩
  ·exact ZgL ho h
 ·split at h
  ·rename_i ar ha;exact ZhX ho ⟨ar,ha,h⟩
  ·exact ZiK ho h
 ·exact Zmx ho h
 ·exact ZgC ho h
 ·split at h
  ·exact ZoX ho h
  ·split at h
   ·rename_i hsl;simp only [Bool.and_eq_true] at hsl;exact Zhq ho hsl.2 h
   ·rename_i hnum _
    exact ZmA ho ⟨⟨by simpa using hnum,h.1⟩,h.2⟩
 ·exact ZpU ho h
 ·exact ZmU ho h
 ·exact Ziu ho h
 ·exact ZiY ho h
 ·exact Zey ho h
 ·exact Zlv ho h
 ·obtain⟨sl,hs,hl,es,he,h⟩:=h
  split at h
  ·exact Zd7 ho ⟨sl,hs,hl,es,he,h⟩
  ·cases hx:hn (o.dst.getD 0+1000000) with
   |true=>rw [hx] at h;exact Zew ho ⟨sl,hs,hl,es,he,h⟩
   |false=>rw [hx] at h;exact Zex ho ⟨sl,hs,hl,es,he,h⟩
 ·exact Zh9 ho h
 ·exact ZlS ho h
 ·exact Zgj ho h
 ·exact ZiX ho h
 ·split at h
  ·exact ZkF ho h
  ·exact Zjd ho h
 ·split at h
  ·obtain⟨mm,hm,h⟩:=h
   unfold Zke at h
   exact Zdn (.inl ho) ⟨mm,hm,h⟩
  ·obtain⟨mm,hm,h⟩:=h
   unfold ZkV at h
   exact Zc5 (.inl ho) ⟨mm,hm,h⟩
 ·split at h
  ·obtain⟨mm,hm,h⟩:=h
   unfold Zke at h
   exact Zdn (.inr ho) ⟨mm,hm,h⟩
  ·obtain⟨mm,hm,h⟩:=h
   unfold ZkV at h
   exact Zc5 (.inr ho) ⟨mm,hm,h⟩
 ·rename_i c
  unfold Zlu at h
  split at h<;>rename_i hc
  ·unfold ZeJ at h
   split at h
   ·exact Zir ho hc (ZkJ h)
   ·exact Zir ho hc h
  ·obtain⟨callee,args,ts⟩:=c
   simp only at hc h
   subst hc
   unfold Zop at h
   split at h<;>rename_i ha ht
   ·have e1:args= #[_]:=Array.toList_inj.1 (by rw [ha])
    have e2:ts= #[_]:=Array.toList_inj.1 (by rw [ht])
    subst e1;subst e2
    exact Zpl ho h
   ·have e1:args= #[_,_]:=Array.toList_inj.1 (by rw [ha])
    have e2:ts= #[_,_]:=Array.toList_inj.1 (by rw [ht])
    subst e1;subst e2
    obtain⟨htt,sl,hs,h⟩:=h
    subst htt
    split at h
    ·exact Zk0 ho ⟨sl,hs,h⟩
    ·unfold Zjz at h
     split at h<;>rename_i e1 e2
     ·exact ZgA ho ⟨sl,hs,by rw [e1,e2];exact h⟩
     ·exact ZgF ho ⟨sl,hs,by rw [e1,e2];exact h⟩
     ·exact h.elim
   ·have e1:args= #[_,_]:=Array.toList_inj.1 (by rw [ht])
    subst e1
    exact Zp8 ho h
   ·have e1:args= #[_,_]:=Array.toList_inj.1 (by rw [ht])
    subst e1
    exact ZoL ho h
   ·have e1:args= #[_,_]:=Array.toList_inj.1 (by rw [ha])
    have e2:ts= #[_,_]:=Array.toList_inj.1 (by rw [ht])
    subst e1;subst e2
    obtain⟨⟨d,z⟩,hm,h⟩:=h
    unfold ZmI at h
    split at h
    ·rename_i h' e'
     obtain⟨es,hes,k,hk,es',hd,hK⟩:=h
     simp only [Y3] at hes
     split at hes
     ·rename_i es0 hk'
      cases hes
      exact ZiS ho hm e' hk' hk hd hK
     ·cases hes
    ·exact h.elim
   ·exact h.elim
  ·exact h.elim
 ·exact ZlT ho h
 ·exact Znb ho h
 ·exact Zmz ho h
 ·exact h.elim
def Ym (hn:Nat→Bool) (o:Oper):Bool:=
 match o.op with
 | .binOp _ _ _ y _=> !Zbz y
 | .move _| .assign _| .pick .. | .load .. | .fieldAddr .. | .field .. | .indexAddr .. | .index .. | .slice _ _ _ _ none| .unOp .. | .convert .. | .nilCheck _| .extract .. | .makeInterface .. | .build .. | .makeFunc .. | .typeAssert .. | .lookup .. =>true
 | .buildSlice .. => !hn (o.dst.getD 0)
 | .call c=>match c.callee with
   | .value _=> !hn (o.dst.getD 0)
   | .builtin .len=>true
   | .builtin .append=> !hn (o.dst.getD 0)
   |_=>false
 |_=>false
def Det (H:List Ze) (W:(AV→List Ze→Prop)→(AV→List Ze→Prop)→Prop):Prop:=∀K pan,W K pan→∃r,W (fun r' H'=>r'=r∧H'=H) (fun _ _=>False)∧K r H
theorem ZH {H:List Ze} {α:Type} {o:Option α} {W:α→(AV→List Ze→Prop)→(AV→List Ze→Prop)→Prop} (h:∀a,Det H (W a)):Det H fun K pan=>Z1 o fun a=>W a K pan:=by
 intro K pan hw
 obtain⟨a,ha,hw⟩:=hw
 obtain⟨r,h1,h2⟩:=h a K pan hw
 exact⟨r,⟨a,ha,h1⟩,h2⟩
theorem XC {H:List Ze} {p:Prop} {W:(AV→List Ze→Prop)→(AV→List Ze→Prop)→Prop} (h:Det H W):Det H fun K pan=>YF p (W K pan):=by
 intro K pan hw
 obtain⟨r,h1,h2⟩:=h K pan hw.2
 exact⟨r,⟨hw.1,h1⟩,h2⟩
theorem XM {H:List Ze} (r:AV):Det H fun K pan=>K r H:=fun K pan h=>⟨r,⟨rfl,rfl⟩,h⟩
theorem Zor {H:List Ze} {p:Prop} [Decidable p] {W W':(AV→List Ze→Prop)→(AV→List Ze→Prop)→Prop} (h:p→Det H W) (h': ¬p→Det H W'):Det H fun K pan=>if p then W K pan else W' K pan:=by
 intro K pan hw
 by_cases hp:p
 ·simp only [if_pos hp] at hw ⊢;exact h hp K pan hw
 ·simp only [if_neg hp] at hw ⊢;exact h' hp K pan hw
theorem ZoZ {P:Program} {H:List Ze} {s t:TypeId} {k:Option IntKind} {x:AV}:Det H fun K pan=>Zfg P s t k x fun r=>K r H:=by
 cases k with
 |none=>
  unfold Zfg
  by_cases hb:byS P s t=true
  ·simp only [hb,if_true];exact ZH fun _=>XM _
  ·simp only [hb,if_false];exact XC (ZH fun _=>XM _)
 |some k=>exact XC (ZH fun _=>XM _)
theorem Zqw {P:Program} {hn:Nat→Bool} {H:List Ze} {ρ:Operand→AV} {o:Oper} {K pan:AV→List Ze→Prop} (hp:Ym hn o=true) (h:ZaQ P hn true H ρ o.dst o.op K pan):
 ∃r,ZeR P o ρ H r∧K r H:=by
 suffices hd:Det H (ZaQ P hn true H ρ o.dst o.op) by
  obtain⟨r,h1,h2⟩:=hd K pan h
  exact⟨r,Zbg h1,h2⟩
 obtain⟨dst,op,ty,pos,aft,g⟩:=o
 unfold Ym at hp
 simp only at hp ⊢
 split at hp
 case h_1 op t x y _=>
  have hp':Zbz y=false:=by simpa using hp
  exact Zor (fun _=>ZH fun _=>XM _) (fun _=>Zor (fun h=>absurd h (by simp [hp'])) (fun _=>XC (ZH fun _=>XM _)))
 case h_2=>exact XM _
 case h_3=>exact XM _
 case h_4 c a b=>
  intro K pan h
  have h':Zbu (ρ c) (K (ρ a) H) (K (ρ b) H):=h
  unfold Zbu at h'
  split at h'
  ·rename_i e
   refine⟨_,?_,h'⟩
   show Zbu (ρ c) _ _
   rw [e];exact⟨rfl,rfl⟩
  ·rename_i e
   refine⟨_,?_,h'⟩
   show Zbu (ρ c) _ _
   rw [e];exact⟨rfl,rfl⟩
  ·exact h'.elim
 case h_5=>exact ZH fun _=>ZH fun _=>ZH fun _=>ZH fun _=>XM _
 case h_6=>exact ZH fun _=>ZH fun _=>XC (ZH fun _=>XM _)
 case h_7=>exact ZH fun _=>ZH fun _=>ZH fun _=>XM _
 case h_8 t x i=>
  intro K pan h
  have dA:∀ar:Nat×TypeId,Det H fun K pan=>Z1 (Yt P ar.2) fun sz=>Z1 (Xe (ρ i)) fun n=>ZoY ar.1 sz (ρ x) n fun r=>K r H:=fun ar=>by
   refine ZH fun sz=>ZH fun n=>?_
   intro K pan h
   unfold ZoY at h
   split at h<;>rename_i e
   ·exact⟨_,(by rw [e];exact⟨h.1,rfl,rfl⟩),h.2⟩
   ·exact⟨_,(by rw [e];exact⟨h.1,rfl,rfl⟩),h.2⟩
   ·exact h.elim
  have dS:Det H fun K pan=>Z1 (ZaG P t) fun e=>Z1 (Yt P e) fun sz=>Z1 (Xe (ρ i)) fun n=>Zlp H sz (ρ x) n fun r=>K r H:=by
   refine ZH fun e=>ZH fun sz=>ZH fun n=>?_
   intro K pan h
   unfold Zlp at h
   split at h<;>rename_i e
   ·obtain⟨r,h1,h2⟩:=(XC (ZH fun _=>XM _)) K pan h
    exact⟨r,(by rw [e];exact h1),h2⟩
   ·split at h<;>rename_i e2
    ·exact⟨_,(by rw [e];unfold Zlp;simp only [e2];exact⟨h.1,by simp⟩),h.2⟩
    ·exact h.elim
   ·exact h.elim
  cases ha:ZfD P t with
  |some ar=>
   obtain⟨r,h1,h2⟩:=dA ar K pan (by simpa only [ZaQ,ha] using h)
   exact⟨r,by simpa only [ZaQ,ha] using h1,h2⟩
  |none=>
   obtain⟨r,h1,h2⟩:=dS K pan (by simpa only [ZaQ,ha] using h)
   exact⟨r,by simpa only [ZaQ,ha] using h1,h2⟩
 case h_9 t x i=>
  intro K pan h
  have dA:∀ar:Nat×TypeId,Det H fun K pan=>Z1 (Yt P ar.2) fun sz=>Z1 (Y4 P ar.2) fun agg=>Z1 (Xe (ρ i)) fun n=>Z1 (Zi4 (ρ x) agg ar.1 sz n) fun r=>K r H:=fun ar=>ZH fun _=>ZH fun _=>ZH fun _=>ZH fun _=>XM _
  have dS:Det H fun K pan=>YF (ZaY P t=2) (Z1 (ZgJ (ρ x)) fun s=>Z1 (Xe (ρ i)) fun n=>YF (0≤n) (Z1 (s.data.toList[n.toNat]?) fun b=>K (.v (.int .u8 b.toNat)) H)):=XC (ZH fun _=>ZH fun _=>XC (ZH fun _=>XM _))
  cases ha:ZfD P t with
  |some ar=>
   obtain⟨r,h1,h2⟩:=dA ar K pan (by simpa only [ZaQ,ha] using h)
   exact⟨r,by simpa only [ZaQ,ha] using h1,h2⟩
  |none=>
   obtain⟨r,h1,h2⟩:=dS K pan (by simpa only [ZaQ,ha] using h)
   exact⟨r,by simpa only [ZaQ,ha] using h1,h2⟩
 case h_10 t x lo hi=>
  refine ZH fun e=>ZH fun sz=>ZH fun l=>ZH fun hh=>?_
  intro K pan h
  unfold ZfQ at h
  split at h<;>rename_i e1
  ·exact⟨_,(by rw [e1];exact⟨h.1,rfl,rfl⟩),h.2⟩
  ·split at h<;>rename_i e2
   ·exact⟨_,(by rw [e1];unfold ZfQ;simp only [e2];exact⟨h.1,by simp⟩),h.2⟩
   ·exact h.elim
  ·exact⟨_,(by rw [e1];exact⟨h.1,rfl,rfl⟩),h.2⟩
  ·exact h.elim
 case h_11=>exact ZH fun _=>XM _
 case h_12 s t x=>exact ZoZ
 case h_13=>exact ZH fun _=>XM _
 case h_14=>exact ZH fun _=>XM _
 case h_15=>exact XC (XM _)
 case h_16=>exact ZH fun _=>ZH fun _=>XM _
 case h_17=>exact XM _
 case h_18=>exact XC (ZH fun _=>ZH fun _=>XM _)
 case h_19 t x i ok=>
  intro K pan h
  by_cases hm:(Xu P t).isSome=true
  ·simp only [ZaQ,if_pos hm] at h
   obtain⟨r,a,b⟩:=(ZH fun _=>ZH fun _=>ZH fun _=>ZH fun _=>XM _) K pan h
   exact⟨r,by simp only [ZaQ,if_pos hm];simpa using a,b⟩
  ·simp only [ZaQ,if_neg hm] at h
   obtain⟨r,a,b⟩:=(ZH fun _=>ZH fun _=>ZH fun _=>XC (ZH fun _=>XM _)) K pan h
   exact⟨r,by simp only [ZaQ,if_neg hm];simpa using a,b⟩
 case h_20=>
  refine ZH fun sl=>XC (ZH fun es=>?_)
  simp only [Bool.not_eq_true'] at hp
  simp only [hp,Bool.false_eq_true,if_false]
  exact XC (XM _)
 case h_21 c=>
  obtain⟨callee,args,ts⟩:=c
  simp only at hp
  split at hp
  ·intro K pan h
   simp only [ZaQ,Zlu,ZeJ,hp,Bool.and_self,if_true] at h ⊢
   unfold Zhp at h ⊢
   split at h
   ·obtain⟨h1,r,h2,h3⟩:=h
    exact⟨r,⟨h1,r,h2,rfl,rfl⟩,h3⟩
   ·exact h.elim
  ·intro K pan h
   simp only [ZaQ,Zlu] at h ⊢
   unfold Zop at h ⊢
   split at h
   ·exact (ZH fun _=>XM _) K pan h
   ·rename_i hb _ _;cases hb
   ·rename_i hb _;cases hb
   ·rename_i hb _;cases hb
   ·rename_i hb _ _;cases hb
   ·exact h.elim
  ·intro K pan h
   simp only [ZaQ,Zlu] at h ⊢
   unfold Zop at h ⊢
   simp only [Bool.not_eq_true'] at hp
   split at h
   ·rename_i hb _ _;cases hb
   ·simp only [hp,Bool.false_eq_true,if_false] at h ⊢
    rename_i s x t t' _ _ _
    have hd:Det H fun K pan=>Z1 (Xg P t) fun sl=>Zjz (ρ s) (ρ x) sl fun r=>K r H:=by
     refine ZH fun sl=>?_
     intro K pan h
     unfold Zjz at h
     split at h
     ·rename_i e1 e2;exact⟨_,(by rw [e1,e2];exact⟨h.1,h.2.1,rfl,rfl⟩),h.2.2⟩
     ·rename_i e1 e2;exact⟨_,(by rw [e1,e2];exact⟨h.1,h.2.1,rfl,rfl⟩),h.2.2⟩
     ·exact h.elim
    obtain⟨r,h1,h2⟩:=hd K pan h.2
    exact⟨r,⟨h.1,by simpa using h1⟩,h2⟩
   ·rename_i hb _;cases hb
   ·rename_i hb _;cases hb
   ·rename_i hb _ _;cases hb
   ·exact h.elim
  ·cases hp
 case h_22=>cases hp
def YD (o:Oper):Bool:=
 match o.op with
 | .binOp _ _ _ y _=> !Zbz y
 | .move _| .assign _| .pick .. | .field .. | .unOp .. | .convert .. | .extract .. | .makeInterface .. | .build .. | .makeFunc .. | .typeAssert .. =>true
 |_=>false
def Zjl (W:List Ze→(AV→List Ze→Prop)→(AV→List Ze→Prop)→Prop):Prop:=∀H K pan,W H K pan→∃r,(∀H1,W H1 (fun r' H'=>r'=r∧H'=H1) (fun _ _=>False))∧K r H
theorem Jk {α:Type} {o:Option α} {W:α→List Ze→(AV→List Ze→Prop)→(AV→List Ze→Prop)→Prop} (h:∀a,Zjl (W a)):Zjl fun H K pan=>Z1 o fun a=>W a H K pan:=by
 intro H K pan hw
 obtain⟨a,ha,hw⟩:=hw
 obtain⟨r,h1,h2⟩:=h a H K pan hw
 exact⟨r,fun H1=>⟨a,ha,h1 H1⟩,h2⟩
theorem Zc9 {p:Prop} {W:List Ze→(AV→List Ze→Prop)→(AV→List Ze→Prop)→Prop} (h:Zjl W):Zjl fun H K pan=>YF p (W H K pan):=by
 intro H K pan hw
 obtain⟨r,h1,h2⟩:=h H K pan hw.2
 exact⟨r,fun H1=>⟨hw.1,h1 H1⟩,h2⟩
theorem ZaM (r:AV):Zjl fun H K pan=>K r H:=fun H K pan h=>⟨r,fun _=>⟨rfl,rfl⟩,h⟩
theorem Zmd {p:Prop} [Decidable p] {W W':List Ze→(AV→List Ze→Prop)→(AV→List Ze→Prop)→Prop} (h:p→Zjl W) (h': ¬p→Zjl W'):Zjl fun H K pan=>if p then W H K pan else W' H K pan:=by
 intro H K pan hw
 by_cases hp:p
 ·simp only [if_pos hp] at hw ⊢;exact h hp H K pan hw
 ·simp only [if_neg hp] at hw ⊢;exact h' hp H K pan hw
theorem ZmK {P:Program} {s t:TypeId} {k:Option IntKind} {x:AV}:Zjl fun H K pan=>Zfg P s t k x fun r=>K r H:=by
 cases k with
 |none=>
  unfold Zfg
  by_cases hb:byS P s t=true
  ·simp only [hb,if_true];exact Jk fun _=>ZaM _
  ·simp only [hb,if_false];exact Zc9 (Jk fun _=>ZaM _)
 |some k=>exact Zc9 (Jk fun _=>ZaM _)
theorem Znr {P:Program} {hn:Nat→Bool} {H:List Ze} {ρ:Operand→AV} {o:Oper} {K pan:AV→List Ze→Prop} (hp:YD o=true) (h:ZaQ P hn true H ρ o.dst o.op K pan):
 ∃r,(∀H',ZeR P o ρ H' r)∧K r H:=by
 suffices hd:Zjl (fun H=>ZaQ P hn true H ρ o.dst o.op) by
  obtain⟨r,h1,h2⟩:=hd H K pan h
  exact⟨r,fun H'=>Zbg (h1 H'),h2⟩
 obtain⟨dst,op,ty,pos,aft,g⟩:=o
 unfold YD at hp
 simp only at hp ⊢
 split at hp
 case h_1 op t x y _=>
  have hp':Zbz y=false:=by simpa using hp
  exact Zmd (fun _=>Jk fun _=>ZaM _) (fun _=>Zmd (fun h=>absurd h (by simp [hp'])) (fun _=>Zc9 (Jk fun _=>ZaM _)))
 case h_2=>exact ZaM _
 case h_3=>exact ZaM _
 case h_4 c a b=>
  intro H K pan h
  have h':Zbu (ρ c) (K (ρ a) H) (K (ρ b) H):=h
  unfold Zbu at h'
  split at h'
  ·rename_i e
   refine⟨_,fun H1=>?_,h'⟩
   show Zbu (ρ c) _ _
   rw [e];exact⟨rfl,rfl⟩
  ·rename_i e
   refine⟨_,fun H1=>?_,h'⟩
   show Zbu (ρ c) _ _
   rw [e];exact⟨rfl,rfl⟩
  ·exact h'.elim
 case h_5=>exact Jk fun _=>Jk fun _=>Jk fun _=>ZaM _
 case h_6=>exact Jk fun _=>ZaM _
 case h_7 s t x=>exact ZmK
 case h_8=>exact Jk fun _=>ZaM _
 case h_9=>exact Zc9 (ZaM _)
 case h_10=>exact Jk fun _=>Jk fun _=>ZaM _
 case h_11=>exact ZaM _
 case h_12=>exact Zc9 (Jk fun _=>Jk fun _=>ZaM _)
 case h_13=>cases hp
def ZfT (P:Program) (fv:AV) (args:List AV) (k:ZO→Prop):Prop:=
 match fv with
 | .fn (.func g) first cap=>k ⟨g,first++args++cap,none⟩
 |_=>False
def Zj8 (dr:Bool) (ops:Array Oper) (f:Fr):Fr:=match dr with|true=>Xx ops f|false=>f
def vcL (P:Program) (hn:Nat→Bool) (dr:Bool) (ops:Array Oper):List Oper→AQ→Fr→List Ze→List ZO→Prop
 |[],Q,f,H,ds=>Q .normal f H ds
 |⟨dst,op,_,_,_,g⟩::rest,Q,f,H,ds=>
  match op,g with
  | .defer c,none=>match c.callee with| .value fo=>ZfT P (ev f fo) (c.args.toList.map (ev f)) fun d=>vcL P hn dr ops rest Q (ZS f dst (.tup [])) H (d::ds)|_=>False
  |op,none=>ZaQ P hn dr H (ev f) dst op (fun r H'=>vcL P hn dr ops rest Q (ZS f dst r) H' ds) (fun x H'=>Q (.pan x) (Zj8 dr ops f) H' ds)
  |op,some (j,want)=>XH (f (ZcC ops j)) want (ZaQ P hn dr H (ev f) dst op (fun r H'=>vcL P hn dr ops rest Q (ZS f dst r) H' ds) (fun x H'=>Q (.pan x) (Zj8 dr ops f) H' ds)) (vcL P hn dr ops rest Q (ZS f dst (.tup [])) H ds)
section
variable {P:Program} {n:Nat} {hn:Nat→Bool} {dr:Bool} {od:Nat→Option Y7}
theorem ZoT {ops:Array Oper} {rest:List Oper} {o:Oper} {Q:AQ} {f:Fr} {H:List Ze} {ds:List ZO} {c:Call} {fo:Operand} (ho:o.op=.defer c) (hc:c.callee=.value fo) (hg:o.guard=none) (hs:Oper.small n o=true)
 (h:ZfT P (ev f fo) (c.args.toList.map (ev f)) fun d=>AWL P n ops rest Q (ZS f o.dst (.tup [])) H (d::ds)):AWL P n ops (o::rest) Q f H ds:=by
 intro ro hro B w0 J1 cx a h1 h2 h3 h4 h5
 cases ro with
 |some l=>have:=hro rfl;simp [Yk,ho] at this
 |none=>
 refine wpListIn_plain hg fun K hK=>?_
 simp only [Oper.small,Bool.and_eq_true,Array.all_eq_true'] at hs
 have hd:∀t,o.dst=some t→t<n:=fun t ht=>by have:=hs.2;rw [ht] at this;simpa using this
 have hops:∀x∈o.op.operands,Yx cx false (ev f x) (a.eval x):=fun x hx=>ZkA h4 (hs.1 x hx)
 have hf:=hops fo (by simp [Op.operands,Call.operands,ho,hc])
 have ha:ZN cx false (c.args.toList.map (ev f)) (c.args.toList.map a.eval):=ZN.of_map _ fun x hx=>hops x (by simp [Op.operands,Call.operands,ho];right;simpa using hx)
 unfold ZfT at h
 split at h
 ·rename_i g first cap e
  rw [e] at hf
  generalize hy:a.eval fo=y at hf
  cases hf with
  |fn _ _ _ vf vc hnf hrf hnc hrc=>
   have hrun:(execOp a.eval o).run P cx.w=.ok (.defer {target:=.fn (.func g) vc.toArray,args:=vf.toArray++c.args.map a.eval}) cx.w:=by
    simp [execOp,ho,resolve,hc,hy,Deferred.ofValue]
   refine⟨fun _ _=>trivial,?_⟩
   rw [show Oper.semAt (Fo none).round a.eval o=execOp a.eval o from rfl,hrun,Oper.uponIn_defer]
   apply hK
   refine h none (fun hs=>by cases hs) B w0 J1 cx _ h1 h2 h3 ?_ ?_
   ·exact ZcB (a:={a with defers:=_::a.defers}) h4 hd (J3 _ _)
   ·have hdr:Zci cx (⟨g,first++c.args.toList.map (ev f)++cap,none⟩::ds) ({target:=.fn (.func g) vc.toArray,args:=vf.toArray++c.args.map a.eval}::a.defers):=by
     refine⟨⟨vc.toArray,rfl,?_⟩,h5⟩
     have:=((ZN.mk hnf hrf).append ha).append (ZN.mk hnc hrc)
     simpa using this
    cases ho':o.dst<;>exact hdr
 ·exact h.elim
theorem ZbN {ops:Array Oper} {Q:AQ}:∀ {rest:List Oper} {f:Fr} {H:List Ze} {ds:List ZO},rest.all (YY n ops)=true→vcL P hn false ops rest Q f H ds→AWL P n ops rest Q f H ds
 |[],f,H,ds,_,h=>ZsT h
 |o::rest,f,H,ds,hs,h=>by
  simp only [List.all_cons,Bool.and_eq_true,YY] at hs
  obtain⟨⟨hs1,hs2⟩,hsr⟩:=hs
  have hmono:∀ {K K':AV→List Ze→Prop} {pan:AV→List Ze→Prop},(∀r H',K r H'→K' r H')→Ye P o (ev f) H K pan→Ye P o (ev f) H K' pan:=by
   intro K K' pan hk hop B w0 cx ρc h1 h2 h3
   have:=hop B w0 cx ρc h1 h2 h3
   split at this
   ·obtain⟨cx',r,a1,a2,a3,a4,a5⟩:=this;exact⟨cx',r,a1,a2,a3,a4,hk _ _ a5⟩
   ·obtain⟨cx',a1,a2,a3,a4⟩:=this;exact⟨cx',a1,a2,a3,hk _ _ a4⟩
   ·obtain⟨cx',avs,a1,a2,a3,a4,a5⟩:=this
    exact⟨cx',avs,a1,a2,a3,a4,a5.mono fun e H' he=>by cases e<;>first|exact hk _ _ he|exact he⟩
   ·obtain⟨cx',a1,a2,a3,a4⟩:=this
    exact⟨cx',a1,a2,a3,a4.mono fun e w' he=>he.mono fun e H' he=>by cases e<;>first|exact hk _ _ he|exact he⟩
   ·exact this
   ·exact this
  obtain⟨dst,op,ty,pos,aft,g⟩:=o
  unfold vcL at h
  split at h
  ·split at h
   ·rename_i hc
    refine ZoT (o:=⟨dst,_,ty,pos,aft,none⟩) rfl hc rfl hs1 ?_
    unfold ZfT at h ⊢
    split at h
    ·exact ZbN hsr h
    ·exact h.elim
   ·exact h.elim
  ·exact Zqs rfl hs1 (hmono (fun r H' hk=>ZbN hsr hk) (Zbg (o:=⟨dst,_,ty,pos,aft,none⟩) h))
  ·rename_i j want
   simp only at hs2
   cases hj:(ops[j]?).bind (·.dst) with
   |none=>rw [hj] at hs2;simp at hs2
   |some d=>
    rw [hj] at hs2
    have hgd:ZcC ops j=d:=by simp [ZcC,hj]
    rw [hgd] at h
    refine Zps (o:=⟨dst,_,ty,pos,aft,some (j,want)⟩) rfl hj (by simpa using hs2) hs1 ?_
    unfold XH at h ⊢
    split at h
    ·exact⟨fun hb=>hmono (fun r H' hk=>ZbN hsr hk) (Zbg (o:=⟨dst,_,ty,pos,aft,some (j,want)⟩) (h.1 hb)),fun hb=>ZbN hsr (h.2 hb)⟩
    ·exact ZbN hsr h
    ·exact h.elim
def Znc (ops:Array Oper) (od:Option Y7):Y7:=od.getD ((List.range ops.size).map fun i=>(i,[]))
def YJ (ops:Array Oper) (l:List Nat):List Oper:=l.filterMap fun i=>ops[i]?
def JM (hn:Nat→Bool) (od:Nat→Option Y7) (n:Nat):Code→Bool
 | .region _ ops false=>ops.toList.all (YY n ops)
 | .region id ops true=>ops.toList.all (YY n ops)&&Zn4 (JL (Ym hn) ops) YD ops (Znc ops (od id))&&ops.all Yk
 | .seq a b=>JM hn od n a&&JM hn od n b
 | .cond c a b=>Zk9 n c&&JM hn od n a&&JM hn od n b
 | .block _ b=>JM hn od n b
 | .loop b=>JM hn od n b
 | .scope b=>JM hn od n b
 | .rangeFunc .. =>true
 |_=>true
def Ze6 (dst:Option Nat) (f:Fr) (H:List Ze):AQ:=fun x f' H' _=>match x with| .normal=>H'=H∧(match dst with|some d=>f' d=f d|none=>True)|_=>False
def Zcl (P:Program) (hn:Nat→Bool) (ops:Array Oper) (f:Fr) (H:List Ze):List Oper→Prop
 |[]=>True
 |o::l=>vcL P hn true ops [o] (Ze6 o.dst f H) f H []∧Zcl P hn ops f H l
def vcX (P:Program) (hn:Nat→Bool) (ops:Array Oper) (Q:AQ) (ds:List ZO):Y7→Fr→List Ze→Prop
 |[],f,H=>Q .normal f H ds
 |(i,late)::rest,f,H=>vcL P hn true ops (YJ ops [i]) (JG (fun f' H' _=>Zcl P hn ops f' H' (YJ ops late)∧vcX P hn ops Q ds rest f' H') Q) f H ds
def vcC (P:Program) (hn:Nat→Bool) (od:Nat→Option Y7) (n:Nat):Code→AQ→Fr→List Ze→List ZO→Prop
 | .skip,Q,f,H,ds=>Q .normal f H ds
 | .region _ ops false,Q,f,H,ds=>vcL P hn false ops ops.toList Q f H ds
 | .region id ops true,Q,f,H,ds=>match od id with|none=>vcL P hn true ops ops.toList Q f H ds|some p=>vcX P hn ops Q ds p f H
 | .seq a b,Q,f,H,ds=>vcC P hn od n a (JG (vcC P hn od n b Q) Q) f H ds
 | .cond c a b,Q,f,H,ds=>Zbu (ev f c) (vcC P hn od n a Q f H ds) (vcC P hn od n b Q f H ds)
 | .block id b,Q,f,H,ds=>vcC P hn od n b (Zb2 id Q) f H ds
 | .loop b,Q,f,H,ds=>X6 P n (.loop b) Q f H ds
 | .scope b,Q,f,H,ds=>X6 P n (.scope b) Q f H ds
 | .rangeFunc g ps x y,Q,f,H,ds=>X6 P n (.rangeFunc g ps x y) Q f H ds
 | .exit id,Q,f,H,ds=>Q (.exit id) f H ds
 | .goto l,Q,f,H,ds=>Q (.goto l) f H ds
 | .label _,Q,f,H,ds=>Q .normal f H ds
 | .ret,Q,f,H,ds=>Q .ret f H ds
 |_,_,_,_,_=>False
theorem Zac {ops:Array Oper} {i:Nat} {o:Oper} (ho:ops[i]?=some o) (h:JL (Ym hn) ops i=true):Ym hn o=true:=by
 simp only [JL,ho,Bool.and_eq_true] at h;exact h.1
theorem ZbL {ops:Array Oper} {o:Oper} {Q:AQ} {f:Fr} {H:List Ze} {ds:List ZO} (hnd:Yk o=true) (hp:Ym hn o=true) (h:vcL P hn true ops [o] Q f H ds):
 ∃r,Xt P ops o f H r∧(YD o=true→∀H',Xt P ops o f H' r)∧Q .normal (ZS f o.dst r) H ds:=by
 obtain⟨dst,op,ty,pos,aft,g⟩:=o
 have both:∀ {K pan:AV→List Ze→Prop},ZaQ P hn true H (ev f) dst op K pan→∃r,ZeR P ⟨dst,op,ty,pos,aft,g⟩ (ev f) H r∧(YD ⟨dst,op,ty,pos,aft,g⟩=true→∀H',ZeR P ⟨dst,op,ty,pos,aft,g⟩ (ev f) H' r)∧K r H:=by
  intro K pan h
  cases hh:YD ⟨dst,op,ty,pos,aft,g⟩ with
  |true=>
   obtain⟨r,h1,h2⟩:=Znr (o:=⟨dst,op,ty,pos,aft,g⟩) hh h
   exact⟨r,h1 H,fun _=>h1,h2⟩
  |false=>
   obtain⟨r,h1,h2⟩:=Zqw (o:=⟨dst,op,ty,pos,aft,g⟩) hp h
   exact⟨r,h1,fun h=>absurd h (by simp),h2⟩
 unfold vcL at h
 unfold Xt
 simp only at hnd ⊢
 split at h
 ·simp [Yk] at hnd
 ·exact both h
 ·rename_i j want
  unfold XH at h ⊢
  simp only
  split at h
  ·rename_i b hb
   by_cases hw:b=want
   ·obtain⟨r,h1,h2,h3⟩:=both (h.1 hw)
    exact⟨r,⟨fun _=>h1,fun hne=>absurd hw hne⟩,fun hf H'=>⟨fun _=>h2 hf H',fun hne=>absurd hw hne⟩,h3⟩
   ·exact⟨_,⟨fun he=>absurd he hw,fun _=>rfl⟩,fun _ _=>⟨fun he=>absurd he hw,fun _=>rfl⟩,h.2 hw⟩
  ·exact⟨_,rfl,fun _ _=>rfl,h⟩
  ·exact h.elim
theorem Zeh {ops:Array Oper} {o:Oper} {Q Q':AQ} {f:Fr} {H:List Ze} {ds:List ZO} (hQ:∀x f H ds,Q' (.pan x) f H ds→Q (.pan x) f H ds) (hnd:Yk o=true) (h:vcL P hn true ops [o] Q' f H ds):
 Zar P ops o f H ds Q (fun f' H'=>Q' .normal f' H' ds):=by
 obtain⟨dst,op,ty,pos,aft,g⟩:=o
 unfold vcL at h
 unfold Zar
 simp only at hnd ⊢
 split at h
 ·simp [Yk] at hnd
 ·exact Ye.mono (fun _ _ h=>h) (fun _ _ h=>hQ _ _ _ _ h) (Zbg (o:=⟨dst,_,ty,pos,aft,none⟩) h)
 ·rename_i j want
  unfold XH at h ⊢
  simp only
  split at h
  ·exact⟨fun hb=>Ye.mono (fun _ _ h=>h) (fun _ _ h=>hQ _ _ _ _ h) (Zbg (o:=⟨dst,_,ty,pos,aft,some (j,want)⟩) (h.1 hb)),h.2⟩
  ·exact h
  ·exact h.elim
theorem ZbO {ops:Array Oper} {f:Fr} {H:List Ze}:∀ {l:List Oper},Zcl P hn ops f H l→∀o∈l,vcL P hn true ops [o] (Ze6 o.dst f H) f H []
 |[],_,o,ho=>by cases ho
 |o'::l,h,o,ho=>by
  rcases List.mem_cons.1 ho with rfl|ho
  ·exact h.1
  ·exact ZbO h.2 o ho
theorem ZcF {ops:Array Oper} {Q:AQ} {ds:List ZO} (hnd:ops.all Yk=true) {tab:List (Nat×Oper×Nat)}:∀ (p:Y7) (done rem:List Nat) (f:Fr) (H:List Ze),
 ZaT (JL (Ym hn) ops) YD ops tab done rem p=true→(∀x∈p,∀j∈x.2,∀o,ops[j]?=some o→JL (Ym hn) ops j=true)→vcX P hn ops Q ds p f H→VX P (JL (Ym hn) ops) YD ops Q ds p f H
 |[],done,rem,f,H,hc,hl,h=>h
 |(i,late)::rest,done,rem,f,H,hc,hl,h=>by
  simp only [ZaT,Bool.and_eq_true] at hc
  obtain⟨⟨hrd,hop⟩,hrest⟩:=hc
  simp only [vcX] at h
  simp only [VX]
  cases ho:ops[i]? with
  |none=>rw [ho] at hop;cases hop
  |some o=>
   have hndo:Yk o=true:=Array.all_eq_true_iff_forall_mem.1 hnd _ (Array.mem_of_getElem? ho)
   have hone:YJ ops [i]=[o]:=by simp [YJ,ho]
   rw [hone] at h
   have ih:∀ {f H},vcX P hn ops Q ds rest f H→VX P (JL (Ym hn) ops) YD ops Q ds rest f H:=fun h=>ZcF hnd rest _ _ _ _ hrest (fun x hx=>hl x (by simp [hx])) h
   simp only
   split
   ·rename_i hp
    obtain⟨r,h1,h2,h3⟩:=ZbL hndo (Zac ho hp) h
    exact⟨r,h1,h2,ih h3.2⟩
   ·refine Zax (fun f' H' hk=>⟨fun j hj oj hoj=>?_,ih hk.2⟩) (Zeh (Q:=Q) (Q':=JG (fun f' H' _=>Zcl P hn ops f' H' (YJ ops late)∧vcX P hn ops Q ds rest f' H') Q) (fun _ _ _ _ h=>h) hndo h)
    have hpj:=hl (i,late) (by simp) j hj oj hoj
    have hndj:Yk oj=true:=Array.all_eq_true_iff_forall_mem.1 hnd _ (Array.mem_of_getElem? hoj)
    have hv:=ZbO hk.1 oj (by simp only [YJ,List.mem_filterMap];exact⟨j,hj,hoj⟩)
    obtain⟨r,h1,_,h3⟩:=ZbL hndj (Zac hoj hpj) hv
    refine⟨r,h1,fun d hd=>?_⟩
    simp only [Ze6,hd] at h3
    have:=h3.2
    simpa [ZS,upd] using this.symm
theorem ZlF (ops:Array Oper):YJ ops (List.range ops.size)=ops.toList:=by
 apply List.ext_getElem?
 intro i
 have:YJ ops (List.range ops.size)=(List.range ops.size).pmap (fun i hi=>ops[i]'hi) (by simp):=by
  unfold YJ
  have key:∀ (l:List Nat) (h:∀i∈l,i<ops.size),l.filterMap (fun i=>ops[i]?)=l.pmap (fun i hi=>ops[i]'hi) h:=by
   intro l
   induction l with
   |nil=>intro h;rfl
   |cons a l ih=>intro h;simp [List.filterMap_cons,ih (fun i hi=>h i (by simp [hi])),h a (by simp)]
  exact key _ _
 rw [this]
 by_cases hi:i<ops.size
 ·simp [hi]
 ·simp [hi]
theorem ZpQ {ops:Array Oper} {Q:AQ} {ds:List ZO} {o:Oper} {l:List Oper} {f:Fr} {H:List Ze} (hnd:Yk o=true) (h:vcL P hn dr ops (o::l) Q f H ds):vcL P hn dr ops [o] (JG (fun f' H' _=>vcL P hn dr ops l Q f' H' ds) Q) f H ds:=by
 obtain⟨dst,op,ty,pos,aft,g⟩:=o
 unfold vcL at h ⊢
 split at h
 ·simp [Yk] at hnd
 ·exact h
 ·exact h
theorem ZfS {ops:Array Oper} {Q:AQ} {ds:List ZO} (hnd:ops.all Yk=true):∀ (l:List Nat) (f:Fr) (H:List Ze),(∀i∈l,i<ops.size)→vcL P hn true ops (YJ ops l) Q f H ds→VX P (JL (Ym hn) ops) YD ops Q ds (l.map fun i=>(i,[])) f H
 |[],f,H,hl,h=>h
 |i::l,f,H,hl,h=>by
  have ho:ops[i]?=some (ops[i]'(hl i (by simp))):=Array.getElem?_eq_getElem _
  generalize ops[i]'(hl i (by simp))=o at ho
  have hndo:Yk o=true:=Array.all_eq_true_iff_forall_mem.1 hnd _ (Array.mem_of_getElem? ho)
  have h1:YJ ops (i::l)=o::YJ ops l:=by simp [YJ,ho]
  rw [h1] at h
  simp only [List.map_cons,VX,ho]
  have h3:=ZpQ hndo h
  split
  ·rename_i hp
   obtain⟨r,q1,q2,q3⟩:=ZbL hndo (Zac ho hp) h3
   exact⟨r,q1,q2,ZfS hnd l _ _ (fun k hk=>hl k (by simp [hk])) q3⟩
  ·exact Zax (fun f' H' hk=>⟨fun j hj=>(by cases hj),ZfS hnd l _ _ (fun k hk=>hl k (by simp [hk])) hk⟩) (Zeh (Q:=Q) (Q':=JG (fun f' H' _=>vcL P hn true ops (YJ ops l) Q f' H' ds) Q) (fun _ _ _ _ h=>h) hndo h3)
theorem JR:∀ {c:Code} {Q:AQ} {f:Fr} {H:List Ze} {ds:List ZO},P.follows .mixedOrders=true→JM hn od n c=true→vcC P hn od n c Q f H ds→X6 P n c Q f H ds
 | .skip,Q,f,H,ds,hm,_,h=>ZqN h
 | .region id ops false,Q,f,H,ds,hm,hs,h=>by
   have:=Znh (id:=id) (l:=ops.toList) (ZbN (ops:=ops.toList.toArray) (by simpa [JM] using hs) (by simpa using (show vcL P hn false ops ops.toList Q f H ds from h)))
   simpa using this
 | .region id ops true,Q,f,H,ds,hm,hs,h=>by
   simp only [JM,Bool.and_eq_true,List.all_eq_true] at hs
   obtain⟨⟨hs1,hs2⟩,hs3⟩:=hs
   have hsm:∀ (i:Nat) (o:Oper),ops[i]?=some o→YY n ops o=true:=fun i o ho=>hs1 o (by simpa using Array.mem_of_getElem? ho)
   refine ZgN hm hsm hs2 ?_
   have h':(match od id with|none=>vcL P hn true ops ops.toList Q f H ds|some p=>vcX P hn ops Q ds p f H):=h
   clear h
   cases hp:od id with
   |none=>
    rw [hp] at h'
    simp only [Znc,Option.getD_none]
    rw [←ZlF] at h'
    exact ZfS hs3 _ f H (fun i hi=>by simpa using hi) h'
   |some p=>
    rw [hp] at h' hs2
    simp only [Znc,Option.getD_some] at hs2 ⊢
    simp only [Zn4,Bool.and_eq_true] at hs2
    simp only [Zcp,List.all_eq_true] at hs2
    refine ZcF hs3 p [] (List.range ops.size) f H hs2.1.1 (fun x hx j hj o ho=>?_) h'
    have:=hs2.1.2 x hx j hj
    rw [ho] at this;exact this
 | .seq a b,Q,f,H,ds,hm,hs,h=>by
   simp only [JM,Bool.and_eq_true] at hs
   refine Zko ((JR hm hs.1 h).mono fun x f' H' ds' hx=>?_)
   cases x<;>first|exact JR hm hs.2 hx|exact hx
 | .cond c a b,Q,f,H,ds,hm,hs,h=>by
   simp only [JM,Bool.and_eq_true] at hs
   refine ZiC hs.1.1 ?_
   have h':Zbu (ev f c) (vcC P hn od n a Q f H ds) (vcC P hn od n b Q f H ds):=h
   unfold Zbu at h' ⊢
   split at h'
   ·exact JR hm hs.1.2 h'
   ·exact JR hm hs.2 h'
   ·exact h'.elim
 | .block id b,Q,f,H,ds,hm,hs,h=>Z9 (JR hm hs h)
 | .loop b,Q,f,H,ds,hm,_,h=>h
 | .scope b,Q,f,H,ds,hm,_,h=>h
 | .exit id,Q,f,H,ds,hm,_,h=>ZpK h
 | .goto l,Q,f,H,ds,hm,_,h=>Zrj h
 | .label l,Q,f,H,ds,hm,_,h=>ZoC h
 | .ret,Q,f,H,ds,hm,_,h=>ZsL h
 | .rangeFunc ..,Q,f,H,ds,hm,_,h=>h
 | .refuse ..,Q,f,H,ds,hm,_,h=>h.elim
def frm:List AV→Nat→Fr
 |[],_=>fun _=>.tup []
 |a::as,i=>upd (frm as (i+1)) i a
theorem Zkp:∀ (args:List AV) (i t:Nat),frm args i t=if i≤t then args.getD (t-i) (.tup []) else .tup []
 |[],i,t=>by simp [frm]
 |a::as,i,t=>by
  simp only [frm,upd,Zkp as (i+1) t]
  by_cases h:t=i
  ·subst h;simp
  ·rw [if_neg h]
   by_cases h1:i+1≤t
   ·rw [if_pos h1,if_pos (by omega),show t-i=(t-(i+1))+1 by omega];simp
   ·rw [if_neg h1,if_neg (by omega)]
def ZiL (P:Program) (H:List Ze) (f:Fr):ResultVar→Option AV
 | .tmp t=>some (f t)
 | .cell a t=>match Ja H (f a),Yt P t,Y4 P t with|some cs,some sz,some b=>ZdG b sz cs|_,_,_=>none
def ZaD (P:Program) (H:List Ze) (f:Fr):List ResultVar→Option (List AV)
 |[]=>some []
 |r::rs=>match ZiL P H f r,ZaD P H f rs with|some x,some xs=>some (x::xs)|_,_=>none
def Zba:List AV→AV
 |[x]=>x
 |xs=>.tup xs
def ZdE (n:Nat):ResultVar→Bool
 | .tmp t=>t<n
 | .cell a _=>a<n
def ZgB (P:Program) (rs:List ResultVar) (R:AE→List Ze→Prop):AQ:=fun x f H ds=>
 match x with
 | .normal=>ds=[]∧Z1 (ZaD P H f rs) fun xs=>R (.ret (Zba xs)) H
 | .ret=>ds=[]∧Z1 (ZaD P H f rs) fun xs=>R (.ret (Zba xs)) H
 | .pan x=>ds=[]∧R (.pan x) H
 |_=>False
def Zgn (tmps:Array Value):ResultVar→Sem Value
 | .tmp t=>pure (tmps.getD t undef)
 | .cell a t=>do loadVar t (←asAddr (tmps.getD a undef))
theorem ZnM {B:Nat} {w0:World} {cx:Cx} (h:Yl B w0 cx) {f:Fr} {a:Act} (hf:XN cx n f a):∀ (rs:List ResultVar) (xs:List AV),rs.all (ZdE n)=true→ZaD P cx.H f rs=some xs→
 ∃vs:List Value,(rs.mapM (Zgn a.tmps)).run P cx.w=.ok vs cx.w∧ZN cx false xs vs
 |[],xs,_,h=>by simp [ZaD] at h;subst h;exact⟨[],by simp,ZN.nil _ _⟩
 |r::rs,xs,hok,hx=>by
  simp only [List.all_cons,Bool.and_eq_true] at hok
  simp only [ZaD] at hx
  split at hx
  ·rename_i x xs' h1 h2
   cases hx
   obtain⟨vs,e1,e2⟩:=ZnM h hf rs xs' hok.2 h2
   cases r with
   |tmp t=>
    simp only [ZiL] at h1;cases h1
    refine⟨a.tmps.getD t undef::vs,?_,e2.cons (hf.2 t (by simpa [ZdE] using hok.1))⟩
    simp only [List.mapM_cons,Sem.run_bind,Zgn,Sem.run_pure,Result.andThen_ok,e1]
   |cell p t=>
    simp only [ZiL] at h1
    split at h1
    ·rename_i cs sz b hc hsz hag
     have hp:=hf.2 p (by simpa [ZdE] using hok.1)
     obtain⟨y,hy,hr⟩:=Zio (P:=P) h hsz hag hc h1 hp
     obtain⟨bb,oo,vals,hptr,_,_⟩:=Zdy h hc hp
     have hl:(Zgn a.tmps (.cell p t)).run P cx.w=.ok y cx.w:=by
      simp only [Zgn]
      rw [hptr] at hy ⊢
      simpa [Instr.loadAt,Instr.sureAddr,asAddr] using hy
     refine⟨y::vs,?_,e2.cons hr⟩
     simp only [List.mapM_cons,Sem.run_bind,hl,Sem.run_pure,Result.andThen_ok,e1]
    ·cases h1
  ·cases hx
theorem Za6 {B:Nat} {w0:World} {cx:Cx} {fn:Func} (h:Yl B w0 cx) {f:Fr} {a:Act} (hf:XN cx n f a) {xs:List AV} (hok:fn.results.toList.all (ZdE n)=true) (hx:ZaD P cx.H f fn.results.toList=some xs):
 ∃y,(results fn a.tmps).run P cx.w=.ok y cx.w∧Yx cx false (Zba xs) y:=by
 obtain⟨vs,e1,e2⟩:=ZnM (P:=P) h hf _ xs hok hx
 refine⟨if h:vs.toArray.size=1 then vs.toArray[0] else .tuple vs.toArray,?_,?_⟩
 ·have hm:(fn.results.mapM (Zgn a.tmps)).run P cx.w=.ok vs.toArray cx.w:=by
   rw [Array.mapM_eq_mapM_toList,Sem.run_map,e1];rfl
  show (fn.results.mapM (Zgn a.tmps) >>=fun vs=>pure (if h:vs.size=1 then vs[0] else .tuple vs)).run P cx.w=_
  rw [Sem.run_bind,hm]
  rfl
 ·match xs,vs,e2 with
  |[],vs,e2=>obtain rfl:=e2.nil_inv;exact ZbM (ZN.nil _ _)
  |[x],vs,e2=>obtain⟨y,ys,rfl,h1,h2⟩:=e2.cons_inv;obtain rfl:=h2.nil_inv;exact h1
  |x::x'::xs,vs,e2=>
   obtain⟨y,ys,rfl,h1,h2⟩:=e2.cons_inv
   obtain⟨y',ys',rfl,h3,h4⟩:=h2.cons_inv
   simp
   have:=ZbM e2
   simpa [Zba] using this
theorem J4 {fid:FuncId} {fn:Func} {c:Code} {args:List AV} {H:List Ze} {R:AE→List Ze→Prop} (hf:P.funcs[fid]?=some fn) (hb:fn.body=some c)
 (hs:(JM hn od fn.ntmps c&&fn.results.toList.all (ZdE fn.ntmps)&&decide (args.length≤fn.ntmps)&&P.follows .mixedOrders)=true)
 (h:vcC P hn od fn.ntmps c (ZgB P fn.results.toList R) (frm args 0) H []):Zi P fid args H R:=by
 simp only [Bool.and_eq_true,decide_eq_true_eq] at hs
 obtain⟨⟨⟨hs1,hs2⟩,hs3⟩,hm⟩:=hs
 intro B w0 cx vals h1 h2 h3
 refine calls_of_wp hf hb ?_
 have hlen:vals.length=args.length:=h3.len.symm
 have hfr:XN cx fn.ntmps (frm args 0) {tmps:=vals.toArray++Array.replicate (fn.ntmps-vals.toArray.size) undef,defers:=[]}:=by
  refine⟨by simp;omega,fun t ht=>?_⟩
  rw [Zkp]
  simp only [Nat.zero_le,if_true,Nat.sub_zero]
  rw [Array.getD_eq_getD_getElem?,Array.getElem?_append]
  by_cases htl:t<vals.length
  ·have e1:args.getD t (.tup [])=args[t]'(by omega):=by simp [List.getD_eq_getElem?_getD,List.getElem?_eq_getElem (show t<args.length by omega)]
   rw [e1,if_pos (by simpa using htl)]
   simp only [List.getElem?_toArray,List.getElem?_eq_getElem htl,Option.getD_some]
   exact h3.rep t _ _ (List.getElem?_eq_getElem (by omega)) (List.getElem?_eq_getElem htl)
  ·have e1:args.getD t (.tup [])=.tup []:=by simp [List.getD_eq_getElem?_getD,List.getElem?_eq_none (show args.length≤t by omega)]
   rw [e1,if_neg (by simpa using htl)]
   have:((Array.replicate (fn.ntmps-vals.toArray.size) undef)[t-vals.toArray.size]?).getD undef=undef:=by
    rw [Array.getElem?_replicate];split<;>rfl
   rw [this];exact J3 _ _
 refine wp_mono (ZjW.1 (JR hm hs1 h none (fun hs=>by cases hs) B w0 cx cx _ h1 (Le.refl _) h2 hfr trivial)) fun e a' w' hp=>?_
 obtain⟨cx',x,f',ds',rfl,b1,b2,b3,b4,b5,b6⟩:=hp
 have dnil:ds'=[]→a'.defers=[]:=fun hd=>by
  subst hd
  cases hdd:a'.defers with
  |nil=>rfl
  |cons d l=>rw [hdd] at b4;exact b4.elim
 cases e<;>cases x<;>first|exact b5.elim|skip
 ·obtain⟨hd,xs,hx,hR⟩:=b6
  obtain⟨y,hy,hr⟩:=Za6 (P:=P) b1 b3 hs2 hx
  exact⟨dnil hd,y,hy,cx',_,rfl,b1,b2,hr,hR⟩
 ·exact b6.elim
 ·exact b6.elim
 ·obtain⟨hd,xs,hx,hR⟩:=b6
  obtain⟨y,hy,hr⟩:=Za6 (P:=P) b1 b3 hs2 hx
  exact⟨dnil hd,y,hy,cx',_,rfl,b1,b2,hr,hR⟩
 ·obtain⟨hd,hR⟩:=b6
  obtain⟨y,hch,hr⟩:=b5
  exact⟨dnil hd,cx',_,y,rfl,b1,b2,hch,hr,hR⟩
end
end Go.Mu
universe u
namespace Go.Mu
open Go.RowKit (Below)
def ZQ {α:Sort u} (_:α):Type:=Unit
def Z5 {α:Sort u} (x:α):ZQ x:=PUnit.unit
def Z8 {α:Type} (a:Option α) (k:α→Prop) (_:ZQ k):Prop:=Z1 a k
def Jm (a:AV) (k:AV→Prop) (_:ZQ k):Prop:=k a
def Zdz (a:List Ze) (k:List Ze→Prop) (_:ZQ k):Prop:=k a
def JQ (c k:Prop) (_:ZQ k):Prop:=YF c k
def Zb5 (a:AV) (y n:Prop) (_:ZQ y) (_:ZQ n):Prop:=Zbu a y n
def Y6 (a:AV) (w:Bool) (y n:Prop) (_:ZQ y) (_:ZQ n):Prop:=XH a w y n
def Zt5 (a:AV) (k:Prop) (_:ZQ k):Prop:=ZwN a k
def Zkl (P:Program) (H:List Ze) (fv:AV) (args:List AV) (K pan:AV→List Ze→Prop) (_:ZQ K) (_:ZQ pan):Prop:=Zjr P H fv args K pan
def X2 (P:Program) (fid:FuncId) (args:List AV) (H:List Ze) (R:AE→List Ze→Prop) (_:ZQ R):Prop:=Zi P fid args H R
def Zmg (P:Program) (n:Nat) (c:Code) (Q:AQ) (f:Fr) (H:List Ze) (ds:List ZO) (_:ZQ (n,c,Q,f,H,ds)):Prop:=X6 P n c Q f H ds
def ZZ (P:Program) (hn:Nat→Bool) (dr:Bool) (ops:Array Oper) (l:List Oper) (Q:AQ) (f:Fr) (H:List Ze) (ds:List ZO) (_:ZQ (hn,ops,l,Q,f,H,ds)):Prop:=vcL P hn dr ops l Q f H ds
def Zdc (P:Program) (hn:Nat→Bool) (od:Nat→Option Y7) (n:Nat) (c:Code) (Q:AQ) (f:Fr) (H:List Ze) (ds:List ZO) (_:ZQ (hn,od,n,c,Q,f,H,ds)):Prop:=vcC P hn od n c Q f H ds
def ZdM (l:List Oper):List Nat→List Oper
 |[]=>[]
 |i::is=>match l[i]? with|some o=>o::ZdM l is|none=>ZdM l is
theorem Zep (l:List Oper) (is:List Nat):ZdM l is=is.filterMap fun i=>l[i]?:=by
 induction is with
 |nil=>rfl
 |cons i is ih=>simp only [ZdM,List.filterMap_cons];cases l[i]?<;>simp [ih]
@[simp] theorem Zx1 (l:List Oper):ZdM l []=[]:=(rfl)
@[simp] theorem ZvQ (l:List Oper) (i:Nat) (is:List Nat):ZdM l (i::is)=(match l[i]? with|some o=>o::ZdM l is|none=>ZdM l is):=(rfl)
def QW (Q:AQ) (x:AX) (f:Fr) (H:List Ze) (ds:List ZO) (_:ZQ (Q,x,f,H,ds)):Prop:=Q x f H ds
def fW (t:Nat) (f:Fr) (_:ZQ f):AV:=f t
def Zv8 (P:Program) (hn:Nat→Bool) (od:Option Y7) (ops:Array Oper) (Q:AQ) (f:Fr) (H:List Ze) (ds:List ZO) (_:ZQ (hn,ops,Q,f,H,ds)):Prop:=
 match od with|none=>vcL P hn true ops ops.toList Q f H ds|some p=>vcX P hn ops Q ds p f H
def ZfJ (P:Program) (hn:Nat→Bool) (p:Y7) (ops:Array Oper) (Q:AQ) (f:Fr) (H:List Ze) (ds:List ZO) (_:ZQ (hn,ops,Q,f,H,ds)):Prop:=vcX P hn ops Q ds p f H
def ZdU (P:Program) (hn:Nat→Bool) (l:List Oper) (ops:Array Oper) (f:Fr) (H:List Ze) (_:ZQ (hn,ops,f,H)):Prop:=Zcl P hn ops f H l
def Zht (P:Program) (hn:Nat→Bool) (l:List Oper) (ops:Array Oper) (Q:AQ) (f:Fr) (H:List Ze) (ds:List ZO) (_:ZQ (hn,ops,Q,f,H,ds)):Prop:=vcL P hn true ops l Q f H ds
@[simp] theorem Zwk (P:Program) (hn:Nat→Bool) (l:List Oper) (Q:AQ) (f:Fr) (H:List Ze) (ds:List ZO) (w:ZQ (hn,l.toArray,Q,f,H,ds)):Zv8 P hn none l.toArray Q f H ds w=ZZ P hn true l.toArray l Q f H ds (Z5 _):=(rfl)
@[simp] theorem Zwu (P:Program) (hn:Nat→Bool) (p:Y7) (ops:Array Oper) (Q:AQ) (f:Fr) (H:List Ze) (ds:List ZO) (w:ZQ (hn,ops,Q,f,H,ds)):Zv8 P hn (some p) ops Q f H ds w=ZfJ P hn p ops Q f H ds (Z5 _):=(rfl)
@[simp] theorem ZxK (P:Program) (hn:Nat→Bool) (ops:Array Oper) (Q:AQ) (f:Fr) (H:List Ze) (ds:List ZO) (w:ZQ (hn,ops,Q,f,H,ds)):ZfJ P hn [] ops Q f H ds w=QW Q .normal f H ds (Z5 _):=(rfl)
@[simp] theorem Zwa (P:Program) (hn:Nat→Bool) (i:Nat) (p:Y7) (l:List Oper) (Q:AQ) (f:Fr) (H:List Ze) (ds:List ZO) (w:ZQ (hn,l.toArray,Q,f,H,ds)):ZfJ P hn ((i,[])::p) l.toArray Q f H ds w=Zht P hn (ZdM l [i]) l.toArray (JG (fun f' H' _=>vcX P hn l.toArray Q ds p f' H') Q) f H ds (Z5 _):=by
  simp only [ZfJ,vcX,Zht,YJ,Zep,List.getElem?_toArray,List.filterMap_nil,Zcl,true_and]
@[simp] theorem ZvR (P:Program) (hn:Nat→Bool) (i j:Nat) (js:List Nat) (p:Y7) (l:List Oper) (Q:AQ) (f:Fr) (H:List Ze) (ds:List ZO) (w:ZQ (hn,l.toArray,Q,f,H,ds)):ZfJ P hn ((i,j::js)::p) l.toArray Q f H ds w=Zht P hn (ZdM l [i]) l.toArray (JG (fun f' H' _=>ZdU P hn (ZdM l (j::js)) l.toArray f' H' (Z5 _)∧ZfJ P hn p l.toArray Q f' H' ds (Z5 _)) Q) f H ds (Z5 _):=by
  simp only [ZfJ,vcX,Zht,ZdU,YJ,Zep,List.getElem?_toArray]
@[simp] theorem ZyC (P:Program) (hn:Nat→Bool) (p:Y7) (ops:Array Oper) (Q:AQ) (f:Fr) (H:List Ze) (ds:List ZO):vcX P hn ops Q ds p f H=ZfJ P hn p ops Q f H ds (Z5 _):=(rfl)
@[simp] theorem Zwe (P:Program) (hn:Nat→Bool) (ops:Array Oper) (f:Fr) (H:List Ze) (w:ZQ (hn,ops,f,H)):ZdU P hn [] ops f H w=True:=(rfl)
@[simp] theorem Zvu (P:Program) (hn:Nat→Bool) (dst:Option Tmp) (op:Op) (ty:TypeId) (pos:String) (aft:Array Edge) (g:Option (Nat×Bool)) (l:List Oper) (ops:Array Oper) (f:Fr) (H:List Ze) (w:ZQ (hn,ops,f,H)):
  ZdU P hn (Oper.mk dst op ty pos aft g::l) ops f H w=(ZZ P hn true ops [Oper.mk dst op ty pos aft g] (Ze6 dst f H) f H [] (Z5 _)∧ZdU P hn l ops f H (Z5 _)):=(rfl)
@[simp ↓] theorem ZrY (d:Nat) (f f':Fr) (H H':List Ze) (ds:List ZO) (w:ZQ (Ze6 (some d) f H,AX.normal,f',H',ds)):QW (Ze6 (some d) f H) .normal f' H' ds w=(H'=H∧fW d f' (Z5 _)=fW d f (Z5 _)):=(rfl)
@[simp] theorem ZvY (P:Program) (hn:Nat→Bool) (o:Oper) (l:List Oper) (ops:Array Oper) (Q:AQ) (f:Fr) (H:List Ze) (ds:List ZO) (w:ZQ (hn,ops,Q,f,H,ds)):Zht P hn (o::l) ops Q f H ds w=ZZ P hn true ops (o::l) Q f H ds (Z5 _):=(rfl)
def Zb8 (H:List Ze) (sz:Nat) (x:AV) (i:Int) (k:AV→Prop) (_:ZQ k):Prop:=Zlp H sz x i k
def ZgZ (H:List Ze) (sz:Nat) (x:AV) (lo hi:Option Int) (k:AV→Prop) (_:ZQ k):Prop:=ZfQ H sz x lo hi k
def XA (H:List Ze) (sl:TypeId×Nat×List Value×Nat) (s:AV) (ys:List (List AV)) (K:AV→List Ze→Prop) (_:ZQ K):Prop:=ZbH H sl s ys K
def Zr0 (s x:AV) (sl:TypeId×Nat×List Value×Nat) (K:AV→Prop) (_:ZQ K):Prop:=Zjz s x sl K
def ZgT (H:List Ze) (m:AV) (k:Option Value) (x:AV) (d:TypeDesc) (K:List Ze→Prop) (_:ZQ K):Prop:=Zke H m k x d K
def Xy (x:Operand) (f:Fr) (_:ZQ f):AV:=ev f x
def evs (l:List Operand) (f:Fr) (_:ZQ f):List AV:=l.map (ev f)
def evp (l:List (Nat×Operand)) (f:Fr) (_:ZQ f):List (Nat×AV):=l.map fun x=>(x.1,ev f x.2)
def ZiM (P:Program) (H:List Ze) (rs:List ResultVar) (f:Fr) (_:ZQ f):Option (List AV):=ZaD P H f rs
def Zn9 (H:List Ze) (x:AV) (K:AV→List Ze→Prop) (_:ZQ K):Prop:=Zkz H x K
def Znt (H:List Ze) (x:AV) (K:AV→List Ze→Prop) (_:ZQ K):Prop:=Zlr H x K
def Zkm (H:List Ze) (x:AV) (K:AV→List Ze→Prop) (_:ZQ K):Prop:=ZhE H x K
def ZyH (H:List Ze) (k:Nat):Option (Nat×Nat×List Nat):=match H[k]? with|some (.it (some m) n seen)=>some (m,n,seen)|_=>none
@[simp] theorem Zv2 (H:List Ze) (m:Nat) (K:AV→List Ze→Prop) (w:ZQ K):Zn9 H (.hm m) K w=Z8 (Y3 H (.hm m)) (fun es=>K (.hi H.length) (H++[.it (some m) es.length []])) (Z5 _):=(rfl)
theorem ZkW {H:List Ze} {k m n:Nat} {seen:List Nat} {es:List (Value×AV)} {K:AV→List Ze→Prop} {w:ZQ K} (hk:H[k]?=some (.it (some m) n seen)) (hm:H[m]?=some (.map es)) (hn:es.length=n)
 (h1:∀j p,j∉seen→es[j]?=some p→K (.tup [.v (.bool true),.v p.1,p.2]) (H.set k (.it (some m) n (seen++[j])))) (h2:(∀j,j<n→j∈seen)→K (.tup [.v (.bool false)]) H):Znt H (.hi k) K w:=by
 unfold Znt Zlr
 simp only [hk]
 exact⟨es,by simp only [Y3,hm],hn,h1,h2⟩
theorem Zjc {H:List Ze} {k m n:Nat} {seen:List Nat} {es:List (Value×AV)} {j:Nat} {p:Value×AV} {K:AV→List Ze→Prop} {w:ZQ K} (hk:H[k]?=some (.it (some m) n (seen++[j]))) (hm:H[m]?=some (.map es)) (hn:es.length=n)
 (hp:es[j]?=some p) (h:K (.tup [.v p.1,p.2]) H):Zkm H (.hi k) K w:=by
 unfold Zkm ZhE
 simp only [hk]
 exact⟨es,by simp only [Y3,hm],hn,j,by simp,p,hp,h⟩
@[simp] theorem Zw8 (a:AV) (k:AV→Prop) (w:ZQ k):Jm a k w=k a:=(rfl)
@[simp] theorem Zw5 (a:List Ze) (k:List Ze→Prop) (w:ZQ k):Zdz a k w=k a:=(rfl)
@[simp] theorem ZtR {α:Type} (a:α) (k:α→Prop) (w:ZQ k):Z8 (some a) k w=k a:=by simp [Z8,Z1]
@[simp] theorem Zui {α:Type} (k:α→Prop) (w:ZQ k):Z8 none k w=False:=by simp [Z8,Z1]
@[simp] theorem Zvf (k:Prop) (w:ZQ k):JQ True k w=k:=by simp [JQ,YF]
@[simp] theorem ZtU (y n:Prop) (w:ZQ y) (w':ZQ n):Zb5 (.v (.bool true)) y n w w'=y:=(rfl)
@[simp] theorem Zs1 (y n:Prop) (w:ZQ y) (w':ZQ n):Zb5 (.v (.bool false)) y n w w'=n:=(rfl)
theorem Z3 {b:Bool} {y n:Prop} {w:ZQ y} {w':ZQ n} (hy:b=true→y) (hn:b=false→n):Zb5 (.v (.bool b)) y n w w':=by
 cases b
 ·exact hn rfl
 ·exact hy rfl
@[simp] theorem ZuZ {α β:Type} (o:Option α) (g:α→β) (k:β→Prop) (w:ZQ k):Z8 (o.map g) k w=Z8 o (fun a=>k (g a)) (Z5 _):=by cases o<;>simp
theorem Zb {p:Prop} [Decidable p] {y n:Prop} {w:ZQ y} {w':ZQ n} (hy:p→y) (hn: ¬p→n):Zb5 (.v (.bool (decide p))) y n w w':=
 Z3 (fun h=>hy (of_decide_eq_true h)) (fun h=>hn (of_decide_eq_false h))
theorem Zds {p:Prop} [Decidable p] {y n:Prop} {w:ZQ y} {w':ZQ n} (hy: ¬p→y) (hn:p→n):Zb5 (.v (.bool (!decide p))) y n w w':=
 Z3 (fun h=>hy (by simpa using h)) (fun h=>hn (by simpa using h))
@[simp] theorem ZvE (y n:Prop) (w:ZQ y) (w':ZQ n):Y6 (.v (.bool true)) true y n w w'=y:=by simp [Y6,XH]
@[simp] theorem Zvx (y n:Prop) (w:ZQ y) (w':ZQ n):Y6 (.v (.bool true)) false y n w w'=n:=by simp [Y6,XH]
@[simp] theorem ZvC (y n:Prop) (w:ZQ y) (w':ZQ n):Y6 (.v (.bool false)) true y n w w'=n:=by simp [Y6,XH]
@[simp] theorem ZuL (y n:Prop) (w:ZQ y) (w':ZQ n):Y6 (.v (.bool false)) false y n w w'=y:=by simp [Y6,XH]
@[simp] theorem Zup (b:Bool) (y n:Prop) (w:ZQ y) (w':ZQ n):Y6 (.tup []) b y n w w'=n:=(rfl)
theorem Zw {b:Bool} {y n:Prop} {w:ZQ y} {w':ZQ n} (hy:b=true→y) (hn:b=false→n):Y6 (.v (.bool b)) true y n w w':=by
 cases b
 ·exact⟨fun h=>(by cases h),fun _=>hn rfl⟩
 ·exact⟨fun _=>hy rfl,fun h=>absurd rfl h⟩
theorem Zx {b:Bool} {y n:Prop} {w:ZQ y} {w':ZQ n} (hy:b=true→n) (hn:b=false→y):Y6 (.v (.bool b)) false y n w w':=by
 cases b
 ·exact⟨fun _=>hn rfl,fun h=>absurd rfl h⟩
 ·exact⟨fun h=>(by cases h),fun _=>hy rfl⟩
theorem Zm {p:Prop} [Decidable p] {y n:Prop} {w:ZQ y} {w':ZQ n} (hy:p→y) (hn: ¬p→n):Y6 (.v (.bool (decide p))) true y n w w':=
 Zw (fun h=>hy (of_decide_eq_true h)) (fun h=>hn (of_decide_eq_false h))
theorem Zn {p:Prop} [Decidable p] {y n:Prop} {w:ZQ y} {w':ZQ n} (hy:p→n) (hn: ¬p→y):Y6 (.v (.bool (decide p))) false y n w w':=
 Zx (fun h=>hy (of_decide_eq_true h)) (fun h=>hn (of_decide_eq_false h))
@[simp] theorem ZvU (t:TypeId) (x:AV) (k:Prop) (w:ZQ k):Zt5 (.ifc t x) k w=k:=(rfl)
def Zcm (P:Program) (hn:Nat→Bool) (dr:Bool) (H:List Ze) (dst:Option Tmp) (fv:AV) (args:List AV) (K pan:AV→List Ze→Prop) (_:ZQ K) (_:ZQ pan):Prop:=ZeJ P hn dr H dst fv args K pan
def Zoj (P:Program) (H:List Ze) (fv:AV) (args:List AV) (K:AV→List Ze→Prop) (_:ZQ K):Prop:=Zhp P H fv args K
def ZqE (P:Program) (g:FuncId) (args:List AV) (H:List Ze) (K:AV→List Ze→Prop) (_:ZQ K):Prop:=∃r,Zi P g args H (fun e H'=>e=.ret r∧H'=H)∧K r H
theorem Zd {P:Program} {g:FuncId} {args:List AV} {H:List Ze} {K:AV→List Ze→Prop} {w:ZQ K} {r:AV} (h:Zi P g args H (fun e H'=>e=.ret r∧H'=H)) (k:K r H):ZqE P g args H K w:=⟨r,h,k⟩
@[simp] theorem Zud {P:Program} {hn:Nat→Bool} {H:List Ze} (dst:Option Tmp) (fv:AV) (args:List AV) (K pan:AV→List Ze→Prop) (w:ZQ K) (w':ZQ pan):Zcm P hn false H dst fv args K pan w w'=Zkl P H fv args K pan (Z5 _) (Z5 _):=by simp [Zcm,ZeJ];rfl
@[simp] theorem Zut {P:Program} {hn:Nat→Bool} {H:List Ze} {d:Tmp} (h:hn d=true) (fv:AV) (args:List AV) (K pan:AV→List Ze→Prop) (w:ZQ K) (w':ZQ pan):Zcm P hn true H (some d) fv args K pan w w'=Zkl P H fv args K pan (Z5 _) (Z5 _):=by simp [Zcm,ZeJ,h];rfl
@[simp] theorem ZtK {P:Program} {hn:Nat→Bool} {H:List Ze} {d:Tmp} (h:hn d=false) (fv:AV) (args:List AV) (K pan:AV→List Ze→Prop) (w:ZQ K) (w':ZQ pan):Zcm P hn true H (some d) fv args K pan w w'=Zoj P H fv args K (Z5 _):=by simp [Zcm,ZeJ,h];rfl
@[simp] theorem ZuT {P:Program} {H:List Ze} (g:FuncId) (first cap args:List AV) (K:AV→List Ze→Prop) (w:ZQ K):Zoj P H (.fn (.func g) first cap) args K w=JQ (ZL P g=true) (ZqE P g (first++args++cap) H K (Z5 _)) (Z5 _):=(rfl)
@[simp] theorem Zwx {P:Program} {H:List Ze} (g:FuncId) (first cap args:List AV) (K pan:AV→List Ze→Prop) (w:ZQ K) (w':ZQ pan):Zkl P H (.fn (.func g) first cap) args K pan w w'=JQ (ZL P g=true) (X2 P g (first++args++cap) H (Zj7 K pan) (Z5 _)) (Z5 _):=(rfl)
@[simp] theorem Zxd (H:List Ze) (sz sz':Nat) (es:List (List AV)) (i:Int) (k:AV→Prop) (w:ZQ k):Zb8 H sz (.vs sz' es) i k w=JQ (sz'=sz∧0≤i) (Z8 es[i.toNat]? (fun e=>k (.vp e)) (Z5 _)) (Z5 _):=(rfl)
@[simp] theorem ZwW (H:List Ze) (sz h off n ver:Nat) (i:Int) (k:AV→Prop) (w:ZQ k):Zb8 H sz (.hs h off n ver) i k w=(match H[h]? with|some (.row _ z es)=>JQ (z=sz∧es.length=ver∧0≤i∧i<n) (k (.rp h ver (off+i.toNat) 0)) (Z5 _)|_=>False):=(rfl)
@[simp] theorem ZuS (H:List Ze) (sz sz':Nat) (es:List (List AV)) (lo hi:Option Int) (k:AV→Prop) (w:ZQ k):ZgZ H sz (.vs sz' es) lo hi k w=
  JQ (sz'=sz∧0≤lo.getD 0∧lo.getD 0≤hi.getD es.length∧hi.getD es.length≤es.length) (k (.vs sz ((es.take (hi.getD es.length).toNat).drop (lo.getD 0).toNat))) (Z5 _):=(rfl)
@[simp] theorem ZuH (H:List Ze) (sz h off n ver:Nat) (lo hi:Option Int) (k:AV→Prop) (w:ZQ k):ZgZ H sz (.hs h off n ver) lo hi k w=(match H[h]? with
 |some (.row _ z es)=>JQ (z=sz∧es.length=ver∧0≤lo.getD 0∧lo.getD 0≤hi.getD n∧hi.getD n≤n∧(lo.getD 0=0∨lo.getD 0<hi.getD n)) (k (.hs h (off+(lo.getD 0).toNat) ((hi.getD n).toNat-(lo.getD 0).toNat) ver)) (Z5 _)
 |_=>False):=(rfl)
@[simp] theorem Zwn (sz' sz:Nat) (xs ys:List (List AV)) (sl:TypeId×Nat×List Value×Nat) (K:AV→Prop) (w:ZQ K):Zr0 (.vx sz' xs) (.vs sz ys) sl K w=
  JQ (sz'=sl.2.1∧sz=sl.2.1) (JQ ((xs.length+ys.length)*sl.2.2.2≤140737488355328∧xs.length+ys.length≤9223372036854775807) (K (.vs sz (xs++ys))) (Z5 _)) (Z5 _):=(rfl)
def Zn5 (H:List Ze) (m:AV) (k:Option Value) (d:TypeDesc) (K:List Ze→Prop) (_:ZQ K):Prop:=ZmI H m k d K
@[simp] theorem Zv0 (H:List Ze) (h:Nat) (k:Option Value) (d:TypeDesc) (K:List Ze→Prop) (w:ZQ K):Zn5 H (.hg h) k d K w=Z8 (Y3 H (.hg h)) (fun es=>Z8 k (fun k=>Z8 (ZkG d k es) (fun es'=>Zdz (H.set h (.mapg es')) K (Z5 _)) (Z5 _)) (Z5 _)) (Z5 _):=(rfl)
@[simp] theorem Zu8 (H:List Ze) (h:Nat) (k:Option Value) (x:AV) (d:TypeDesc) (K:List Ze→Prop) (w:ZQ K):ZgT H (.hg h) k x d K w=Z8 (Y3 H (.hg h)) (fun es=>Z8 k (fun k=>Z8 (ZcY d k x es) (fun es'=>Zdz (H.set h (.mapg es')) K (Z5 _)) (Z5 _)) (Z5 _)) (Z5 _):=(rfl)
@[simp] theorem Zv6 (H:List Ze) (h:Nat) (k:Option Value) (x:AV) (d:TypeDesc) (K:List Ze→Prop) (w:ZQ K):ZgT H (.hm h) k x d K w=Z8 (Y3 H (.hm h)) (fun es=>Z8 k (fun k=>Z8 (ZcY d k x es) (fun es'=>Zdz (H.set h (.map es')) K (Z5 _)) (Z5 _)) (Z5 _)) (Z5 _):=(rfl)
@[simp ↓] theorem ZwX (f:Fr) (d t:Nat) (x:AV):upd f d x t=if t=d then x else f t:=(rfl)
@[simp ↓] theorem ZvX (f:Fr) (d:Nat) (x:AV):ZS f (some d) x=upd f d x:=(rfl)
@[simp ↓] theorem Zwt (f:Fr) (x:AV):ZS f none x=f:=(rfl)
@[simp ↓] theorem ZxY (f:Fr) (t:Nat) (w:ZQ f):Xy (.tmp t) f w=fW t f (Z5 _):=(rfl)
@[simp ↓] theorem Zw3 (f:Fr) (x:Value) (w:ZQ f):Xy (.const x) f w=.v x:=(rfl)
@[simp ↓] theorem ZxJ (f:Fr) (g:Nat) (w:ZQ f):Xy (.func g) f w=.fn (.func g) [] []:=(rfl)
@[simp ↓] theorem Zy3 (f:Fr) (d t:Nat) (x:AV) (w:ZQ (upd f d x)):fW t (upd f d x) w=if t=d then x else fW t f (Z5 _):=(rfl)
@[simp ↓] theorem ZxS (f:Fr) (d t:Nat) (x:AV) (w:ZQ (ZS f (some d) x)):fW t (ZS f (some d) x) w=if t=d then x else fW t f (Z5 _):=(rfl)
@[simp ↓] theorem Zya (f:Fr) (t:Nat) (x:AV) (w:ZQ (ZS f none x)):fW t (ZS f none x) w=fW t f (Z5 _):=(rfl)
@[simp ↓] theorem ZvN (ops:Array Oper) (f:Fr):Zj8 false ops f=f:=(rfl)
@[simp ↓] theorem Zul (a:AV) (as:List AV) (i t:Nat) (w:ZQ (frm (a::as) i)):fW t (frm (a::as) i) w=if t=i then a else fW t (frm as (i+1)) (Z5 _):=(rfl)
@[simp ↓] theorem ZxO (f:Fr) (w:ZQ f):evs [] f w=[]:=(rfl)
@[simp ↓] theorem ZxM (x:Operand) (l:List Operand) (f:Fr) (w:ZQ f):evs (x::l) f w=Xy x f (Z5 _)::evs l f (Z5 _):=(rfl)
@[simp ↓] theorem Zyj (f:Fr) (w:ZQ f):evp [] f w=[]:=(rfl)
@[simp ↓] theorem Zxg (i:Nat) (x:Operand) (l:List (Nat×Operand)) (f:Fr) (w:ZQ f):evp ((i,x)::l) f w=(i,Xy x f (Z5 _))::evp l f (Z5 _):=(rfl)
@[simp ↓] theorem Zxh (P:Program) (H:List Ze) (f:Fr) (w:ZQ f):ZiM P H [] f w=some []:=(rfl)
@[simp ↓] theorem Zx4 (P:Program) (H:List Ze) (t:Nat) (rs:List ResultVar) (f:Fr) (w:ZQ f):ZiM P H (.tmp t::rs) f w=(ZiM P H rs f (Z5 _)).map (fW t f (Z5 _):: ·):=by
  simp only [ZiM,ZaD,ZiL];cases ZaD P H f rs<;>rfl
theorem Zo4 (P:Program) (H:List Ze) (a t:Nat) (rs:List ResultVar) (f:Fr) (w:ZQ f):ZiM P H (.cell a t::rs) f w=
 (match Ja H (fW a f (Z5 _)),Yt P t,Y4 P t with|some cs,some sz,some b=>(ZdG b sz cs).bind fun x=>(ZiM P H rs f (Z5 _)).map (x:: ·)|_,_,_=>none):=by
 simp only [ZiM,ZaD,ZiL,fW]
 cases Ja H (f a) with
 |none=>rfl
 |some cs=>
  cases Yt P t with
  |none=>rfl
  |some sz=>
   cases Y4 P t with
   |none=>rfl
   |some b=>
    simp only
    cases ZdG b sz cs with
    |none=>rfl
    |some x=>cases ZaD P H f rs<;>rfl
attribute [simp ↓] Zo4
@[simp] theorem ZuD (x:AV):Zba [x]=x:=(rfl)
@[simp] theorem Zvj:Zba []=.tup []:=(rfl)
@[simp] theorem Zva (x y:AV) (l:List AV):Zba (x::y::l)=.tup (x::y::l):=(rfl)
def gdL:List Oper→Nat→Nat
 |[],_=>0
 |⟨dst,_,_,_,_,_⟩::_,0=>dst.getD 0
 |_::l,j+1=>gdL l j
theorem ZlE:∀ (l:List Oper) (j:Nat),ZcC l.toArray j=gdL l j
 |[],j=>by simp [ZcC,gdL]
 |⟨dst,_,_,_,_,_⟩::l,0=>by simp [ZcC,gdL]
 |o::l,j+1=>by
  have:=ZlE l j
  simp only [ZcC,List.getElem?_toArray] at this ⊢
  simpa [gdL] using this
def gdW (j:Nat) (ops:Array Oper) (_:ZQ ops):Nat:=ZcC ops j
def ZsS (j:Nat) (l:List Oper) (_:ZQ l):Nat:=gdL l j
@[simp ↓] theorem ZxU (l:List Oper) (j:Nat) (w:ZQ l.toArray):gdW j l.toArray w=ZsS j l (Z5 _):=ZlE l j
@[simp ↓] theorem Zwc (dst:Option Tmp) (op:Op) (ty:TypeId) (pos:String) (aft:Array Edge) (g:Option (Nat×Bool)) (l:List Oper) (w:ZQ (Oper.mk dst op ty pos aft g::l)):ZsS 0 (⟨dst,op,ty,pos,aft,g⟩::l) w=dst.getD 0:=(rfl)
@[simp ↓] theorem Zwp (o:Oper) (l:List Oper) (j:Nat) (w:ZQ (o::l)):ZsS (j+1) (o::l) w=ZsS j l (Z5 _):=by cases o;rfl
@[simp ↓] theorem ZwJ (P:Program) (hn:Nat→Bool) (dr:Bool) (ops:Array Oper) (Q:AQ) (f:Fr) (H:List Ze) (ds:List ZO) (w:ZQ (hn,ops,([]:List Oper),Q,f,H,ds)):ZZ P hn dr ops [] Q f H ds w=QW Q .normal f H ds (Z5 _):=(rfl)
@[simp ↓] theorem Zrp (k:Fr→List Ze→List ZO→Prop) (Q:AQ) (f:Fr) (H:List Ze) (ds:List ZO) (w:ZQ (JG k Q,AX.normal,f,H,ds)):QW (JG k Q) .normal f H ds w=k f H ds:=(rfl)
@[simp ↓] theorem ZpH (id:Nat) (Q:AQ) (f:Fr) (H:List Ze) (ds:List ZO) (w:ZQ (Zb2 id Q,AX.normal,f,H,ds)):QW (Zb2 id Q) .normal f H ds w=QW Q .normal f H ds (Z5 _):=(rfl)
@[simp ↓] theorem ZsR (k:Fr→List Ze→List ZO→Prop) (Q:AQ) (i:Nat) (f:Fr) (H:List Ze) (ds:List ZO) (w:ZQ (JG k Q,(AX.exit i),f,H,ds)):QW (JG k Q) (.exit i) f H ds w=QW Q (.exit i) f H ds (Z5 _):=(rfl)
@[simp ↓] theorem ZrR (id:Nat) (Q:AQ) (i:Nat) (f:Fr) (H:List Ze) (ds:List ZO) (w:ZQ (Zb2 id Q,(AX.exit i),f,H,ds)):QW (Zb2 id Q) (.exit i) f H ds w=if i=id then QW Q .normal f H ds (Z5 _) else QW Q (.exit i) f H ds (Z5 _):=(rfl)
@[simp ↓] theorem Zua (k:Fr→List Ze→List ZO→Prop) (Q:AQ) (f:Fr) (H:List Ze) (ds:List ZO) (w:ZQ (JG k Q,AX.ret,f,H,ds)):QW (JG k Q) .ret f H ds w=QW Q .ret f H ds (Z5 _):=(rfl)
@[simp ↓] theorem Zsd (id:Nat) (Q:AQ) (f:Fr) (H:List Ze) (ds:List ZO) (w:ZQ (Zb2 id Q,AX.ret,f,H,ds)):QW (Zb2 id Q) .ret f H ds w=QW Q .ret f H ds (Z5 _):=(rfl)
@[simp ↓] theorem Zus (k:Fr→List Ze→List ZO→Prop) (Q:AQ) (x:AV) (f:Fr) (H:List Ze) (ds:List ZO) (w:ZQ (JG k Q,(AX.pan x),f,H,ds)):QW (JG k Q) (.pan x) f H ds w=QW Q (.pan x) f H ds (Z5 _):=(rfl)
@[simp ↓] theorem Zsm (id:Nat) (Q:AQ) (x:AV) (f:Fr) (H:List Ze) (ds:List ZO) (w:ZQ (Zb2 id Q,(AX.pan x),f,H,ds)):QW (Zb2 id Q) (.pan x) f H ds w=QW Q (.pan x) f H ds (Z5 _):=(rfl)
@[simp ↓] theorem Zyk (P:Program) (rs:List ResultVar) (R:AE→List Ze→Prop) (f:Fr) (H:List Ze) (ds:List ZO) (w:ZQ (ZgB P rs R,AX.normal,f,H,ds)):QW (ZgB P rs R) .normal f H ds w=JQ (ds=[]) (Z8 (ZiM P H rs f (Z5 _)) (fun xs=>Jm (Zba xs) (fun x=>R (.ret x) H) (Z5 _)) (Z5 _)) (Z5 _):=(rfl)
@[simp ↓] theorem ZxP (P:Program) (rs:List ResultVar) (R:AE→List Ze→Prop) (f:Fr) (H:List Ze) (ds:List ZO) (w:ZQ (ZgB P rs R,AX.ret,f,H,ds)):QW (ZgB P rs R) .ret f H ds w=JQ (ds=[]) (Z8 (ZiM P H rs f (Z5 _)) (fun xs=>Jm (Zba xs) (fun x=>R (.ret x) H) (Z5 _)) (Z5 _)) (Z5 _):=(rfl)
@[simp ↓] theorem Zyi (P:Program) (rs:List ResultVar) (R:AE→List Ze→Prop) (x:AV) (f:Fr) (H:List Ze) (ds:List ZO) (w:ZQ (ZgB P rs R,AX.pan x,f,H,ds)):QW (ZgB P rs R) (.pan x) f H ds w=JQ (ds=[]) (R (.pan x) H) (Z5 _):=(rfl)
def ZnN (P:Program) (s t:TypeId) (ko:Option IntKind) (x:AV) (k:AV→Prop) (_:ZQ k):Prop:=Zfg P s t ko x k
@[simp] theorem Zw7 (P:Program) (s t:TypeId) (k:IntKind) (x:AV) (K:AV→Prop) (w:ZQ K):ZnN P s t (some k) x K w=JQ (Zpc P s=true) (Z8 (Xe x) (fun n=>K (.v (.int k (k.wrap n)))) (Z5 _)) (Z5 _):=(rfl)
@[simp] theorem Zxt (P:Program) (s t:TypeId) (x:AV) (K:AV→Prop) (w:ZQ K) (hs:byS P s t=false):ZnN P s t none x K w=JQ (byB P s t=true) (Z8 (ZgJ x) (fun s=>K (.vs 1 (ZdN s))) (Z5 _)) (Z5 _):=by
  simp only [ZnN,Zfg,hs,Bool.false_eq_true,if_false];rfl
@[simp] theorem Zx3 (k k':IntKind) (a b:Int):ZoA (.v (.int k a)) (.v (.int k' b))=some (.v (.int k (if b<a then b else a))):=(rfl)
section
variable (P:Program) (hn:Nat→Bool) (od:Nat→Option Y7) (n:Nat) (Q:AQ) (f:Fr) (H:List Ze) (ds:List ZO)
@[simp ↓] theorem Zwj (w:ZQ (hn,od,n,Code.skip,Q,f,H,ds)):Zdc P hn od n .skip Q f H ds w=QW Q .normal f H ds (Z5 _):=(rfl)
@[simp ↓] theorem ZtC (id:Nat) (l:List Oper) (w:ZQ (hn,od,n,(Code.region id l.toArray false),Q,f,H,ds)):Zdc P hn od n (.region id l.toArray false) Q f H ds w=ZZ P hn false l.toArray l Q f H ds (Z5 _):=(rfl)
@[simp ↓] theorem Zwi (id:Nat) (l:List Oper) (w:ZQ (hn,od,n,(Code.region id l.toArray true),Q,f,H,ds)):Zdc P hn od n (.region id l.toArray true) Q f H ds w=Zv8 P hn (od id) l.toArray Q f H ds (Z5 _):=(rfl)
@[simp ↓] theorem Zxn (a b:Code) (w:ZQ (hn,od,n,(Code.seq a b),Q,f,H,ds)):Zdc P hn od n (.seq a b) Q f H ds w=Zdc P hn od n a (JG (vcC P hn od n b Q) Q) f H ds (Z5 _):=(rfl)
@[simp ↓] theorem Zwf (c:Operand) (a b:Code) (w:ZQ (hn,od,n,(Code.cond c a b),Q,f,H,ds)):Zdc P hn od n (.cond c a b) Q f H ds w=Zb5 (Xy c f (Z5 _)) (Zdc P hn od n a Q f H ds (Z5 _)) (Zdc P hn od n b Q f H ds (Z5 _)) (Z5 _) (Z5 _):=(rfl)
@[simp ↓] theorem Zu0 (id:Nat) (b:Code) (w:ZQ (hn,od,n,(Code.block id b),Q,f,H,ds)):Zdc P hn od n (.block id b) Q f H ds w=Zdc P hn od n b (Zb2 id Q) f H ds (Z5 _):=(rfl)
@[simp ↓] theorem ZvO (b:Code) (w:ZQ (hn,od,n,(Code.loop b),Q,f,H,ds)):Zdc P hn od n (.loop b) Q f H ds w=Zmg P n (.loop b) Q f H ds (Z5 _):=(rfl)
@[simp ↓] theorem Zr9 (g:Operand) (ps:Array Tmp) (x y:Code) (w:ZQ (hn,od,n,(Code.rangeFunc g ps x y),Q,f,H,ds)):Zdc P hn od n (.rangeFunc g ps x y) Q f H ds w=Zmg P n (.rangeFunc g ps x y) Q f H ds (Z5 _):=(rfl)
@[simp ↓] theorem ZvL (id:Nat) (w:ZQ (hn,od,n,(Code.exit id),Q,f,H,ds)):Zdc P hn od n (.exit id) Q f H ds w=QW Q (.exit id) f H ds (Z5 _):=(rfl)
@[simp ↓] theorem ZvD (l:Nat) (w:ZQ (hn,od,n,(Code.label l),Q,f,H,ds)):Zdc P hn od n (.label l) Q f H ds w=QW Q .normal f H ds (Z5 _):=(rfl)
@[simp ↓] theorem Zxb (w:ZQ (hn,od,n,Code.ret,Q,f,H,ds)):Zdc P hn od n .ret Q f H ds w=QW Q .ret f H ds (Z5 _):=(rfl)
end
def JK (P:Program) (H:List Ze) (t:TypeId) (x i:AV) (k:AV→Prop) (_:ZQ k):Prop:=
 match ZfD P t with
 |some ar=>Z1 (Yt P ar.2) fun sz=>Z1 (Xe i) fun n=>ZoY ar.1 sz x n k
 |none=>Z1 (ZaG P t) fun e=>Z1 (Yt P e) fun sz=>Z1 (Xe i) fun n=>Zlp H sz x n k
def Zf4 (P:Program) (t:TypeId) (x i:AV) (k:AV→Prop) (_:ZQ k):Prop:=
 match ZfD P t with
 |some ar=>Z1 (Yt P ar.2) fun sz=>Z1 (Y4 P ar.2) fun agg=>Z1 (Xe i) fun n=>Z1 (Zi4 x agg ar.1 sz n) k
 |none=>YF (ZaY P t=2) (Z1 (ZgJ x) fun s=>Z1 (Xe i) fun n=>YF (0≤n) (Z1 (s.data.toList[n.toNat]?) fun b=>k (.v (.int .u8 b.toNat))))
def ZpZ (x:AV) (k:Bool→Prop) (_:ZQ k):Prop:=ZlG x k
theorem ZdZ {sz:Nat} {es:List (List AV)} {k:Bool→Prop} {w:ZQ k} (h1:es≠[]→k false) (h2:es=[]→k true∧k false):ZpZ (.vs sz es) k w:=⟨h1,h2⟩
@[simp] theorem Zxy:Zm6 .eql=true:=(rfl)
@[simp] theorem ZvW (b:Bool):Zfi .eql b=b:=(rfl)
def Zgl (P:Program) (op:BinOp) (t:TypeId) (c:Bool) (ns:Bool) (x y:AV) (k:AV→Prop) (_:ZQ k):Prop:=
 if ZeW x then Z1 (ZdA op x y) k else if (ns&&ZcJ y)=true then YF (Zm6 op=true∧(ZaG P t).isSome=true) (ZlG x fun b=>k (.v (.bool (Zfi op b)))) else YF (nnB x y c=true) (Z1 (Zgk P op t x y) k)
@[simp] theorem Zu5 (t:Nat):Zbz (.tmp t)=false:=(rfl)
@[simp] theorem ZvH:Zbz (.const (.slice none 0 0))=true:=(rfl)
@[simp] theorem Zvm (k:IntKind) (n:Int):Zbz (.const (.int k n))=false:=(rfl)
@[simp] theorem Zvc (b:ByteArray):Zbz (.const (.string b))=false:=(rfl)
@[simp] theorem Zw1:Zbz (.const .nilIface)=false:=(rfl)
@[simp] theorem Zwm (P:Program) (op:BinOp) (t:TypeId) (c:Bool) (sz:Nat) (es:List (List AV)) (K:AV→Prop) (w:ZQ K):Zgl P op t c true (.vs sz es) (.v (.slice none 0 0)) K w=JQ (Zm6 op=true∧(ZaG P t).isSome=true) (ZpZ (.vs sz es) (fun b=>Jm (.v (.bool (Zfi op b))) K (Z5 _)) (Z5 _)) (Z5 _):=(rfl)
def bsV (H:List Ze) (hn:Nat→Bool) (dst:Option Tmp) (sl:TypeId×Nat×List Value×Nat) (es:List (List AV)) (len:Nat) (K:AV→List Ze→Prop) (_:ZQ (hn,K)):Prop:=
 if hn (dst.getD 0) then YF (es.flatten.all AV.one=true) (K (.hs H.length 0 len len) (H++[.row sl.1 sl.2.1 es]))
 else YF (es.flatten.all AV.frzB=true∧es.flatten.all AV.one=true) (K (bsR (hn (dst.getD 0+1000000)) sl.2.1 es) H)
def apV (H:List Ze) (hn:Nat→Bool) (dst:Option Tmp) (sl:TypeId×Nat×List Value×Nat) (s x:AV) (K:AV→List Ze→Prop) (_:ZQ (hn,K)):Prop:=
 if hn (dst.getD 0) then YF (sl.2.2.1.all Value.oneCell'=true) (Z1 (ZaV H sl.2.1 x) fun ys=>ZbH H sl s ys K) else Zjz s x sl fun r=>K r H
theorem Jo {P:Program} {t:TypeId} {e:TypeId} (h:ZaG P t=some e) (H:List Ze) (x i:AV) (k:AV→Prop) (w:ZQ k):JK P H t x i k w=Z8 (Yt P e) (fun sz=>Z8 (Xe i) (fun n=>Zb8 H sz x n k (Z5 _)) (Z5 _)) (Z5 _):=by
 have h2:ZfD P t=none:=by unfold ZaG at h;unfold ZfD;split at h<;>simp_all
 simp only [JK,h2,h];simp [Z1,Z8,Zb8]
theorem Zmk {P:Program} {t:TypeId} (h:ZaY P t=2) (x i:AV) (k:AV→Prop) (w:ZQ k):Zf4 P t x i k w=Z8 (ZgJ x) (fun s=>Z8 (Xe i) (fun n=>JQ (0≤n) (Z8 (s.data.toList[n.toNat]?) (fun b=>k (.v (.int .u8 b.toNat))) (Z5 _)) (Z5 _)) (Z5 _)) (Z5 _):=by
 have h2:ZfD P t=none:=by unfold ZaY at h;unfold ZfD;split at h<;>simp_all
 simp only [Zf4,h2,h];simp [YF,Z8,JQ]
@[simp] theorem ZxX {H:List Ze} {hn:Nat→Bool} {d:Tmp} (h:hn d=true) (sl:TypeId×Nat×List Value×Nat) (es:List (List AV)) (len:Nat) (K:AV→List Ze→Prop) (w:ZQ (hn,K)):bsV H hn (some d) sl es len K w=JQ (es.flatten.all AV.one=true) (Zdz (H++[.row sl.1 sl.2.1 es]) (fun H'=>K (.hs H.length 0 len len) H') (Z5 _)) (Z5 _):=by simp [bsV,h];rfl
@[simp] theorem Zy2 {H:List Ze} {hn:Nat→Bool} {d:Tmp} (h:hn d=false) (sl:TypeId×Nat×List Value×Nat) (es:List (List AV)) (len:Nat) (K:AV→List Ze→Prop) (w:ZQ (hn,K)):bsV H hn (some d) sl es len K w=JQ (es.flatten.all AV.frzB=true∧es.flatten.all AV.one=true) (Jm (bsR (hn (d+1000000)) sl.2.1 es) (fun a=>K a H) (Z5 _)) (Z5 _):=by simp [bsV,h];rfl
@[simp] theorem Zyp {H:List Ze} {hn:Nat→Bool} {d:Tmp} (h:hn d=true) (sl:TypeId×Nat×List Value×Nat) (s x:AV) (K:AV→List Ze→Prop) (w:ZQ (hn,K)):apV H hn (some d) sl s x K w=JQ (sl.2.2.1.all Value.oneCell'=true) (Z8 (ZaV H sl.2.1 x) (fun ys=>XA H sl s ys K (Z5 _)) (Z5 _)) (Z5 _):=by simp [apV,h];rfl
@[simp] theorem Zy4 {H:List Ze} {hn:Nat→Bool} {d:Tmp} (h:hn d=false) (sl:TypeId×Nat×List Value×Nat) (s x:AV) (K:AV→List Ze→Prop) (w:ZQ (hn,K)):apV H hn (some d) sl s x K w=Zr0 s x sl (fun r=>Jm r (fun r=>K r H) (Z5 _)) (Z5 _):=by simp [apV,h];rfl
@[simp] theorem ZwL (P:Program) (op:BinOp) (t:TypeId) (c ns:Bool) (k k':IntKind) (a b:Int) (K:AV→Prop) (w:ZQ K):Zgl P op t c ns (.v (.int k a)) (.v (.int k' b)) K w=Z8 (ZdA op (.v (.int k a)) (.v (.int k' b))) K (Z5 _):=(rfl)
@[simp] theorem ZxA (P:Program) (op:BinOp) (t:TypeId) (c ns:Bool) (a b:ByteArray) (K:AV→Prop) (w:ZQ K):Zgl P op t c ns (.v (.string a)) (.v (.string b)) K w=Z8 (ZdA op (.v (.string a)) (.v (.string b))) K (Z5 _):=(rfl)
@[simp] theorem Zxw (P:Program) (op:BinOp) (t:TypeId) (c ns:Bool) (a b:List AV) (K:AV→Prop) (w:ZQ K):Zgl P op t c ns (.agg a) (.agg b) K w=Z8 (Zgk P op t (.agg a) (.agg b)) K (Z5 _):=by simp [Zgl,ZeW,ZcJ,nnB,YF];rfl
@[simp] theorem Zw6 (P:Program) (op:BinOp) (t:TypeId) (c ns:Bool) (a b:Bool) (K:AV→Prop) (w:ZQ K):Zgl P op t c ns (.v (.bool a)) (.v (.bool b)) K w=Z8 (Zgk P op t (.v (.bool a)) (.v (.bool b))) K (Z5 _):=by simp [Zgl,ZeW,ZcJ,nnB,YF];rfl
@[simp] theorem ZwH (P:Program) (op:BinOp) (t t':TypeId) (c:Bool) (a:AV) (b:AV) (K:AV→Prop) (w:ZQ K):Zgl P op t c false (.ifc t' a) b K w=Z8 (Zgk P op t (.ifc t' a) b) K (Z5 _):=by simp [Zgl,ZeW,ZcJ,nnB,YF];rfl
@[simp] theorem ZvM (P:Program) (op:BinOp) (t:TypeId) (b:AV) (K:AV→Prop) (w:ZQ K):Zgl P op t true false (.v .nilIface) b K w=Z8 (Zgk P op t (.v .nilIface) b) K (Z5 _):=by
  have:nnB (.v .nilIface) b true=true:=by unfold nnB;split<;>rfl
  simp [Zgl,ZeW,this,YF];rfl
@[simp] theorem Zsh (x:Value):Zbe (.const x)=true:=(rfl)
@[simp] theorem Zve (t:Nat):Zbe (.tmp t)=false:=(rfl)
@[simp] theorem ZtY:J5 .add=false:=(rfl)
@[simp] theorem Zuq:J5 .sub=false:=(rfl)
@[simp] theorem Zum:J5 .mul=false:=(rfl)
@[simp] theorem Zuo:J5 .rem=false:=(rfl)
@[simp] theorem ZtD:J5 .and=false:=(rfl)
@[simp] theorem Zvd:J5 .or=false:=(rfl)
@[simp] theorem Zub:J5 .xor=false:=(rfl)
@[simp] theorem ZtP:J5 .eql=false:=(rfl)
@[simp] theorem Zur:J5 .neq=false:=(rfl)
@[simp] theorem ZtI:J5 .lss=false:=(rfl)
@[simp] theorem ZtJ:J5 .leq=false:=(rfl)
@[simp] theorem Zue:J5 .gtr=false:=(rfl)
@[simp] theorem ZtQ:J5 .geq=false:=(rfl)
@[simp] theorem ZtB:J5 .shl=true:=(rfl)
@[simp] theorem Zuf:J5 .shr=true:=(rfl)
@[simp] theorem Zw4 (op:BinOp) (k:IntKind) (a b:Int) (h:J5 op=false):ZdA op (.v (.int k a)) (.v (.int k b))=(ZbG op k a b).map .v:=by simp [ZdA,h]
@[simp] theorem ZtV (op:BinOp) (k k':IntKind) (a b:Int) (h:J5 op=true):ZdA op (.v (.int k a)) (.v (.int k' b))=(ZbG op k a b).map .v:=by simp [ZdA,h]
@[simp] theorem ZvS (op:BinOp) (a b:ByteArray):ZdA op (.v (.string a)) (.v (.string b))=(Zlt op a b).map .v:=(rfl)
@[simp] theorem ZwT (k:IntKind) (a b:Int):ZbG .add k a b=some (.int k (k.wrap (a+b))):=(rfl)
@[simp] theorem ZwV (k:IntKind) (a b:Int):ZbG .sub k a b=some (.int k (k.wrap (a-b))):=(rfl)
@[simp] theorem ZwZ (k:IntKind) (a b:Int):ZbG .mul k a b=some (.int k (k.wrap (a*b))):=(rfl)
@[simp] theorem Zxx (k:IntKind) (a b:Int):ZbG .eql k a b=some (.bool (a==b)):=(rfl)
@[simp] theorem ZwD (k:IntKind) (a b:Int):ZbG .neq k a b=some (.bool (a != b)):=(rfl)
@[simp] theorem ZwM (k:IntKind) (a b:Int):ZbG .lss k a b=some (.bool (decide (a<b))):=(rfl)
@[simp] theorem Zxq (k:IntKind) (a b:Int):ZbG .leq k a b=some (.bool (decide (a≤b))):=(rfl)
@[simp] theorem Zx6 (k:IntKind) (a b:Int):ZbG .gtr k a b=some (.bool (decide (a>b))):=(rfl)
@[simp] theorem ZxC (k:IntKind) (a b:Int):ZbG .geq k a b=some (.bool (decide (a≥b))):=(rfl)
@[simp] theorem ZwI (k:IntKind) (a b:Int):ZbG .rem k a b=if b=0 then none else some (.int k (a.tmod b)):=(rfl)
@[simp] theorem ZwR (k:IntKind) (a b:Int):ZbG .shl k a b=if b<0 then none else some (.int k (k.wrap (a*2^(min b.toNat k.bits)))):=(rfl)
@[simp] theorem ZwO (k:IntKind) (a b:Int):ZbG .shr k a b=if b<0 then none else some (.int k (a.fdiv (2^(min b.toNat k.bits)))):=(rfl)
@[simp] theorem Zxu (k:IntKind) (a b:Int):ZbG .and k a b=some (.int k (k.wrap ((BitVec.ofInt k.bits a&&& BitVec.ofInt k.bits b).toNat))):=(rfl)
@[simp] theorem ZxW (k:IntKind) (a b:Int):ZbG .or k a b=some (.int k (k.wrap ((BitVec.ofInt k.bits a|||BitVec.ofInt k.bits b).toNat))):=(rfl)
@[simp] theorem Zxj (k:IntKind) (a b:Int):ZbG .xor k a b=some (.int k (k.wrap ((BitVec.ofInt k.bits a ^^^ BitVec.ofInt k.bits b).toNat))):=(rfl)
@[simp] theorem Zxe (a b:ByteArray):Zlt .eql a b=some (.bool (a.toList==b.toList)):=(rfl)
@[simp] theorem ZxF (a b:ByteArray):Zlt .neq a b=some (.bool (!(a.toList==b.toList))):=(rfl)
@[simp] theorem ZxG (k:IntKind) (n:Int):Xe (.v (.int k n))=some n:=(rfl)
@[simp] theorem ZtG (cs:List AV):YA (.agg cs)=some cs:=(rfl)
@[simp] theorem Zuc (k:IntKind) (n:Int):YA (.v (.int k n))=some [.v (.int k n)]:=(rfl)
@[simp] theorem Zt0 (b:Bool):YA (.v (.bool b))=some [.v (.bool b)]:=(rfl)
@[simp] theorem Zra (b:ByteArray):YA (.v (.string b))=some [.v (.string b)]:=(rfl)
@[simp] theorem ZrU (a:Option Addr) (l c:Nat):YA (.v (.slice a l c))=some [.v (.slice a l c)]:=(rfl)
@[simp] theorem Zvy (z:Nat) (es:List (List AV)):YA (.vs z es)=some [.vs z es]:=(rfl)
@[simp] theorem ZuV (k a b o:Nat):YA (.hs k a b o)=some [.hs k a b o]:=(rfl)
@[simp] theorem Zvk (k:Nat):YA (.hm k)=some [.hm k]:=(rfl)
@[simp] theorem ZuP (k:Nat):YA (.hg k)=some [.hg k]:=(rfl)
@[simp] theorem ZuF (g:Fn) (a b:List AV):YA (.fn g a b)=some [.fn g a b]:=(rfl)
@[simp] theorem Zs4 (k:IntKind) (n:Int):AV.one (.v (.int k n))=true:=(rfl)
@[simp] theorem ZqS (b:Bool):AV.one (.v (.bool b))=true:=(rfl)
@[simp] theorem Zm4 (b:ByteArray):AV.one (.v (.string b))=true:=(rfl)
@[simp] theorem Zp5 (a:Option Addr) (l c:Nat):AV.one (.v (.slice a l c))=true:=(rfl)
@[simp] theorem Zy7 (z:Nat) (es:List (List AV)):AV.one (.vs z es)=true:=(rfl)
@[simp] theorem Zy0 (k a b o:Nat):AV.one (.hs k a b o)=true:=(rfl)
@[simp] theorem Zyu (k:Nat):AV.one (.hm k)=true:=(rfl)
@[simp] theorem Zyv (k:Nat):AV.one (.hg k)=true:=(rfl)
@[simp] theorem Zyw (g:Fn) (a b:List AV):AV.one (.fn g a b)=true:=(rfl)
@[simp] theorem Zyr (x:Value):AV.frzB (.v x)=true:=(rfl)
@[simp] theorem Zyb (z:Nat) (es:List (List AV)):AV.frzB (.vs z es)=true:=(rfl)
@[simp] theorem Zt6 (k:IntKind) (n:Int):Value.oneCell' (.int k n)=true:=(rfl)
@[simp] theorem Zsx (b:Bool):Value.oneCell' (.bool b)=true:=(rfl)
@[simp] theorem Zqf (b:ByteArray):Value.oneCell' (.string b)=true:=(rfl)
@[simp] theorem ZrV (a:Option Addr) (l c:Nat):Value.oneCell' (.slice a l c)=true:=(rfl)
@[simp] theorem Zwo (cs:Array Value):Value.cells (.agg cs)=cs:=(rfl)
@[simp] theorem Zw0 (k:IntKind) (n:Int):Value.cells (.int k n)= #[.int k n]:=(rfl)
@[simp] theorem ZvK (a:Option Nat):Value.cells (.map a)= #[.map a]:=(rfl)
@[simp] theorem Zxa:Value.cells .nilFunc= #[.nilFunc]:=(rfl)
@[simp] theorem ZxZ (sz:Nat) (cs:List AV):ZdG true sz cs=if sz≤cs.length then some (.agg (cs.take sz)) else none:=(rfl)
@[simp] theorem ZxV (sz:Nat) (cs:List AV):ZdG false sz cs=cs[0]?:=(rfl)
@[simp] theorem Zyl (sz off:Nat) (cs:List AV):Zc6 false sz off cs=cs[off]?:=(rfl)
@[simp] theorem Ztq (cs:List AV):Zby (.agg cs)=some cs:=(rfl)
@[simp] theorem Zyh (k off n:Nat):ZgD (.bp k off) n=some (.bp k (off+n)):=(rfl)
@[simp] theorem ZxQ (k v i off n:Nat):ZgD (.rp k v i off) n=some (.rp k v i (off+n)):=(rfl)
@[simp] theorem Zyf (cs:List AV) (n:Nat):ZgD (.vp cs) n=some (.vp (cs.drop n)):=(rfl)
@[simp] theorem ZuA (H:List Ze) (cs:List AV):Ja H (.vp cs)=some cs:=(rfl)
@[simp] theorem ZuE (H:List Ze) (k off:Nat):Ja H (.bp k off)=(match H[k]? with|some (.box _ cs)=>some (cs.drop off)|_=>none):=(rfl)
@[simp] theorem Zuz (H:List Ze) (k v i off:Nat):Ja H (.rp k v i off)=(match H[k]? with|some (.row _ _ es)=>if es.length=v then (es[i]?).map (·.drop off) else none|_=>none):=(rfl)
@[simp] theorem Zwg (H:List Ze) (k off:Nat) (xs:List AV):ZbZ H (.bp k off) xs=(match H[k]? with|some (.box t cs)=>if off+xs.length≤cs.length then some (H.set k (.box t (spl cs off xs))) else none|_=>none):=(rfl)
@[simp] theorem ZrL {α:Type} (cs xs:List α):spl cs 0 xs=xs++cs.drop xs.length:=by simp [spl]
@[simp] theorem Zxm {α:Type} (c:α) (cs xs:List α) (n:Nat):spl (c::cs) (n+1) xs=c::spl cs n xs:=by
  simp only [spl,List.take_succ_cons,List.cons_append,Nat.add_right_comm n 1,List.drop_succ_cons]
@[simp] theorem Zyg (b:Bool):unA .not (.v (.bool b))=some (.v (.bool !b)):=(rfl)
@[simp] theorem Zyn (k:IntKind) (n:Int):unA .neg (.v (.int k n))=some (.v (.int k (k.wrap (0-n)))):=(rfl)
@[simp] theorem ZuU (xs:List AV) (i:Nat):Znp (.tup xs) i=xs[i]?:=(rfl)
@[simp] theorem Zyo (H:List Ze) (z:Nat) (es:List (List AV)):Zev H 1 (.vs z es)=some es.length:=(rfl)
@[simp] theorem Zx0 (H:List Ze) (a:Option Addr) (n c:Nat):Zev H 1 (.v (.slice a n c))=some n:=(rfl)
@[simp] theorem ZwS (H:List Ze) (s:ByteArray):Zev H 2 (.v (.string s))=some s.size:=(rfl)
@[simp] theorem Zyd (H:List Ze) (h off n v:Nat):Zev H 1 (.hs h off n v)=(match H[h]? with|some (.row _ _ es)=>if es.length=v then some (n:Int) else none|_=>none):=(rfl)
@[simp] theorem ZxR (H:List Ze) (h:Nat):Zev H 3 (.hm h)=(match H[h]? with|some (.map es)=>some (es.length:Int)|_=>none):=(rfl)
@[simp] theorem Zyz (s:ByteArray):ZgJ (.v (.string s))=some s:=(rfl)
@[simp] theorem Zyx (x:Value):Zdp (.v x)=some x:=(rfl)
@[simp] theorem Zw9:Zgh none=some none:=(rfl)
@[simp] theorem Zwh (a:AV):Zgh (some a)=(Xe a).map some:=(rfl)
@[simp] theorem ZwK (H:List Ze) (sz sz':Nat) (es:List (List AV)):ZaV H sz (.vs sz' es)=if sz'=sz then some es else none:=(rfl)
@[simp] theorem ZwE (H:List Ze) (h:Nat):Y3 H (.hg h)=(match H[h]? with|some (.mapg es)=>some es|_=>none):=(rfl)
@[simp] theorem Zxi (H:List Ze) (h:Nat):Y3 H (.hm h)=(match H[h]? with|some (.map es)=>some es|_=>none):=(rfl)
@[simp] theorem Zwq (pl:Nat→Option (Nat×Nat)) (cs:List AV):Zdg pl cs []=some cs:=(rfl)
@[simp] theorem Zvs (pl:Nat→Option (Nat×Nat)) (cs:List AV) (i:Nat) (v:AV) (rest:List (Nat×AV)):Zdg pl cs ((i,v)::rest)=
  (match pl i,YA v with|some (off,sz),some xs=>if xs.length=sz∧off+sz≤cs.length then Zdg pl (spl cs off xs) rest else none|_,_=>none):=(rfl)
@[simp] theorem Zv9 (sz:Nat) (es:List (List AV)):Zak sz es []=some es:=(rfl)
@[simp] theorem ZtE (sz:Nat) (es:List (List AV)) (i:Nat) (v:AV) (rest:List (Nat×AV)):Zak sz es ((i,v)::rest)=
  (match YA v with|some xs=>if xs.length=sz∧i<es.length then Zak sz (es.set i xs) rest else none|none=>none):=(rfl)
variable (P:Program) (hn:Nat→Bool) (dr:Bool) (od:Nat→Option Y7) (Q:AQ) (f:Fr) (H:List Ze) (ds:List ZO) (ops:Array Oper) (rest:List Oper) (dst:Option Tmp) (ty:TypeId) (pos:String) (aft:Array Edge)
@[simp ↓] theorem ZvP (x:Operand) (w:ZQ (hn,ops,Oper.mk dst (.move x) ty pos aft none::rest,Q,f,H,ds)):ZZ P hn dr ops (⟨dst,.move x,ty,pos,aft,none⟩::rest) Q f H ds w=(Jm (Xy x f (Z5 _)) (fun a=>ZZ P hn dr ops rest Q (ZS f dst a) H ds (Z5 _)) (Z5 _)):=(rfl)
@[simp ↓] theorem Zt8 (j:Nat) (want:Bool) (x:Operand) (w:ZQ (hn,ops,Oper.mk dst (.move x) ty pos aft (some (j,want))::rest,Q,f,H,ds)):ZZ P hn dr ops (⟨dst,.move x,ty,pos,aft,some (j,want)⟩::rest) Q f H ds w=Y6 (fW (gdW j ops (Z5 _)) f (Z5 _)) want (Jm (Xy x f (Z5 _)) (fun a=>ZZ P hn dr ops rest Q (ZS f dst a) H ds (Z5 _)) (Z5 _)) (ZZ P hn dr ops rest Q (ZS f dst (.tup [])) H ds (Z5 _)) (Z5 _) (Z5 _):=(rfl)
@[simp ↓] theorem ZtL (x:Operand) (w:ZQ (hn,ops,Oper.mk dst (.assign x) ty pos aft none::rest,Q,f,H,ds)):ZZ P hn dr ops (⟨dst,.assign x,ty,pos,aft,none⟩::rest) Q f H ds w=(Jm (Xy x f (Z5 _)) (fun a=>ZZ P hn dr ops rest Q (ZS f dst a) H ds (Z5 _)) (Z5 _)):=(rfl)
@[simp ↓] theorem ZvT (c a b:Operand) (w:ZQ (hn,ops,Oper.mk dst (.pick c a b) ty pos aft none::rest,Q,f,H,ds)):ZZ P hn dr ops (⟨dst,.pick c a b,ty,pos,aft,none⟩::rest) Q f H ds w=(Zb5 (Xy c f (Z5 _)) (Jm (Xy a f (Z5 _)) (fun a=>ZZ P hn dr ops rest Q (ZS f dst a) H ds (Z5 _)) (Z5 _)) (Jm (Xy b f (Z5 _)) (fun a=>ZZ P hn dr ops rest Q (ZS f dst a) H ds (Z5 _)) (Z5 _)) (Z5 _) (Z5 _)):=(rfl)
@[simp ↓] theorem Zuk (j:Nat) (want:Bool) (c a b:Operand) (w:ZQ (hn,ops,Oper.mk dst (.pick c a b) ty pos aft (some (j,want))::rest,Q,f,H,ds)):ZZ P hn dr ops (⟨dst,.pick c a b,ty,pos,aft,some (j,want)⟩::rest) Q f H ds w=Y6 (fW (gdW j ops (Z5 _)) f (Z5 _)) want (Zb5 (Xy c f (Z5 _)) (Jm (Xy a f (Z5 _)) (fun a=>ZZ P hn dr ops rest Q (ZS f dst a) H ds (Z5 _)) (Z5 _)) (Jm (Xy b f (Z5 _)) (fun a=>ZZ P hn dr ops rest Q (ZS f dst a) H ds (Z5 _)) (Z5 _)) (Z5 _) (Z5 _)) (ZZ P hn dr ops rest Q (ZS f dst (.tup [])) H ds (Z5 _)) (Z5 _) (Z5 _):=(rfl)
@[simp ↓] theorem ZvA (t:TypeId) (w:ZQ (hn,ops,Oper.mk dst (.alloc t) ty pos aft none::rest,Q,f,H,ds)):ZZ P hn dr ops (⟨dst,.alloc t,ty,pos,aft,none⟩::rest) Q f H ds w=(Z8 (Jq P t) (fun z=>Zdz (H++[.box t (z.cells.toList.map .v)]) (fun H'=>ZZ P hn dr ops rest Q (ZS f dst (.bp H.length 0)) H' ds (Z5 _)) (Z5 _)) (Z5 _)):=(rfl)
@[simp ↓] theorem ZxB (t:TypeId) (x:Operand) (w:ZQ (hn,ops,Oper.mk dst (.box t x) ty pos aft none::rest,Q,f,H,ds)):ZZ P hn dr ops (⟨dst,.box t x,ty,pos,aft,none⟩::rest) Q f H ds w=(Z8 (YA (Xy x f (Z5 _))) (fun cs=>Zdz (H++[.box t cs]) (fun H'=>ZZ P hn dr ops rest Q (ZS f dst (.bp H.length 0)) H' ds (Z5 _)) (Z5 _)) (Z5 _)):=(rfl)
@[simp ↓] theorem Zwb (t:TypeId) (x:Operand) (w:ZQ (hn,ops,Oper.mk dst (.load t x) ty pos aft none::rest,Q,f,H,ds)):ZZ P hn dr ops (⟨dst,.load t x,ty,pos,aft,none⟩::rest) Q f H ds w=(Z8 (Ja H (Xy x f (Z5 _))) (fun cs=>Z8 (Yt P t) (fun sz=>Z8 (Y4 P t) (fun b=>Z8 (ZdG b sz cs) (fun r=>ZZ P hn dr ops rest Q (ZS f dst r) H ds (Z5 _)) (Z5 _)) (Z5 _)) (Z5 _)) (Z5 _)):=(rfl)
@[simp ↓] theorem ZtM (j:Nat) (want:Bool) (t:TypeId) (x:Operand) (w:ZQ (hn,ops,Oper.mk dst (.load t x) ty pos aft (some (j,want))::rest,Q,f,H,ds)):ZZ P hn dr ops (⟨dst,.load t x,ty,pos,aft,some (j,want)⟩::rest) Q f H ds w=Y6 (fW (gdW j ops (Z5 _)) f (Z5 _)) want (Z8 (Ja H (Xy x f (Z5 _))) (fun cs=>Z8 (Yt P t) (fun sz=>Z8 (Y4 P t) (fun b=>Z8 (ZdG b sz cs) (fun r=>ZZ P hn dr ops rest Q (ZS f dst r) H ds (Z5 _)) (Z5 _)) (Z5 _)) (Z5 _)) (Z5 _)) (ZZ P hn dr ops rest Q (ZS f dst (.tup [])) H ds (Z5 _)) (Z5 _) (Z5 _):=(rfl)
@[simp ↓] theorem ZuW (t:TypeId) (a x:Operand) (w:ZQ (hn,ops,Oper.mk dst (.store t a x) ty pos aft none::rest,Q,f,H,ds)):ZZ P hn dr ops (⟨dst,.store t a x,ty,pos,aft,none⟩::rest) Q f H ds w=(Z8 (YA (Xy x f (Z5 _))) (fun xs=>JQ (Yt P t=some xs.length∧xs.all AV.one=true) (Z8 (ZbZ H (Xy a f (Z5 _)) xs) (fun H'=>ZZ P hn dr ops rest Q (ZS f dst (.tup [])) H' ds (Z5 _)) (Z5 _)) (Z5 _)) (Z5 _)):=(rfl)
@[simp ↓] theorem Zq7 (s:TypeId) (x:Operand) (i:Nat) (w:ZQ (hn,ops,Oper.mk dst (.fieldAddr s x i) ty pos aft none::rest,Q,f,H,ds)):ZZ P hn dr ops (⟨dst,.fieldAddr s x i,ty,pos,aft,none⟩::rest) Q f H ds w=(Z8 (Y5 P s i) (fun fl=>Z8 (Ja H (Xy x f (Z5 _))) (fun _=>JQ (fl.2.1≠0) (Z8 (ZgD (Xy x f (Z5 _)) fl.1) (fun p=>ZZ P hn dr ops rest Q (ZS f dst p) H ds (Z5 _)) (Z5 _)) (Z5 _)) (Z5 _)) (Z5 _)):=(rfl)
@[simp ↓] theorem Zp2 (j:Nat) (want:Bool) (s:TypeId) (x:Operand) (i:Nat) (w:ZQ (hn,ops,Oper.mk dst (.fieldAddr s x i) ty pos aft (some (j,want))::rest,Q,f,H,ds)):ZZ P hn dr ops (⟨dst,.fieldAddr s x i,ty,pos,aft,some (j,want)⟩::rest) Q f H ds w=Y6 (fW (gdW j ops (Z5 _)) f (Z5 _)) want (Z8 (Y5 P s i) (fun fl=>Z8 (Ja H (Xy x f (Z5 _))) (fun _=>JQ (fl.2.1≠0) (Z8 (ZgD (Xy x f (Z5 _)) fl.1) (fun p=>ZZ P hn dr ops rest Q (ZS f dst p) H ds (Z5 _)) (Z5 _)) (Z5 _)) (Z5 _)) (Z5 _)) (ZZ P hn dr ops rest Q (ZS f dst (.tup [])) H ds (Z5 _)) (Z5 _) (Z5 _):=(rfl)
@[simp ↓] theorem Zv4 (s:TypeId) (x:Operand) (i:Nat) (w:ZQ (hn,ops,Oper.mk dst (.field s x i) ty pos aft none::rest,Q,f,H,ds)):ZZ P hn dr ops (⟨dst,.field s x i,ty,pos,aft,none⟩::rest) Q f H ds w=(Z8 (Y5 P s i) (fun fl=>Z8 (Zby (Xy x f (Z5 _))) (fun cs=>Z8 (Zc6 fl.2.2 fl.2.1 fl.1 cs) (fun r=>ZZ P hn dr ops rest Q (ZS f dst r) H ds (Z5 _)) (Z5 _)) (Z5 _)) (Z5 _)):=(rfl)
@[simp ↓] theorem Ztn (j:Nat) (want:Bool) (s:TypeId) (x:Operand) (i:Nat) (w:ZQ (hn,ops,Oper.mk dst (.field s x i) ty pos aft (some (j,want))::rest,Q,f,H,ds)):ZZ P hn dr ops (⟨dst,.field s x i,ty,pos,aft,some (j,want)⟩::rest) Q f H ds w=Y6 (fW (gdW j ops (Z5 _)) f (Z5 _)) want (Z8 (Y5 P s i) (fun fl=>Z8 (Zby (Xy x f (Z5 _))) (fun cs=>Z8 (Zc6 fl.2.2 fl.2.1 fl.1 cs) (fun r=>ZZ P hn dr ops rest Q (ZS f dst r) H ds (Z5 _)) (Z5 _)) (Z5 _)) (Z5 _)) (ZZ P hn dr ops rest Q (ZS f dst (.tup [])) H ds (Z5 _)) (Z5 _) (Z5 _):=(rfl)
@[simp ↓] theorem ZuC (t:TypeId) (x:Operand) (lo hi:Option Operand) (w:ZQ (hn,ops,Oper.mk dst (.slice t x lo hi none) ty pos aft none::rest,Q,f,H,ds)):ZZ P hn dr ops (⟨dst,.slice t x lo hi none,ty,pos,aft,none⟩::rest) Q f H ds w=(Z8 (ZaG P t) (fun e=>Z8 (Yt P e) (fun sz=>Z8 (Zgh (lo.map fun x=>Xy x f (Z5 _))) (fun l=>Z8 (Zgh (hi.map fun x=>Xy x f (Z5 _))) (fun hh=>ZgZ H sz (Xy x f (Z5 _)) l hh (fun r=>Jm (r) (fun r=>ZZ P hn dr ops rest Q (ZS f dst r) H ds (Z5 _)) (Z5 _)) (Z5 _)) (Z5 _)) (Z5 _)) (Z5 _)) (Z5 _)):=(rfl)
@[simp ↓] theorem ZsZ (j:Nat) (want:Bool) (t:TypeId) (x:Operand) (lo hi:Option Operand) (w:ZQ (hn,ops,Oper.mk dst (.slice t x lo hi none) ty pos aft (some (j,want))::rest,Q,f,H,ds)):ZZ P hn dr ops (⟨dst,.slice t x lo hi none,ty,pos,aft,some (j,want)⟩::rest) Q f H ds w=Y6 (fW (gdW j ops (Z5 _)) f (Z5 _)) want (Z8 (ZaG P t) (fun e=>Z8 (Yt P e) (fun sz=>Z8 (Zgh (lo.map fun x=>Xy x f (Z5 _))) (fun l=>Z8 (Zgh (hi.map fun x=>Xy x f (Z5 _))) (fun hh=>ZgZ H sz (Xy x f (Z5 _)) l hh (fun r=>Jm (r) (fun r=>ZZ P hn dr ops rest Q (ZS f dst r) H ds (Z5 _)) (Z5 _)) (Z5 _)) (Z5 _)) (Z5 _)) (Z5 _)) (Z5 _)) (ZZ P hn dr ops rest Q (ZS f dst (.tup [])) H ds (Z5 _)) (Z5 _) (Z5 _):=(rfl)
@[simp ↓] theorem ZvV (op:UnOp) (t:TypeId) (x:Operand) (w:ZQ (hn,ops,Oper.mk dst (.unOp op t x) ty pos aft none::rest,Q,f,H,ds)):ZZ P hn dr ops (⟨dst,.unOp op t x,ty,pos,aft,none⟩::rest) Q f H ds w=(Z8 (unA op (Xy x f (Z5 _))) (fun r=>ZZ P hn dr ops rest Q (ZS f dst r) H ds (Z5 _)) (Z5 _)):=(rfl)
@[simp ↓] theorem Zuy (j:Nat) (want:Bool) (op:UnOp) (t:TypeId) (x:Operand) (w:ZQ (hn,ops,Oper.mk dst (.unOp op t x) ty pos aft (some (j,want))::rest,Q,f,H,ds)):ZZ P hn dr ops (⟨dst,.unOp op t x,ty,pos,aft,some (j,want)⟩::rest) Q f H ds w=Y6 (fW (gdW j ops (Z5 _)) f (Z5 _)) want (Z8 (unA op (Xy x f (Z5 _))) (fun r=>ZZ P hn dr ops rest Q (ZS f dst r) H ds (Z5 _)) (Z5 _)) (ZZ P hn dr ops rest Q (ZS f dst (.tup [])) H ds (Z5 _)) (Z5 _) (Z5 _):=(rfl)
@[simp ↓] theorem Zt2 (s t:TypeId) (x:Operand) (w:ZQ (hn,ops,Oper.mk dst (.convert s t x) ty pos aft none::rest,Q,f,H,ds)):ZZ P hn dr ops (⟨dst,.convert s t x,ty,pos,aft,none⟩::rest) Q f H ds w=(ZnN P s t (kOf P t) (Xy x f (Z5 _)) (fun r=>Jm (r) (fun r=>ZZ P hn dr ops rest Q (ZS f dst r) H ds (Z5 _)) (Z5 _)) (Z5 _)):=(rfl)
@[simp ↓] theorem ZwB (x y:Operand) (ts:Array TypeId) (w:ZQ (hn,ops,Oper.mk dst (.call ⟨.builtin .min,#[x,y],ts⟩) ty pos aft none::rest,Q,f,H,ds)):ZZ P hn dr ops (⟨dst,.call ⟨.builtin .min,#[x,y],ts⟩,ty,pos,aft,none⟩::rest) Q f H ds w=(Z8 (ZoA (Xy x f (Z5 _)) (Xy y f (Z5 _))) (fun r=>ZZ P hn dr ops rest Q (ZS f dst r) H ds (Z5 _)) (Z5 _)):=(rfl)
@[simp ↓] theorem ZrM (x:Operand) (w:ZQ (hn,ops,Oper.mk dst (.nilCheck x) ty pos aft none::rest,Q,f,H,ds)):ZZ P hn dr ops (⟨dst,.nilCheck x,ty,pos,aft,none⟩::rest) Q f H ds w=(Z8 (Ja H (Xy x f (Z5 _))) (fun _=>Jm (Xy x f (Z5 _)) (fun a=>ZZ P hn dr ops rest Q (ZS f dst a) H ds (Z5 _)) (Z5 _)) (Z5 _)):=(rfl)
@[simp ↓] theorem ZpG (j:Nat) (want:Bool) (x:Operand) (w:ZQ (hn,ops,Oper.mk dst (.nilCheck x) ty pos aft (some (j,want))::rest,Q,f,H,ds)):ZZ P hn dr ops (⟨dst,.nilCheck x,ty,pos,aft,some (j,want)⟩::rest) Q f H ds w=Y6 (fW (gdW j ops (Z5 _)) f (Z5 _)) want (Z8 (Ja H (Xy x f (Z5 _))) (fun _=>Jm (Xy x f (Z5 _)) (fun a=>ZZ P hn dr ops rest Q (ZS f dst a) H ds (Z5 _)) (Z5 _)) (Z5 _)) (ZZ P hn dr ops rest Q (ZS f dst (.tup [])) H ds (Z5 _)) (Z5 _) (Z5 _):=(rfl)
@[simp ↓] theorem Zsk (x:Operand) (i:Nat) (w:ZQ (hn,ops,Oper.mk dst (.extract x i) ty pos aft none::rest,Q,f,H,ds)):ZZ P hn dr ops (⟨dst,.extract x i,ty,pos,aft,none⟩::rest) Q f H ds w=(Z8 (Znp (Xy x f (Z5 _)) i) (fun r=>ZZ P hn dr ops rest Q (ZS f dst r) H ds (Z5 _)) (Z5 _)):=(rfl)
@[simp ↓] theorem ZmX (t:TypeId) (x:Operand) (w:ZQ (hn,ops,Oper.mk dst (.makeInterface t x) ty pos aft none::rest,Q,f,H,ds)):ZZ P hn dr ops (⟨dst,.makeInterface t x,ty,pos,aft,none⟩::rest) Q f H ds w=(JQ (ZbY P t=true) (Jm (.ifc t (Xy x f (Z5 _))) (fun a=>ZZ P hn dr ops rest Q (ZS f dst a) H ds (Z5 _)) (Z5 _)) (Z5 _)):=(rfl)
@[simp ↓] theorem Zu1 (t:TypeId) (l:List (Nat×Operand)) (w:ZQ (hn,ops,Oper.mk dst (.build t l.toArray) ty pos aft none::rest,Q,f,H,ds)):ZZ P hn dr ops (⟨dst,.build t l.toArray,ty,pos,aft,none⟩::rest) Q f H ds w=(Z8 (Zbr P t) (fun zp=>Z8 (Zdg (fun i=>zp.2[i]?) (zp.1.map .v) (evp l f (Z5 _))) (fun cs=>ZZ P hn dr ops rest Q (ZS f dst (.agg cs)) H ds (Z5 _)) (Z5 _)) (Z5 _)):=(rfl)
@[simp ↓] theorem ZrO (fn:Fn) (l1 l2:List Operand) (w:ZQ (hn,ops,Oper.mk dst (.makeFunc fn l1.toArray l2.toArray) ty pos aft none::rest,Q,f,H,ds)):ZZ P hn dr ops (⟨dst,.makeFunc fn l1.toArray l2.toArray,ty,pos,aft,none⟩::rest) Q f H ds w=(Jm (.fn fn (evs l1 f (Z5 _)) (evs l2 f (Z5 _))) (fun a=>ZZ P hn dr ops rest Q (ZS f dst a) H ds (Z5 _)) (Z5 _)):=(rfl)
@[simp ↓] theorem ZuM (x:Operand) (w:ZQ (hn,ops,Oper.mk dst (.panic x) ty pos aft none::rest,Q,f,H,ds)):ZZ P hn dr ops (⟨dst,.panic x,ty,pos,aft,none⟩::rest) Q f H ds w=(Jm (Xy x f (Z5 _)) (fun a=>Zt5 a (QW Q (.pan a) (Zj8 dr ops f) H ds (Z5 _)) (Z5 _)) (Z5 _)):=(rfl)
@[simp ↓] theorem ZpF (x:Operand) (s t:TypeId) (ok:Bool) (w:ZQ (hn,ops,Oper.mk dst (.typeAssert x s t ok) ty pos aft none::rest,Q,f,H,ds)):ZZ P hn dr ops (⟨dst,.typeAssert x s t ok,ty,pos,aft,none⟩::rest) Q f H ds w=(JQ (ZbY P t=true) (Z8 (Jq P t) (fun z=>Z8 (Je (Xy x f (Z5 _)) t z ok) (fun r=>ZZ P hn dr ops rest Q (ZS f dst r) H ds (Z5 _)) (Z5 _)) (Z5 _)) (Z5 _)):=(rfl)
@[simp ↓] theorem ZuJ (t:TypeId) (x:Operand) (w:ZQ (hn,ops,Oper.mk dst (.range t x) ty pos aft none::rest,Q,f,H,ds)):ZZ P hn dr ops (⟨dst,.range t x,ty,pos,aft,none⟩::rest) Q f H ds w=JQ (Zgb P t=true) (Zn9 H (Xy x f (Z5 _)) (fun r H'=>ZZ P hn dr ops rest Q (ZS f dst r) H' ds (Z5 _)) (Z5 _)) (Z5 _):=(rfl)
@[simp ↓] theorem Zwr (x:Operand) (w:ZQ (hn,ops,Oper.mk dst (.next x false) ty pos aft none::rest,Q,f,H,ds)):ZZ P hn dr ops (⟨dst,.next x false,ty,pos,aft,none⟩::rest) Q f H ds w=Znt H (Xy x f (Z5 _)) (fun r H'=>ZZ P hn dr ops rest Q (ZS f dst r) H' ds (Z5 _)) (Z5 _):=(rfl)
@[simp ↓] theorem ZvJ (x:Operand) (w:ZQ (hn,ops,Oper.mk dst (.entry x) ty pos aft none::rest,Q,f,H,ds)):ZZ P hn dr ops (⟨dst,.entry x,ty,pos,aft,none⟩::rest) Q f H ds w=Zkm H (Xy x f (Z5 _)) (fun r H'=>ZZ P hn dr ops rest Q (ZS f dst r) H' ds (Z5 _)) (Z5 _):=(rfl)
@[simp ↓] theorem Ztr (t:TypeId) (w:ZQ (hn,ops,Oper.mk dst (.makeMap t none) ty pos aft none::rest,Q,f,H,ds)):ZZ P hn dr ops (⟨dst,.makeMap t none,ty,pos,aft,none⟩::rest) Q f H ds w=(Zdz (H++[.map []]) (fun H'=>ZZ P hn dr ops rest Q (ZS f dst (.hm H.length)) H' ds (Z5 _)) (Z5 _)):=(rfl)
@[simp ↓] theorem ZtZ (t:TypeId) (x i:Operand) (ok:Bool) (w:ZQ (hn,ops,Oper.mk dst (.lookup t x i ok) ty pos aft none::rest,Q,f,H,ds)) (hm:(Xu P t).isSome=true):ZZ P hn dr ops (⟨dst,.lookup t x i ok,ty,pos,aft,none⟩::rest) Q f H ds w=(Z8 (Xu P t) (fun m=>Z8 (Y3 H (Xy x f (Z5 _))) (fun es=>Z8 (Zdp (Xy i f (Z5 _))) (fun k=>Z8 (Zbw m.1 k es) (fun r=>Jm (if ok then .tup [r.getD (Je.avZ m.2),.v (.bool r.isSome)] else r.getD (Je.avZ m.2)) (fun a=>ZZ P hn dr ops rest Q (ZS f dst a) H ds (Z5 _)) (Z5 _)) (Z5 _)) (Z5 _)) (Z5 _)) (Z5 _)):=by
  simp only [ZZ,vcL,ZaQ,if_pos hm];rfl
@[simp ↓] theorem ZrP (j:Nat) (want:Bool) (t:TypeId) (x i:Operand) (ok:Bool) (w:ZQ (hn,ops,Oper.mk dst (.lookup t x i ok) ty pos aft (some (j,want))::rest,Q,f,H,ds)) (hm:(Xu P t).isSome=true):ZZ P hn dr ops (⟨dst,.lookup t x i ok,ty,pos,aft,some (j,want)⟩::rest) Q f H ds w=Y6 (fW (gdW j ops (Z5 _)) f (Z5 _)) want (Z8 (Xu P t) (fun m=>Z8 (Y3 H (Xy x f (Z5 _))) (fun es=>Z8 (Zdp (Xy i f (Z5 _))) (fun k=>Z8 (Zbw m.1 k es) (fun r=>Jm (if ok then .tup [r.getD (Je.avZ m.2),.v (.bool r.isSome)] else r.getD (Je.avZ m.2)) (fun a=>ZZ P hn dr ops rest Q (ZS f dst a) H ds (Z5 _)) (Z5 _)) (Z5 _)) (Z5 _)) (Z5 _)) (Z5 _)) (ZZ P hn dr ops rest Q (ZS f dst (.tup [])) H ds (Z5 _)) (Z5 _) (Z5 _):=by
  simp only [ZZ,vcL,ZaQ,if_pos hm];rfl
@[simp ↓] theorem Zqc (t:TypeId) (m i x:Operand) (w:ZQ (hn,ops,Oper.mk dst (.mapUpdate t m i x) ty pos aft none::rest,Q,f,H,ds)) (hm:(Xu P t).isSome=true):ZZ P hn dr ops (⟨dst,.mapUpdate t m i x,ty,pos,aft,none⟩::rest) Q f H ds w=(Z8 (Xu P t) (fun mm=>ZgT H (Xy m f (Z5 _)) (Zdp (Xy i f (Z5 _))) (Xy x f (Z5 _)) mm.1 (fun H'=>ZZ P hn dr ops rest Q (ZS f dst (.tup [])) H' ds (Z5 _)) (Z5 _)) (Z5 _)):=by
  simp only [ZZ,vcL,ZaQ,if_pos hm];rfl
@[simp ↓] theorem Zux (t:TypeId) (m i x:Operand) (w:ZQ (hn,ops,Oper.mk dst (.insert t m i x) ty pos aft none::rest,Q,f,H,ds)) (hm:(Xu P t).isSome=true):ZZ P hn dr ops (⟨dst,.insert t m i x,ty,pos,aft,none⟩::rest) Q f H ds w=(Z8 (Xu P t) (fun mm=>ZgT H (Xy m f (Z5 _)) (Zdp (Xy i f (Z5 _))) (Xy x f (Z5 _)) mm.1 (fun H'=>ZZ P hn dr ops rest Q (ZS f dst (.tup [])) H' ds (Z5 _)) (Z5 _)) (Z5 _)):=by
  simp only [ZZ,vcL,ZaQ,if_pos hm];rfl
@[simp ↓] theorem Zw2 (fo:Operand) (l:List Operand) (ts:Array TypeId) (w:ZQ (hn,ops,Oper.mk dst (.call ⟨.value fo,l.toArray,ts⟩) ty pos aft none::rest,Q,f,H,ds)):ZZ P hn dr ops (⟨dst,.call ⟨.value fo,l.toArray,ts⟩,ty,pos,aft,none⟩::rest) Q f H ds w=(Zcm P hn dr H dst (Xy fo f (Z5 _)) (evs l f (Z5 _)) (fun r H'=>ZZ P hn dr ops rest Q (ZS f dst r) H' ds (Z5 _)) (fun x H'=>QW Q (.pan x) (Zj8 dr ops f) H' ds (Z5 _)) (Z5 _) (Z5 _)):=(rfl)
@[simp ↓] theorem ZtS (j:Nat) (want:Bool) (fo:Operand) (l:List Operand) (ts:Array TypeId) (w:ZQ (hn,ops,Oper.mk dst (.call ⟨.value fo,l.toArray,ts⟩) ty pos aft (some (j,want))::rest,Q,f,H,ds)):ZZ P hn dr ops (⟨dst,.call ⟨.value fo,l.toArray,ts⟩,ty,pos,aft,some (j,want)⟩::rest) Q f H ds w=Y6 (fW (gdW j ops (Z5 _)) f (Z5 _)) want (Zcm P hn dr H dst (Xy fo f (Z5 _)) (evs l f (Z5 _)) (fun r H'=>ZZ P hn dr ops rest Q (ZS f dst r) H' ds (Z5 _)) (fun x H'=>QW Q (.pan x) (Zj8 dr ops f) H' ds (Z5 _)) (Z5 _) (Z5 _)) (ZZ P hn dr ops rest Q (ZS f dst (.tup [])) H ds (Z5 _)) (Z5 _) (Z5 _):=(rfl)
@[simp ↓] theorem ZtT (m i:Operand) (t t':TypeId) (w:ZQ (hn,ops,Oper.mk dst (.call ⟨.builtin .delete,#[m,i],#[t,t']⟩) ty pos aft none::rest,Q,f,H,ds)):ZZ P hn dr ops (⟨dst,.call ⟨.builtin .delete,#[m,i],#[t,t']⟩,ty,pos,aft,none⟩::rest) Q f H ds w=(Z8 (Xu P t) (fun mm=>Zn5 H (Xy m f (Z5 _)) (Zdp (Xy i f (Z5 _))) mm.1 (fun H'=>ZZ P hn dr ops rest Q (ZS f dst (.tup [])) H' ds (Z5 _)) (Z5 _)) (Z5 _)):=(rfl)
@[simp ↓] theorem ZwP (x:Operand) (t:TypeId) (w:ZQ (hn,ops,Oper.mk dst (.call ⟨.builtin .len,#[x],#[t]⟩) ty pos aft none::rest,Q,f,H,ds)):ZZ P hn dr ops (⟨dst,.call ⟨.builtin .len,#[x],#[t]⟩,ty,pos,aft,none⟩::rest) Q f H ds w=(Z8 (Zev H (ZaY P t) (Xy x f (Z5 _))) (fun n=>ZZ P hn dr ops rest Q (ZS f dst (.v (.int .i64 n))) H ds (Z5 _)) (Z5 _)):=(rfl)
@[simp ↓] theorem ZuK (j:Nat) (want:Bool) (x:Operand) (t:TypeId) (w:ZQ (hn,ops,Oper.mk dst (.call ⟨.builtin .len,#[x],#[t]⟩) ty pos aft (some (j,want))::rest,Q,f,H,ds)):ZZ P hn dr ops (⟨dst,.call ⟨.builtin .len,#[x],#[t]⟩,ty,pos,aft,some (j,want)⟩::rest) Q f H ds w=Y6 (fW (gdW j ops (Z5 _)) f (Z5 _)) want (Z8 (Zev H (ZaY P t) (Xy x f (Z5 _))) (fun n=>ZZ P hn dr ops rest Q (ZS f dst (.v (.int .i64 n))) H ds (Z5 _)) (Z5 _)) (ZZ P hn dr ops rest Q (ZS f dst (.tup [])) H ds (Z5 _)) (Z5 _) (Z5 _):=(rfl)
@[simp ↓] theorem Zuj (s x:Operand) (t t':TypeId) (w:ZQ (hn,ops,Oper.mk dst (.call ⟨.builtin .append,#[s,x],#[t,t']⟩) ty pos aft none::rest,Q,f,H,ds)):ZZ P hn dr ops (⟨dst,.call ⟨.builtin .append,#[s,x],#[t,t']⟩,ty,pos,aft,none⟩::rest) Q f H ds w=(JQ (t=t') (Z8 (Xg P t) (fun sl=>apV H hn dst sl (Xy s f (Z5 _)) (Xy x f (Z5 _)) (fun r H'=>vcL P hn dr ops rest Q (ZS f dst r) H' ds) (Z5 _)) (Z5 _)) (Z5 _)):=(rfl)
@[simp ↓] theorem ZuG (op:BinOp) (t t':TypeId) (x y:Operand) (w:ZQ (hn,ops,Oper.mk dst (.binOp op t x y t') ty pos aft none::rest,Q,f,H,ds)):ZZ P hn dr ops (⟨dst,.binOp op t x y t',ty,pos,aft,none⟩::rest) Q f H ds w=(Zgl P op t (Zbe x||Zbe y) (Zbz y) (Xy x f (Z5 _)) (Xy y f (Z5 _)) (fun r=>ZZ P hn dr ops rest Q (ZS f dst r) H ds (Z5 _)) (Z5 _)):=(rfl)
@[simp ↓] theorem ZsD (j:Nat) (want:Bool) (op:BinOp) (t t':TypeId) (x y:Operand) (w:ZQ (hn,ops,Oper.mk dst (.binOp op t x y t') ty pos aft (some (j,want))::rest,Q,f,H,ds)):ZZ P hn dr ops (⟨dst,.binOp op t x y t',ty,pos,aft,some (j,want)⟩::rest) Q f H ds w=Y6 (fW (gdW j ops (Z5 _)) f (Z5 _)) want (Zgl P op t (Zbe x||Zbe y) (Zbz y) (Xy x f (Z5 _)) (Xy y f (Z5 _)) (fun r=>ZZ P hn dr ops rest Q (ZS f dst r) H ds (Z5 _)) (Z5 _)) (ZZ P hn dr ops rest Q (ZS f dst (.tup [])) H ds (Z5 _)) (Z5 _) (Z5 _):=(rfl)
@[simp ↓] theorem ZpE (t:TypeId) (len:Nat) (l:List (Nat×Operand)) (w:ZQ (hn,ops,Oper.mk dst (.buildSlice t len l.toArray) ty pos aft none::rest,Q,f,H,ds)):ZZ P hn dr ops (⟨dst,.buildSlice t len l.toArray,ty,pos,aft,none⟩::rest) Q f H ds w=(Z8 (Xg P t) (fun sl=>JQ (len*sl.2.1≤2^24) (Z8 (Zak sl.2.1 (List.replicate len (sl.2.2.1.map .v)) (evp l f (Z5 _))) (fun es=>bsV H hn dst sl es len (fun r H'=>vcL P hn dr ops rest Q (ZS f dst r) H' ds) (Z5 _)) (Z5 _)) (Z5 _)) (Z5 _)):=(rfl)
@[simp ↓] theorem Zn3 (j:Nat) (want:Bool) (t:TypeId) (len:Nat) (l:List (Nat×Operand)) (w:ZQ (hn,ops,Oper.mk dst (.buildSlice t len l.toArray) ty pos aft (some (j,want))::rest,Q,f,H,ds)):ZZ P hn dr ops (⟨dst,.buildSlice t len l.toArray,ty,pos,aft,some (j,want)⟩::rest) Q f H ds w=Y6 (fW (gdW j ops (Z5 _)) f (Z5 _)) want (Z8 (Xg P t) (fun sl=>JQ (len*sl.2.1≤2^24) (Z8 (Zak sl.2.1 (List.replicate len (sl.2.2.1.map .v)) (evp l f (Z5 _))) (fun es=>bsV H hn dst sl es len (fun r H'=>vcL P hn dr ops rest Q (ZS f dst r) H' ds) (Z5 _)) (Z5 _)) (Z5 _)) (Z5 _)) (ZZ P hn dr ops rest Q (ZS f dst (.tup [])) H ds (Z5 _)) (Z5 _) (Z5 _):=(rfl)
@[simp ↓] theorem Zrn (t:TypeId) (x i:Operand) (w:ZQ (hn,ops,Oper.mk dst (.indexAddr t x i) ty pos aft none::rest,Q,f,H,ds)):ZZ P hn dr ops (⟨dst,.indexAddr t x i,ty,pos,aft,none⟩::rest) Q f H ds w=(JK P H t (Xy x f (Z5 _)) (Xy i f (Z5 _)) (fun r=>Jm (r) (fun r=>ZZ P hn dr ops rest Q (ZS f dst r) H ds (Z5 _)) (Z5 _)) (Z5 _)):=(rfl)
@[simp ↓] theorem ZoR (j:Nat) (want:Bool) (t:TypeId) (x i:Operand) (w:ZQ (hn,ops,Oper.mk dst (.indexAddr t x i) ty pos aft (some (j,want))::rest,Q,f,H,ds)):ZZ P hn dr ops (⟨dst,.indexAddr t x i,ty,pos,aft,some (j,want)⟩::rest) Q f H ds w=Y6 (fW (gdW j ops (Z5 _)) f (Z5 _)) want (JK P H t (Xy x f (Z5 _)) (Xy i f (Z5 _)) (fun r=>Jm (r) (fun r=>ZZ P hn dr ops rest Q (ZS f dst r) H ds (Z5 _)) (Z5 _)) (Z5 _)) (ZZ P hn dr ops rest Q (ZS f dst (.tup [])) H ds (Z5 _)) (Z5 _) (Z5 _):=(rfl)
@[simp ↓] theorem Zu4 (t:TypeId) (x i:Operand) (w:ZQ (hn,ops,Oper.mk dst (.index t x i) ty pos aft none::rest,Q,f,H,ds)):ZZ P hn dr ops (⟨dst,.index t x i,ty,pos,aft,none⟩::rest) Q f H ds w=(Zf4 P t (Xy x f (Z5 _)) (Xy i f (Z5 _)) (fun r=>Jm (r) (fun r=>ZZ P hn dr ops rest Q (ZS f dst r) H ds (Z5 _)) (Z5 _)) (Z5 _)):=(rfl)
@[simp ↓] theorem Zta (j:Nat) (want:Bool) (t:TypeId) (x i:Operand) (w:ZQ (hn,ops,Oper.mk dst (.index t x i) ty pos aft (some (j,want))::rest,Q,f,H,ds)):ZZ P hn dr ops (⟨dst,.index t x i,ty,pos,aft,some (j,want)⟩::rest) Q f H ds w=Y6 (fW (gdW j ops (Z5 _)) f (Z5 _)) want (Zf4 P t (Xy x f (Z5 _)) (Xy i f (Z5 _)) (fun r=>Jm (r) (fun r=>ZZ P hn dr ops rest Q (ZS f dst r) H ds (Z5 _)) (Z5 _)) (Z5 _)) (ZZ P hn dr ops rest Q (ZS f dst (.tup [])) H ds (Z5 _)) (Z5 _) (Z5 _):=(rfl)
@[simp ↓] theorem ZuI (fo:Operand) (l:List Operand) (ts:Array TypeId) (w:ZQ (hn,ops,Oper.mk dst (.defer ⟨.value fo,l.toArray,ts⟩) ty pos aft none::rest,Q,f,H,ds)):ZZ P hn dr ops (⟨dst,.defer ⟨.value fo,l.toArray,ts⟩,ty,pos,aft,none⟩::rest) Q f H ds w=ZfT P (Xy fo f (Z5 _)) (evs l f (Z5 _)) (fun d=>vcL P hn dr ops rest Q (ZS f dst (.tup [])) H (d::ds)):=(rfl)
@[simp] theorem ZyG (l:List Oper):vcL P hn dr ops l Q f H ds=ZZ P hn dr ops l Q f H ds (Z5 _):=(rfl)
@[simp] theorem ZyB (n:Nat) (c:Code):vcC P hn od n c Q f H ds=Zdc P hn od n c Q f H ds (Z5 _):=(rfl)
@[simp ↓] theorem ZrQ (a:AV) (as:List AV) (i t:Nat):frm (a::as) i t=if t=i then a else frm as (i+1) t:=(rfl)
@[simp low] theorem Zy5 (t:Nat) (f:Fr) (w:ZQ f):fW t f w=f t:=(rfl)
theorem Ju {P:Program} {hn:Nat→Bool} {od:Nat→Option Y7} {n:Nat} {c:Code} {Q:AQ} {f:Fr} {H:List Ze} {ds:List ZO} {w:ZQ (n,Code.loop c,Q,f,H,ds)} {α:Type} (I:α→Fr→List Ze→Prop) (μ:α→Nat) (hs:(P.follows .mixedOrders&&JM hn od n c)=true) (x0:α) (h:I x0 f H)
 (round:∀x f H,I x f H→Zdc P hn od n c (JG (fun f' H' ds'=>ds'=ds∧∃y,μ y<μ x∧I y f' H') Q) f H ds (Z5 _)):Zmg P n (.loop c) Q f H ds w:=by
 simp only [Bool.and_eq_true] at hs
 refine ZlM (fun m f H ds'=>ds'=ds∧∃x,μ x=m∧I x f H) ?_ ⟨rfl,x0,rfl,h⟩
 rintro m f H _ ⟨rfl,x,rfl,hI⟩
 refine (JR hs.1 hs.2 (round x f H hI)).mono fun y f' H' ds' hq=>?_
 cases y<;>first|exact hq|(obtain⟨h1,z,h2,h3⟩:=hq;exact⟨_,h2,h1,z,rfl,h3⟩)
theorem Zv {P:Program} {n:Nat} {c:Code} {Q:AQ} {f:Fr} {H:List Ze} {ds:List ZO} {w:ZQ (n,Code.loop c,Q,f,H,ds)} {α:Type} (I:α→Fr→List Ze→Prop) (μ:α→Nat) (hs:(P.follows .mixedOrders&&JM (fun _=>false) (fun _=>none) n c)=true) (x0:α) (h:I x0 f H) (round:∀x f H,I x f H→Zdc P (fun _=>false) (fun _=>none) n c (JG (fun f' H' ds'=>ds'=ds∧∃y,μ y<μ x∧I y f' H') Q) f H ds (Z5 _)):Zmg P n (.loop c) Q f H ds w:=Ju I μ hs x0 h round
theorem Zg {P:Program} {fid:FuncId} {fn:Func} {c:Code} {args:List AV} {H:List Ze} {R:AE→List Ze→Prop} (hf:P.funcs[fid]?=some fn) (hb:fn.body=some c) (hs:(JM (fun _=>false) (fun _=>none) fn.ntmps c&&fn.results.toList.all (ZdE fn.ntmps)&&decide (args.length≤fn.ntmps)&&P.follows .mixedOrders)=true) (h:vcC P (fun _=>false) (fun _=>none) fn.ntmps c (ZgB P fn.results.toList R) (frm args 0) H []):Zi P fid args H R:=J4 hf hb hs h
end Go.Mu
namespace Go.Mu
open Go.RowKit (Below)
mutual
def AV.frz (k sz:Nat) (es:List (List AV)):AV→AV
 | .hs k' off n ver=>if k'=k∧ver=es.length then .vs sz ((es.drop off).take n) else .hs k' off n ver
 | .fn f a b=>.fn f (Zam k sz es a) (Zam k sz es b)
 | .ifc t x=>.ifc t (AV.frz k sz es x)
 | .agg cs=>.agg (Zam k sz es cs)
 | .tup cs=>.tup (Zam k sz es cs)
 |x=>x
def Zam (k sz:Nat) (es:List (List AV)):List AV→List AV
 |[]=>[]
 |c::cs=>AV.frz k sz es c::Zam k sz es cs
end
theorem Zcg (k sz:Nat) (es:List (List AV)) (l:List AV):Zam k sz es l=l.map (AV.frz k sz es):=by
 induction l with
 |nil=>simp [Zam]
 |cons c cs ih=>simp [Zam,ih]
def Ze.frz (k sz:Nat) (es:List (List AV)):Ze→Ze
 | .box t cs=>.box t (Zam k sz es cs)
 | .row t z rs=>.row t z (rs.map (Zam k sz es))
 | .map ms=>.map (ms.map fun p=>(p.1,AV.frz k sz es p.2))
 | .mapg ms=>.mapg (ms.map fun p=>(p.1,AV.frz k sz es p.2))
 |b=>b
def ZeU (k sz:Nat) (es:List (List AV)) (H:List Ze):List Ze:=(H.map (Ze.frz k sz es)).set k .gone
theorem Zp4 {k sz:Nat} {es:List (List AV)} (b:Ze):(b.frz k sz es).fixed=b.fixed:=by cases b<;>rfl
theorem ZqU {k sz:Nat} {es:List (List AV)} (b:Ze):(b.frz k sz es).live=b.live:=by cases b<;>rfl
theorem Zia {k sz:Nat} {es:List (List AV)} {H:List Ze} {i:Nat} {bl:Ze} (h:(ZeU k sz es H)[i]?=some bl):(i=k∧bl=.gone∧k<H.length)∨(i≠k∧∃b,H[i]?=some b∧bl=b.frz k sz es):=by
 unfold ZeU at h
 rw [List.getElem?_set] at h
 by_cases hi:k=i
 ·subst hi
  simp at h
  exact .inl ⟨rfl,h.2.symm,h.1⟩
 ·rw [if_neg hi,List.getElem?_map] at h
  cases hb:H[i]? with
  |none=>rw [hb] at h;cases h
  |some b=>rw [hb] at h;cases h;exact .inr ⟨fun e=>hi e.symm,b,rfl,rfl⟩
theorem Zh6 {k sz:Nat} {es:List (List AV)} {H:List Ze} {i:Nat} {b:Ze} (hi:i≠k) (h:H[i]?=some b):(ZeU k sz es H)[i]?=some (b.frz k sz es):=by
 unfold ZeU
 rw [List.getElem?_set,if_neg (fun e=>hi e.symm),List.getElem?_map,h];rfl
theorem ZjL {k sz:Nat} {es:List (List AV)} {H:List Ze} {b:Ze} (h:H[k]?=some b):(ZeU k sz es H)[k]?=some .gone:=by
 unfold ZeU
 have:k<(H.map (Ze.frz k sz es)).length:=by simpa using (List.getElem?_eq_some_iff.1 h).1
 simp [List.getElem?_set,(List.getElem?_eq_some_iff.1 h).1]
def Cx.frz (cx:Cx) (k sz:Nat) (es:List (List AV)):Cx:={cx with Φ:=fun b=>cx.Φ b∨b=cx.κ k,H:=ZeU k sz es cx.H}
theorem Zgc {cx:Cx} {k sz:Nat} {es:List (List AV)} {b:Ze} (hk:cx.H[k]?=some b):Le cx (cx.frz k sz es):=by
 refine⟨fun b off x _ hc=>hc,fun _ h=>.inl h,fun i bl h hf=>?_,fun i t z rs h=>?_⟩
 ·by_cases hi:i=k
  ·subst hi;exact⟨.gone,ZjL hk,rfl,rfl⟩
  ·exact⟨_,Zh6 hi h,by rw [Zp4];exact hf,rfl⟩
 ·by_cases hi:i=k
  ·subst hi;exact .inl ⟨.gone,ZjL hk,rfl⟩
  ·exact .inr ⟨_,Zh6 hi h,by simp,fun _=>⟨rfl,rfl⟩⟩
theorem Zfv {B:Nat} {w0:World} {cx:Cx} (h:Yl B w0 cx) {k sz:Nat} {t:TypeId} {es:List (List AV)} (hk:cx.H[k]?=some (.row t sz es)) (hz:es.flatten.all AV.frzB=true) {z:Bool} {a:AV} {y:Value} (hr:Yx cx z a y):
 Yx (cx.frz k sz es) z (a.frz k sz es) y:=by
 have hle:Le cx (cx.frz k sz es):=Zgc hk
 induction hr with
 |v x=>exact .v x
 |vs0 s a cap=>exact .vs0 s a cap
 |vs s rs b o cap vals hf hz hcap hl hn ho hc hr ih=>exact Yx.mono hle (.vs s rs b o cap vals hf hz hcap hl hn ho hc hr)
 |vx s rs b o vals hf hz hl hn ho hc hr ih=>exact Yx.mono hle (.vx s rs b o vals hf hz hl hn ho hc hr)
 |vp cs b o vals hf hn hc hr ih=>exact Yx.mono hle (.vp cs b o vals hf hn hc hr)
 |bp k' off bl hk' hf=>exact Yx.mono hle (.bp k' off bl hk' hf)
 |rp k' ver i off y ho bl hk' hp=>exact Yx.mono hle (.rp k' ver i off y ho bl hk' hp)
 |hm k' bl hk' hf=>exact Yx.mono hle (.hm k' bl hk' hf)
 |hg k' bl hk' hf=>exact Yx.mono hle (.hg k' bl hk' hf)
 |hi k' bl hk' hf=>exact Yx.mono hle (.hi k' bl hk' hf)
 |yl k' bl hk' hf=>exact Yx.mono hle (.yl k' bl hk' hf)
 |hs k' off n ver y ho bl hk' hp=>
  simp only [AV.frz]
  split
  ·rename_i hc
   obtain⟨rfl,rfl⟩:=hc
   rw [hk] at hk';cases hk'
   rcases hp with hf|⟨t',sz',es',he,hv,hy⟩
   ·simp [Ze.fixed] at hf
   ·cases he
    obtain⟨hoff,rfl⟩:=hy rfl
    obtain⟨b1,b2,b3,b4,b5,b6,cur,b7,b8,b9,b10⟩:=h.blk _ _ hk
    have hlen:((es.drop off).take n).length=n:=by simp;omega
    have hl2:∀e∈(es.drop off).take n,e.length=sz:=fun e he=>b4 e (List.mem_of_mem_drop (List.mem_of_mem_take he))
    have hrep:ZN cx false ((es.drop off).take n).flatten (((cur.take (es.length*sz)).drop (off*sz)).take (n*sz)):=by
     rw [Zad _ sz _ (fun e he=>b4 e (List.mem_of_mem_drop he)),ZaJ _ sz _ b4]
     exact (b9.drop _).take _
    have hst:ZN (cx.frz k' sz es) true ((es.drop off).take n).flatten (((cur.take (es.length*sz)).drop (off*sz)).take (n*sz)):=by
     refine (hrep.strong ?_).mono hle
     refine List.all_eq_true.2 fun x hx=>List.all_eq_true.1 hz x ?_
     obtain⟨e,he,hxe⟩:=List.mem_flatten.1 hx
     exact List.mem_flatten.2 ⟨e,List.mem_of_mem_drop (List.mem_of_mem_take he),hxe⟩
    have hfin:=Yx.vs (cx:=cx.frz k' sz es) (z:=false) sz ((es.drop off).take n) (cx.κ k') (off*sz) (cx.γ k'-off) (((cur.take (es.length*sz)).drop (off*sz)).take (n*sz)) (.inr rfl) b3 (by rw [hlen];omega) hl2 hst.len
     (fun v hv'=>b10 v (List.mem_of_mem_take (List.mem_of_mem_drop (List.mem_of_mem_take hv')))) (fun j x hj=>by
      show cx.w.cell? _=_
      rw [List.getElem?_take] at hj
      split at hj
      ·rw [List.getElem?_drop,List.getElem?_take] at hj
       split at hj
       ·rw [cell_of_row _ _ _ _ _ _ b7];simpa using hj
       ·cases hj
      ·cases hj) hst.rep
    rw [hlen] at hfin
    exact hfin
  ·exact Yx.mono hle (.hs k' off n ver y ho bl hk' hp)
 |fn f fs cs vf vc hnf hrf hnc hrc ihf ihc=>
  simp only [AV.frz,Zcg]
  refine .fn f _ _ vf vc (by simpa using hnf) (fun j c x h1 h2=>?_) (by simpa using hnc) (fun j c x h1 h2=>?_)
  ·rw [List.getElem?_map] at h1
   cases hc:fs[j]? with
   |none=>rw [hc] at h1;cases h1
   |some c'=>rw [hc] at h1;cases h1;exact ihf j c' x hc h2
  ·rw [List.getElem?_map] at h1
   cases hc:cs[j]? with
   |none=>rw [hc] at h1;cases h1
   |some c'=>rw [hc] at h1;cases h1;exact ihc j c' x hc h2
 |ifc t x y h ih=>simp only [AV.frz];exact .ifc t _ y ih
 |agg cs vals hn hr ih=>
  simp only [AV.frz,Zcg]
  refine .agg _ vals (by simpa using hn) fun j c x h1 h2=>?_
  rw [List.getElem?_map] at h1
  cases hc:cs[j]? with
  |none=>rw [hc] at h1;cases h1
  |some c'=>rw [hc] at h1;cases h1;exact ih j c' x hc h2
 |tup cs vals hn hr ih=>
  simp only [AV.frz,Zcg]
  refine .tup _ vals (by simpa using hn) fun j c x h1 h2=>?_
  rw [List.getElem?_map] at h1
  cases hc:cs[j]? with
  |none=>rw [hc] at h1;cases h1
  |some c'=>rw [hc] at h1;cases h1;exact ih j c' x hc h2
 |junk y=>exact .junk y
theorem Zf6 {B:Nat} {w0:World} {cx:Cx} (h:Yl B w0 cx) {k sz:Nat} {t:TypeId} {es:List (List AV)} (hk:cx.H[k]?=some (.row t sz es)) (hz:es.flatten.all AV.frzB=true) {z:Bool} {cs:List AV} {vals:List Value} (hr:ZN cx z cs vals):
 ZN (cx.frz k sz es) z (Zam k sz es cs) vals:=by
 rw [Zcg]
 refine⟨by simpa using hr.len,fun j c x h1 h2=>?_⟩
 rw [List.getElem?_map] at h1
 cases hc:cs[j]? with
 |none=>rw [hc] at h1;cases h1
 |some c'=>rw [hc] at h1;cases h1;exact Zfv h hk hz (hr.rep j c' x hc h2)
theorem Zk6 (k sz:Nat) (es:List (List AV)) (rs:List (List AV)):(rs.map (Zam k sz es)).flatten=Zam k sz es rs.flatten:=by
 rw [Zcg,List.map_flatten]
 congr 1
 refine List.map_congr_left fun r _=>Zcg k sz es r
theorem ZeX {B:Nat} {w0:World} {cx:Cx} (h:Yl B w0 cx) {k sz:Nat} {t:TypeId} {es:List (List AV)} (hk:cx.H[k]?=some (.row t sz es)) (hz:es.flatten.all AV.frzB=true):Yl B w0 (cx.frz k sz es):=by
 have hle:Le cx (cx.frz k sz es):=Zgc hk
 refine⟨h.below,h.base,fun b hf=>?_,fun i bl hi=>?_,fun i j b1 b2 a1 a2 l1 l2 he=>?_⟩
 ·rcases hf with hf|rfl
  ·exact h.frz b hf
  ·exact ((h.blk k _ hk).lt rfl).2.1
 ·rcases Zia hi with ⟨rfl,rfl,_⟩|⟨hne,b,hb,rfl⟩
  ·trivial
  ·have hbi:=h.blk i b hb
   have hΦ:b.live=true→ ¬ (cx.frz k sz es).Φ (cx.κ i):=by
    rintro hl (hf|he)
    ·exact (hbi.lt hl).2.2 hf
    ·exact hne (h.inj i k b _ hb hk hl rfl he)
   cases b with
   |box t' cs=>
    obtain⟨h1,h2,vals,h3,h4⟩:=hbi
    exact⟨h1,hΦ rfl,vals,h3,Zf6 h hk hz h4⟩
   |row t' z rs=>
    obtain⟨h1,h2,h3,h4,h5,h6,vals,h7,h8,h9,h10⟩:=hbi
    refine⟨h1,hΦ rfl,h3,fun e he=>?_,by rw [List.length_map];exact h5,h6,vals,h7,h8,?_,h10⟩
    ·obtain⟨e',he',rfl⟩:=List.mem_map.1 he
     rw [Zcg];simpa using h4 e' he'
    ·rw [Zk6];simpa using Zf6 h hk hz h9
   |map ms=>
    obtain⟨h1,h2,ents,h3,h4,h5⟩:=hbi
    refine⟨h1,hΦ rfl,ents,h3,by simpa using h4,fun j p e a b=>?_⟩
    rw [List.getElem?_map] at a
    cases hc:ms[j]? with
    |none=>rw [hc] at a;cases a
    |some p'=>
     rw [hc] at a;cases a
     obtain⟨x1,x2,x3⟩:=h5 j p' e hc b
     exact⟨x1,Zfv h hk hz x2,x3⟩
   |mapg ms=>
    obtain⟨h1,h2,ents,c,h3,h4,h5,h6⟩:=hbi
    refine⟨h1,hΦ rfl,ents,c,h3,by simpa using h4,fun j p e a b=>?_,h6⟩
    rw [List.getElem?_map] at a
    cases hc:ms[j]? with
    |none=>rw [hc] at a;cases a
    |some p'=>
     rw [hc] at a;cases a
     obtain⟨x1,x2⟩:=h5 j p' e hc b
     exact⟨x1,Zfv h hk hz x2⟩
   |pend=>trivial
   |gone=>trivial
   |dfr o=>obtain⟨h1,h2,h3⟩:=hbi;exact⟨h1,hΦ rfl,h3⟩
   |lp st pend n f ps assign body=>obtain⟨h1,h2,fn,tmps,d,h3,h4,h5⟩:=hbi;exact⟨h1,hΦ rfl,fn,tmps,d,h3,h4,fun t ht=>(h5 t ht).mono hle⟩
   |it km n seen=>
    obtain⟨h1,h2,h3,h4⟩:=hbi
    refine⟨h1,hΦ rfl,h3,fun m hm=>?_⟩
    obtain⟨bl,a,b⟩:=h4 m hm
    obtain⟨bl',a',b',_⟩:=hle.fixed m bl a b
    exact⟨bl',a',b'⟩
 ·rcases Zia a1 with ⟨rfl,rfl,_⟩|⟨n1,c1,d1,rfl⟩
  ·simp [Ze.live] at l1
  ·rcases Zia a2 with ⟨rfl,rfl,_⟩|⟨n2,c2,d2,rfl⟩
   ·simp [Ze.live] at l2
   ·rw [ZqU] at l1 l2
    exact h.inj i j c1 c2 d1 d2 l1 l2 he
mutual
def AV.under (n:Nat):AV→Bool
 | .bp k _=>k<n
 | .rp k _ _ _=>k<n
 | .hs k _ _ _=>k<n
 | .hm k=>k<n
 | .hg k=>k<n
 | .hi k=>k<n
 | .yl k=>k<n
 | .fn _ a b=>YZ n a&&YZ n b
 | .ifc _ x=>AV.under n x
 | .agg cs=>YZ n cs
 | .tup cs=>YZ n cs
 |_=>true
def YZ (n:Nat):List AV→Bool
 |[]=>true
 |c::cs=>AV.under n c&&YZ n cs
end
theorem XX (n:Nat) (l:List AV):YZ n l=l.all (AV.under n):=by
 induction l with
 |nil=>simp [YZ]
 |cons c cs ih=>simp [YZ,ih]
def Ze.under (n:Nat):Ze→Bool
 | .box _ cs=>YZ n cs
 | .row _ _ rs=>rs.all (YZ n)
 | .map ms=>ms.all fun p=>p.2.under n
 | .mapg ms=>ms.all fun p=>p.2.under n
 | .lp _ _ m f _ _ _=>(List.range m).all fun t=>(f t).under n
 | .it (some m) _ _=>m<n
 |_=>true
def YC (n:Nat) (H:List Ze):Bool:=H.all (Ze.under n)
theorem Yx.under {cx:Cx} {z:Bool} {a:AV} {y:Value} (h:Yx cx z a y):a.under cx.H.length=true:=by
 have lt:∀ {k:Nat} {bl:Ze},cx.H[k]?=some bl→k<cx.H.length:=fun hk=>(List.getElem?_eq_some_iff.1 hk).1
 have lst:∀ {cs:List AV} {vals:List Value},cs.length=vals.length→(∀ (j:Nat) c x,cs[j]?=some c→vals[j]?=some x→c.under cx.H.length=true)→YZ cx.H.length cs=true:=by
  intro cs vals hn ih
  rw [XX,List.all_eq_true]
  intro c hc
  obtain⟨j,hj,rfl⟩:=List.getElem_of_mem hc
  exact ih j _ _ (List.getElem?_eq_getElem hj) (List.getElem?_eq_getElem (by omega))
 induction h with
 |bp k off bl hk hf=>simpa [AV.under] using lt hk
 |rp k ver i off y ho bl hk hp=>simpa [AV.under] using lt hk
 |hs k off n ver y ho bl hk hp=>simpa [AV.under] using lt hk
 |hm k bl hk hf=>simpa [AV.under] using lt hk
 |hg k bl hk hf=>simpa [AV.under] using lt hk
 |hi k bl hk hf=>simpa [AV.under] using lt hk
 |yl k bl hk hf=>simpa [AV.under] using lt hk
 |fn f fs cs vf vc hnf hrf hnc hrc ihf ihc=>simp only [AV.under,Bool.and_eq_true];exact⟨lst hnf ihf,lst hnc ihc⟩
 |ifc t x y h ih=>simpa [AV.under] using ih
 |agg cs vals hn hr ih=>simp only [AV.under];exact lst hn ih
 |tup cs vals hn hr ih=>simp only [AV.under];exact lst hn ih
 |_=>simp [AV.under]
theorem ZN.under {cx:Cx} {z:Bool} {cs:List AV} {vals:List Value} (h:ZN cx z cs vals):YZ cx.H.length cs=true:=by
 rw [XX,List.all_eq_true]
 intro c hc
 obtain⟨j,hj,rfl⟩:=List.getElem_of_mem hc
 have:=h.len
 exact (h.rep j _ _ (List.getElem?_eq_getElem hj) (List.getElem?_eq_getElem (by omega))).under
theorem Yl.under {B:Nat} {w0:World} {cx:Cx} (h:Yl B w0 cx):YC cx.H.length cx.H=true:=by
 rw [YC,List.all_eq_true]
 intro bl hbl
 obtain⟨i,hi,rfl⟩:=List.getElem_of_mem hbl
 have hb:=h.blk i _ (List.getElem?_eq_getElem hi)
 generalize cx.H[i]=bl at hb
 cases bl with
 |box t cs=>obtain⟨_,_,vals,_,h4⟩:=hb;exact h4.under
 |row t z rs=>
  obtain⟨_,_,h3,h4,h5,h6,vals,h7,h8,h9,h10⟩:=hb
  simp only [Ze.under,List.all_eq_true]
  intro r hr
  have:=h9.under
  rw [XX,List.all_eq_true] at this ⊢
  exact fun c hc=>this c (List.mem_flatten.2 ⟨r,hr,hc⟩)
 |map ms=>
  obtain⟨_,_,ents,h3,h4,h5⟩:=hb
  simp only [Ze.under,List.all_eq_true]
  intro p hp
  obtain⟨j,hj,rfl⟩:=List.getElem_of_mem hp
  exact (h5 j _ _ (List.getElem?_eq_getElem hj) (List.getElem?_eq_getElem (by omega))).2.1.under
 |mapg ms=>
  obtain⟨_,_,ents,c,h3,h4,h5,_⟩:=hb
  simp only [Ze.under,List.all_eq_true]
  intro p hp
  obtain⟨j,hj,rfl⟩:=List.getElem_of_mem hp
  exact (h5 j _ _ (List.getElem?_eq_getElem hj) (List.getElem?_eq_getElem (by omega))).2.under
 |pend=>rfl
 |gone=>rfl
 |dfr o=>rfl
 |lp st pend n f ps assign body=>
  obtain⟨_,_,fn,tmps,d,h3,h4,h5⟩:=hb
  simp only [Ze.under,List.all_eq_true,List.mem_range]
  exact fun t ht=>(h5 t ht).under
 |it km n seen=>
  obtain⟨_,_,_,h4⟩:=hb
  cases km with
  |none=>rfl
  |some m=>obtain⟨bl,a,_⟩:=h4 m rfl;simpa [Ze.under] using (List.getElem?_eq_some_iff.1 a).1
def Cx.cut (cx:Cx) (H1:List Ze):Cx:={cx with H:=H1}
theorem ZhM {cx cx':Cx} (hw:cx'.w=cx.w) (hf:cx'.Φ=cx.Φ) {a:AV} {y:Value} (h:Yx cx true a y):Yx cx' true a y:=by
 generalize hb:true=b at h
 induction h with
 |v x=>exact .v x
 |vs0 sz a cap=>exact .vs0 sz a cap
 |vs sz es b o cap vals hfr hz hcap hl hn ho hc hr ih=>exact .vs sz es b o cap vals (by rw [hf];exact hfr) hz hcap hl hn ho (by rw [hw];exact hc) (fun j c x a b=>ih j c x a b rfl)
 |vx sz es b o vals hfr hz hl hn ho hc hr ih=>exact .vx sz es b o vals (by rw [hf];exact hfr) hz hl hn ho (by rw [hw];exact hc) (fun j c x a b=>ih j c x a b rfl)
 |vp cs b o vals hfr hn hc hr ih=>exact .vp cs b o vals (by rw [hf];exact hfr) hn (by rw [hw];exact hc) (fun j c x a b=>ih j c x a b rfl)
 |bp=>cases hb
 |rp=>cases hb
 |hs=>cases hb
 |hm=>cases hb
 |hg=>cases hb
 |hi=>cases hb
 |yl=>cases hb
 |fn f fs cs vf vc hnf hrf hnc hrc ihf ihc=>subst hb;exact .fn f fs cs vf vc hnf (fun j c x a b=>ihf j c x a b rfl) hnc (fun j c x a b=>ihc j c x a b rfl)
 |ifc t x y h ih=>exact .ifc t x y (ih hb)
 |agg cs vals hn hr ih=>subst hb;exact .agg cs vals hn (fun j c x a b=>ih j c x a b rfl)
 |tup cs vals hn hr ih=>subst hb;exact .tup cs vals hn (fun j c x a b=>ih j c x a b rfl)
 |junk y=>exact .junk y
theorem ZcZ {cx:Cx} {H1 L:List Ze} (hH:cx.H=H1++L) {z:Bool} {a:AV} {y:Value} (hr:Yx cx z a y) (hu:a.under H1.length=true):Yx (cx.cut H1) z a y:=by
 have get:∀ {k:Nat} {bl:Ze},cx.H[k]?=some bl→k<H1.length→(cx.cut H1).H[k]?=some bl:=by
  intro k bl hk hlt
  rw [hH,List.getElem?_append_left hlt] at hk;exact hk
 have lst:∀ {cs:List AV} {j:Nat} {c:AV},YZ H1.length cs=true→cs[j]?=some c→c.under H1.length=true:=by
  intro cs j c hu hc
  rw [XX,List.all_eq_true] at hu
  exact hu c (List.mem_of_getElem? hc)
 induction hr with
 |v x=>exact .v x
 |vs0 s a cap=>exact .vs0 s a cap
 |vs s rs b o cap vals hf hz hcap hl hn ho hc hr ih=>exact .vs s rs b o cap vals hf hz hcap hl hn ho hc fun j c x h1 h2=>ZhM (cx:=cx) (cx':=cx.cut H1) rfl rfl (hr j c x h1 h2)
 |vx s rs b o vals hf hz hl hn ho hc hr ih=>exact .vx s rs b o vals hf hz hl hn ho hc fun j c x h1 h2=>ZhM (cx:=cx) (cx':=cx.cut H1) rfl rfl (hr j c x h1 h2)
 |vp cs b o vals hf hn hc hr ih=>exact .vp cs b o vals hf hn hc fun j c x h1 h2=>ZhM (cx:=cx) (cx':=cx.cut H1) rfl rfl (hr j c x h1 h2)
 |bp k off bl hk hf=>exact .bp k off bl (get hk (by simpa [AV.under] using hu)) hf
 |rp k ver i off y ho bl hk hp=>exact .rp k ver i off y ho bl (get hk (by simpa [AV.under] using hu)) hp
 |hs k off n ver y ho bl hk hp=>exact .hs k off n ver y ho bl (get hk (by simpa [AV.under] using hu)) hp
 |hm k bl hk hf=>exact .hm k bl (get hk (by simpa [AV.under] using hu)) hf
 |hg k bl hk hf=>exact .hg k bl (get hk (by simpa [AV.under] using hu)) hf
 |hi k bl hk hf=>exact .hi k bl (get hk (by simpa [AV.under] using hu)) hf
 |yl k bl hk hf=>exact .yl k bl (get hk (by simpa [AV.under] using hu)) hf
 |fn f fs cs vf vc hnf hrf hnc hrc ihf ihc=>
  simp only [AV.under,Bool.and_eq_true] at hu
  exact .fn f fs cs vf vc hnf (fun j c x a b=>ihf j c x a b (lst hu.1 a)) hnc (fun j c x a b=>ihc j c x a b (lst hu.2 a))
 |ifc t x y h ih=>simp only [AV.under] at hu;exact .ifc t x y (ih hu)
 |agg cs vals hn hr ih=>simp only [AV.under] at hu;exact .agg cs vals hn (fun j c x a b=>ih j c x a b (lst hu a))
 |tup cs vals hn hr ih=>simp only [AV.under] at hu;exact .tup cs vals hn (fun j c x a b=>ih j c x a b (lst hu a))
 |junk y=>exact .junk y
theorem ZiJ {cx:Cx} {H1 L:List Ze} (hH:cx.H=H1++L) {z:Bool} {cs:List AV} {vals:List Value} (hr:ZN cx z cs vals) (hu:YZ H1.length cs=true):ZN (cx.cut H1) z cs vals:=by
 rw [XX,List.all_eq_true] at hu
 exact⟨hr.len,fun j c x h1 h2=>ZcZ hH (hr.rep j c x h1 h2) (hu c (List.mem_of_getElem? h1))⟩
theorem Zim {B:Nat} {w0:World} {cx:Cx} (h:Yl B w0 cx) {H1 L:List Ze} (hH:cx.H=H1++L) (hu:YC H1.length H1=true):Yl B w0 (cx.cut H1):=by
 have get:∀ {k:Nat} {bl:Ze},H1[k]?=some bl→cx.H[k]?=some bl:=by
  intro k bl hk
  rw [hH,List.getElem?_append_left (List.getElem?_eq_some_iff.1 hk).1];exact hk
 refine⟨h.below,h.base,h.frz,fun i bl hi=>?_,fun i j b1 b2 a1 a2 l1 l2 he=>h.inj i j b1 b2 (get a1) (get a2) l1 l2 he⟩
 have hb:=h.blk i bl (get hi)
 have hub:bl.under H1.length=true:=List.all_eq_true.1 hu bl (List.mem_of_getElem? hi)
 cases bl with
 |box t cs=>obtain⟨h1,h2,vals,h3,h4⟩:=hb;exact⟨h1,h2,vals,h3,ZiJ hH h4 hub⟩
 |row t z rs=>
  obtain⟨h1,h2,h3,h4,h5,h6,vals,h7,h8,h9,h10⟩:=hb
  refine⟨h1,h2,h3,h4,h5,h6,vals,h7,h8,ZiJ hH h9 ?_,h10⟩
  simp only [Ze.under,List.all_eq_true] at hub
  rw [XX,List.all_eq_true]
  intro c hc
  obtain⟨r,hr,hcr⟩:=List.mem_flatten.1 hc
  have:=hub r hr
  rw [XX,List.all_eq_true] at this
  exact this c hcr
 |map ms=>
  obtain⟨h1,h2,ents,h3,h4,h5⟩:=hb
  refine⟨h1,h2,ents,h3,h4,fun j p e a b=>?_⟩
  obtain⟨x1,x2,x3⟩:=h5 j p e a b
  simp only [Ze.under,List.all_eq_true] at hub
  exact⟨x1,ZcZ hH x2 (hub p (List.mem_of_getElem? a)),x3⟩
 |mapg ms=>
  obtain⟨h1,h2,ents,c,h3,h4,h5,h6⟩:=hb
  refine⟨h1,h2,ents,c,h3,h4,fun j p e a b=>?_,h6⟩
  obtain⟨x1,x2⟩:=h5 j p e a b
  simp only [Ze.under,List.all_eq_true] at hub
  exact⟨x1,ZcZ hH x2 (hub p (List.mem_of_getElem? a))⟩
 |pend=>trivial
 |gone=>trivial
 |dfr o=>exact hb
 |lp st pend n f ps assign body=>
  obtain⟨h1,h2,fn,tmps,d,h3,h4,h5⟩:=hb
  simp only [Ze.under,List.all_eq_true,List.mem_range] at hub
  exact⟨h1,h2,fn,tmps,d,h3,h4,fun t ht=>ZcZ hH (h5 t ht) (hub t ht)⟩
 |it km n seen=>
  obtain⟨h1,h2,h3,h4⟩:=hb
  refine⟨h1,h2,h3,fun m hm=>?_⟩
  subst hm
  obtain⟨bl,a,b⟩:=h4 m rfl
  have hlt:m<H1.length:=by simpa [Ze.under] using hub
  refine⟨bl,?_,b⟩
  show H1[m]?=_
  rw [hH,List.getElem?_append_left hlt] at a;exact a
theorem Zns {J1 cx:Cx} (hle:Le J1 cx) {H1 L:List Ze} (hH:cx.H=H1++L) (hl:J1.H.length≤H1.length):Le J1 (cx.cut H1):=by
 have get:∀ {k:Nat} {bl bl':Ze},J1.H[k]?=some bl→cx.H[k]?=some bl'→H1[k]?=some bl':=by
  intro k bl bl' h0 hk
  rw [hH,List.getElem?_append_left (by have:=(List.getElem?_eq_some_iff.1 h0).1;omega)] at hk;exact hk
 refine⟨hle.cell,hle.fr,fun k bl h hf=>?_,fun k t sz es h=>?_⟩
 ·obtain⟨bl',h1,h2,h3⟩:=hle.fixed k bl h hf
  exact⟨bl',get h h1,h2,h3⟩
 ·rcases hle.row k t sz es h with ⟨bl',h1,h2⟩|⟨es',h1,h2,h3⟩
  ·exact .inl ⟨bl',get h h1,h2⟩
  ·exact .inr ⟨es',get h h1,h2,h3⟩
inductive Zo7:List Ze→AV→List Ze→AV→Prop
 |refl (H:List Ze) (a:AV):Zo7 H a H a
 |step (H:List Ze) (a:AV) (k sz:Nat) (t:TypeId) (es:List (List AV)) (H':List Ze) (a':AV) (hk:H[k]?=some (.row t sz es)) (hz:es.flatten.all AV.frzB=true) (h:Zo7 (ZeU k sz es H) (a.frz k sz es) H' a'):Zo7 H a H' a'
theorem Zhh {H H':List Ze} {a a':AV} (g:Zo7 H a H' a') {B:Nat} {w0:World} {cx:Cx} {y:Value} (h:Yl B w0 cx) (hH:cx.H=H) (hr:Yx cx false a y):
 ∃cx',cx'.w=cx.w∧Yl B w0 cx'∧Le cx cx'∧cx'.H=H'∧Yx cx' false a' y:=by
 induction g generalizing cx with
 |refl H a=>exact⟨cx,rfl,h,Le.refl _,hH,hr⟩
 |step H a k sz t es H' a' hk hz _ ih=>
  rw [←hH] at hk
  obtain⟨cx',h1,h2,h3,h4,h5⟩:=ih (cx:=cx.frz k sz es) (ZeX h hk hz) (by show ZeU k sz es cx.H=_;rw [hH]) (Zfv h hk hz hr)
  exact⟨cx',h1,h2,(Zgc hk).trans h3,h4,h5⟩
def ZW (H:List Ze) (R:AE→List Ze→Prop):AE→List Ze→Prop:=fun e H'=>
 match e with
 | .ret r=>∃H1 r1,Zo7 H' r H1 r1∧∃H2 L,H1=H2++L∧H.length≤H2.length∧(YC H.length H=true→YC H2.length H2=true)∧r1.under H2.length=true∧R (.ret r1) H2
 | .pan x=>∃H1 x1,Zo7 H' x H1 x1∧∃H2 L,H1=H2++L∧H.length≤H2.length∧(YC H.length H=true→YC H2.length H2=true)∧x1.under H2.length=true∧R (.pan x1) H2
theorem Zf {P:Program} {fid:FuncId} {args:List AV} {H:List Ze} {R:AE→List Ze→Prop} (h:Zi P fid args H (ZW H R)):Zi P fid args H R:=by
 intro B w0 cx vals h1 h2 h3
 have hu:=h1.under
 rw [h2] at hu
 refine (h B w0 cx vals h1 h2 h3).mono fun e w' he=>?_
 cases e with
 |returned y=>
  obtain⟨cx',r,rfl,b1,b2,b3,H1,r1,g,H2,L,e1,e2,e3,e4,e5⟩:=he
  obtain⟨cx2,c1,c2,c3,c4,c5⟩:=Zhh g b1 rfl b3
  rw [e1] at c4
  have hle:Le cx (cx2.cut H2):=Zns (b2.trans c3) c4 (by rw [h2];exact e2)
  exact⟨cx2.cut H2,r1,c1,Zim c2 c4 (e3 hu),hle,ZcZ c4 c5 e4,e5⟩
 |panicked ch=>
  obtain⟨cx',x,y,rfl,b1,b2,hch,b3,H1,x1,g,H2,L,e1,e2,e3,e4,e5⟩:=he
  obtain⟨cx2,c1,c2,c3,c4,c5⟩:=Zhh g b1 rfl b3
  rw [e1] at c4
  have hle:Le cx (cx2.cut H2):=Zns (b2.trans c3) c4 (by rw [h2];exact e2)
  exact⟨cx2.cut H2,x1,y,c1,Zim c2 c4 (e3 hu),hle,hch,ZcZ c4 c5 e4,e5⟩
 |outgrown=>exact he
theorem Zmo {P:Program} {fid:FuncId} {args:List AV} {H:List Ze} {R:AE→List Ze→Prop} (k sz:Nat) (t:TypeId) (es:List (List AV)) (hk:H[k]?=some (.row t sz es)) (hz:es.flatten.all AV.frzB=true)
 (h:Zi P fid (Zam k sz es args) (ZeU k sz es H) R):Zi P fid args H R:=by
 intro B w0 cx vals h1 h2 h3
 subst h2
 refine (h B w0 (cx.frz k sz es) vals (ZeX h1 hk hz) rfl (Zf6 h1 hk hz h3)).mono fun e w' he=>?_
 cases e with
 |returned y=>obtain⟨cx',r,b0,b1,b2,b3,b4⟩:=he;exact⟨cx',r,b0,b1,(Zgc hk).trans b2,b3,b4⟩
 |panicked ch=>obtain⟨cx',x,y,b0,b1,b2,b3,b4,b5⟩:=he;exact⟨cx',x,y,b0,b1,(Zgc hk).trans b2,b3,b4,b5⟩
 |outgrown=>exact he
@[simp ↓] theorem Zwz (K pan:AV→List Ze→Prop) (r:AV) (H:List Ze):Zj7 K pan (.ret r) H=K r H:=(rfl)
@[simp ↓] theorem Zwl (K pan:AV→List Ze→Prop) (r:AV) (H:List Ze):Zj7 K pan (.pan r) H=pan r H:=(rfl)
theorem ZA {P:Program} {g:FuncId} {args:List AV} {H:List Ze} {R R':AE→List Ze→Prop} {w:ZQ R} (h:Zi P g args H R') (k:∀e H',R' e H'→R e H'):X2 P g args H R w:=h.mono k
theorem Za {P:Program} {g:FuncId} {args:List AV} {H:List Ze} {R:AE→List Ze→Prop} {w:ZQ R} {r:AV} (h:Zi P g args H (fun e H'=>e=.ret r∧H'=H)) (k:R (.ret r) H):X2 P g args H R w:=
 h.mono fun e H' he=>by obtain⟨rfl,rfl⟩:=he;exact k
theorem Z2 {H L:List Ze} {R:AE→List Ze→Prop} {r:AV} (hu:r.under H.length=true) (h:R (.ret r) H):ZW H R (.ret r) (H++L):=⟨_,_,.refl _ _,H,L,rfl,Nat.le_refl _,id,hu,h⟩
@[simp] theorem Yr {α:Type} (H L:List α) (i:Nat):(H++L)[H.length+i]?=L[i]?:=by rw [List.getElem?_append_right (by omega)];simp
@[simp] theorem YS {α:Type} (H L:List α) (i:Nat) (y:α):(H++L).set (H.length+i) y=H++L.set i y:=by rw [List.set_append,if_neg (by omega)];simp
theorem ZG {α:Type} {H:List α} {k:Nat} {x:α} (h:H[k]?=some x) (L:List α):(H++L)[k]?=some x:=by rw [List.getElem?_append_left (List.getElem?_eq_some_iff.1 h).1];exact h
theorem ZbK {a b:Int} (h:(a==b)=false):a≠b∧(a==b)=false∧(a != b)=true:=⟨by simpa using h,h,by simp [bne,h]⟩
theorem Zq {a b:Int} {y n:Prop} {w:ZQ y} {w':ZQ n} (hy:a=b→y) (hn:a≠b→(a==b)=false→(a != b)=true→n):Zb5 (.v (.bool (a==b))) y n w w':=
 Z3 (fun h=>hy (by simpa using h)) (fun h=>hn (ZbK h).1 (ZbK h).2.1 (ZbK h).2.2)
theorem Zl {a b:Int} {y n:Prop} {w:ZQ y} {w':ZQ n} (hy:a≠b→(a==b)=false→(a != b)=true→y) (hn:a=b→n):Zb5 (.v (.bool (a != b))) y n w w':=
 Z3 (fun h=>(fun h=>hy (ZbK h).1 (ZbK h).2.1 (ZbK h).2.2) (by simpa using h)) (fun h=>hn (by simpa using h))
theorem Z6 {b:Bool} {y n:Prop} {w:ZQ y} {w':ZQ n} (hy:b=false→y) (hn:b=true→n):Zb5 (.v (.bool (!b))) y n w w':=
 Z3 (fun h=>hy (by simpa using h)) (fun h=>hn (by simpa using h))
theorem Zr {a b:Int} {y n:Prop} {w:ZQ y} {w':ZQ n} (hy:a=b→y) (hn:a≠b→(a==b)=false→(a != b)=true→n):Y6 (.v (.bool (a==b))) true y n w w':=
 Zw (fun h=>hy (by simpa using h)) (fun h=>hn (ZbK h).1 (ZbK h).2.1 (ZbK h).2.2)
theorem Zs {a b:Int} {y n:Prop} {w:ZQ y} {w':ZQ n} (hy:a≠b→(a==b)=false→(a != b)=true→y) (hn:a=b→n):Y6 (.v (.bool (a != b))) true y n w w':=
 Zw (fun h=>(fun h=>hy (ZbK h).1 (ZbK h).2.1 (ZbK h).2.2) (by simpa using h)) (fun h=>hn (by simpa using h))
theorem Zz {b:Bool} {y n:Prop} {w:ZQ y} {w':ZQ n} (hy:b=false→y) (hn:b=true→n):Y6 (.v (.bool (!b))) true y n w w':=
 Zw (fun h=>hy (by simpa using h)) (fun h=>hn (by simpa using h))
theorem Zt {a b:Int} {y n:Prop} {w:ZQ y} {w':ZQ n} (hy:a=b→n) (hn:a≠b→(a==b)=false→(a != b)=true→y):Y6 (.v (.bool (a==b))) false y n w w':=
 Zx (fun h=>hy (by simpa using h)) (fun h=>hn (ZbK h).1 (ZbK h).2.1 (ZbK h).2.2)
theorem Zp {a b:Int} {y n:Prop} {w:ZQ y} {w':ZQ n} (hy:a≠b→(a==b)=false→(a != b)=true→n) (hn:a=b→y):Y6 (.v (.bool (a != b))) false y n w w':=
 Zx (fun h=>(fun h=>hy (ZbK h).1 (ZbK h).2.1 (ZbK h).2.2) (by simpa using h)) (fun h=>hn (by simpa using h))
theorem Zy {b:Bool} {y n:Prop} {w:ZQ y} {w':ZQ n} (hy:b=false→n) (hn:b=true→y):Y6 (.v (.bool (!b))) false y n w w':=
 Zx (fun h=>hy (by simpa using h)) (fun h=>hn (by simpa using h))
end Go.Mu
