import Derived.Test.YtpibcbilkpoomaaGreatm8
set_option linter.all false
namespace Go.Mu
theorem ZhZ (n:Nat):∀ (a:AV),a.frzB=true→a.under n=true
 | .v _,_=>rfl
 | .vs _ _,_=>rfl
 | .vx _ _,_=>rfl
 | .vp _,_=>rfl
 | .junk,_=>rfl
 | .ifc _ x,h=>by simp only [AV.frzB] at h;simp only [AV.under];exact ZhZ n x h
 | .agg [],_=>rfl
 | .agg (_::_),h=>by simp [AV.frzB] at h
 | .tup _,h=>by simp [AV.frzB] at h
 | .bp _ _,h=>by simp [AV.frzB] at h
 | .rp _ _ _ _,h=>by simp [AV.frzB] at h
 | .hs _ _ _ _,h=>by simp [AV.frzB] at h
 | .hm _,h=>by simp [AV.frzB] at h
 | .hg _,h=>by simp [AV.frzB] at h
 | .hi _,h=>by simp [AV.frzB] at h
 | .fn _ _ _,h=>by simp [AV.frzB] at h
theorem Zld (n:Nat) (l:List AV) (h:∀c∈l,c.frzB=true):YZ n l=true:=by
 rw [XX,List.all_eq_true]
 exact fun c hc=>ZhZ n c (h c hc)
def Gv (sz:Nat) (es:List (List AV)) (x:AV):Prop:=(x=.v (.slice none 0 0)∧es=[])∨x=.vs sz es
theorem Gv.weak {sz:Nat} {es:List (List AV)} {x:AV} (h:Gv sz es x):XP x (.vs sz es):=by
 rcases h with ⟨rfl,rfl⟩|rfl
 ·exact .nil sz
 ·exact .refl _
theorem Zgv {k k' sz:Nat} {es es':List (List AV)} (h:k≠k'):(Yo k es).frz k' sz es'=Yo k es:=by
 unfold Yo;split
 ·rfl
 ·simp only [AV.frz];rw [if_neg (fun hh=>h hh.1)]
theorem ZcN {H L:List Ze} {R:AE→List Ze→Prop} {f:AV→AV} (hu:YC H.length H=true) (j sz:Nat) (t:TypeId) (es:List (List AV)) (hj:L[j]?=some (Yn t sz es)) (hz:es.flatten.all AV.frzB=true)
 (hf:∀x,(f x).frz (H.length+j) sz es=f (x.frz (H.length+j) sz es))
 (h:∀x L',Gv sz es x→(∀i b,i≠j→L[i]?=some b→b.under H.length=true→L'[i]?=some b)→ZW H R (.ret (f x)) (H++L')):ZW H R (.ret (f (Yo (H.length+j) es))) (H++L):=by
 by_cases hes:es=[]
 ·subst hes
  rw [Xd]
  exact h _ L (.inl ⟨rfl,rfl⟩) (fun i b _ hb _=>hb)
 ·rw [Yn,if_neg hes] at hj
  refine ZjE hu j sz t es hj hz ?_
  rw [hf,JV _ _ _ hes]
  refine h _ _ (.inr rfl) fun i b hi hb hbu=>?_
  rw [List.getElem?_set_ne (fun e=>hi e.symm),List.getElem?_map,hb]
  simp only [Option.map_some,Zfd (Nat.le_add_right _ _) b hbu]
theorem YR {t sz:Nat} {n:Nat} {es:List (List AV)} (h:es.flatten.all AV.frzB=true):(Yn t sz es).under n=true:=by
 refine Zij n t sz es ?_
 rw [List.all_eq_true] at h ⊢
 intro e he
 exact Zld n e (fun c hc=>h c (List.mem_flatten.2 ⟨e,he,hc⟩))
end Go.Mu
namespace Go.Mu
open Go.RowKit (Below)
theorem ZfI {B:Nat} {w:World} {r:Nat} (o:Obj) (h:B≤r):Below B w (w.putObj r o):=⟨rfl,rfl,rfl,by simp,fun i hi=>World.putObj_heap_other (by omega)⟩
theorem Zqg {B:Nat} {w0:World} {cx:Cx} (h:Yl B w0 cx):Yl B w0 (cx.push (.deferred (some [])) (.dfr true) 0):=by
 refine Zbi h _ _ _ ⟨?_,?_,?_⟩
 ·show B≤Zaj _ _ _ _;simp;exact h.base
 ·show ¬ cx.Φ (Zaj _ _ _ _);simp;exact fun hf=>Nat.lt_irrefl _ (h.frz _ hf)
 ·show (cx.w.alloc _).heap[Zaj _ _ _ _]?=_;simp only [Yu];exact heap_alloc_new _ _
theorem ZsY {B:Nat} {w0:World} {cx:Cx} (h:Yl B w0 cx) {n:Nat} {f:Fr} {a:Act} (hf:XN cx n f a) (fn:FuncId) (ps:Array Tmp) (x y:Code) (d:Nat):
 Yl B w0 (cx.push (.loop {state:=.ready,pending:=none,fn:=fn,tmps:=a.tmps,params:=ps,assign:=x,body:=y,defers:=d}) (.lp .ready none n f ps x y) 0):=by
 refine Zbi h _ _ _ ⟨?_,?_,fn,a.tmps,d,?_,hf.1,fun t ht=>(hf.2 t ht).mono (X0 cx _ _ _)⟩
 ·show B≤Zaj _ _ _ _;simp;exact h.base
 ·show ¬ cx.Φ (Zaj _ _ _ _);simp;exact fun hf=>Nat.lt_irrefl _ (h.frz _ hf)
 ·show (cx.w.alloc _).heap[Zaj _ _ _ _]?=_;simp only [Yu];exact heap_alloc_new _ _
theorem ZnY {B:Nat} {w0:World} {cx:Cx} (h:Yl B w0 cx) {k:Nat} {st:LoopState} {pd:Option Code} {n:Nat} {f:Fr} {ps:Array Tmp} {x y:Code} (hk:cx.H[k]?=some (.lp st pd n f ps x y)):
 ∃ (fn:FuncId) (tmps:Array Value) (d:Nat),cx.w.heap[cx.κ k]?=some (.loop {state:=st,pending:=pd,fn:=fn,tmps:=tmps,params:=ps,assign:=x,body:=y,defers:=d})∧XN cx n f {tmps:=tmps,defers:=[]}∧
   ∀ (st':LoopState) (pd':Option Code),Le cx (cx.put k (cx.w.putObj (cx.κ k) (.loop {state:=st',pending:=pd',fn:=fn,tmps:=tmps,params:=ps,assign:=x,body:=y,defers:=d})) (.lp st' pd' n f ps x y))∧
     Yl B w0 (cx.put k (cx.w.putObj (cx.κ k) (.loop {state:=st',pending:=pd',fn:=fn,tmps:=tmps,params:=ps,assign:=x,body:=y,defers:=d})) (.lp st' pd' n f ps x y)):=by
 obtain⟨h1,h2,fn,tmps,d,h3,h4,h5⟩:=h.blk k _ hk
 refine⟨fn,tmps,d,h3,⟨h4,h5⟩,fun st' pd'=>?_⟩
 have hlt:cx.κ k<cx.w.heap.size:=(Array.getElem?_eq_some_iff.1 h3).1
 have hw:∀i,i≠cx.κ k→i<cx.w.heap.size→(cx.w.putObj (cx.κ k) (.loop {state:=st',pending:=pd',fn:=fn,tmps:=tmps,params:=ps,assign:=x,body:=y,defers:=d})).heap[i]?=cx.w.heap[i]?:=fun i hi _=>World.putObj_heap_other hi
 have hle:=Zc3 (cx:=cx) (bl:=.lp st' pd' n f ps x y) (w':=cx.w.putObj (cx.κ k) (.loop {state:=st',pending:=pd',fn:=fn,tmps:=tmps,params:=ps,assign:=x,body:=y,defers:=d})) hk hw h2 (.inl ⟨rfl,rfl⟩)
 refine⟨hle,Zaq h hk rfl (ZfI _ h1) hw hle ⟨h1,h2,fn,tmps,d,World.putObj_heap_same hlt,h4,fun t ht=>(h5 t ht).mono hle⟩⟩
theorem Zvi {B:Nat} {w0:World} {cx:Cx} (h:Yl B w0 cx) {k:Nat} (hk:cx.H[k]?=some (.dfr true)):
 cx.w.heap[cx.κ k]?=some (.deferred (some []))∧Le cx (cx.put k (cx.w.putObj (cx.κ k) (.deferred none)) (.dfr false))∧Yl B w0 (cx.put k (cx.w.putObj (cx.κ k) (.deferred none)) (.dfr false)):=by
 obtain⟨h1,h2,h3⟩:=h.blk k _ hk
 have hlt:cx.κ k<cx.w.heap.size:=(Array.getElem?_eq_some_iff.1 h3).1
 have hw:∀i,i≠cx.κ k→i<cx.w.heap.size→(cx.w.putObj (cx.κ k) (.deferred none)).heap[i]?=cx.w.heap[i]?:=fun i hi _=>World.putObj_heap_other hi
 have hle:=Zc3 (cx:=cx) (bl:=.dfr false) (w':=cx.w.putObj (cx.κ k) (.deferred none)) hk hw h2 (.inl ⟨rfl,rfl⟩)
 exact⟨h3,hle,Zaq h hk rfl (ZfI _ h1) hw hle ⟨h1,h2,World.putObj_heap_same hlt⟩⟩
def Zmu:Fr→List Nat→List AV→Fr
 |f,t::ts,a::as'=>Zmu (upd f t a) ts as'
 |f,_,_=>f
@[simp] theorem Zxo (f:Fr) (as':List AV):Zmu f [] as'=f:=by cases as'<;>rfl
@[simp] theorem Zpe (f:Fr) (t:Nat) (ts:List Nat) (a:AV) (as':List AV):Zmu f (t::ts) (a::as')=Zmu (upd f t a) ts as':=rfl
theorem Zjs {cx:Cx} {n:Nat}:∀ (ts:List Nat) (avs:List AV) (vals:List Value) (f:Fr) (tmps:Array Value),XN cx n f {tmps:=tmps,defers:=[]}→ZN cx false avs vals→
 XN cx n (Zmu f ts avs) {tmps:=(ts.zip vals).foldl (fun tmps (t,a)=>tmps.setIfInBounds t a) tmps,defers:=[]}
 |[],avs,vals,f,tmps,h,_=>by simpa using h
 |t::ts,[],vals,f,tmps,h,hr=>by obtain rfl:=hr.nil_inv;simpa [Zmu] using h
 |t::ts,c::cs,vals,f,tmps,h,hr=>by
  obtain⟨v,vs,rfl,h1,h2⟩:=hr.cons_inv
  simp only [Zpe,List.zip_cons_cons,List.foldl_cons]
  refine Zjs ts cs vs _ _ ⟨by simpa using h.1,fun s hs=>?_⟩ h2
  simp only [upd]
  have hsz:tmps.size=n:=h.1
  by_cases he:s=t
  ·subst he
   rw [if_pos rfl,Array.getD_eq_getD_getElem?,Array.getElem?_setIfInBounds_self_of_lt (by omega)];exact h1
  ·rw [if_neg he,Array.getD_eq_getD_getElem?,Array.getElem?_setIfInBounds_ne (fun e=>he e.symm),←Array.getD_eq_getD_getElem?];exact h.2 s hs
def XG:AX→Option Code
 | .ret=>some .ret
 | .exit id=>some (.exit id)
 | .goto l=>some (.goto l)
 |_=>none
def Zvp (P:Program) (n:Nat) (k:Nat) (x y:Code) (ps:Array Tmp) (f f0:Fr) (M:List Ze) (R:AX→List Ze→Prop):Prop:=
 X6 P n x (fun e f1 M1 ds1=>e=.normal∧ds1=[]∧M1[k]?=some (.lp .ready none n f0 ps x y)∧
  X6 P n y (fun e f2 M2 ds2=>ds2=[]∧M2[k]?=some (.lp .busy none n f0 ps x y)∧(match e with| .pan _=>False|e=>R e M2)) f1 (M1.set k (.lp .busy none n f0 ps x y)) []) f M []
theorem Zp9 {P:Program} {n k:Nat} {x y:Code} {ps:Array Tmp} {f0:Fr} {M:List Ze} {args:List AV} {R:AE→List Ze→Prop} (hk:M[k]?=some (.lp .ready none n f0 ps x y)) (hnd:(JU x&&JU y)=true) (hps:args.length=ps.size)
 (h:Zvp P n k x y ps (Zmu f0 ps.toList args) f0 M (fun e M2=>match e with
  | .normal=>R (.ret (.v (.bool true))) (M2.set k (.lp .ready none n f0 ps x y))
  |e=>R (.ret (.v (.bool false))) (M2.set k (.lp .done (XG e) n f0 ps x y)))):ZdT P k M args R:=by
 intro B w0 cx vals h1 h2 h3
 simp only [Bool.and_eq_true] at hnd
 obtain⟨fn,tmps,d,hh,hfr,-⟩:=ZnY h1 (h2▸hk)
 have hsz:vals.toArray.size=ps.size:=by have:=h3.len;simp;omega
 refine⟨fn,_,x,y,run_yield hh hsz,?_⟩
 have hfr':=Zjs ps.toList args vals f0 tmps hfr h3
 have hz:(ps.zip vals.toArray).foldl (fun tmps (t,a)=>tmps.setIfInBounds t a) tmps=(ps.toList.zip vals).foldl (fun tmps (t,a)=>tmps.setIfInBounds t a) tmps:=by
  rw [←Array.foldl_toList,Array.toList_zip]
 simp only at hz ⊢
 rw [hz]
 refine roundIn_of_wpIn (F:=Fo none) (n:=0) trivial ?_
 refine wpIn_mono (h (some (cx.κ k)) (fun _=>hnd.1) B w0 cx cx _ h1 (Le.refl _) h2 hfr' trivial) fun e a1 w1 hp=>?_
 obtain⟨cx1,ax,f1,ds1,rfl,b1,b2,b3,b4,b5,rfl,rfl,b6,b7⟩:=hp
 cases e<;>try exact b5.elim
 obtain⟨fn1,tmps1,d1,hh1,-,hput⟩:=ZnY b1 b6
 have hκ:cx1.κ k=cx.κ k:=by obtain⟨_,_,_,e⟩:=b2.fixed k _ (h2▸hk) rfl;exact e
 obtain⟨hle2,hrel2⟩:=hput .busy none
 have d1n:a1.defers=[]:=by
  cases hdd:a1.defers with
  |nil=>rfl
  |cons d l=>rw [hdd] at b4;exact b4.elim
 rw [hκ] at hh1 hle2 hrel2
 refine⟨_,run_beginRound hh1 rfl,?_⟩
 refine wpIn_mono (b7 (some (cx.κ k)) (fun _=>hnd.2) B w0 cx _ a1 hrel2 (b2.trans hle2) rfl (b3.mono hle2) (by rw [d1n];trivial)) fun e a2 w2 hp=>?_
 obtain⟨cx2,ax,f2,ds2,rfl,c1,c2,c3,c4,c5,c6,c7,c8⟩:=hp
 obtain⟨fn2,tmps2,d2,hh2,-,hput2⟩:=ZnY c1 c7
 have hκ2:cx2.κ k=cx.κ k:=by obtain⟨_,_,_,e⟩:=c2.fixed k _ (h2▸hk) rfl;exact e
 have fin:∀ (jump:Option Code) (st:LoopState),st=(if jump.isNone then .ready else .done)→R (.ret (.v (.bool jump.isNone))) (cx2.H.set k (.lp st jump n f0 ps x y))→∃v w',(Instr.endRound (cx.κ k) jump).run P cx2.w=.ok v w'∧Zc0 B w0 cx R (.returned v) w':=by
  intro jump st hst hR
  obtain⟨hle3,hrel3⟩:=hput2 st jump
  rw [hκ2] at hh2 hle3 hrel3
  refine⟨_,_,run_endRound jump hh2,cx2.put k _ _,.v (.bool jump.isNone),?_,hrel3,c2.trans hle3,.v _,hR⟩
  rw [hst];rfl
 cases e<;>cases ax<;>first|exact c5.elim|exact c8.elim|skip
 ·exact fin none .ready rfl c8
 ·obtain rfl:_=_:=c5;exact fin (some (.exit _)) .done rfl c8
 ·obtain rfl:_=_:=c5;exact fin (some (.goto _)) .done rfl c8
 ·exact fin (some .ret) .done rfl c8
theorem ZiV {P:Program} {n:Nat} {g:Operand} {ps:Array Tmp} {x y:Code} {Q:AQ} {f:Fr} {H:List Ze} {ds:List ZO} {it:FuncId} {cap:List AV} (hgo:Zk9 n g=true) (hg:ev f g=.fn (.func it) [] cap) (hok:ZL P it=true)
 (h:Zi P it (.yl (H.length+1)::cap) (H++[.dfr true,.lp .ready none n f ps x y]) (fun e M=>∃r,e=.ret r∧∃ (st:LoopState) (e:AX),M[H.length+1]?=some (.lp st (XG e) n f ps x y)∧st≠.busy∧M[H.length]?=some (.dfr true)∧
  (match e with| .pan _=>False|e=>Q e f (M.set (H.length+1) (.lp .exhausted (XG e) n f ps x y)) (⟨0,[],some H.length⟩::ds)))):X6 P n (.rangeFunc g ps x y) Q f H ds:=by
 intro ro hro B w0 J1 cx a h1 h2 h3 h4 h5
 subst h3
 cases ro with
 |some l=>have:=hro rfl;simp [JU] at this
 |none=>
 have hgr:=ZkA h4 hgo
 rw [hg] at hgr
 generalize hy:a.eval g=gv at hgr
 cases hgr with
 |fn _ _ _ vf vc hnf hrf hnc hrc=>
 obtain rfl:vf=[]:=List.eq_nil_of_length_eq_zero hnf.symm
 refine wpIn_rangeFunc fun fn _=>?_
 have hrel1:=ZsY (Zqg h1) (h4.mono (X0 cx (.deferred (some [])) (.dfr true) 0)) fn ps x y cx.w.heap.size
 have hle1:=(X0 cx (.deferred (some [])) (.dfr true) 0).trans (X0 (cx.push (.deferred (some [])) (.dfr true) 0) (.loop {state:=.ready,pending:=none,fn:=fn,tmps:=a.tmps,params:=ps,assign:=x,body:=y,defers:=cx.w.heap.size}) (.lp .ready none n f ps x y) 0)
 generalize hcx1:(cx.push (.deferred (some [])) (.dfr true) 0).push (.loop {state:=.ready,pending:=none,fn:=fn,tmps:=a.tmps,params:=ps,assign:=x,body:=y,defers:=cx.w.heap.size}) (.lp .ready none n f ps x y) 0=cx1 at hrel1 hle1
 have hw1:cx1.w=(cx.w.alloc (.deferred (some []))).alloc (.loop {state:=.ready,pending:=none,fn:=fn,tmps:=a.tmps,params:=ps,assign:=x,body:=y,defers:=cx.w.heap.size}):=by rw [←hcx1];rfl
 have hH1:cx1.H=cx.H++[.dfr true,.lp .ready none n f ps x y]:=by rw [←hcx1];simp [Cx.push]
 have hk1:cx1.κ (cx.H.length+1)=cx.w.heap.size+1:=by rw [←hcx1];simp [Cx.push]
 have hk0:cx1.κ cx.H.length=cx.w.heap.size:=by rw [←hcx1];simp [Cx.push,Zaj]
 have hyl:Yx cx1 false (.yl (cx.H.length+1)) (.func (.yield (cx.w.heap.size+1)) #[] #[]):=by
  have:=Yx.yl (cx:=cx1) (cx.H.length+1) (.lp .ready none n f ps x y) (by rw [hH1];simp) rfl
  rwa [hk1] at this
 have hargs:ZN cx1 false (.yl (cx.H.length+1)::cap) (.func (.yield (cx.w.heap.size+1)) #[] #[]::vc):=((ZN.mk hnc hrc).mono hle1).cons hyl
 refine⟨cx.w.heap.size+1,[{target:=.collected cx.w.heap.size,args:= #[]}],cx1.w,{target:=.fn (.func it) vc.toArray,args:= #[.func (.yield (cx.w.heap.size+1)) #[] #[]]},cx1.w,it,
  (Value.func (.yield (cx.w.heap.size+1)) #[] #[]::vc).toArray,cx1.w,?_,?_,fun _ _=>trivial,?_,fun hd=>(by cases hd),?_⟩
 ·rw [hw1];exact run_enterLoop_outer _ _ _ _ _
 ·simp only [resolve,hy]
  simp [go_sem]
 ·unfold ZL at hok
  split at hok
  ·rename_i fnn hfn
   simp only [Bool.and_eq_true,Bool.not_eq_true',Option.isSome_iff_exists] at hok
   obtain⟨⟨bd,hbd⟩,hnm⟩:=hok
   have hbn:fnn.body.isNone=false:=by rw [hbd];rfl
   simp only [Sem.run_bind,Sem.run_pure,Result.andThen_ok,invoke,callFunc,run_program,hfn,hnm,Bool.false_eq_true,if_false,hbn]
   congr 2
   apply Array.ext'
   simp
  ·cases hok
 ·refine (Zhs.2 (h B w0 cx1 _ hrel1 hH1 hargs)).mono fun e w' he=>?_
  cases e with
  |outgrown=>exact he.elim
  |panicked ch=>obtain⟨_,_,_,_,_,_,_,_,r,hr,_⟩:=he;cases hr
  |returned v=>
   obtain⟨cx',r,rfl,b1,b2,b3,r',hr,st,ax,c1,c2,c3,c4⟩:=he
   obtain⟨fn',tmps',d',hh,-,hput⟩:=ZnY b1 c1
   have hκ:cx'.κ (cx.H.length+1)=cx.w.heap.size+1:=by
    obtain⟨_,_,_,e⟩:=b2.fixed (cx.H.length+1) (.lp .ready none n f ps x y) (by rw [hH1];simp) rfl
    rw [e,hk1]
   have hκ0:cx'.κ cx.H.length=cx.w.heap.size:=by
    obtain⟨_,_,_,e⟩:=b2.fixed cx.H.length (.dfr true) (by rw [hH1];simp) rfl
    rw [e,hk0]
   obtain⟨hle3,hrel3⟩:=hput .exhausted (XG ax)
   rw [hκ] at hh hle3 hrel3
   refine⟨XG ax,_,run_endLoop hh c2,?_⟩
   have hle:Le J1 (cx'.put (cx.H.length+1) (cx'.w.putObj (cx.w.heap.size+1) (.loop {state:=.exhausted,pending:=XG ax,fn:=fn',tmps:=tmps',params:=ps,assign:=x,body:=y,defers:=d'})) (.lp .exhausted (XG ax) n f ps x y)):=h2.trans (hle1.trans (b2.trans hle3))
   have hlef:=hle1.trans (b2.trans hle3)
   have hdr:Zci (cx'.put (cx.H.length+1) (cx'.w.putObj (cx.w.heap.size+1) (.loop {state:=.exhausted,pending:=XG ax,fn:=fn',tmps:=tmps',params:=ps,assign:=x,body:=y,defers:=d'})) (.lp .exhausted (XG ax) n f ps x y)) (⟨0,[],some cx.H.length⟩::ds) ([{target:=.collected cx.w.heap.size,args:= #[]}]++a.defers):=
    ⟨⟨by show Target.collected _=Target.collected (cx'.κ cx.H.length);rw [hκ0],.dfr true,by show (cx'.H.set _ _)[_]?=_;rw [List.getElem?_set_ne (by omega)];exact c3,rfl⟩,h5.mono hlef⟩
   have hfr:XN (cx'.put (cx.H.length+1) (cx'.w.putObj (cx.w.heap.size+1) (.loop {state:=.exhausted,pending:=XG ax,fn:=fn',tmps:=tmps',params:=ps,assign:=x,body:=y,defers:=d'})) (.lp .exhausted (XG ax) n f ps x y)) n f {a with defers:=[{target:=.collected cx.w.heap.size,args:= #[]}]++a.defers}:=h4.mono hlef
   cases ax with
   |normal=>exact⟨_,.normal,f,_,rfl,hrel3,hle,hfr,hdr,trivial,c4⟩
   |exit id=>exact wpIn_exit ⟨_,.exit id,f,_,rfl,hrel3,hle,hfr,hdr,rfl,c4⟩
   |goto l=>exact wpIn_goto ⟨_,.goto l,f,_,rfl,hrel3,hle,hfr,hdr,rfl,c4⟩
   |ret=>exact wpIn_ret ⟨_,.ret,f,_,rfl,hrel3,hle,hfr,hdr,trivial,c4⟩
   |pan x=>exact c4.elim
end Go.Mu
namespace Go.Mu
def ZnS (P:Program) (k:Nat) (H:List Ze) (args:List AV) (R:AE→List Ze→Prop) (_:ZQ R):Prop:=ZdT P k H args R
@[simp] theorem Zwy {P:Program} {H:List Ze} (k:Nat) (args:List AV) (K pan:AV→List Ze→Prop) (w:ZQ K) (w':ZQ pan):Zkl P H (.yl k) args K pan w w'=ZnS P k H args (Zj7 K pan) (Z5 _):=(rfl)
theorem ZmT {P:Program} {k:Nat} {H:List Ze} {args:List AV} {R R':AE→List Ze→Prop} {w:ZQ R} (h:ZdT P k H args R') (hr:∀e H',R' e H'→R e H'):ZnS P k H args R w:=h.mono hr
def Zdd (P:Program) (rs:List ResultVar) (R:AE→List Ze→Prop) (f:Fr):List ZO→List Ze→Prop
 |[],H=>Z1 (ZaD P H f rs) fun xs=>R (.ret (Zba xs)) H
 |d::ds,H=>match d.mark with
  |some k=>YF (H[k]?=some (.dfr true)) (Zdd P rs R f ds (H.set k (.dfr false)))
  |none=>False
def Zq5 (P:Program) (rs:List ResultVar) (R:AE→List Ze→Prop):AQ:=fun x f H ds=>
 match x with
 | .normal=>Zdd P rs R f ds H
 | .ret=>Zdd P rs R f ds H
 |_=>False
theorem Zc1 {P:Program} {fn:Func} {n:Nat} {rs:List ResultVar} (hrs:fn.results.toList=rs) (hok:rs.all (ZdE n)=true) {R:AE→List Ze→Prop} {f:Fr}:∀ {ds:List ZO} {H:List Ze} {B:Nat} {w0:World} {J1 cx:Cx} {a:Act} {es:List Deferred},
 Zdd P rs R f ds H→Yl B w0 cx→Le J1 cx→cx.H=H→XN cx n f a→Zci cx ds es→LeavesInM (Fo none) 0 P fn a.tmps (Zc0 B w0 J1 R) es .returning cx.w
 |[],H,B,w0,J1,cx,a,es,h,h1,h2,h3,h4,h5=>by
  subst h3
  cases es with
  |cons=>exact h5.elim
  |nil=>
   obtain⟨xs,hx,hR⟩:=h
   obtain⟨y,hy,hr⟩:=Za6 (P:=P) (fn:=fn) h1 h4 (by rw [hrs];exact hok) (by rw [hrs];exact hx)
   exact⟨y,hy,cx,_,rfl,h1,h2,hr,hR⟩
 |d::ds,H,B,w0,J1,cx,a,es,h,h1,h2,h3,h4,h5=>by
  subst h3
  cases es with
  |nil=>exact h5.elim
  |cons e es=>
   obtain⟨h51,h52⟩:=h5
   cases hm:d.mark with
   |none=>simp only [Zdd,hm] at h
   |some k=>
    simp only [Zdd,hm] at h
    rw [hm] at h51
    obtain⟨ht,-⟩:=h51
    obtain⟨hk,hl⟩:=h
    obtain⟨hh,hle,hrel⟩:=Zvi h1 hk
    exact⟨by simp,.inl ⟨_,_,ht,run_takeDeferred hh,Zc1 (cx:=cx.put k _ _) hrs hok hl hrel (h2.trans hle) rfl (h4.mono hle) (h52.mono hle)⟩⟩
theorem Zji {P:Program} {hn:Nat→Bool} {od:Nat→Option Y7} {fid:FuncId} {fn:Func} {c:Code} {args:List AV} {H:List Ze} {R:AE→List Ze→Prop} (hf:P.funcs[fid]?=some fn) (hb:fn.body=some c)
 (hs:(JM hn od fn.ntmps c&&fn.results.toList.all (ZdE fn.ntmps)&&decide (args.length≤fn.ntmps)&&P.follows .mixedOrders)=true)
 (h:vcC P hn od fn.ntmps c (Zq5 P fn.results.toList R) (frm args 0) H []):Zi P fid args H R:=by
 simp only [Bool.and_eq_true,decide_eq_true_eq] at hs
 obtain⟨⟨⟨hs1,hs2⟩,hs3⟩,hm⟩:=hs
 intro B w0 cx vals h1 h2 h3
 refine Zhs.1 (callsIn_of_wp_marks (F:=Fo none) (n:=0) hf hb trivial ?_)
 refine wpIn_mono (JR hm hs1 h none (fun hs=>by cases hs) B w0 cx cx _ h1 (Le.refl _) h2 (ZgR h3 hs3) trivial) fun e a' w' hp=>?_
 obtain⟨cx',x,f',ds',rfl,b1,b2,b3,b4,b5,b6⟩:=hp
 cases e<;>cases x<;>first|exact b5.elim|exact b6.elim|skip
 ·exact Zc1 rfl hs2 b6 b1 b2 rfl b3 b4
 ·exact Zc1 rfl hs2 b6 b1 b2 rfl b3 b4
def Zfp (P:Program) (rs:List ResultVar) (R:AE→List Ze→Prop) (ds:List ZO) (f:Fr) (H:List Ze) (_:ZQ (rs,R,f)):Prop:=Zdd P rs R f ds H
@[simp ↓] theorem Zx9 (P:Program) (rs:List ResultVar) (R:AE→List Ze→Prop) (f:Fr) (H:List Ze) (ds:List ZO) (w:ZQ (Zq5 P rs R,AX.ret,f,H,ds)):QW (Zq5 P rs R) .ret f H ds w=Zfp P rs R ds f H (Z5 _):=(rfl)
@[simp ↓] theorem Ztu (P:Program) (rs:List ResultVar) (R:AE→List Ze→Prop) (f:Fr) (H:List Ze) (w:ZQ (rs,R,f)):Zfp P rs R [] f H w=Z8 (ZiM P H rs f (Z5 _)) (fun xs=>Jm (Zba xs) (fun x=>R (.ret x) H) (Z5 _)) (Z5 _):=(rfl)
@[simp ↓] theorem ZrN (P:Program) (rs:List ResultVar) (R:AE→List Ze→Prop) (g k:Nat) (l:List AV) (ds:List ZO) (f:Fr) (H:List Ze) (w:ZQ (rs,R,f)):Zfp P rs R (⟨g,l,some k⟩::ds) f H w=JQ (H[k]?=some (.dfr true)) (Zfp P rs R ds f (H.set k (.dfr false)) (Z5 _)) (Z5 _):=(rfl)
def Zha (K:Fr→List Ze→Prop):AQ:=fun ex f M ds=>ex=.normal∧ds=[]∧K f M
def ZgV (K:AX→List Ze→Prop):AQ:=fun ex f M ds=>ds=[]∧(match ex with| .pan _=>False|ex=>K ex M)
@[simp ↓] theorem Zws (K:Fr→List Ze→Prop) (f:Fr) (H:List Ze) (w:ZQ (Zha K,AX.normal,f,H,([]:List ZO))):QW (Zha K) .normal f H [] w=K f H:=by simp [QW,Zha]
@[simp ↓] theorem ZuQ (K:AX→List Ze→Prop) (f:Fr) (H:List Ze) (w:ZQ (ZgV K,AX.normal,f,H,([]:List ZO))):QW (ZgV K) .normal f H [] w=K .normal H:=by simp [QW,ZgV]
def ZhG (J:List Ze→Prop) (Jx:AX→List Ze→Prop) (B:List Ze) (ex:AX) (M:List Ze):Prop:=∃A C,M=A++(B++C)∧(match ex with| .normal=>J A|ex=>Jx ex A)
theorem Zlx {J:List Ze→Prop} {Jx:AX→List Ze→Prop} {B:List Ze} {ex:AX} (A C:List Ze) {M:List Ze} (hM:M=A++(B++C)) (h:match ex with| .normal=>J A|ex=>Jx ex A):ZhG J Jx B ex M:=⟨A,C,hM,h⟩
theorem ZhI {P:Program} {hn:Nat→Bool} {od:Nat→Option Y7} {n:Nat} {c:Code} {Q:AQ} {f:Fr} {H:List Ze} {ds:List ZO} {w:ZQ (n,c,Q,f,H,ds)} (hs:(P.follows .mixedOrders&&JM hn od n c)=true) (h:Zdc P hn od n c Q f H ds (Z5 _)):Zmg P n c Q f H ds w:=by
 simp only [Bool.and_eq_true] at hs
 exact JR hs.1 hs.2 h
theorem Zf7 {P:Program} {fid:FuncId} {H L:List Ze} {R:AE→List Ze→Prop} {f:AV→List AV} (hu:YC H.length H=true) (j sz:Nat) (t:TypeId) (es:List (List AV)) (hj:L[j]?=some (Yn t sz es)) (hz:es.flatten.all AV.frzB=true)
 (hf:∀x,Zam (H.length+j) sz es (f x)=f (x.frz (H.length+j) sz es))
 (h:∀x L',Gv sz es x→(∀i b,i≠j→L[i]?=some b→b.under H.length=true→L'[i]?=some b)→Zi P fid (f x) (H++L') R):Zi P fid (f (Yo (H.length+j) es)) (H++L) R:=by
 by_cases hes:es=[]
 ·subst hes
  rw [Xd]
  exact h _ L (.inl ⟨rfl,rfl⟩) (fun i b _ hb _=>hb)
 ·rw [Yn,if_neg hes] at hj
  refine Zmo (H.length+j) sz t es (by rw [List.getElem?_append_right (by omega)];simpa using hj) hz ?_
  rw [hf,JV _ _ _ hes,Zfj j hu]
  refine h _ _ (.inr rfl) fun i b hi hb hbu=>?_
  rw [List.getElem?_set_ne (fun e=>hi e.symm),List.getElem?_map,hb]
  simp only [Option.map_some,Zfd (Nat.le_add_right _ _) b hbu]
end Go.Mu
namespace Go.Mu
section
variable {P:Program} {hn:Nat→Bool} {od:Nat→Option Y7}
theorem Z0 {fid:FuncId} {fn:Func} {c:Code} {args:List AV} {H:List Ze} {R:AE→List Ze→Prop} (hf:P.funcs[fid]?=some fn) (hb:fn.body=some c)
 (hs:(fn.results.toList.all (ZdE fn.ntmps)&&decide (args.length≤fn.ntmps))=true)
 (h:X6 P fn.ntmps c (ZgB P fn.results.toList R) (frm args 0) H []):Zi P fid args H R:=by
 simp only [Bool.and_eq_true,decide_eq_true_eq] at hs
 obtain⟨hs2,hs3⟩:=hs
 intro B w0 cx vals h1 h2 h3
 refine calls_of_wp hf hb ?_
 refine wp_mono (ZjW.1 (h none (fun hs=>by cases hs) B w0 cx cx _ h1 (Le.refl _) h2 (ZgR h3 hs3) trivial)) fun e a' w' hp=>?_
 obtain⟨cx',x,f',ds',rfl,b1,b2,b3,b4,b5,b6⟩:=hp
 have dnil:ds'=[]→a'.defers=[]:=fun hd=>by
  subst hd
  cases hdd:a'.defers with
  |nil=>rfl
  |cons d l=>rw [hdd] at b4;exact b4.elim
 cases e<;>cases x<;>first|exact b5.elim|skip
 ·obtain⟨hd,xs,hx,hR⟩:=b6
  obtain⟨y,hy,hr⟩:=Za6 (P:=P) b1 b3 hs2 hx
  exact⟨dnil hd,y,hy,cx',_,rfl,b1,b2,hr,hR⟩
 ·exact b6.elim
 ·exact b6.elim
 ·obtain⟨hd,xs,hx,hR⟩:=b6
  obtain⟨y,hy,hr⟩:=Za6 (P:=P) b1 b3 hs2 hx
  exact⟨dnil hd,y,hy,cx',_,rfl,b1,b2,hr,hR⟩
 ·obtain⟨hd,hR⟩:=b6
  obtain⟨y,hch,hr⟩:=b5
  exact⟨dnil hd,cx',_,y,rfl,b1,b2,hch,hr,hR⟩
def Zhi (I:Fr→List Ze→Prop) (ds:List ZO) (Q:AQ):AQ:=fun x f H ds'=>match x with| .normal=>ds'=ds∧I f H|x=>Q x f H ds'
theorem J2 {n:Nat} {a b:Code} {Q:AQ} {f:Fr} {H:List Ze} {ds:List ZO} (hn:Nat→Bool) (od:Nat→Option Y7) (I:Fr→List Ze→Prop) (hs:(JM hn od n a&&P.follows .mixedOrders)=true)
 (h1:vcC P hn od n a (Zhi I ds Q) f H ds) (h2:∀f H,I f H→X6 P n b Q f H ds):X6 P n (.seq a b) Q f H ds:=by
 simp only [Bool.and_eq_true] at hs
 refine Zko ((JR hs.2 hs.1 h1).mono fun x f H ds' hx=>?_)
 cases x with
 |normal=>obtain⟨rfl,hI⟩:=hx;exact h2 f H hI
 |_=>exact hx
theorem Z4 {n:Nat} {a b:Code} {Q:AQ} {f:Fr} {H:List Ze} {ds:List ZO} (I:Fr→List Ze→Prop)
 (h1:X6 P n a (Zhi I ds Q) f H ds) (h2:∀f H,I f H→X6 P n b Q f H ds):X6 P n (.seq a b) Q f H ds:=by
 refine Zko (h1.mono fun x f H ds' hx=>?_)
 cases x with
 |normal=>obtain⟨rfl,hI⟩:=hx;exact h2 f H hI
 |_=>exact hx
theorem YH {n:Nat} {a:Code} {Q:AQ} {f:Fr} {H:List Ze} {ds:List ZO} (hn:Nat→Bool) (od:Nat→Option Y7) (hs:(JM hn od n a&&P.follows .mixedOrders)=true)
 (h1:vcC P hn od n a Q f H ds):X6 P n a Q f H ds:=by
 simp only [Bool.and_eq_true] at hs
 exact JR hs.2 hs.1 h1
theorem Zc {P:Program} {n:Nat} {a b:Code} {Q:AQ} {f:Fr} {H:List Ze} {ds:List ZO} (I:Fr→List Ze→Prop) (hs:(JM (fun _=>false) (fun _=>none) n a&&P.follows .mixedOrders)=true) (h1:vcC P (fun _=>false) (fun _=>none) n a (Zhi I ds Q) f H ds) (h2:∀f H,I f H→X6 P n b Q f H ds):X6 P n (.seq a b) Q f H ds:=J2 _ _ I hs h1 h2
theorem Zk {P:Program} {n:Nat} {a:Code} {Q:AQ} {f:Fr} {H:List Ze} {ds:List ZO} (hs:(JM (fun _=>false) (fun _=>none) n a&&P.follows .mixedOrders)=true) (h1:vcC P (fun _=>false) (fun _=>none) n a Q f H ds):X6 P n a Q f H ds:=YH _ _ hs h1
theorem Yd {n:Nat} {c:Code} {Q:AQ} {f:Fr} {H:List Ze} {ds:List ZO} {α:Type} (I:α→Fr→List Ze→Prop) (μ:α→Nat) (x0:α) (h:I x0 f H)
 (round:∀x f H,I x f H→X6 P n c (JG (fun f' H' ds'=>ds'=ds∧∃y,μ y<μ x∧I y f' H') Q) f H ds):X6 P n (.loop c) Q f H ds:=by
 refine ZlM (fun m f H ds'=>ds'=ds∧∃x,μ x=m∧I x f H) ?_ ⟨rfl,x0,rfl,h⟩
 rintro m f H _ ⟨rfl,x,rfl,hI⟩
 refine (round x f H hI).mono fun y f' H' ds' hq=>?_
 cases y<;>first|exact hq|(obtain⟨h1,z,h2,h3⟩:=hq;exact⟨_,h2,h1,z,rfl,h3⟩)
@[simp ↓] theorem Zyc (I:Fr→List Ze→Prop) (ds0:List ZO) (Q:AQ) (f:Fr) (H:List Ze) (ds:List ZO) (w:ZQ (Zhi I ds0 Q,AX.normal,f,H,ds)):QW (Zhi I ds0 Q) .normal f H ds w=(ds=ds0∧I f H):=(rfl)
@[simp ↓] theorem Zyq (I:Fr→List Ze→Prop) (ds0:List ZO) (Q:AQ) (f:Fr) (H:List Ze) (ds:List ZO) (w:ZQ (Zhi I ds0 Q,AX.ret,f,H,ds)):QW (Zhi I ds0 Q) .ret f H ds w=QW Q .ret f H ds (Z5 _):=(rfl)
@[simp ↓] theorem ZxT (I:Fr→List Ze→Prop) (ds0:List ZO) (Q:AQ) (x:AV) (f:Fr) (H:List Ze) (ds:List ZO) (w:ZQ (Zhi I ds0 Q,AX.pan x,f,H,ds)):QW (Zhi I ds0 Q) (.pan x) f H ds w=QW Q (.pan x) f H ds (Z5 _):=(rfl)
@[simp ↓] theorem ZxN (I:Fr→List Ze→Prop) (ds0:List ZO) (Q:AQ) (id:Nat) (f:Fr) (H:List Ze) (ds:List ZO) (w:ZQ (Zhi I ds0 Q,AX.exit id,f,H,ds)):QW (Zhi I ds0 Q) (.exit id) f H ds w=QW Q (.exit id) f H ds (Z5 _):=(rfl)
theorem Zaa {H:List Ze} {sl:TypeId×Nat×List Value×Nat} {ys:List (List AV)} {K:AV→List Ze→Prop} {w:ZQ K} (hb:ys.length*sl.2.2.2≤140737488355328) (h63:ys.length≤9223372036854775807)
 (h0:ys=[]→K (.v (.slice none 0 0)) H) (h1:ys≠[]→K (.hs H.length 0 ys.length ys.length) (H++[.row sl.1 sl.2.1 ys])):XA H sl (.v (.slice none 0 0)) ys K w:=by
 unfold XA ZbH
 exact⟨h0,fun h=>⟨hb,h63,.inl (h1 h)⟩⟩
end
end Go.Mu
