import Derived.Test.YtpibcbilkpoomaaGreatm20
set_option linter.all false
set_option maxHeartbeats 4000000
set_option maxRecDepth 100000
namespace Go.Mu
open Go.RowKit (Below)
mutual
theorem Zbo {n m:Nat} (h:n≤m):∀ (a:AV),a.under n=true→a.under m=true
 | .v _,_=>rfl
 | .vs _ _,_=>rfl
 | .vx _ _,_=>rfl
 | .vp _,_=>rfl
 | .bp k _,hu=>by simp only [AV.under,decide_eq_true_eq] at hu ⊢;omega
 | .rp k _ _ _,hu=>by simp only [AV.under,decide_eq_true_eq] at hu ⊢;omega
 | .hs k _ _ _,hu=>by simp only [AV.under,decide_eq_true_eq] at hu ⊢;omega
 | .hm k,hu=>by simp only [AV.under,decide_eq_true_eq] at hu ⊢;omega
 | .hg k,hu=>by simp only [AV.under,decide_eq_true_eq] at hu ⊢;omega
 | .hi k,hu=>by simp only [AV.under,decide_eq_true_eq] at hu ⊢;omega
 | .yl k,hu=>by simp only [AV.under,decide_eq_true_eq] at hu ⊢;omega
 | .fn _ a b,hu=>by simp only [AV.under,Bool.and_eq_true] at hu ⊢;exact⟨X3 h a hu.1,X3 h b hu.2⟩
 | .ifc _ x,hu=>by simp only [AV.under] at hu ⊢;exact Zbo h x hu
 | .agg a,hu=>by simp only [AV.under] at hu ⊢;exact X3 h a hu
 | .tup a,hu=>by simp only [AV.under] at hu ⊢;exact X3 h a hu
 | .junk,_=>rfl
theorem X3 {n m:Nat} (h:n≤m):∀ (l:List AV),YZ n l=true→YZ m l=true
 |[],_=>rfl
 |a::l,hu=>by simp only [YZ,Bool.and_eq_true] at hu ⊢;exact⟨Zbo h a hu.1,X3 h l hu.2⟩
end
theorem Zo0 {n m:Nat} (h:n≤m) (b:Ze) (hu:b.under n=true):b.under m=true:=by
 cases b with
 |box t cs=>exact X3 h cs hu
 |row t z rs=>
  simp only [Ze.under,List.all_eq_true] at hu ⊢
  exact fun r hr=>X3 h r (hu r hr)
 |map ms=>
  simp only [Ze.under,List.all_eq_true] at hu ⊢
  exact fun p hp=>Zbo h p.2 (hu p hp)
 |mapg ms=>
  simp only [Ze.under,List.all_eq_true] at hu ⊢
  exact fun p hp=>Zbo h p.2 (hu p hp)
 |lp st pend n f ps assign body=>
  simp only [Ze.under,List.all_eq_true,List.mem_range] at hu ⊢
  exact fun t ht=>Zbo h _ (hu t ht)
 |it km q seen=>
  cases km with
  |none=>rfl
  |some k=>simp only [Ze.under,decide_eq_true_eq] at hu ⊢;omega
 |_=>rfl
theorem Zg8 {n m:Nat} {A B:List Ze} (h:n≤m) (ha:YC n A=true) (hb:∀b∈B,b.under m=true):YC m (A++B)=true:=by
 simp only [YC,List.all_eq_true,List.mem_append] at ha ⊢
 rintro b (hm|hm)
 ·exact Zo0 h b (ha b hm)
 ·exact hb b hm
end Go.Mu
namespace Go.Proofs
open Go.Mu
abbrev KL:=List (ByteArray×Int)
abbrev knC (x:ByteArray×Int):List AV:=[St x.1,U x.2]
abbrev XK (k:KL):AV:=.vs 2 (k.map knC)
abbrev knB (k:KL):Ze:=Yn 122 2 (k.map knC)
abbrev knS (j:Nat) (k:KL):AV:=Yo j (k.map knC)
theorem Zhf (l:KL):(l.map knC).flatten.all AV.frzB=true:=XQ _ (fun x=>by simp [AV.frzB]) l
def ZmY (o:Option Int):AV:=.tup [U (o.getD 0),Bo o.isSome]
theorem Zla (k:KL) (n:ByteArray) (hk:k.length≤2^40) (H:List Ze):Zi Tryz.prog 141 [XK k,St n] H (fun e H'=>e=.ret (ZmY (Yq n k))∧H'=H):=by
 refine Zf (Z0 Tryz.func141 rfl (by kernel_rfl) ?_)
 obtain⟨E,hE⟩:∃E,E=Yq n k:=⟨_,rfl⟩
 rw [←hE]
 refine Zc (fun f H'=>H'=H++[]∧f 0=XK k∧f 1=St n) (by kernel_rfl) ?_ ?_
 ·simp -dsimp
 rintro g _ ⟨rfl,g0,g1⟩
 rw [List.append_nil]
 refine Zk (by kernel_rfl) ?_
 simp -dsimp [g0,g1]
 refine Zv (fun (i:Nat) f H'=>H=H'∧f 0=XK k∧f 1=St n∧f 6=I i∧i≤k.length∧Yq n (k.drop i)=E) (fun i=>k.length-i) (by kernel_rfl) 0 (by simp [g0,g1];exact hE.symm) ?_
 clear g g0 g1
 rintro i f _ ⟨rfl,f0,f1,f6,hi,hinv⟩
 simp -dsimp [f0,f1,f6]
 refine Zb (fun hlt=>?_) (fun hlt=>?_)
 ·have hlt':i<k.length:=by omega
  have hx:=List.getElem?_eq_getElem hlt'
  rw [Zo hlt'] at hinv
  obtain⟨x,hxe⟩:∃x,x=k[i]:=⟨_,rfl⟩
  rw [←hxe] at hinv hx
  clear hxe
  obtain⟨m,v⟩:=x
  rw [Yq] at hinv
  simp -dsimp [f0,f1,f6,hx]
  refine Zb (fun h=>?_) (fun h=>?_)
  ·rw [if_pos h.symm] at hinv
   simp -dsimp [f0,f1,f6,hx]
   exact Z7 rfl ⟨by rw [←hinv];rfl,rfl⟩
  ·rw [if_neg (fun q=>h q.symm)] at hinv
   simp -dsimp [f0,f1,f6]
   exact⟨i+1,by omega,ZC (by omega),by omega,hinv⟩
 ·rw [ZI hlt,Yq] at hinv
  simp -dsimp
  exact Z7 rfl ⟨by rw [←hinv];rfl,rfl⟩
def ZX (n:ByteArray) (k:KL):KL:=k.filter fun x=>decide (x.1≠n)
def XL (a b:KL):KL:=a.filter fun x=>decide (Yq x.1 b=some x.2)
theorem ZhP (k:KL) (n:ByteArray) (hk:k.length≤2^40) (H:List Ze):Zi Tryz.prog 92 [XK k,St n] H (fun e H'=>e=.ret (knS H.length (ZX n k))∧H'=H++[knB (ZX n k)]):=by
 refine Ya fun hu _=>Zf (Yv 1 (Z0 Tryz.func92 rfl (by kernel_rfl) ?_))
 refine Zc (fun f H'=>H'=H++[Ze.pend]∧f 0=XK k∧f 1=St n) (by kernel_rfl) ?_ ?_
 ·simp -dsimp
 rintro g _ ⟨rfl,g0,g1⟩
 refine YH (fun d=>d==26) (fun _=>none) (by kernel_rfl) ?_
 simp -dsimp [g0,g1]
 have hW:∀i,(ZX n (k.take i)).length≤i:=fun i=>by unfold ZX;exact Nat.le_trans (List.length_filter_le _ _) (by simp;omega)
 refine Ju (hn:=fun d=>d==26) (od:=fun _=>none) (fun (i:Nat) f H'=>H'=H++[knB (ZX n (k.take i))]∧f 0=XK k∧f 1=St n∧f 5=knS H.length (ZX n (k.take i))∧f 6=I i∧i≤k.length) (fun i=>k.length-i) (by kernel_rfl) 0 (by simp [g0,g1,ZX,Yn,Yo]) ?_
 clear g g0 g1
 rintro i f _ ⟨rfl,f0,f1,f5,f6,hi⟩
 have hWi:=hW i
 simp -dsimp [f0,f1,f5,f6]
 refine Zb (fun hlt=>?_) (fun hlt=>?_)
 ·have hlt':i<k.length:=by omega
  have hx:=List.getElem?_eq_getElem hlt'
  have htk:ZX n (k.take (i+1))=ZX n (k.take i)++ZX n [k[i]]:=by
   rw [List.take_add_one,hx];unfold ZX;rw [List.filter_append];rfl
  obtain⟨x,hxe⟩:∃x,x=k[i]:=⟨_,rfl⟩
  rw [←hxe] at hx htk
  clear hxe
  obtain⟨m,v⟩:=x
  obtain⟨W,hWe⟩:∃W,W=ZX n (k.take i):=⟨_,rfl⟩
  rw [←hWe] at f5 htk hWi ⊢
  simp -dsimp [f0,f1,f5,f6,hx]
  by_cases h:m=n
  ·have hd:decide (m=n)=true:=by simp [h]
   have hw:ZX n [(m,v)]=[]:=by simp [ZX,h]
   rw [hw,List.append_nil] at htk
   simp -dsimp [f0,f1,f5,f6,hd]
   exact⟨i+1,by omega,by rw [htk],by rw [htk],ZC (by omega),by omega⟩
  ·have hd:decide (m=n)=false:=by simp [h]
   have hw:ZX n [(m,v)]=[(m,v)]:=by simp [ZX,h]
   rw [hw] at htk
   simp -dsimp [f0,f1,f5,f6,hd,hx]
   refine ZD (k:=H.length) (es:=W.map knC) (by simp) (by simp;omega) (by simp;omega) ?_
   have e:W.map knC++[[St m,U v]]=(W++[(m,v)]).map knC:=by simp
   rw [e,←htk]
   simp -dsimp [f0,f1,f6]
   exact⟨i+1,by omega,rfl,rfl,ZC (by omega),by omega⟩
 ·have hall:k.take i=k:=List.take_of_length_le (by omega)
  rw [hall] at f5 ⊢
  simp -dsimp [f5]
  have:=Zer (H:=H) (H2:=H++[knB (ZX n k)]) (L:=[]) (R:=fun e H'=>e=AE.ret (knS H.length (ZX n k))∧H'=H++[knB (ZX n k)]) (r:=knS H.length (ZX n k)) (by simp) (fun h=>Zg8 (n:=H.length) (by simp) hu (fun b hb=>by
   obtain rfl:=List.mem_singleton.1 hb
   exact YR (Zhf _))) (ZeS _ _ _ (by simp)) ⟨rfl,rfl⟩
  simpa using this
theorem Zs3 (a b:KL) (ha:a.length≤2^40) (hb:b.length≤2^40) (H:List Ze):Zi Tryz.prog 93 [XK a,XK b] H (fun e H'=>e=.ret (XK (XL a b))∧H'=H):=by
 refine Ya fun hu _=>ZU (Zf (Yv 1 (Z0 Tryz.func93 rfl (by kernel_rfl) ?_)))
 refine Zc (fun f H'=>H'=H++[Ze.pend]∧f 0=XK a∧f 1=XK b) (by kernel_rfl) ?_ ?_
 ·simp -dsimp
 rintro g _ ⟨rfl,g0,g1⟩
 refine YH (fun d=>d==41) (fun _=>none) (by kernel_rfl) ?_
 simp -dsimp [g0,g1]
 have hW:∀i,(XL (a.take i) b).length≤i:=fun i=>by unfold XL;exact Nat.le_trans (List.length_filter_le _ _) (by simp;omega)
 refine Ju (hn:=fun d=>d==41) (od:=fun _=>none) (fun (i:Nat) f H'=>H'=H++[knB (XL (a.take i) b)]∧f 0=XK a∧f 1=XK b∧f 5=knS H.length (XL (a.take i) b)∧f 6=I i∧i≤a.length) (fun i=>a.length-i) (by kernel_rfl) 0 (by simp [g0,g1,XL,Yn,Yo]) ?_
 clear g g0 g1
 rintro i f _ ⟨rfl,f0,f1,f5,f6,hi⟩
 have hWi:=hW i
 simp -dsimp [f0,f1,f5,f6]
 refine Zb (fun hlt=>?_) (fun hlt=>?_)
 ·have hlt':i<a.length:=by omega
  have hx:=List.getElem?_eq_getElem hlt'
  have htk:XL (a.take (i+1)) b=XL (a.take i) b++XL [a[i]] b:=by
   rw [List.take_add_one,hx];unfold XL;rw [List.filter_append];rfl
  obtain⟨x,hxe⟩:∃x,x=a[i]:=⟨_,rfl⟩
  rw [←hxe] at hx htk
  clear hxe
  obtain⟨m,v⟩:=x
  obtain⟨W,hWe⟩:∃W,W=XL (a.take i) b:=⟨_,rfl⟩
  rw [←hWe] at f5 htk hWi ⊢
  have cf:=fun H=>Zla b m hb H
  unfold ZmY at cf
  simp -dsimp [f0,f1,f5,f6,hx]
  refine Za (cf _) ?_
  have keep:XL [(m,v)] b=[]→∃y,a.length-y<a.length-i∧knB W=knB (XL (a.take y) b)∧knS H.length W=knS H.length (XL (a.take y) b)∧IntKind.i64.wrap ((i:Int)+1)=y∧y≤a.length:=fun hw=>by
   rw [hw,List.append_nil] at htk
   exact⟨i+1,by omega,by rw [htk],by rw [htk],ZC (by omega),by omega⟩
  cases hq:Yq m b with
  |none=>
   simp -dsimp [f0,f1,f5,f6]
   exact keep (by simp [XL,hq])
  |some w=>
   by_cases h:w=v
   ·subst h
    have hw:XL [(m,w)] b=[(m,w)]:=by simp [XL,hq]
    rw [hw] at htk
    simp -dsimp [f0,f1,f5,f6,hx]
    refine ZD (k:=H.length) (es:=W.map knC) (by simp) (by simp;omega) (by simp;omega) ?_
    have e:W.map knC++[[St m,U w]]=(W++[(m,w)]).map knC:=by simp
    rw [e,←htk]
    simp -dsimp [f0,f1,f6]
    exact⟨i+1,by omega,rfl,rfl,ZC (by omega),by omega⟩
   ·have hb:(w==v)=false:=by simpa using h
    simp -dsimp [f0,f1,f5,f6,hx,hb]
    exact keep (by simp [XL,hq,h])
 ·have hall:a.take i=a:=List.take_of_length_le (by omega)
  rw [hall] at f5 ⊢
  simp -dsimp [f5]
  refine ZcN (f:=fun x=>x) hu 0 2 122 _ rfl (Zhf _) (fun x=>rfl) (fun x L' hx _=>?_)
  refine Z2 ?_ (ZR hx.weak ⟨rfl,rfl⟩)
  rcases hx with ⟨rfl,_⟩|rfl<;>rfl
theorem ZrK (m:Nat):∀ (e:Ex),e.count<m→e.count≤2^36→∀H,Zi Tryz.prog 27 [.agg e.cells] H (fun x H'=>x=.ret (Bo e.safe)∧H'=H):=by
 induction m with
 |zero=>intro e h;omega
 |succ m ih=>
  intro e hm hc H
  have hcc:=Ex.count_eq e
  have hl:=Yy e.args
  refine Zf (Zg Tryz.func27 rfl (by kernel_rfl) ?_)
  obtain⟨E,hE⟩:∃E,E=e.safe:=⟨_,rfl⟩
  rw [←hE]
  rw [Ex.safe_eq] at hE
  obtain⟨V,hV⟩:∃V,V=H++[.box 73 [I e.op,U e.word,St e.name,Ex.sl e.args]]:=⟨_,rfl⟩
  have v0:V[H.length]?=some (.box 73 [I e.op,U e.word,St e.name,Ex.sl e.args]):=by rw [hV];simp
  have fin:∀b,b=E→ZW H (fun r M'=>r=.ret (Bo E)∧M'=H) (.ret (Bo b)) V:=fun b hb=>by rw [hb,hV];exact Z2 rfl ⟨rfl,rfl⟩
  simp -dsimp
  rw [←hV]
  refine Zv (fun (i:Nat) q H'=>V=H'∧q 1=.bp H.length 0∧q 3=I i∧i≤e.args.length∧(ZaH (e.args.drop i)&&e.op != 3)=E) (fun i=>e.args.length-i) (by kernel_rfl) 0 (by simp [hE]) ?_
  clear hV
  rintro i q _ ⟨rfl,q1,q3,hi,hinv⟩
  simp -dsimp [q1,q3,v0]
  refine Zb (fun hlt=>?_) (fun hlt=>?_)
  ·have hlt':i<e.args.length:=by omega
   have hb:=JN hlt'
   rw [Zo hlt',ZaH] at hinv
   have hx:=List.getElem?_eq_getElem hlt'
   obtain⟨x,hxe⟩:∃x,x=e.args[i]:=⟨_,rfl⟩
   rw [←hxe] at hinv hb hx
   clear hxe
   have hxc:(e.args.map Ex.cells)[i]?=some [I x.op,U x.word,St x.name,Ex.sl x.args]:=by rw [List.getElem?_map,hx,Option.map_some,Ex.cells_eq]
   have c:=fun H=>ih x (by omega) (by omega) H
   simp only [Ex.cells_eq] at c
   simp -dsimp [q1,q3,v0,hxc]
   refine Za (c _) ?_
   cases hl:x.safe
   ·rw [hl,Bool.false_and,Bool.false_and] at hinv
    simp -dsimp
    exact fin _ hinv
   ·rw [hl,Bool.true_and] at hinv
    simp -dsimp [q1,q3]
    exact⟨i+1,by omega,ZC (by omega),by omega,hinv⟩
  ·rw [ZI hlt,ZaH,Bool.true_and] at hinv
   simp -dsimp [q1,v0]
   exact fin _ hinv
end Go.Proofs
namespace Go.Proofs
open Go.Mu
theorem ZoV (op:Int) (H:List Ze):Zi Tryz.prog 142 [I op] H (fun e H'=>e=.ret (I (Jt op))∧H'=H):=by
 refine Zf (Zg Tryz.func142 rfl (by kernel_rfl) ?_)
 simp -dsimp
 repeat' first
  |exact Z7 rfl ⟨congrArg (fun n:Int=>AE.ret (I n)) (by unfold Jt;first|(subst_vars;rfl)|((repeat' split)<;>omega)),rfl⟩
  |(refine Zt (fun h=>?_) (fun h h1 h2=>?_)<;>simp -dsimp [*])
  |(refine Zm (fun h=>?_) (fun h=>?_)<;>simp -dsimp [*])
  |(refine Zq (fun h=>?_) (fun h h1 h2=>?_)<;>simp -dsimp [*])
  |(refine Zb (fun h=>?_) (fun h=>?_)<;>simp -dsimp [*])
theorem Zss (b:Bool) (H:List Ze):Zi Tryz.prog 218 [Bo b] H (fun e H'=>e=.ret (U (if b=true then 1 else 0))∧H'=H):=by
 refine Zf (Zg Tryz.func218 rfl (by kernel_rfl) ?_)
 cases b
 ·simp -dsimp
  exact Z7 rfl ⟨rfl,rfl⟩
 ·simp -dsimp
  exact Z7 rfl ⟨rfl,rfl⟩
theorem Zdw (x:Int):IntKind.u64.wrap x=x % 18446744073709551616:=by
 rw [IntKind.wrap]
 have h3:IntKind.u64.signed=false:=rfl
 have:(2:Int)^IntKind.u64.bits=18446744073709551616:=by decide
 simp only [h3,this,Bool.false_and]
 simp
theorem Znu {n:Nat} (h:n<64):YX (IntKind.u64.wrap (n:Int))=n:=by rw [Zdw];unfold YX;omega
theorem Zq3 {n:Nat} (h:n<64) (h0:0<n):YX (IntKind.u64.wrap (-(n:Int)))=64-n:=by rw [Zdw];unfold YX;omega
theorem ZqW (a b:Int):orU a b=orU b a:=by unfold orU;rw [Nat.or_comm]
def InU (x:Int):Prop:=0≤x∧x<18446744073709551616
theorem Ziv (x:Int):InU (IntKind.u64.wrap x):=by
 rw [IntKind.wrap]
 have h3:IntKind.u64.signed=false:=rfl
 have:(2:Int)^IntKind.u64.bits=18446744073709551616:=by decide
 simp only [h3,this,Bool.false_and]
 constructor<;>simp<;>omega
theorem JX {c:Prop} [Decidable c] {x y:Int} (hx:InU x) (hy:InU y):InU (if c then x else y):=by
 split
 ·exact hx
 ·exact hy
theorem ZpL (op:Int):∀l:List Int,(∀x∈l,InU x)→InU (XB op l)
 |[],_=>⟨by simp [XB],by simp [XB]⟩
 |[a],h=>by
  show InU (if op=4 then Ztg a else wU (0-a))
  split
  ·exact Ziv _
  ·exact Ziv _
 |[a,b],h=>by
  have ha:=h a (by simp)
  show InU (ev2 op a b)
  have hs:InU (ZhU a (YX b)):=by
   obtain⟨h1,h2⟩:=ha
   unfold ZhU
   have hp:(0:Int)<2^YX b:=Int.pow_pos (by decide)
   obtain⟨d,hd⟩:∃d:Int,d=2^YX b:=⟨_,rfl⟩
   rw [←hd] at hp ⊢
   rw [Int.fdiv_eq_ediv_of_nonneg _ (by omega)]
   refine⟨Int.ediv_nonneg h1 (by omega),?_⟩
   have:=Int.ediv_le_self d h1
   omega
  have w:=fun x=>Ziv x
  have o1:InU 1:=⟨by omega,by omega⟩
  have o0:InU 0:=⟨by omega,by omega⟩
  unfold ev2
  exact JX (w _) (JX (w _) (JX (w _) (JX (w _) (JX (w _) (JX (w _) (JX (w _) (JX hs (JX (w _) (JX (w _) (JX (w _) (JX (JX o1 o0) (JX (JX o0 o1) (JX (JX o1 o0) (JX o1 o0))))))))))))))
 |[a,b,c],h=>by
  show InU (if a=0 then c else b)
  split
  ·exact h c (by simp)
  ·exact h b (by simp)
 |_::_::_::_::_,_=>⟨by simp [XB],by simp [XB]⟩
theorem Zri (op:Int) (l:List Int) (hl:Jt op=l.length) (hu:∀x∈l,InU x) (H:List Ze):Zi Tryz.prog 143 [I op,U.sl l] H (fun e H'=>e=.ret (U (XB op l))∧H'=H):=by
 refine Zf (Zg Tryz.func143 rfl (by kernel_rfl) ?_)
 match l,hl with
 |[],h=>exfalso;simp only [Jt] at h;split at h<;>(try split at h)<;>(try split at h)<;>simp at h
 |[a],h=>
  have:op=4∨op=5:=by
   simp only [Jt] at h
   split at h
   ·assumption
   ·split at h<;>(try split at h)<;>simp at h
  have hun:=unx a
  rcases this with rfl|rfl
  ·simp -dsimp [hun]
   exact Z7 rfl ⟨rfl,rfl⟩
  ·simp -dsimp
   exact Z7 rfl ⟨by simp [XB,wU],rfl⟩
 |[a,b],h=>
  have:6≤op∧op≤20:=by
   simp only [Jt] at h
   split at h
   ·simp at h
   ·split at h
    ·assumption
    ·split at h<;>simp at h
  have:op=6∨op=7∨op=8∨op=9∨op=10∨op=11∨op=12∨op=13∨op=14∨op=15∨op=16∨op=17∨op=18∨op=19∨op=20:=by omega
  have ha:=hu a (by simp)
  have hb:=hu b (by simp)
  have hm:b.tmod 64=(YX b:Int):=by
   rw [Int.tmod_eq_emod_of_nonneg hb.1];unfold YX;have:=Int.emod_nonneg b (show (64:Int)≠0 by decide);omega
  have hm6:=ZcK b
  have e1:IntKind.u64.wrap (64-(YX b:Int))=((64-YX b:Nat):Int):=by
   rw [IntKind.wrap]
   have h3:IntKind.u64.signed=false:=rfl
   have:(2:Int)^IntKind.u64.bits=18446744073709551616:=by decide
   simp only [h3,this]
   simp
   omega
  have e2: ¬ (((64-YX b:Nat):Int)<0):=by omega
  have e3:min (64-YX b) IntKind.u64.bits=64-YX b:=Nat.min_eq_left (by show 64-YX b≤64;omega)
  have on:=fun (q:Bool) H=>Zss q H
  rcases this with rfl|rfl|rfl|rfl|rfl|rfl|rfl|rfl|rfl|rfl|rfl|rfl|rfl|rfl|rfl
  all_goals
   simp -dsimp [hm,Zqt,Zsy,Zx8,e1,e2,e3]
   first
    |(refine Za (on _ _) ?_;simp -dsimp;exact Z7 rfl ⟨by simp [XB,ev2],rfl⟩)
    |exact Z7 rfl ⟨rfl,rfl⟩
    |(refine Z7 rfl ⟨?_,rfl⟩;rw [show XB 15 [a,b]=Zi7 a (YX b) from rfl,Zi7,Znu hm6];rfl)
    |(refine Z7 rfl ⟨?_,rfl⟩
      show AE.ret (U (orU (ZhU a (YX b)) (ZkS a (64-YX b))))=AE.ret (U (Zi7 a (-(YX b:Int))))
      rw [Zi7]
      rcases Nat.eq_zero_or_pos (YX b) with h0|h0
      ·rw [h0]
       obtain⟨q1,q2⟩:=ha
       have r1:YX (IntKind.u64.wrap (-((0:Nat):Int)))=0:=by rw [Zdw];decide
       have r2:ZhU a 0=a:=by unfold ZhU;rw [Int.fdiv_eq_ediv_of_nonneg _ (by decide)];simp
       have r3:ZkS a 0=a:=by unfold ZkS;rw [Zdw];omega
       have r4:ZkS a 64=0:=by unfold ZkS;rw [Zdw,show (2:Int)^64=18446744073709551616 from by decide];omega
       have r5:ZhU a 64=0:=by unfold ZhU;rw [Int.fdiv_eq_ediv_of_nonneg _ (by decide),show (2:Int)^64=18446744073709551616 from by decide];omega
       rw [r1,r2,r3,Nat.sub_zero,r4,r5]
      ·rw [Zq3 hm6 h0,ZqW,show 64-(64-YX b)=YX b from by omega])
 |[a,b,c],h=>
  have:op=21:=by
   simp only [Jt] at h
   split at h
   ·simp at h
   ·split at h
    ·simp at h
    ·split at h
     ·assumption
     ·simp at h
  subst this
  simp -dsimp
  refine Zl (fun h1 h1a h1b=>?_) (fun h1=>?_)
  ·simp -dsimp
   exact Z7 rfl ⟨by simp [XB,h1],rfl⟩
  ·simp -dsimp
   exact Z7 rfl ⟨by simp [XB,h1],rfl⟩
 |a::b::c::d::l,h=>
  exfalso
  simp only [Jt,List.length_cons] at h
  split at h<;>(try split at h)<;>(try split at h)<;>omega
end Go.Proofs
namespace Go.Proofs
open Go.Mu
def YQ.ok (K:YQ):Prop:=∀n v,K n=some v→inU v=true
theorem Zu2 {x:Int} (h:InU x):inU x=true:=by unfold inU;have:=h.1;have:=h.2;rw [decide_eq_true (by omega),decide_eq_true (by omega)];rfl
theorem ZnP {x:Int} (h:inU x=true):(cEx x).rng=true:=by rw [cEx,Ex.rng,h];rfl
theorem Zml (K:YQ) (hK:K.ok) (m:Nat):(∀e:Ex,e.count≤m→e.rng=true→(e.fold K).rng=true)∧(∀l:List Ex,ZE l≤m→Xz l=true→Xz (JA K l)=true):=by
 induction m with
 |zero=>
  refine⟨fun e h=>by rw [Ex.count_eq] at h;omega,fun l hl _=>?_⟩
  have:=Yy l;obtain rfl:l=[]:=List.eq_nil_of_length_eq_zero (by omega);simp [JA,Xz]
 |succ m ih=>
  have he:∀e:Ex,e.count≤m+1→e.rng=true→(e.fold K).rng=true:=fun e h hr=>by
   have hc:=Ex.count_eq e
   rw [Ex.rng_eq] at hr
   simp only [Bool.and_eq_true] at hr
   obtain⟨⟨h1,h2⟩,h3⟩:=hr
   have hos:=ih.2 e.args (by omega) h3
   rw [Ex.fold_eq]
   obtain⟨os,ho⟩:∃os,os=JA K e.args:=⟨_,rfl⟩
   rw [←ho] at hos ⊢
   have hmk:(Ex.mk e.op e.word e.name os).rng=true:=by rw [Ex.rng,h1,h2,hos];rfl
   unfold ZaE
   split
   ·rename_i v hv
    refine ZnP (hK e.name v ?_)
    split at hv
    ·exact hv
    ·cases hv
   ·split
    ·split
     ·refine ZnP (Zu2 (ZpL _ _ fun x hx=>?_))
      obtain⟨y,hy,rfl⟩:=List.mem_map.1 hx
      have:=Zct hos y hy
      rw [Ex.rng_eq] at this
      simp only [Bool.and_eq_true,inU,decide_eq_true_eq] at this
      exact⟨this.1.2.1,by omega⟩
     ·split
      ·rcases Zil os (.mk e.op e.word e.name os) with h|h
       ·rw [h];exact hmk
       ·exact Zct hos _ h
      ·exact hmk
    ·exact hmk
  refine⟨he,fun l=>?_⟩
  induction l with
  |nil=>intro _ _;simp [JA,Xz]
  |cons e l ihl=>
   intro h hr
   simp only [ZE] at h
   rw [Xz,Bool.and_eq_true] at hr
   rw [JA,Xz,he e (by omega) hr.1,ihl (by rw [Ex.count_eq] at h;omega) hr.2];rfl
theorem ZdR (K:YQ) (hK:K.ok) (e:Ex) (h:e.rng=true):(e.fold K).rng=true:=(Zml K hK e.count).1 e (Nat.le_refl _) h
theorem Zkv (K:YQ) (hK:K.ok) (l:List Ex) (h:Xz l=true):Xz (JA K l)=true:=(Zml K hK (ZE l)).2 l (Nat.le_refl _) h
abbrev Jv (k:KL):YQ:=fun n=>Yq n k
theorem Zih (k:KL) (hk:k.length≤2^40) (hKr:(Jv k).ok) (m:Nat):∀ (e:Ex),e.count<m→e.count≤2^36→e.rng=true→∀ (H:List Ze),Zi Tryz.prog 91 [.agg e.cells,XK k] H (fun x H'=>x=.ret (.agg (e.fold (Jv k)).cells)∧H'=H):=by
 obtain⟨K,hKe⟩:∃K,K=Jv k:=⟨_,rfl⟩
 rw [←hKe] at hKr ⊢
 induction m with
 |zero=>intro e h;omega
 |succ m ih=>
  intro e hm hc hr H
  refine Ya fun hu _=>ZU (Zf (Yv 2 (Z0 Tryz.func91 rfl (by kernel_rfl) ?_)))
  have hcc:=Ex.count_eq e
  have hal:=Yy e.args
  obtain⟨E,hE⟩:∃E,E=e.fold K:=⟨_,rfl⟩
  rw [←hE]
  rw [Ex.fold_eq] at hE
  obtain⟨o,w,n,a,rfl⟩:∃o w n a,e=.mk o w n a:=⟨e.op,e.word,e.name,e.args,by cases e;rfl⟩
  simp only [Ex.cells_eq]
  simp only [Ex.op,Ex.word,Ex.name,Ex.args] at hE hal hcc ⊢
  obtain⟨bE,hbE⟩:∃bE,bE=Ze.box 73 [I o,U w,St n,Ex.sl a]:=⟨_,rfl⟩
  obtain⟨bZ,hbZ⟩:∃bZ,bZ=Ze.box 73 [I 0,U 0,St ByteArray.empty,Yp]:=⟨_,rfl⟩
  obtain⟨M,hM⟩:∃M:List Int→List Ex→List Ze→List Ze,∀ws os R,M ws os R=H++woB ws::exB os::bE::bZ::.box 73 [I o,U w,St n,exS (H.length+1) os]::R:=⟨_,fun _ _ _=>rfl⟩
  have hMa:∀ws os R X,M ws os R++X=M ws os (R++X):=fun ws os R X=>by rw [hM,hM];simp
  have hMl:∀ws os R,(M ws os R).length=H.length+5+R.length:=fun ws os R=>by rw [hM];simp;omega
  have m0:∀ws os R,(M ws os R)[H.length]?=some (woB ws):=fun ws os R=>by rw [hM];simp
  have m1:∀ws os R,(M ws os R)[H.length+1]?=some (exB os):=fun ws os R=>by rw [hM];simp
  have m2:∀ws os R,(M ws os R)[H.length+2]?=some (.box 73 [I o,U w,St n,Ex.sl a]):=fun ws os R=>by rw [hM,←hbE];simp
  have m4:∀ws os R,(M ws os R)[H.length+4]?=some (.box 73 [I o,U w,St n,exS (H.length+1) os]):=fun ws os R=>by rw [hM];simp
  have ms1:∀ws os R os',((M ws os R).set (H.length+1) (exB os')).set (H.length+4) (.box 73 [I o,U w,St n,exS (H.length+1) os'])=M ws os' R:=fun ws os R os'=>by rw [hM,hM];simp
  have mg1:∀ws os R os',((M ws os R).set (H.length+1) (exB os'))[H.length+4]?=some (.box 73 [I o,U w,St n,exS (H.length+1) os]):=fun ws os R os'=>by rw [List.getElem?_set_ne (by omega)];exact m4 _ _ _
  have ms0:∀ws os R ws',(M ws os R).set H.length (woB ws')=M ws' os R:=fun ws os R ws'=>by rw [hM,hM];simp
  refine Zc (fun f H'=>H'=H++[Ze.pend,Ze.pend,bE,bZ]∧f 1=XK k∧f 2=.bp (H.length+2) 0∧f 4=.bp (H.length+3) 0) (by kernel_rfl) ?_ ?_
  ·rw [hbE,hbZ]
   simp -dsimp
  rintro g _ ⟨rfl,g1,g2,g4⟩
  have h2:(H++[Ze.pend,Ze.pend,bE,bZ])[H.length+2]?=some (.box 73 [I o,U w,St n,Ex.sl a]):=by rw [←hbE];simp
  obtain⟨V,hV⟩:∃V,V=H++[Ze.pend,Ze.pend,bE,bZ]:=⟨_,rfl⟩
  rw [←hV] at h2 ⊢
  refine Zc (fun f H'=>H'=V++[.box 73 [I o,U w,St n,Yp]]∧f 1=XK k∧f 2=.bp (H.length+2) 0∧f 4=.bp (H.length+3) 0∧f 5=.bp V.length 0) (by kernel_rfl) ?_ ?_
  ·simp -dsimp [g1,g2,g4,h2]
  have hVl:V.length=H.length+4:=by rw [hV];simp
  have hVM:V++[.box 73 [I o,U w,St n,Yp]]=M [] [] []:=by rw [hV,hM];simp [Yn,Yo]
  rw [hVM,hVl]
  clear g g1 g2 g4 hV hVl hVM h2 V
  rintro g _ ⟨rfl,g1,g2,g4,g5⟩
  refine Zc (fun f H'=>H'=M [] [] []∧f 1=XK k∧f 2=.bp (H.length+2) 0∧f 4=.bp (H.length+3) 0∧f 5=.bp (H.length+4) 0∧f 6=Yp) (by kernel_rfl) ?_ ?_
  ·simp -dsimp [g1,g2,g4,g5]
  clear g g1 g2 g4 g5
  rintro g _ ⟨rfl,g1,g2,g4,g5,g6⟩
  refine Zc (fun f H'=>H'=M [] [] []∧f 1=XK k∧f 2=.bp (H.length+2) 0∧f 4=.bp (H.length+3) 0∧f 5=.bp (H.length+4) 0∧f 6=Yp∧f 7=Bo true) (by kernel_rfl) ?_ ?_
  ·simp -dsimp [g1,g2,g4,g5,g6]
  clear g g1 g2 g4 g5 g6
  rintro g _ ⟨rfl,g1,g2,g4,g5,g6,g7⟩
  --the arguments
  obtain⟨os,hos⟩:∃os,os=JA K a:=⟨_,rfl⟩
  have hosl:os.length=a.length:=by rw [hos,Zcs];simp
  have hosc:ZE os≤ZE a:=by rw [hos];exact ZdS K a
  have hosr:Xz os=true:=by rw [hos];exact Zkv K hKr _ (by rw [Ex.rng_eq] at hr;simp only [Bool.and_eq_true] at hr;exact hr.2)
  rw [←hos] at hE
  refine Z4 (fun f H'=>(∃R,H'=M (os.map Ex.word) os R)∧f 1=XK k∧f 2=.bp (H.length+2) 0∧f 4=.bp (H.length+3) 0∧f 5=.bp (H.length+4) 0∧f 6=woS H.length (os.map Ex.word)∧f 7=Bo (os.all fun x=>x.op==1)) ?_ ?_
  ·refine Zc (fun f H'=>H'=M [] [] []∧f 1=XK k∧f 2=.bp (H.length+2) 0∧f 4=.bp (H.length+3) 0∧f 5=.bp (H.length+4) 0∧f 6=Yp∧f 7=Bo true∧f 8=I 0) (by kernel_rfl) ?_ ?_
   ·simp -dsimp [g1,g2,g4,g5,g6,g7]
   clear g g1 g2 g4 g5 g6 g7
   rintro g _ ⟨rfl,g1,g2,g4,g5,g6,g7,g8⟩
   refine Z9 ?_
   refine Yd (fun (i:Nat) f H'=>(∃R,H'=M ((os.take i).map Ex.word) (os.take i) R)∧f 1=XK k∧f 2=.bp (H.length+2) 0∧f 4=.bp (H.length+3) 0∧f 5=.bp (H.length+4) 0∧f 6=woS H.length ((os.take i).map Ex.word)∧f 7=Bo ((os.take i).all fun x=>x.op==1)∧f 8=I i∧i≤a.length) (fun i=>a.length-i) 0
    ⟨⟨[],by simp⟩,g1,g2,g4,g5,by rw [g6];simp [Yo],by rw [g7];rfl,g8,by omega⟩ ?_
   clear g g1 g2 g4 g5 g6 g7 g8
   rintro i g _ ⟨⟨R,rfl⟩,g1,g2,g4,g5,g6,g7,g8,hi⟩
   obtain⟨pr,hpr⟩:∃pr,pr=os.take i:=⟨_,rfl⟩
   have hprl:pr.length=i:=by rw [hpr];simp;omega
   rw [←hpr] at g6 g7 ⊢
   obtain⟨ws,hws⟩:∃ws,ws=pr.map Ex.word:=⟨_,rfl⟩
   have hwsl:ws.length=i:=by rw [hws,←hprl];simp
   rw [←hws] at g6 ⊢
   obtain⟨al,hal2⟩:∃al,al=(pr.all fun x=>x.op==1):=⟨_,rfl⟩
   rw [←hal2] at g7
   refine Zc (fun f H'=>H'=M ws pr R∧f 1=XK k∧f 2=.bp (H.length+2) 0∧f 4=.bp (H.length+3) 0∧f 5=.bp (H.length+4) 0∧f 6=woS H.length ws∧f 7=Bo al∧f 8=I i∧i<a.length) (by kernel_rfl) ?_ ?_
   ·simp -dsimp [g1,g2,g4,g5,g6,g7,g8,m2]
    refine Zb (fun hlt=>?_) (fun hlt=>?_)
    ·simp -dsimp [g1,g2,g4,g5,g6,g7,g8]
     omega
    ·have hall:os.take i=os:=List.take_of_length_le (by omega)
     rw [hall] at hpr
     subst hpr
     simp -dsimp [g1,g2,g4,g5,g6,g7]
     rw [hws,hal2]
     exact⟨⟨R,rfl⟩,rfl,rfl⟩
   clear g g1 g2 g4 g5 g6 g7 g8
   rintro g _ ⟨rfl,g1,g2,g4,g5,g6,g7,g8,hlt⟩
   have hlx:a[i]?=some a[i]:=List.getElem?_eq_getElem hlt
   have hcx:=JN hlt
   have hrx:(a[i]).rng=true:=Zct (by rw [Ex.rng_eq] at hr;simp only [Bool.and_eq_true] at hr;exact hr.2) _ (List.getElem_mem hlt)
   have hosi:os[i]?=some (a[i].fold K):=by rw [hos,Zcs,List.getElem?_map,hlx];rfl
   have htk:os.take (i+1)=pr++[a[i].fold K]:=by rw [List.take_add_one,hosi,hpr];rfl
   obtain⟨x,hx⟩:∃x,x=a[i]:=⟨_,rfl⟩
   rw [←hx] at hlx hcx htk hrx
   clear hx hosi
   have hxc:(a.map Ex.cells)[i]?=some [I x.op,U x.word,St x.name,Ex.sl x.args]:=by rw [List.getElem?_map,hlx,Option.map_some,Ex.cells_eq]
   have ci:=fun R=>ih x (by omega) (by omega) hrx (M ws pr R)
   obtain⟨y,hy⟩:∃y,y=x.fold K:=⟨_,rfl⟩
   rw [←hy] at ci htk
   simp only [Ex.cells_eq] at ci
   refine Z4 (fun f H'=>(∃R,H'=M ((os.take (i+1)).map Ex.word) (os.take (i+1)) R)∧f 1=XK k∧f 2=.bp (H.length+2) 0∧f 4=.bp (H.length+3) 0∧f 5=.bp (H.length+4) 0∧f 6=woS H.length ((os.take (i+1)).map Ex.word)∧f 7=Bo ((os.take (i+1)).all fun x=>x.op==1)∧f 8=I i) ?_ ?_
   rotate_left
   ·clear g g1 g2 g4 g5 g6 g7 g8
    rintro g _ ⟨⟨R',rfl⟩,g1,g2,g4,g5,g6,g7,g8⟩
    refine Zk (by kernel_rfl) ?_
    simp -dsimp [g1,g2,g4,g5,g6,g7,g8]
    exact⟨i+1,by omega,⟨R',rfl⟩,rfl,rfl,ZC (by omega),by omega⟩
   rw [htk]
   have hwt:(pr++[y]).map Ex.word=ws++[y.word]:=by rw [hws];simp
   have hat:((pr++[y]).all fun x=>x.op==1)=(al&&y.op==1):=by rw [hal2];simp
   rw [hwt,hat]
   refine Z9 ?_
   have ci':=ci R
   have m2':=m2 ws pr R
   obtain⟨V,hV⟩:∃V,V=M ws pr R:=⟨_,rfl⟩
   rw [←hV] at ci' m2' ⊢
   refine Zc (fun f H'=>H'=V++[.box 73 [I y.op,U y.word,St y.name,Ex.sl y.args]]∧f 1=XK k∧f 2=.bp (H.length+2) 0∧f 4=.bp (H.length+3) 0∧f 5=.bp (H.length+4) 0∧f 6=woS H.length ws∧f 7=Bo al∧f 8=I i∧f 9=.bp V.length 0) (by kernel_rfl) ?_ ?_
   ·simp -dsimp [g1,g2,g4,g5,g6,g7,g8,m2',hxc]
    refine ZA ci' ?_
    rintro r _ ⟨rfl,rfl⟩
    simp -dsimp [g1,g2,g4,g5,g6,g7,g8]
   clear g g1 g2 g4 g5 g6 g7 g8
   rw [hV,hMl,hMa,←Ex.cells_eq]
   clear hV ci' m2' V
   rintro g _ ⟨rfl,g1,g2,g4,g5,g6,g7,g8,g9⟩
   obtain⟨R',hR'⟩:∃R',R'=R++[.box 73 y.cells]:=⟨_,rfl⟩
   have gY:∀ws os,(M ws os R')[H.length+5+R.length]?=some (.box 73 [I y.op,U y.word,St y.name,Ex.sl y.args]):=fun ws os=>by
    rw [hM,hR',List.getElem?_append_right (by omega),show H.length+5+R.length-H.length=R.length+1+1+1+1+1 from by omega];simp
   rw [←hR']
   clear hR'
   refine J2 (fun d=>d==38) (fun _=>none) (fun f H'=>H'=M ws (pr++[y]) R'∧f 1=XK k∧f 2=.bp (H.length+2) 0∧f 4=.bp (H.length+3) 0∧f 5=.bp (H.length+4) 0∧f 6=woS H.length ws∧f 7=Bo al∧f 8=I i∧f 9=.bp (H.length+5+R.length) 0) (by kernel_rfl) ?_ ?_
   ·have hmp:(pr++[y]).map Ex.cells=pr.map Ex.cells++[[I y.op,U y.word,St y.name,Ex.sl y.args]]:=by rw [List.map_append,←Ex.cells_eq];rfl
    simp -dsimp [g1,g2,g4,g5,g6,g7,g8,g9,gY,m4]
    refine ZD (k:=H.length+1) (es:=pr.map Ex.cells) (m1 _ _ _) (by simp;omega) (by simp;omega) ?_
    rw [←hmp]
    have mg1':=mg1 ws pr R' (pr++[y])
    have ms1':=ms1 ws pr R' (pr++[y])
    obtain⟨V,hV⟩:∃V,V=(M ws pr R').set (H.length+1) (exB (pr++[y])):=⟨_,rfl⟩
    obtain⟨sx,hsx⟩:∃sx,sx=Yo (H.length+1) ((pr++[y]).map Ex.cells):=⟨_,rfl⟩
    have ms1':V.set (H.length+4) (.box 73 [I o,U w,St n,Yo (H.length+1) ((pr++[y]).map Ex.cells)])=M ws (pr++[y]) R':=by rw [hV];exact ms1'
    rw [←hsx] at ms1'
    rw [←hV,←hsx]
    rw [←hV] at mg1'
    have o1:AV.one sx=true:=by rw [hsx];exact ZdH _ _
    have o2:YA sx=some [sx]:=by rw [hsx];exact ZcI _ _
    simp -dsimp [g1,g2,g4,g5,g6,g7,g8,g9,mg1',ms1',o1,o2]
   clear g g1 g2 g4 g5 g6 g7 g8 g9
   rintro g _ ⟨rfl,g1,g2,g4,g5,g6,g7,g8,g9⟩
   refine J2 (fun d=>d==44) (fun _=>none) (fun f H'=>H'=M (ws++[y.word]) (pr++[y]) R'∧f 1=XK k∧f 2=.bp (H.length+2) 0∧f 4=.bp (H.length+3) 0∧f 5=.bp (H.length+4) 0∧f 6=woS H.length (ws++[y.word])∧f 7=Bo al∧f 8=I i∧f 9=.bp (H.length+5+R.length) 0) (by kernel_rfl) ?_ ?_
   ·simp -dsimp [g1,g2,g4,g5,g6,g7,g8,g9,gY]
    refine ZD (k:=H.length) (es:=ws.map fun x=>[U x]) (m0 _ _ _) (by simp;omega) (by simp;omega) ?_
    have hmp:(ws.map fun x=>[U x])++[[U y.word]]=(ws++[y.word]).map fun x=>[U x]:=by simp
    rw [hmp]
    have ms0':=ms0 ws (pr++[y]) R' (ws++[y.word])
    obtain⟨V,hV⟩:∃V,V=(M ws (pr++[y]) R').set H.length (woB (ws++[y.word])):=⟨_,rfl⟩
    obtain⟨sx,hsx⟩:∃sx,sx=Yo H.length ((ws++[y.word]).map fun x=>[U x]):=⟨_,rfl⟩
    rw [←hV] at ms0'
    rw [←hV,←hsx]
    have o1:AV.one sx=true:=by rw [hsx];exact ZdH _ _
    simp -dsimp [g1,g2,g4,g5,g6,g7,g8,g9,o1]
    exact⟨ms0',hsx⟩
   clear g g1 g2 g4 g5 g6 g7 g8 g9
   rintro g _ ⟨rfl,g1,g2,g4,g5,g6,g7,g8,g9⟩
   refine Zk (by kernel_rfl) ?_
   clear hal2 hat
   cases al
   ·simp -dsimp [g1,g2,g4,g5,g6,g7,g8]
    exact⟨R',rfl⟩
   ·simp -dsimp [g1,g2,g4,g5,g6,g7,g8,g9,gY]
    exact⟨R',rfl⟩
  clear g g1 g2 g4 g5 g6 g7
  rintro g _ ⟨⟨R,rfl⟩,g1,g2,g4,g5,g6,g7⟩
  have hac:ZE a≤2^36:=by omega
  clear ms1 mg1 ms0 hcc
  obtain⟨W,hW⟩:∃W,W=os.map Ex.word:=⟨_,rfl⟩
  rw [←hW] at g6 ⊢
  obtain⟨N,hN⟩:∃N:List Ze→List Ze,∀L,N L=M W os L:=⟨_,fun _=>rfl⟩
  have hNH:∀L,N L=H++(woB W::exB os::bE::bZ::.box 73 [I o,U w,St n,exS (H.length+1) os]::L):=fun L=>by rw [hN,hM]
  have v2:∀L,(N L)[H.length+2]?=some (.box 73 [I o,U w,St n,Ex.sl a]):=fun L=>by rw [hN,m2]
  have v4:∀L,(N L)[H.length+4]?=some (.box 73 [I o,U w,St n,exS (H.length+1) os]):=fun L=>by rw [hN,m4]
  have v1:∀L,(N L)[H.length+1]?=some (exB os):=fun L=>by rw [hN,m1]
  have v3:∀L,(N L)[H.length+3]?=some (.box 73 [I 0,U 0,St ByteArray.empty,Yp]):=fun L=>by rw [hN,hM,hbZ];simp
  have vs3:∀L X,∃L',(N L).set (H.length+3) X=H++L'∧L'[1]?=some (exB os)∧L'[3]?=some X:=fun L X=>⟨woB W::exB os::bE::X::.box 73 [I o,U w,St n,exS (H.length+1) os]::L,by rw [hNH];simp,rfl,rfl⟩
  have vg3:∀L X,((N L).set (H.length+3) X)[H.length+3]?=some X:=fun L X=>by rw [List.getElem?_set_self];rw [hNH];simp
  have vN:∀L X,N L++X=N (L++X):=fun L X=>by rw [hN,hN,hMa]
  have vS:∀L i X,(N L).set (H.length+5+i) X=N (L.set i X):=fun L i X=>by
   rw [hNH,hNH,show H.length+5+i=H.length+(i+1+1+1+1+1) from by omega];simp
  have vI:∀L i,(N L)[H.length+5+i]?=L[i]?:=fun L i=>by
   rw [hNH,show H.length+5+i=H.length+(i+1+1+1+1+1) from by omega];simp
  have vL:∀L,(N L).length=H.length+5+L.length:=fun L=>by rw [hN,hMl]
  have hNR:M W os R=N R:=by rw [hN]
  rw [hNR]
  clear hN hNR
  have finA:∀ (x:Ex) L,E=x→ZW H (Zao fun r H'=>r=AE.ret (.agg [I E.op,U E.word,St E.name,Ex.sl E.args])∧H'=H) (.ret (.agg [I x.op,U x.word,St x.name,Ex.sl x.args])) (H++L):=fun x L h=>by
   rw [h];exact Z2 rfl (ZR (.refl _) ⟨rfl,rfl⟩)
  have finO:∀L,E=.mk o w n os→L[1]?=some (exB os)→ZW H (Zao fun r H'=>r=AE.ret (.agg [I E.op,U E.word,St E.name,Ex.sl E.args])∧H'=H) (.ret (.agg [I o,U w,St n,exS (H.length+1) os])) (H++L):=fun L h hL=>by
   refine ZcN (f:=fun x=>.agg [I o,U w,St n,x]) hu 1 4 73 (os.map Ex.cells) hL (Zhk os) (fun x=>by simp [AV.frz,Zam]) ?_
   intro x L' hx _
   rw [h]
   refine Z2 ?_ (ZR (.aggL (.cons (.refl _) (.cons (.refl _) (.cons (.refl _) (.cons hx.weak .nil))))) ⟨rfl,rfl⟩)
   rcases hx with ⟨rfl,_⟩|rfl<;>rfl
  obtain⟨al,hal2⟩:∃al,al=(os.all fun x=>x.op==1):=⟨_,rfl⟩
  rw [←hal2] at g7
  have finC:∀v L,E=cEx v→ZW H (Zao fun r H'=>r=AE.ret (.agg [I E.op,U E.word,St E.name,Ex.sl E.args])∧H'=H) (.ret (.agg [I 1,U v,St ByteArray.empty,Yp])) (H++L):=fun v L h=>by
   rw [h];exact Z2 rfl (ZR (.aggL (.cons (.refl _) (.cons (.refl _) (.cons (.refl _) (.cons (.nil 4) .nil))))) ⟨rfl,rfl⟩)
  have cf:=fun H=>Zla k n hk H
  unfold ZmY at cf
  rw [show Yq n k=K n from by rw [hKe]] at cf
  refine Zc (fun f H'=>H'=N R∧f 2=.bp (H.length+2) 0∧f 4=.bp (H.length+3) 0∧f 5=.bp (H.length+4) 0∧f 6=woS H.length W∧f 7=Bo al∧ ¬ (o=2∧(K n).isSome=true)) (by kernel_rfl) ?_ ?_
  ·simp -dsimp [g1,g2,g4,g5,g6,g7,v2]
   refine Za (cf _) ?_
   cases hq:K n with
   |none=>
    simp -dsimp [g1,g2,g4,g5,g6,g7,v2]
   |some v=>
    simp -dsimp [g1,g2,g4,g5,g6,g7,v2]
    refine Zq (fun h=>?_) (fun h h1 h2=>?_)
    ·have hEc:E=cEx v:=by rw [hE,ZaE,if_pos h,hq]
     simp -dsimp [g4,v3,vg3]
     obtain⟨L',h1,h2,_⟩:=vs3 R (.box 73 [I 1,U v,St ByteArray.empty,Yp])
     rw [h1]
     exact finC _ L' hEc
    ·simp -dsimp [g1,g2,g4,g5,g6,g7,h]
  clear g g1 g2 g4 g5 g6 g7 cf
  rintro g _ ⟨rfl,g2,g4,g5,g6,g7,hb⟩
  have hE1:E=if Jt o=os.length then (if (os.all fun x=>x.op==1)=true then cEx (XB o (os.map Ex.word)) else if o=21 then ZfG os (.mk o w n os) else .mk o w n os) else .mk o w n os:=by
   rw [hE,ZaE]
   have:(if o=2 then K n else none)=none:=by
    split
    ·rename_i h
     cases hq:K n with
     |none=>rfl
     |some v=>exact absurd ⟨h,by rw [hq];rfl⟩ hb
    ·rfl
   rw [this]
  clear hb hE
  have ca:=fun H=>ZoV o H
  refine Zc (fun f H'=>H'=N R∧f 2=.bp (H.length+2) 0∧f 4=.bp (H.length+3) 0∧f 5=.bp (H.length+4) 0∧f 6=woS H.length W∧f 7=Bo al∧f 12=I (Jt o)) (by kernel_rfl) ?_ ?_
  ·simp -dsimp [g2,g4,g5,g6,g7,v2]
   refine Za (ca _) ?_
   simp -dsimp [g2,g4,g5,g6,g7]
  clear g g2 g4 g5 g6 g7
  rintro g _ ⟨rfl,g2,g4,g5,g6,g7,g12⟩
  refine Zc (fun f H'=>H'=N R∧f 2=.bp (H.length+2) 0∧f 4=.bp (H.length+3) 0∧f 5=.bp (H.length+4) 0∧f 6=woS H.length W∧f 7=Bo al∧Jt o=a.length) (by kernel_rfl) ?_ ?_
  ·have out:Jt o≠a.length→∀L',L'[1]?=some (exB os)→ZW H (Zao fun r H'=>r=AE.ret (.agg [I E.op,U E.word,St E.name,Ex.sl E.args])∧H'=H) (.ret (.agg [I o,U w,St n,exS (H.length+1) os])) (H++L'):=fun h L' h2=>finO L' (by rw [hE1,if_neg (by rw [hosl];exact h)]) h2
   obtain⟨L',h1,h2,_⟩:=vs3 R (.box 73 [I o,U w,St n,exS (H.length+1) os])
   simp -dsimp [g2,g4,g5,g6,g7,g12,v2]
   refine Zn (fun hn=>?_) (fun hn=>?_)
   ·simp -dsimp [g2,g4,g5,g6,g7,g12,hn,v4,v3,vg3]
    rw [h1]
    exact out (by omega) L' h2
   ·by_cases hA:Jt o=a.length
    ·have hb:(Jt o != (a.length:Int))=false:=by rw [hA];simp
     simp -dsimp [g2,g4,g5,g6,g7,g12,v2,hn,hb]
     exact hA
    ·have hb:(Jt o != (a.length:Int))=true:=by rw [bne_iff_ne];exact hA
     simp -dsimp [g2,g4,g5,g6,g7,g12,v2,hn,hb,v4,v3,vg3]
     rw [h1]
     exact out hA L' h2
  clear g g2 g4 g5 g6 g7 g12 ca
  rintro g _ ⟨rfl,g2,g4,g5,g6,g7,hA⟩
  rw [if_pos (by rw [hosl];exact hA),←hal2] at hE1
  refine Zc (fun f H'=>H'=N R∧f 2=.bp (H.length+2) 0∧f 4=.bp (H.length+3) 0∧f 5=.bp (H.length+4) 0∧al=false) (by kernel_rfl) ?_ ?_
  ·cases al
   ·simp -dsimp [g2,g4,g5,g6,g7]
   ·rw [if_pos rfl,←hW] at hE1
    have hlen:Jt o=W.length:=by rw [hA,←hosl,hW];simp
    have hWu:∀x∈W,InU x:=by
     intro x hx
     rw [hW] at hx
     obtain⟨y,hy,rfl⟩:=List.mem_map.1 hx
     have:=Zct hosr y hy
     rw [Ex.rng_eq] at this
     simp only [Bool.and_eq_true,inU,decide_eq_true_eq] at this
     exact⟨this.1.2.1,by omega⟩
    have hne:W≠[]:=by
     intro h0
     rw [h0] at hlen
     unfold Jt at hlen
     split at hlen<;>(try split at hlen)<;>(try split at hlen)<;>simp at hlen
    have ce:Zi Tryz.prog 143 [I o,woS H.length W] (N R) (fun e M=>e=.ret (U (XB o W))∧∃L',M=H++L'∧L'[3]?=some bZ):=by
     rw [hNH]
     exact Zf7 (f:=fun x=>[I o,x]) hu 0 1 48 (W.map fun x=>[U x]) rfl (Zoo W) (fun x=>by simp [Zam,AV.frz]) (fun x L' hx hk=>by
      rcases hx with ⟨_,h0⟩|rfl
      ·exact absurd (List.map_eq_nil_iff.1 h0) hne
      ·exact (Zri o W hlen hWu _).mono (fun e M ⟨h1,h2⟩=>⟨h1,L',h2,hk 3 bZ (by omega) rfl (by rw [hbZ];rfl)⟩))
    obtain⟨v,hv⟩:∃v,v=XB o W:=⟨_,rfl⟩
    rw [←hv] at ce hE1
    simp -dsimp [g2,g4,g6,g7,v2]
    refine ZA ce ?_
    rintro e M' ⟨rfl,L',rfl,hL3⟩
    rw [hbZ] at hL3
    obtain⟨c1,hc1⟩:∃c1,c1=Ze.box 73 [I 1,U v,St ByteArray.empty,Yp]:=⟨_,rfl⟩
    have k4:(L'.set 3 c1)[3]?=some c1:=List.getElem?_set_self (ZT hL3)
    rw [hc1] at k4
    simp -dsimp [g4,hL3,k4]
    exact finC _ _ hE1
  clear g g2 g4 g5 g6 g7
  rintro g _ ⟨rfl,g2,g4,g5,hal3⟩
  rw [hal3,if_neg (by decide)] at hE1
  have cs:∀x∈os,∀H,Zi Tryz.prog 27 [.agg [I x.op,U x.word,St x.name,Ex.sl x.args]] H (fun r H'=>r=.ret (Bo x.safe)∧H'=H):=fun x hx H=>by
   have:=Zbj hx
   have:=ZrK _ x (Nat.lt_succ_self _) (by omega) H
   rwa [Ex.cells_eq] at this
  have hA3:=hA
  clear hW hA hal2
  by_cases h21:o=21
  rotate_left
  ·rw [if_neg h21] at hE1
   have h21b:(o==21)=false:=by simpa using h21
   refine Zk (by kernel_rfl) ?_
   obtain⟨L',h1,h2,_⟩:=vs3 R (.box 73 [I o,U w,St n,exS (H.length+1) os])
   simp -dsimp [g2,g4,g5,v2,h21b,v4,v3,vg3]
   rw [h1]
   exact finO L' hE1 h2
  rw [if_pos h21] at hE1
  subst h21
  have hl3:os.length=3:=by rw [hosl];have:(3:Int)=a.length:=hA3;omega
  obtain⟨x,y,z,rfl⟩:∃x y z,os=[x,y,z]:=by
   match os,hl3 with
   |[x,y,z],_=>exact⟨x,y,z,rfl⟩
  have csy:=fun H=>cs y (by simp) H
  have csz:=fun H=>cs z (by simp) H
  clear cs
  have hrow:exB [x,y,z]=.row 73 4 [[I x.op,U x.word,St x.name,Ex.sl x.args],[I y.op,U y.word,St y.name,Ex.sl y.args],[I z.op,U z.word,St z.name,Ex.sl z.args]]:=by simp [Yn]
  have hhan:exS (H.length+1) [x,y,z]=.hs (H.length+1) 0 3 3:=by simp [Yo]
  have v4':=v4
  have v1':=v1
  rw [hhan] at v4'
  rw [hrow] at v1'
  obtain⟨L',h1,h2,_⟩:=vs3 R (.box 73 [I 21,U w,St n,exS (H.length+1) [x,y,z]])
  obtain⟨Ly,hy1,_,_⟩:=vs3 R (.box 73 [I y.op,U y.word,St y.name,Ex.sl y.args])
  obtain⟨Lz,hz1,_,_⟩:=vs3 R (.box 73 [I z.op,U z.word,St z.name,Ex.sl z.args])
  rw [hhan] at h1 finO
  rw [ZfG] at hE1
  refine Zc (fun f H'=>H'=N R∧f 4=.bp (H.length+3) 0∧f 5=.bp (H.length+4) 0∧E=.mk 21 w n [x,y,z]) (by kernel_rfl) ?_ ?_
  ·by_cases hx1:x.op=1
   rotate_left
   ·have hx1b:(x.op==1)=false:=by simpa using hx1
    rw [if_neg hx1] at hE1
    simp -dsimp [g2,g4,g5,v2,v4',v1',hx1b]
    exact hE1
   have hx1b:(x.op==1)=true:=by simpa using hx1
   rw [if_pos hx1] at hE1
   by_cases hw:x.word=0
   ·have hwa:(x.word != 0)=false:=by simp [hw]
    have hwb:(x.word==0)=true:=by simp [hw]
    rw [if_pos hw] at hE1
    simp -dsimp [g2,g4,g5,v2,v4',v1',hx1b,hwa,hwb]
    refine Za (csy _) ?_
    cases hs:y.safe
    ·rw [hs,if_neg (by decide)] at hE1
     simp -dsimp [g2,g4,g5,hwb]
     exact hE1
    ·rw [hs,if_pos rfl] at hE1
     simp -dsimp [g2,g4,g5,v4',v1',hwb,v3,vg3]
     rw [hz1]
     exact finA _ _ hE1
   ·have hwa:(x.word != 0)=true:=by simp [hw]
    have hwb:(x.word==0)=false:=by simp [hw]
    rw [if_neg hw] at hE1
    simp -dsimp [g2,g4,g5,v2,v4',v1',hx1b,hwa,hwb]
    refine Za (csz _) ?_
    cases hs:z.safe
    ·rw [hs,if_neg (by decide)] at hE1
     simp -dsimp [g2,g4,g5,v4',v1',hwa,hwb]
     exact hE1
    ·rw [hs,if_pos rfl] at hE1
     simp -dsimp [g2,g4,g5,v4',v1',hwa,hwb,v3,vg3]
     rw [hy1]
     exact finA _ _ hE1
  clear g g2 g4 g5
  rintro g _ ⟨rfl,g4,g5,hEo⟩
  refine Zk (by kernel_rfl) ?_
  simp -dsimp [g4,g5,v4',v3,vg3]
  rw [h1]
  exact finO L' hEo h2
end Go.Proofs
