import Derived.Test.YtpibcbilkpoomaaGreatm18
set_option linter.all false
set_option maxHeartbeats 4000000
set_option maxRecDepth 100000
namespace Go.Proofs
open Go.Mu
theorem Zig (a b:List ByteArray) (ha:a.length≤2^40) (hb:b.length≤2^40) (H:List Ze):Zi Tryz.prog 95 [St.sl a,St.sl b] H (fun e H'=>e=.ret (Bo (decide (a=b)))∧H'=H):=by
 refine Zf (Zg Tryz.func95 rfl (by kernel_rfl) ?_)
 obtain⟨E,hE⟩:∃E,E=decide (a=b):=⟨_,rfl⟩
 rw [←hE]
 have fin0:∀ (b:Bool),b=E→ZW H (fun e H'=>e=.ret (Bo E)∧H'=H) (.ret (Bo b)) H:=fun b h=>by rw [h];exact Z7 rfl ⟨rfl,rfl⟩
 simp -dsimp
 refine Zl (fun h1 h1a h1b=>?_) (fun h1=>?_)
 ·simp -dsimp
  exact fin0 _ (by rw [hE,eq_comm];exact decide_eq_false (fun h=>h1 (by rw [h])))
 have hl:a.length=b.length:=by omega
 simp -dsimp
 refine Zv (fun (i:Nat) f H'=>H=H'∧f 0=St.sl a∧f 1=St.sl b∧f 5=I i∧i≤a.length∧E=decide (a.drop i=b.drop i)) (fun i=>a.length-i) (by kernel_rfl) 0 (by simp;simp [hE]) ?_
 rintro i f _ ⟨rfl,h0,h1',h5,hi,hinv⟩
 simp -dsimp [h0,h1',h5]
 refine Zb (fun hlt=>?_) (fun hlt=>?_)
 ·have hltb:i<b.length:=by omega
  rw [Zo hlt,Zo hltb] at hinv
  have e1:=List.getElem?_eq_getElem hlt
  have e2:=List.getElem?_eq_getElem hltb
  obtain⟨x,hx⟩:∃x,x=a[i]:=⟨_,rfl⟩
  obtain⟨y,hy⟩:∃y,y=b[i]:=⟨_,rfl⟩
  rw [←hx] at hinv e1
  rw [←hy] at hinv e2
  clear hx hy
  simp -dsimp [h0,h1',h5,e1,e2]
  refine Zds (fun h1=>?_) (fun h1=>?_)
  ·simp -dsimp
   exact fin0 _ (by rw [hinv];simp [h1])
  ·subst h1
   simp -dsimp [h0,h1',h5]
   exact⟨i+1,by omega,ZC (by omega),by omega,by rw [hinv];simp⟩
 ·have h1:a.drop i=[]:=List.drop_eq_nil_of_le (by omega)
  have h2:b.drop i=[]:=List.drop_eq_nil_of_le (by omega)
  rw [h1,h2] at hinv
  simp -dsimp
  exact fin0 _ hinv.symm
theorem ZjK (a b:List Vr) (ha:a.length≤2^40) (hb:b.length≤2^40) (H:List Ze):Zi Tryz.prog 94 [Vr.sl a,Vr.sl b] H (fun e H'=>e=.ret (Bo (decide (a=b)))∧H'=H):=by
 refine Zf (Zg Tryz.func94 rfl (by kernel_rfl) ?_)
 obtain⟨E,hE⟩:∃E,E=decide (a=b):=⟨_,rfl⟩
 rw [←hE]
 have fin0:∀ (b:Bool),b=E→ZW H (fun e H'=>e=.ret (Bo E)∧H'=H) (.ret (Bo b)) H:=fun b h=>by rw [h];exact Z7 rfl ⟨rfl,rfl⟩
 simp -dsimp
 refine Zl (fun h1 h1a h1b=>?_) (fun h1=>?_)
 ·simp -dsimp
  exact fin0 _ (by rw [hE,eq_comm];exact decide_eq_false (fun h=>h1 (by rw [h])))
 have hl:a.length=b.length:=by omega
 simp -dsimp
 refine Zv (fun (i:Nat) f H'=>H=H'∧f 0=Vr.sl a∧f 1=Vr.sl b∧f 5=I i∧i≤a.length∧E=decide (a.drop i=b.drop i)) (fun i=>a.length-i) (by kernel_rfl) 0 (by simp;simp [hE]) ?_
 rintro i f _ ⟨rfl,h0,h1',h5,hi,hinv⟩
 simp -dsimp [h0,h1',h5]
 refine Zb (fun hlt=>?_) (fun hlt=>?_)
 ·have hltb:i<b.length:=by omega
  rw [Zo hlt,Zo hltb] at hinv
  have e1:=List.getElem?_eq_getElem hlt
  have e2:=List.getElem?_eq_getElem hltb
  obtain⟨x,hx⟩:∃x,x=a[i]:=⟨_,rfl⟩
  obtain⟨y,hy⟩:∃y,y=b[i]:=⟨_,rfl⟩
  rw [←hx] at hinv e1
  rw [←hy] at hinv e2
  clear hx hy
  obtain⟨x0,x1,x2,x3⟩:=x
  obtain⟨y0,y1,y2,y3⟩:=y
  by_cases hxy:x0=y0∧x1=y1∧x2=y2∧x3=y3
  ·obtain⟨rfl,rfl,rfl,rfl⟩:=hxy
   simp -dsimp [h0,h1',h5,e1,e2]
   exact⟨i+1,by omega,ZC (by omega),by omega,by rw [hinv];simp⟩
  ·have hbb:(!decide (x0=y0)||(!x1==y1||(!x2==y2|| !x3==y3)))=true:=by
    by_cases p0:x0=y0
    ·by_cases p1:x1=y1
     ·by_cases p2:x2=y2
      ·by_cases p3:x3=y3
       ·exact absurd ⟨p0,p1,p2,p3⟩ hxy
       ·simp [p3]
      ·simp [p2]
     ·simp [p1]
    ·simp [p0]
   simp -dsimp [h0,h1',h5,e1,e2,hbb]
   exact fin0 _ (by rw [hinv];simp;intro a b c d;exact absurd ⟨a,b,c,d⟩ hxy)
 ·have h1:a.drop i=[]:=List.drop_eq_nil_of_le (by omega)
  have h2:b.drop i=[]:=List.drop_eq_nil_of_le (by omega)
  rw [h1,h2] at hinv
  simp -dsimp
  exact fin0 _ hinv.symm
theorem Zkd (m:Nat):(∀ (x y:Ex),x.count<m→x.count≤2^40→y.count≤2^40→∀ (H:List Ze),Zi Tryz.prog 144 [.agg x.cells,.agg y.cells] H (fun e H'=>e=.ret (Bo (x.eqB y))∧H'=H))∧
 (∀ (a b:List Ex),ZE a<m→ZE a≤2^40→ZE b≤2^40→∀ (H:List Ze),Zi Tryz.prog 145 [Ex.sl a,Ex.sl b] H (fun e H'=>e=.ret (Bo (Y9 a b))∧H'=H)):=by
 induction m with
 |zero=>exact⟨fun x y h=>by omega,fun a b h=>by omega⟩
 |succ m ih=>
  have hxs:∀ (x y:Ex),x.count<m+1→x.count≤2^40→y.count≤2^40→∀ (H:List Ze),Zi Tryz.prog 144 [.agg x.cells,.agg y.cells] H (fun e H'=>e=.ret (Bo (x.eqB y))∧H'=H):=by
   intro x y hm hcx hcy H
   have hx:=Ex.count_eq x
   have hy:=Ex.count_eq y
   have c:=fun H=>ih.2 x.args y.args (by omega) (by omega) (by omega) H
   refine Zf (Zg Tryz.func144 rfl (by kernel_rfl) ?_)
   obtain⟨E,hE⟩:∃E,E=x.eqB y:=⟨_,rfl⟩
   rw [←hE]
   rw [Ex.eqB_eq] at hE
   have fin:∀b L,b=E→ZW H (fun e H'=>e=.ret (Bo E)∧H'=H) (.ret (Bo b)) (H++L):=fun b L h=>by rw [h];exact Z2 rfl ⟨rfl,rfl⟩
   replace hE:=YE.mk hE
   simp only [Ex.cells_eq]
   by_cases h1:x.op=y.op
   rotate_left
   ·have hb:(x.op==y.op)=false:=by simpa using h1
    simp -dsimp [hb]
    exact fin false _ (by rw [hE.out,decide_eq_false h1];rfl)
   by_cases h2:x.word=y.word
   rotate_left
   ·have hb:(x.word==y.word)=false:=by simpa using h2
    simp -dsimp [h1,hb]
    exact fin false _ (by rw [hE.out,decide_eq_false h2,Bool.and_false];rfl)
   by_cases h3:x.name=y.name
   rotate_left
   ·simp -dsimp [h1,h2,h3]
    exact fin false _ (by rw [hE.out,decide_eq_false h3,Bool.and_false];rfl)
   simp -dsimp [h1,h2,h3]
   refine Za (c _) ?_
   simp -dsimp [h1,h2,h3]
   exact fin _ _ (by rw [hE.out,decide_eq_true h1,decide_eq_true h2,decide_eq_true h3];rfl)
  refine⟨hxs,fun a b hm hca hcb H=>?_⟩
  have hla:=Yy a
  have hlb:=Yy b
  refine Zf (Zg Tryz.func145 rfl (by kernel_rfl) ?_)
  obtain⟨E,hE⟩:∃E,E=Y9 a b:=⟨_,rfl⟩
  rw [←hE]
  have fin0:∀ (b:Bool),b=E→ZW H (fun e H'=>e=.ret (Bo E)∧H'=H) (.ret (Bo b)) H:=fun b h=>by rw [h];exact Z7 rfl ⟨rfl,rfl⟩
  simp -dsimp
  refine Zl (fun h1 h1a h1b=>?_) (fun h1=>?_)
  ·simp -dsimp
   exact fin0 _ (by rw [hE];cases hh:Y9 a b;rfl;exact absurd (by rw [ZdV hh]) h1)
  have hl:a.length=b.length:=by omega
  simp -dsimp
  refine Zv (fun (i:Nat) f H'=>H=H'∧f 0=Ex.sl a∧f 1=Ex.sl b∧f 5=I i∧i≤a.length∧Y9 (a.drop i) (b.drop i)=E) (fun i=>a.length-i) (by kernel_rfl) 0 (by simp;simp [hE]) ?_
  rintro i f _ ⟨rfl,h0,h1',h5,hi,hinv⟩
  simp -dsimp [h0,h1',h5]
  refine Zb (fun hlt=>?_) (fun hlt=>?_)
  ·have hltb:i<b.length:=by omega
   rw [Zo hlt,Zo hltb,Y9] at hinv
   have e1:=List.getElem?_eq_getElem hlt
   have e2:=List.getElem?_eq_getElem hltb
   have gx:=JN hlt
   have gy:=JN hltb
   obtain⟨x,hx⟩:∃x,x=a[i]:=⟨_,rfl⟩
   obtain⟨y,hy⟩:∃y,y=b[i]:=⟨_,rfl⟩
   rw [←hx] at hinv e1 gx
   rw [←hy] at hinv e2 gy
   clear hx hy
   have cx:=fun H=>hxs x y (by omega) (by omega) (by omega) H
   simp only [Ex.cells_eq] at cx
   simp -dsimp [h0,h1',h5,e1,e2]
   refine Zd (cx _) ?_
   cases hq:x.eqB y
   ·rw [hq] at hinv
    simp -dsimp
    exact fin0 _ (by rw [←hinv];rfl)
   ·rw [hq,Bool.true_and] at hinv
    simp -dsimp [h0,h1',h5]
    exact⟨i+1,by omega,ZC (by omega),by omega,hinv⟩
  ·have h1:a.drop i=[]:=List.drop_eq_nil_of_le (by omega)
   have h2:b.drop i=[]:=List.drop_eq_nil_of_le (by omega)
   rw [h1,h2,Y9] at hinv
   simp -dsimp
   exact fin0 _ hinv
theorem Zqr (x y:Sm):x.eqB y=(decide (x.kind=y.kind)&&(decide (x.name=y.name)&&(decide (x.low=y.low)&&(decide (x.high=y.high)&&(decide (x.names=y.names)&&(x.e.eqB y.e&&(x.a.eqB y.a&&(Y9 x.args y.args&&(Yj x.body y.body&&Yj x.els y.els))))))))):=by
 rw [Sm.eqB_eq]
 cases decide (x.kind=y.kind)<;>cases decide (x.name=y.name)<;>cases decide (x.names=y.names)<;>cases decide (x.low=y.low)<;>cases decide (x.high=y.high)<;>cases Y9 x.args y.args<;>cases x.e.eqB y.e<;>cases x.a.eqB y.a<;>rfl
theorem ZrJ (m:Nat):∀ (a b:List Sm),Zh a<m→Zh a≤2^40→Zh b≤2^40→∀ (H:List Ze),Zi Tryz.prog 96 [Sm.sl a,Sm.sl b] H (fun e H'=>e=.ret (Bo (Yj a b))∧H'=H):=by
 induction m with
 |zero=>intro a b h;omega
 |succ m ih=>
  intro a b hm hca hcb H
  refine Zf (Z0 Tryz.func96 rfl (by kernel_rfl) ?_)
  have hla:=Yi a
  have hlb:=Yi b
  obtain⟨E,hE⟩:∃E,E=Yj a b:=⟨_,rfl⟩
  rw [←hE]
  have fin:∀b L,b=E→ZW H (fun e H'=>e=.ret (Bo E)∧H'=H) (.ret (Bo b)) (H++L):=fun b L h=>by rw [h];exact Z2 rfl ⟨rfl,rfl⟩
  have fin0:∀b,b=E→ZW H (fun e H'=>e=.ret (Bo E)∧H'=H) (.ret (Bo b)) H:=fun b h=>by have:=fin b [] h;simpa using this
  refine Zc (fun f H'=>H=H'∧f 0=Sm.sl a∧f 1=Sm.sl b) (by kernel_rfl) ?_ ?_
  ·simp -dsimp
  rintro g _ ⟨rfl,g0,g1⟩
  refine Zc (fun f H'=>H=H'∧f 0=Sm.sl a∧f 1=Sm.sl b∧a.length=b.length) (by kernel_rfl) ?_ ?_
  ·simp -dsimp [g0,g1]
   refine Zl (fun h1 h1a h1b=>?_) (fun h1=>?_)
   ·simp -dsimp
    exact fin0 _ (by rw [hE];cases hh:Yj a b;rfl;exact absurd (by rw [Zgi hh]) h1)
   ·simp -dsimp [g0,g1]
    omega
  clear g g0 g1
  rintro g _ ⟨rfl,g0,g1,hlen⟩
  refine Z4 (fun f H'=>(∃L,H'=H++L)∧E=true) ?_ ?_
  rotate_left
  ·clear g g0 g1
   rintro g _ ⟨⟨L,rfl⟩,h⟩
   refine Zk (by kernel_rfl) ?_
   simp -dsimp
   exact fin _ _ h.symm
  refine Zc (fun f H'=>H=H'∧f 0=Sm.sl a∧f 1=Sm.sl b∧f 5=I 0) (by kernel_rfl) ?_ ?_
  ·simp -dsimp [g0,g1]
  clear g g0 g1
  rintro g _ ⟨rfl,g0,g1,g5⟩
  refine Z9 ?_
  refine Yd (fun (i:Nat) f H'=>(∃L,H'=H++L)∧f 0=Sm.sl a∧f 1=Sm.sl b∧f 5=I i∧i≤a.length∧Yj (a.drop i) (b.drop i)=E) (fun i=>a.length-i) 0 ⟨⟨[],by simp⟩,g0,g1,g5,by omega,by rw [hE];simp⟩ ?_
  clear g g0 g1 g5 hE
  rintro i g _ ⟨⟨L,rfl⟩,g0,g1,g5,hi,hinv⟩
  refine Zc (fun f H'=>H'=H++L∧f 0=Sm.sl a∧f 1=Sm.sl b∧f 5=I i∧i<a.length) (by kernel_rfl) ?_ ?_
  ·simp -dsimp [g0,g1,g5]
   refine Zb (fun hlt=>?_) (fun hlt=>?_)
   ·simp -dsimp [g0,g1,g5]
    omega
   ·have h1:a.drop i=[]:=List.drop_eq_nil_of_le (by omega)
    have h2:b.drop i=[]:=List.drop_eq_nil_of_le (by omega)
    rw [h1,h2,Yj] at hinv
    simp -dsimp
    exact hinv.symm
  clear g g0 g1 g5
  rintro g _ ⟨rfl,g0,g1,g5,hlt⟩
  have hltb:i<b.length:=by omega
  rw [Zo hlt,Zo hltb,Yj,Zqr] at hinv
  have hgx:=JY hlt
  have hgy:=JY hltb
  have e1:=List.getElem?_eq_getElem hlt
  have e2:=List.getElem?_eq_getElem hltb
  obtain⟨x,hx⟩:∃x,x=a[i]:=⟨_,rfl⟩
  obtain⟨y,hy⟩:∃y,y=b[i]:=⟨_,rfl⟩
  rw [←hx] at hinv e1 hgx
  rw [←hy] at hinv e2 hgy
  clear hx hy
  have hcx:=Sm.count_eq x
  have hcy:=Sm.count_eq y
  have hxa:=Yy x.args
  have hya:=Yy y.args
  refine Z4 (fun f H'=>(∃L,H'=H++L)∧f 0=Sm.sl a∧f 1=Sm.sl b∧f 5=I i∧Yj (a.drop (i+1)) (b.drop (i+1))=E) ?_ ?_
  rotate_left
  ·clear g g0 g1 g5
   rintro g _ ⟨⟨L,rfl⟩,g0,g1,g5,hinv⟩
   refine Zk (by kernel_rfl) ?_
   simp -dsimp [g0,g1,g5]
   exact⟨i+1,by omega,ZC (by omega),by omega,hinv⟩
  refine Z9 ?_
  obtain⟨K,hK⟩:∃K,K=Yj (a.drop (i+1)) (b.drop (i+1)):=⟨_,rfl⟩
  rw [←hK] at hinv ⊢
  refine Z4 (fun f H'=>Zn8 H x y (f 6) (f 7) H'∧f 0=Sm.sl a∧f 1=Sm.sl b∧f 5=I i) ?_ ?_
  ·refine Xb (fun d=>false) ZfX (by kernel_rfl) ?_
   have fin2:∀u v R X Y,(H++(L++R))[u]?=some (Ze.box 82 X)→(H++(L++R))[v]?=some (Ze.box 82 Y)→X=x.cells→Y=y.cells→Zn8 H x y (.bp u 0) (.bp v 0) (H++(L++R)):=fun u v R X Y p q hX hY=>by
    subst hX hY
    exact⟨u,v,_,rfl,p,q,rfl,rfl⟩
   simp -dsimp [ZfX,g0,g1,g5,e1,e2]
   refine⟨fin2 _ _ _ _ _ ?_ ?_ (Sm.cells_eq x).symm (Sm.cells_eq y).symm,fin2 _ _ _ _ _ ?_ ?_ (Sm.cells_eq x).symm (Sm.cells_eq y).symm⟩
   ·rw [List.getElem?_append_right (by omega),Nat.add_sub_cancel_left,List.getElem?_append_right (by omega),Nat.sub_self];rfl
   ·rw [List.getElem?_append_right (by omega),Nat.add_sub_cancel_left,List.getElem?_append_right (by omega),Nat.add_sub_cancel_left];rfl
   ·rw [List.getElem?_append_right (by omega),Nat.add_sub_cancel_left,List.getElem?_append_right (by omega),Nat.add_sub_cancel_left];rfl
   ·rw [List.getElem?_append_right (by omega),Nat.add_sub_cancel_left,List.getElem?_append_right (by omega),Nat.sub_self];rfl
  clear g g0 g1 g5
  rintro g V ⟨⟨u,v,R,hV,hVx,hVy,g6,g7⟩,g0,g1,g5⟩
  have finV:∀b,b=E→ZW H (fun e H'=>e=.ret (Bo E)∧H'=H) (.ret (Bo b)) V:=fun b h=>by rw [hV];exact fin _ _ h
  have hVH:∃L',V=H++L':=⟨_,hV⟩
  clear hV
  simp only [Sm.cells_eq] at hVx hVy
  have cn:=fun H=>Zig x.names y.names (by omega) (by omega) H
  have ce:=fun H=>(Zkd _).1 x.e y.e (Nat.lt_succ_self _) (by omega) (by omega) H
  have ca:=fun H=>(Zkd _).1 x.a y.a (Nat.lt_succ_self _) (by omega) (by omega) H
  have cg:=fun H=>(Zkd _).2 x.args y.args (Nat.lt_succ_self _) (by omega) (by omega) H
  have cb:=fun H=>ih x.body y.body (by omega) (by omega) (by omega) H
  have cl:=fun H=>ih x.els y.els (by omega) (by omega) (by omega) H
  simp only [Ex.cells_eq] at ce ca
  replace hinv:=YE.mk hinv
  refine Zk (by kernel_rfl) ?_
  by_cases h1:x.kind=y.kind
  rotate_left
  ·have hb':(x.kind != y.kind)=true:=by simpa using h1
   simp -dsimp [g0,g1,g5,g6,g7,hVx,hVy,hb']
   exact finV _ (by rw [←hinv.out,decide_eq_false h1];rfl)
  by_cases h2:x.name=y.name
  rotate_left
  ·simp -dsimp [g0,g1,g5,g6,g7,hVx,hVy,h1,h2]
   exact finV _ (by rw [←hinv.out,decide_eq_false h2,Bool.false_and,Bool.and_false];rfl)
  by_cases h3:x.low=y.low
  rotate_left
  ·have hb':(x.low != y.low)=true:=by simpa using h3
   simp -dsimp [g0,g1,g5,g6,g7,hVx,hVy,h1,h2,hb']
   exact finV _ (by rw [←hinv.out,decide_eq_false h3,Bool.false_and,Bool.and_false,Bool.and_false];rfl)
  by_cases h4:x.high=y.high
  rotate_left
  ·have hb':(x.high != y.high)=true:=by simpa using h4
   simp -dsimp [g0,g1,g5,g6,g7,hVx,hVy,h1,h2,h3,hb']
   exact finV _ (by rw [←hinv.out,decide_eq_false h4,Bool.false_and,Bool.and_false,Bool.and_false,Bool.and_false];rfl)
  have hT:((decide (x.names=y.names)&&(x.e.eqB y.e&&(x.a.eqB y.a&&(Y9 x.args y.args&&(Yj x.body y.body&&Yj x.els y.els)))))&&K)=E:=by
   rw [←hinv.out,decide_eq_true h1,decide_eq_true h2,decide_eq_true h3,decide_eq_true h4];rfl
  clear hinv
  replace hinv:=YE.mk hT
  clear hT
  simp -dsimp [g0,g1,g5,g6,g7,hVx,hVy,h1,h2,h3,h4]
  refine Za (cn _) ?_
  cases q0:decide (x.names=y.names)
  ·simp -dsimp [g0,g1,g5,g6,g7,hVx,hVy]
   exact finV _ (by rw [←hinv.out,q0];rfl)
  simp -dsimp [g0,g1,g5,g6,g7,hVx,hVy]
  refine Za (ce _) ?_
  cases q1:x.e.eqB y.e
  ·simp -dsimp [g0,g1,g5,g6,g7,hVx,hVy]
   exact finV _ (by rw [←hinv.out,q0,q1];rfl)
  simp -dsimp [g0,g1,g5,g6,g7,hVx,hVy]
  refine Za (ca _) ?_
  cases q2:x.a.eqB y.a
  ·simp -dsimp [g0,g1,g5,g6,g7,hVx,hVy]
   exact finV _ (by rw [←hinv.out,q0,q1,q2];rfl)
  simp -dsimp [g0,g1,g5,g6,g7,hVx,hVy]
  refine Za (cg _) ?_
  cases q3:Y9 x.args y.args
  ·simp -dsimp [g0,g1,g5,g6,g7,hVx,hVy]
   exact finV _ (by rw [←hinv.out,q0,q1,q2,q3];rfl)
  simp -dsimp [g0,g1,g5,g6,g7,hVx,hVy]
  refine Za (cb _) ?_
  cases q4:Yj x.body y.body
  ·simp -dsimp [g0,g1,g5,g6,g7,hVx,hVy]
   exact finV _ (by rw [←hinv.out,q0,q1,q2,q3,q4];rfl)
  simp -dsimp [g0,g1,g5,g6,g7,hVx,hVy]
  refine Za (cl _) ?_
  cases q5:Yj x.els y.els
  ·simp -dsimp [g0,g1,g5,g6,g7,hVx,hVy]
   exact finV _ (by rw [←hinv.out,q0,q1,q2,q3,q4,q5];rfl)
  simp -dsimp [g0,g1,g5,g6,g7,hVx,hVy]
  exact⟨hVH,by rw [←hinv.out,q0,q1,q2,q3,q4,q5];rfl⟩
theorem ZoW (f g:Fc):f.eqB g=(decide (f.name=g.name)&&(decide (f.params=g.params)&&(decide (f.vars=g.vars)&&(decide (f.rets=g.rets)&&Yj f.body g.body)))):=by
 unfold Fc.eqB
 cases decide (f.name=g.name)<;>cases decide (f.params=g.params)<;>cases decide (f.vars=g.vars)<;>cases decide (f.rets=g.rets)<;>cases Yj f.body g.body<;>rfl
theorem Zsi (a b:Pg) (ha:a.OkS) (hb:b.OkS) (H:List Ze):Zi Tryz.prog 52 [.agg a.cells,.agg b.cells] H (fun e H'=>e=.ret (Bo (a.eqB b))∧H'=H):=by
 refine Zf (Z0 Tryz.func52 rfl (by kernel_rfl) ?_)
 have har:=ha.regions
 have haf:=ha.funcs
 have hbr:=hb.regions
 have hbf:=hb.funcs
 obtain⟨E,hE⟩:∃E,E=a.eqB b:=⟨_,rfl⟩
 rw [←hE]
 unfold Pg.eqB at hE
 obtain⟨bA,hbA⟩:∃bA,bA=Ze.box 25 a.cells:=⟨_,rfl⟩
 obtain⟨bB,hbB⟩:∃bB,bB=Ze.box 25 b.cells:=⟨_,rfl⟩
 obtain⟨M,hM⟩:∃M:List Ze→List Ze,M=fun L=>H++bA::bB::L:=⟨_,rfl⟩
 have hMe:∀L,M L=H++bA::bB::L:=fun L=>by rw [hM]
 have hMa:∀L R,M L++R=M (L++R):=fun L R=>by rw [hMe,hMe];simp
 have hVx:∀L,(M L)[H.length]?=some (.box 25 a.cells):=fun L=>by rw [hMe,←hbA];simp
 have hVy:∀L,(M L)[H.length+1]?=some (.box 25 b.cells):=fun L=>by rw [hMe,←hbB];simp
 have finV:∀b L,b=E→ZW H (fun e H'=>e=.ret (Bo E)∧H'=H) (.ret (Bo b)) (M L):=fun b L h=>by rw [h,hMe];exact Z2 rfl ⟨rfl,rfl⟩
 clear hM
 refine Zc (fun f H'=>H'=M []∧f 2=.bp H.length 0∧f 3=.bp (H.length+1) 0) (by kernel_rfl) ?_ ?_
 ·rw [hMe,hbA,hbB]
  simp -dsimp
 simp only [Pg.cells] at hVx hVy
 clear hbA hbB hMe
 rintro g _ ⟨rfl,g2,g3⟩
 refine Zc (fun f H'=>H'=M []∧f 2=.bp H.length 0∧f 3=.bp (H.length+1) 0∧a.regions.length=b.regions.length∧a.funcs.length=b.funcs.length) (by kernel_rfl) ?_ ?_
 ·replace hE:=YE.mk hE
  by_cases h1:a.regions.length=b.regions.length
  rotate_left
  ·have hkb:((a.regions.length:Int) != (b.regions.length:Int))=true:=by simp;omega
   simp -dsimp [g2,g3,hVx,hVy,hkb]
   have hne: ¬ a.regions=b.regions:=fun h=>h1 (by rw [h])
   exact finV false _ (by rw [hE.out,decide_eq_false hne];rfl)
  by_cases h2:a.funcs.length=b.funcs.length
  rotate_left
  ·have hkb:((a.funcs.length:Int) != (b.funcs.length:Int))=true:=by simp;omega
   simp -dsimp [g2,g3,hVx,hVy,h1,hkb]
   have hne:J9 a.funcs b.funcs=false:=by
    cases hh:J9 a.funcs b.funcs
    ·rfl
    ·exact absurd (Zjx hh) h2
   exact finV false _ (by rw [hE.out,hne,Bool.and_false])
  simp -dsimp [g2,g3,hVx,hVy,h1,h2]
 clear g g2 g3
 rintro g _ ⟨rfl,g2,g3,hl1,hl2⟩
 --regions
 refine Z4 (fun f H'=>H'=M []∧f 2=.bp H.length 0∧f 3=.bp (H.length+1) 0∧J9 a.funcs b.funcs=E) ?_ ?_
 ·refine Zk (by kernel_rfl) ?_
  obtain⟨K,hK⟩:∃K,K=J9 a.funcs b.funcs:=⟨_,rfl⟩
  rw [←hK] at hE ⊢
  clear hK
  simp -dsimp [g2,g3]
  refine Zv (fun (i:Nat) f H'=>H'=M []∧f 2=.bp H.length 0∧f 3=.bp (H.length+1) 0∧f 5=I i∧i≤a.regions.length∧E=(decide (a.regions.drop i=b.regions.drop i)&&K)) (fun i=>a.regions.length-i) (by kernel_rfl) 0 (by simp [g2,g3];exact hE) ?_
  clear g g2 g3 hE
  rintro i g _ ⟨rfl,g2,g3,g5,hi,hinv⟩
  simp -dsimp [g2,g3,g5,hVx]
  refine Zb (fun hlt=>?_) (fun hlt=>?_)
  ·have hltb:i<b.regions.length:=by omega
   rw [Zo hlt,Zo hltb] at hinv
   have e1:=List.getElem?_eq_getElem hlt
   have e2:=List.getElem?_eq_getElem hltb
   obtain⟨x,hx⟩:∃x,x=a.regions[i]:=⟨_,rfl⟩
   obtain⟨y,hy⟩:∃y,y=b.regions[i]:=⟨_,rfl⟩
   rw [←hx] at hinv e1
   rw [←hy] at hinv e2
   clear hx hy
   obtain⟨xn,xk,xs,xt⟩:=x
   obtain⟨yn,yk,ys,yt⟩:=y
   by_cases hxy:xn=yn∧xk=yk∧xs=ys∧xt=yt
   ·obtain⟨rfl,rfl,rfl,rfl⟩:=hxy
    simp -dsimp [g2,g3,g5,hVx,hVy,e1,e2]
    exact⟨i+1,by omega,ZC (by omega),by omega,by rw [hinv];simp⟩
   ·have hbb:(!decide (xn=yn)||(!xk==yk||(!xs==ys|| !xt==yt)))=true:=by
     by_cases p:xn=yn
     ·by_cases q:xk=yk
      ·by_cases r:xs=ys
       ·by_cases u:xt=yt
        ·exact absurd ⟨p,q,r,u⟩ hxy
        ·simp [u]
       ·simp [r]
      ·simp [q]
     ·simp [p]
    simp -dsimp [g2,g3,g5,hVx,hVy,e1,e2,hbb]
    exact finV false [] (by rw [hinv,decide_eq_false];rfl;simp;intro a b c d;exact absurd ⟨a,b,c,d⟩ hxy)
  ·have h1:a.regions.drop i=[]:=List.drop_eq_nil_of_le (by omega)
   have h2:b.regions.drop i=[]:=List.drop_eq_nil_of_le (by omega)
   rw [h1,h2] at hinv
   simp -dsimp [g2,g3]
   simpa using hinv.symm
 clear g g2 g3 hE
 rintro g _ ⟨rfl,g2,g3,hinv0⟩
 --functions
 refine Z4 (fun f H'=>(∃L,H'=M L)∧E=true) ?_ ?_
 rotate_left
 ·clear g g2 g3
  rintro g _ ⟨⟨L,rfl⟩,h⟩
  refine Zk (by kernel_rfl) ?_
  simp -dsimp
  exact finV _ _ h.symm
 refine Zc (fun f H'=>H'=M []∧f 2=.bp H.length 0∧f 3=.bp (H.length+1) 0∧f 6=I 0) (by kernel_rfl) ?_ ?_
 ·simp -dsimp [g2,g3]
 clear g g2 g3
 rintro g _ ⟨rfl,g2,g3,g6⟩
 refine Z9 ?_
 refine Yd (fun (i:Nat) f H'=>(∃L,H'=M L)∧f 2=.bp H.length 0∧f 3=.bp (H.length+1) 0∧f 6=I i∧i≤a.funcs.length∧J9 (a.funcs.drop i) (b.funcs.drop i)=E) (fun i=>a.funcs.length-i) 0 ⟨⟨[],rfl⟩,g2,g3,g6,by omega,by simpa using hinv0⟩ ?_
 clear g g2 g3 g6 hinv0
 rintro i g _ ⟨⟨L,rfl⟩,g2,g3,g6,hi,hinv⟩
 refine Zc (fun f H'=>H'=M L∧f 2=.bp H.length 0∧f 3=.bp (H.length+1) 0∧f 6=I i∧i<a.funcs.length) (by kernel_rfl) ?_ ?_
 ·simp -dsimp [g2,g3,g6,hVx]
  refine Zb (fun hlt=>?_) (fun hlt=>?_)
  ·simp -dsimp [g2,g3,g6]
   omega
  ·have h1:a.funcs.drop i=[]:=List.drop_eq_nil_of_le (by omega)
   have h2:b.funcs.drop i=[]:=List.drop_eq_nil_of_le (by omega)
   rw [h1,h2,J9] at hinv
   simp -dsimp
   exact⟨⟨L,rfl⟩,hinv.symm⟩
 clear g g2 g3 g6
 rintro g _ ⟨rfl,g2,g3,g6,hlt⟩
 have hltb:i<b.funcs.length:=by omega
 rw [Zo hlt,Zo hltb,J9] at hinv
 have e1:=List.getElem?_eq_getElem hlt
 have e2:=List.getElem?_eq_getElem hltb
 have hmx:=List.getElem_mem hlt
 have hmy:=List.getElem_mem hltb
 obtain⟨x,hx⟩:∃x,x=a.funcs[i]:=⟨_,rfl⟩
 obtain⟨y,hy⟩:∃y,y=b.funcs[i]:=⟨_,rfl⟩
 rw [←hx] at hinv e1 hmx
 rw [←hy] at hinv e2 hmy
 clear hx hy
 have p1:=ha.params x hmx
 have p2:=ha.vars x hmx
 have p3:=ha.rets x hmx
 have p4:=ha.body x hmx
 have q1:=hb.params y hmy
 have q2:=hb.vars y hmy
 have q3:=hb.rets y hmy
 have q4:=hb.body y hmy
 rw [ZoW] at hinv
 refine Z4 (fun f H'=>(∃L,H'=M L)∧f 2=.bp H.length 0∧f 3=.bp (H.length+1) 0∧f 6=I i∧J9 (a.funcs.drop (i+1)) (b.funcs.drop (i+1))=E) ?_ ?_
 rotate_left
 ·clear g g2 g3 g6
  rintro g _ ⟨⟨L,rfl⟩,g2,g3,g6,hinv⟩
  refine Zk (by kernel_rfl) ?_
  simp -dsimp [g2,g3,g6]
  exact⟨i+1,by omega,⟨L,rfl⟩,ZC (by omega),by omega,hinv⟩
 refine Z9 ?_
 obtain⟨K,hK⟩:∃K,K=J9 (a.funcs.drop (i+1)) (b.funcs.drop (i+1)):=⟨_,rfl⟩
 rw [←hK] at hinv ⊢
 obtain⟨V,hV⟩:∃V,V=M L:=⟨_,rfl⟩
 have hVx':=hVx L
 have hVy':=hVy L
 rw [←hV] at hVx' hVy' ⊢
 have hWx:∀R,(V++R)[H.length]?=some (.box 25 [Rg.sl a.regions,Fc.sl a.funcs]):=fun R=>ZG hVx' R
 have hWy:∀R,(V++R)[H.length+1]?=some (.box 25 [Rg.sl b.regions,Fc.sl b.funcs]):=fun R=>ZG hVy' R
 have hVR:∀R,V++R=M (L++R):=fun R=>by rw [hV,hMa]
 clear hV
 refine Z4 (fun f H'=>Zog V x y (f 7) (f 8) H'∧f 2=.bp H.length 0∧f 3=.bp (H.length+1) 0∧f 6=I i) ?_ ?_
 ·refine Xb (fun d=>false) ZkN (by kernel_rfl) ?_
  have fin2:∀u v R X' Y',(V++R)[u]?=some (Ze.box 56 X')→(V++R)[v]?=some (Ze.box 56 Y')→X'=x.cells→Y'=y.cells→Zog V x y (.bp u 0) (.bp v 0) (V++R):=fun u v R X' Y' p q h1 h2=>by
   subst h1 h2
   exact⟨u,v,_,rfl,p,q,rfl,rfl⟩
  simp -dsimp [ZkN,g2,g3,g6,hVx',hVy',hWx,hWy,e1,e2]
  refine⟨fin2 _ _ _ _ _ ?_ ?_ rfl rfl,fin2 _ _ _ _ _ ?_ ?_ rfl rfl⟩
  ·rw [List.getElem?_append_right (Nat.le_refl _),Nat.sub_self];rfl
  ·rw [List.getElem?_append_right (by omega),Nat.add_sub_cancel_left];rfl
  ·rw [List.getElem?_append_right (by omega),Nat.add_sub_cancel_left];rfl
  ·rw [List.getElem?_append_right (Nat.le_refl _),Nat.sub_self];rfl
 clear g g2 g3 g6
 rintro g W ⟨⟨u,v,R,hW,hWu,hWv,g7,g8⟩,g2,g3,g6⟩
 rw [hVR] at hW
 have finW:∀b,b=E→ZW H (fun e H'=>e=.ret (Bo E)∧H'=H) (.ret (Bo b)) W:=fun b h=>by rw [hW];exact finV _ _ h
 have hWH:∃L',W=M L':=⟨_,hW⟩
 have cp:=fun H=>ZjK x.params y.params p1 q1 H
 have cv:=fun H=>ZjK x.vars y.vars p2 q2 H
 have cr:=fun H=>Zig x.rets y.rets p3 q3 H
 have cb:=fun H=>ZrJ _ x.body y.body (Nat.lt_succ_self _) p4 q4 H
 simp only [Fc.cells] at hWu hWv
 clear hW
 replace hinv:=YE.mk hinv
 refine Zk (by kernel_rfl) ?_
 by_cases h1:x.name=y.name
 rotate_left
 ·simp -dsimp [g2,g3,g6,g7,g8,hWu,hWv,h1]
  exact finW _ (by rw [←hinv.out,decide_eq_false h1];rfl)
 simp -dsimp [g2,g3,g6,g7,g8,hWu,hWv,h1]
 refine Za (cp _) ?_
 cases k1:decide (x.params=y.params)
 ·simp -dsimp [g2,g3,g6,g7,g8,hWu,hWv]
  exact finW _ (by rw [←hinv.out,k1,Bool.false_and,Bool.and_false];rfl)
 simp -dsimp [g2,g3,g6,g7,g8,hWu,hWv]
 refine Za (cv _) ?_
 cases k2:decide (x.vars=y.vars)
 ·simp -dsimp [g2,g3,g6,g7,g8,hWu,hWv]
  exact finW _ (by rw [←hinv.out,k1,k2,Bool.false_and,Bool.and_false,Bool.and_false];rfl)
 simp -dsimp [g2,g3,g6,g7,g8,hWu,hWv]
 refine Za (cr _) ?_
 cases k3:decide (x.rets=y.rets)
 ·simp -dsimp [g2,g3,g6,g7,g8,hWu,hWv]
  exact finW _ (by rw [←hinv.out,k1,k2,k3,Bool.false_and,Bool.and_false,Bool.and_false,Bool.and_false];rfl)
 simp -dsimp [g2,g3,g6,g7,g8,hWu,hWv]
 refine Za (cb _) ?_
 cases k4:Yj x.body y.body
 ·simp -dsimp [g2,g3,g6,g7,g8,hWu,hWv]
  exact finW _ (by rw [←hinv.out,k1,k2,k3,k4,Bool.and_false,Bool.and_false,Bool.and_false,Bool.and_false];rfl)
 simp -dsimp [g2,g3,g6,g7,g8,hWu,hWv]
 exact⟨hWH,by rw [←hinv.out,decide_eq_true h1,k1,k2,k3,k4];rfl⟩
end Go.Proofs
