import Derived.Test.YtpibcbilkpoomaaGreatm30
set_option linter.all false
set_option maxHeartbeats 4000000
set_option maxRecDepth 100000
namespace Go.Proofs
open Go.Mu
theorem Zon (a b:List ByteArray) (ha:a.length≤2^40) (hb:b.length≤2^40) (H:List Ze):Zi Tryz.prog 76 [St.sl a,St.sl b] H (fun e H'=>e=.ret (Bo (decide (a=b)))∧H'=H):=by
 refine Zf (Zg Tryz.func76 rfl (by kernel_rfl) ?_)
 obtain⟨E,hE⟩:∃E,E=decide (a=b):=⟨_,rfl⟩
 rw [←hE]
 have fin0:∀ (b:Bool),b=E→ZW H (fun e H'=>e=.ret (Bo E)∧H'=H) (.ret (Bo b)) H:=fun b h=>by rw [h];exact Z7 rfl ⟨rfl,rfl⟩
 simp -dsimp
 refine Zl (fun h1 h1a h1b=>?_) (fun h1=>?_)
 ·simp -dsimp
  exact fin0 _ (by rw [hE,eq_comm];exact decide_eq_false (fun h=>h1 (by rw [h])))
 have hl:a.length=b.length:=by omega
 simp -dsimp
 refine Zv (fun (i:Nat) f H'=>H=H'∧f 0=St.sl a∧f 1=St.sl b∧f 12=I a.length∧f 13=I i∧i≤a.length∧E=decide (a.drop i=b.drop i)) (fun i=>a.length-i) (by kernel_rfl) 0 (by simp [hl];simp [hE]) ?_
 rintro i f _ ⟨rfl,h0,h1',h12,h13,hi,hinv⟩
 simp -dsimp [h0,h1',h12,h13]
 refine Zb (fun hlt=>?_) (fun hlt=>?_)
 ·have hltb:i<b.length:=by omega
  rw [Zo hlt,Zo hltb] at hinv
  have e1:=List.getElem?_eq_getElem hlt
  have e2:=List.getElem?_eq_getElem hltb
  obtain⟨x,hx⟩:∃x,x=a[i]:=⟨_,rfl⟩
  obtain⟨y,hy⟩:∃y,y=b[i]:=⟨_,rfl⟩
  rw [←hx] at hinv e1
  rw [←hy] at hinv e2
  clear hx hy
  simp -dsimp [h0,h1',h12,h13,e1,e2]
  refine Zds (fun h1=>?_) (fun h1=>?_)
  ·simp -dsimp
   exact fin0 _ (by rw [hinv];simp [h1])
  ·subst h1
   simp -dsimp [h0,h1',h12,h13]
   exact⟨i+1,by omega,ZC (by omega),by omega,by rw [hinv];simp⟩
 ·have h1:a.drop i=[]:=List.drop_eq_nil_of_le (by omega)
  have h2:b.drop i=[]:=List.drop_eq_nil_of_le (by omega)
  rw [h1,h2] at hinv
  simp -dsimp
  exact fin0 _ hinv.symm
theorem ZnV (a b:List Vr) (ha:a.length≤2^40) (hb:b.length≤2^40) (H:List Ze):Zi Tryz.prog 75 [Vr.sl a,Vr.sl b] H (fun e H'=>e=.ret (Bo (decide (a=b)))∧H'=H):=by
 refine Zf (Zg Tryz.func75 rfl (by kernel_rfl) ?_)
 obtain⟨E,hE⟩:∃E,E=decide (a=b):=⟨_,rfl⟩
 rw [←hE]
 have fin0:∀ (b:Bool),b=E→ZW H (fun e H'=>e=.ret (Bo E)∧H'=H) (.ret (Bo b)) H:=fun b h=>by rw [h];exact Z7 rfl ⟨rfl,rfl⟩
 simp -dsimp
 refine Zl (fun h1 h1a h1b=>?_) (fun h1=>?_)
 ·simp -dsimp
  exact fin0 _ (by rw [hE,eq_comm];exact decide_eq_false (fun h=>h1 (by rw [h])))
 have hl:a.length=b.length:=by omega
 simp -dsimp
 refine Zv (fun (i:Nat) f H'=>H=H'∧f 0=Vr.sl a∧f 1=Vr.sl b∧f 12=I a.length∧f 13=I i∧i≤a.length∧E=decide (a.drop i=b.drop i)) (fun i=>a.length-i) (by kernel_rfl) 0 (by simp [hl];simp [hE]) ?_
 rintro i f _ ⟨rfl,h0,h1',h12,h13,hi,hinv⟩
 simp -dsimp [h0,h1',h12,h13]
 refine Zb (fun hlt=>?_) (fun hlt=>?_)
 ·have hltb:i<b.length:=by omega
  rw [Zo hlt,Zo hltb] at hinv
  have e1:=List.getElem?_eq_getElem hlt
  have e2:=List.getElem?_eq_getElem hltb
  obtain⟨x,hx⟩:∃x,x=a[i]:=⟨_,rfl⟩
  obtain⟨y,hy⟩:∃y,y=b[i]:=⟨_,rfl⟩
  rw [←hx] at hinv e1
  rw [←hy] at hinv e2
  clear hx hy
  obtain⟨x0,x1,x2,x3⟩:=x
  obtain⟨y0,y1,y2,y3⟩:=y
  by_cases hxy:x0=y0∧x1=y1∧x2=y2∧x3=y3
  ·obtain⟨rfl,rfl,rfl,rfl⟩:=hxy
   simp -dsimp [h0,h1',h12,h13,e1,e2]
   exact⟨i+1,by omega,ZC (by omega),by omega,by rw [hinv];simp⟩
  ·have hbb:(!decide (x0=y0)||(!x1==y1||(!x2==y2|| !x3==y3)))=true:=by
    by_cases p0:x0=y0
    ·by_cases p1:x1=y1
     ·by_cases p2:x2=y2
      ·by_cases p3:x3=y3
       ·exact absurd ⟨p0,p1,p2,p3⟩ hxy
       ·simp [p3]
      ·simp [p2]
     ·simp [p1]
    ·simp [p0]
   simp -dsimp [h0,h1',h12,h13,e1,e2,hbb]
   exact fin0 _ (by rw [hinv];simp;intro a b c d;exact absurd ⟨a,b,c,d⟩ hxy)
 ·have h1:a.drop i=[]:=List.drop_eq_nil_of_le (by omega)
  have h2:b.drop i=[]:=List.drop_eq_nil_of_le (by omega)
  rw [h1,h2] at hinv
  simp -dsimp
  exact fin0 _ hinv.symm
theorem Zsp (a b:List Rg) (ha:a.length≤2^40) (hb:b.length≤2^40) (H:List Ze):Zi Tryz.prog 72 [Rg.sl a,Rg.sl b] H (fun e H'=>e=.ret (Bo (decide (a=b)))∧H'=H):=by
 refine Zf (Zg Tryz.func72 rfl (by kernel_rfl) ?_)
 obtain⟨E,hE⟩:∃E,E=decide (a=b):=⟨_,rfl⟩
 rw [←hE]
 have fin0:∀ (b:Bool),b=E→ZW H (fun e H'=>e=.ret (Bo E)∧H'=H) (.ret (Bo b)) H:=fun b h=>by rw [h];exact Z7 rfl ⟨rfl,rfl⟩
 simp -dsimp
 refine Zl (fun h1 h1a h1b=>?_) (fun h1=>?_)
 ·simp -dsimp
  exact fin0 _ (by rw [hE,eq_comm];exact decide_eq_false (fun h=>h1 (by rw [h])))
 have hl:a.length=b.length:=by omega
 simp -dsimp
 refine Zv (fun (i:Nat) f H'=>H=H'∧f 0=Rg.sl a∧f 1=Rg.sl b∧f 12=I a.length∧f 13=I i∧i≤a.length∧E=decide (a.drop i=b.drop i)) (fun i=>a.length-i) (by kernel_rfl) 0 (by simp [hl];simp [hE]) ?_
 rintro i f _ ⟨rfl,h0,h1',h12,h13,hi,hinv⟩
 simp -dsimp [h0,h1',h12,h13]
 refine Zb (fun hlt=>?_) (fun hlt=>?_)
 ·have hltb:i<b.length:=by omega
  rw [Zo hlt,Zo hltb] at hinv
  have e1:=List.getElem?_eq_getElem hlt
  have e2:=List.getElem?_eq_getElem hltb
  obtain⟨x,hx⟩:∃x,x=a[i]:=⟨_,rfl⟩
  obtain⟨y,hy⟩:∃y,y=b[i]:=⟨_,rfl⟩
  rw [←hx] at hinv e1
  rw [←hy] at hinv e2
  clear hx hy
  obtain⟨x0,x1,x2,x3⟩:=x
  obtain⟨y0,y1,y2,y3⟩:=y
  by_cases hxy:x0=y0∧x1=y1∧x2=y2∧x3=y3
  ·obtain⟨rfl,rfl,rfl,rfl⟩:=hxy
   simp -dsimp [h0,h1',h12,h13,e1,e2]
   exact⟨i+1,by omega,ZC (by omega),by omega,by rw [hinv];simp⟩
  ·have hbb:(!decide (x0=y0)||(!x1==y1||(!x2==y2|| !x3==y3)))=true:=by
    by_cases p0:x0=y0
    ·by_cases p1:x1=y1
     ·by_cases p2:x2=y2
      ·by_cases p3:x3=y3
       ·exact absurd ⟨p0,p1,p2,p3⟩ hxy
       ·simp [p3]
      ·simp [p2]
     ·simp [p1]
    ·simp [p0]
   simp -dsimp [h0,h1',h12,h13,e1,e2,hbb]
   exact fin0 _ (by rw [hinv];simp;intro a b c d;exact absurd ⟨a,b,c,d⟩ hxy)
 ·have h1:a.drop i=[]:=List.drop_eq_nil_of_le (by omega)
  have h2:b.drop i=[]:=List.drop_eq_nil_of_le (by omega)
  rw [h1,h2] at hinv
  simp -dsimp
  exact fin0 _ hinv.symm
theorem ZnI (a b:List Ex) (g:FuncId) (hok:ZL Tryz.prog g=true) (ha:a.length≤2^40) (hb:b.length≤2^40) (hg:∀ (i:Nat) x y,a[i]?=some x→b[i]?=some y→∀H,Zi Tryz.prog g [.agg x.cells,.agg y.cells] H (fun e H'=>e=.ret (Bo (x.eqB y))∧H'=H)) (H:List Ze):
 Zi Tryz.prog 117 [Ex.sl a,Ex.sl b,.fn (.func g) [] []] H (fun e H'=>e=.ret (Bo (Y9 a b))∧H'=H):=by
 refine Zf (Zg Tryz.func117 rfl (by kernel_rfl) ?_)
 obtain⟨E,hE⟩:∃E,E=Y9 a b:=⟨_,rfl⟩
 rw [←hE]
 have fin:∀b L,b=E→ZW H (fun e H'=>e=.ret (Bo E)∧H'=H) (.ret (Bo b)) (H++L):=fun b L h=>by rw [h];exact Z2 rfl ⟨rfl,rfl⟩
 have fin0:∀ (b:Bool),b=E→ZW H (fun e H'=>e=.ret (Bo E)∧H'=H) (.ret (Bo b)) H:=fun b h=>by rw [h];exact Z7 rfl ⟨rfl,rfl⟩
 have hlen:Y9 a b=true→a.length=b.length:=fun h=>ZdV h
 simp -dsimp
 refine Zl (fun h1 h1a h1b=>?_) (fun h1=>?_)
 ·simp -dsimp
  exact fin0 _ (by rw [hE];cases hh:Y9 a b;rfl;exact absurd (by rw [hlen hh]) h1)
 have hl:a.length=b.length:=by omega
 simp -dsimp
 refine Zv (fun (i:Nat) f H'=>(∃L,H'=H++L)∧f 1=Ex.sl b∧f 2=.fn (.func g) [] []∧f 15=Ex.sl a∧f 16=I a.length∧f 17=I i∧i≤a.length∧Y9 (a.drop i) (b.drop i)=E) (fun i=>a.length-i) (by kernel_rfl) 0 (by simp [hl];simp [hE]) ?_
 rintro i f _ ⟨⟨L,rfl⟩,h1',h2,h15,h16,h17,hi,hinv⟩
 simp -dsimp [h1',h2,h15,h16,h17]
 refine Zb (fun hlt=>?_) (fun hlt=>?_)
 ·have hltb:i<b.length:=by omega
  rw [Zo hlt,Zo hltb,Y9] at hinv
  have e1:=List.getElem?_eq_getElem hlt
  have e2:=List.getElem?_eq_getElem hltb
  obtain⟨x,hx⟩:∃x,x=a[i]:=⟨_,rfl⟩
  obtain⟨y,hy⟩:∃y,y=b[i]:=⟨_,rfl⟩
  rw [←hx] at hinv e1
  rw [←hy] at hinv e2
  clear hx hy
  have cx:=hg i x y e1 e2
  simp only [Ex.cells_eq] at cx
  simp -dsimp [h1',h2,h15,h16,h17,e1,e2,hok]
  refine Za (cx _) ?_
  cases hxy:x.eqB y
  ·rw [hxy] at hinv
   simp -dsimp
   exact fin false _ (by rw [←hinv];rfl)
  ·rw [hxy] at hinv
   simp -dsimp [h1',h2,h15,h16,h17]
   exact⟨i+1,by omega,ZC (by omega),by omega,by simpa using hinv⟩
 ·have h3:a.drop i=[]:=List.drop_eq_nil_of_le (by omega)
  have h4:b.drop i=[]:=List.drop_eq_nil_of_le (by omega)
  rw [h3,h4,Y9] at hinv
  simp -dsimp
  exact fin _ _ hinv
theorem ZkI (a b:List Sm) (g:FuncId) (hok:ZL Tryz.prog g=true) (ha:a.length≤2^40) (hb:b.length≤2^40) (hg:∀ (i:Nat) x y,a[i]?=some x→b[i]?=some y→∀H,Zi Tryz.prog g [.agg x.cells,.agg y.cells] H (fun e H'=>e=.ret (Bo (x.eqB y))∧H'=H)) (H:List Ze):
 Zi Tryz.prog 77 [Sm.sl a,Sm.sl b,.fn (.func g) [] []] H (fun e H'=>e=.ret (Bo (Yj a b))∧H'=H):=by
 refine Zf (Zg Tryz.func77 rfl (by kernel_rfl) ?_)
 obtain⟨E,hE⟩:∃E,E=Yj a b:=⟨_,rfl⟩
 rw [←hE]
 have fin:∀b L,b=E→ZW H (fun e H'=>e=.ret (Bo E)∧H'=H) (.ret (Bo b)) (H++L):=fun b L h=>by rw [h];exact Z2 rfl ⟨rfl,rfl⟩
 have fin0:∀ (b:Bool),b=E→ZW H (fun e H'=>e=.ret (Bo E)∧H'=H) (.ret (Bo b)) H:=fun b h=>by rw [h];exact Z7 rfl ⟨rfl,rfl⟩
 have hlen:Yj a b=true→a.length=b.length:=fun h=>Zgi h
 simp -dsimp
 refine Zl (fun h1 h1a h1b=>?_) (fun h1=>?_)
 ·simp -dsimp
  exact fin0 _ (by rw [hE];cases hh:Yj a b;rfl;exact absurd (by rw [hlen hh]) h1)
 have hl:a.length=b.length:=by omega
 simp -dsimp
 refine Zv (fun (i:Nat) f H'=>(∃L,H'=H++L)∧f 1=Sm.sl b∧f 2=.fn (.func g) [] []∧f 15=Sm.sl a∧f 16=I a.length∧f 17=I i∧i≤a.length∧Yj (a.drop i) (b.drop i)=E) (fun i=>a.length-i) (by kernel_rfl) 0 (by simp [hl];simp [hE]) ?_
 rintro i f _ ⟨⟨L,rfl⟩,h1',h2,h15,h16,h17,hi,hinv⟩
 simp -dsimp [h1',h2,h15,h16,h17]
 refine Zb (fun hlt=>?_) (fun hlt=>?_)
 ·have hltb:i<b.length:=by omega
  rw [Zo hlt,Zo hltb,Yj] at hinv
  have e1:=List.getElem?_eq_getElem hlt
  have e2:=List.getElem?_eq_getElem hltb
  obtain⟨x,hx⟩:∃x,x=a[i]:=⟨_,rfl⟩
  obtain⟨y,hy⟩:∃y,y=b[i]:=⟨_,rfl⟩
  rw [←hx] at hinv e1
  rw [←hy] at hinv e2
  clear hx hy
  have cx:=hg i x y e1 e2
  simp only [Sm.cells_eq] at cx
  simp -dsimp [h1',h2,h15,h16,h17,e1,e2,hok]
  refine Za (cx _) ?_
  cases hxy:x.eqB y
  ·rw [hxy] at hinv
   simp -dsimp
   exact fin false _ (by rw [←hinv];rfl)
  ·rw [hxy] at hinv
   simp -dsimp [h1',h2,h15,h16,h17]
   exact⟨i+1,by omega,ZC (by omega),by omega,by simpa using hinv⟩
 ·have h3:a.drop i=[]:=List.drop_eq_nil_of_le (by omega)
  have h4:b.drop i=[]:=List.drop_eq_nil_of_le (by omega)
  rw [h3,h4,Yj] at hinv
  simp -dsimp
  exact fin _ _ hinv
theorem Zsg (a b:List Fc) (g:FuncId) (hok:ZL Tryz.prog g=true) (ha:a.length≤2^40) (hb:b.length≤2^40) (hg:∀ (i:Nat) x y,a[i]?=some x→b[i]?=some y→∀H,Zi Tryz.prog g [.agg x.cells,.agg y.cells] H (fun e H'=>e=.ret (Bo (x.eqB y))∧H'=H)) (H:List Ze):
 Zi Tryz.prog 73 [Fc.sl a,Fc.sl b,.fn (.func g) [] []] H (fun e H'=>e=.ret (Bo (J9 a b))∧H'=H):=by
 refine Zf (Zg Tryz.func73 rfl (by kernel_rfl) ?_)
 obtain⟨E,hE⟩:∃E,E=J9 a b:=⟨_,rfl⟩
 rw [←hE]
 have fin:∀b L,b=E→ZW H (fun e H'=>e=.ret (Bo E)∧H'=H) (.ret (Bo b)) (H++L):=fun b L h=>by rw [h];exact Z2 rfl ⟨rfl,rfl⟩
 have fin0:∀ (b:Bool),b=E→ZW H (fun e H'=>e=.ret (Bo E)∧H'=H) (.ret (Bo b)) H:=fun b h=>by rw [h];exact Z7 rfl ⟨rfl,rfl⟩
 have hlen:J9 a b=true→a.length=b.length:=fun h=>by rw [(Zfa a b).1 h]
 simp -dsimp
 refine Zl (fun h1 h1a h1b=>?_) (fun h1=>?_)
 ·simp -dsimp
  exact fin0 _ (by rw [hE];cases hh:J9 a b;rfl;exact absurd (by rw [hlen hh]) h1)
 have hl:a.length=b.length:=by omega
 simp -dsimp
 refine Zv (fun (i:Nat) f H'=>(∃L,H'=H++L)∧f 1=Fc.sl b∧f 2=.fn (.func g) [] []∧f 15=Fc.sl a∧f 16=I a.length∧f 17=I i∧i≤a.length∧J9 (a.drop i) (b.drop i)=E) (fun i=>a.length-i) (by kernel_rfl) 0 (by simp [hl];simp [hE]) ?_
 rintro i f _ ⟨⟨L,rfl⟩,h1',h2,h15,h16,h17,hi,hinv⟩
 simp -dsimp [h1',h2,h15,h16,h17]
 refine Zb (fun hlt=>?_) (fun hlt=>?_)
 ·have hltb:i<b.length:=by omega
  rw [Zo hlt,Zo hltb,J9] at hinv
  have e1:=List.getElem?_eq_getElem hlt
  have e2:=List.getElem?_eq_getElem hltb
  obtain⟨x,hx⟩:∃x,x=a[i]:=⟨_,rfl⟩
  obtain⟨y,hy⟩:∃y,y=b[i]:=⟨_,rfl⟩
  rw [←hx] at hinv e1
  rw [←hy] at hinv e2
  clear hx hy
  have cx:=hg i x y e1 e2
  simp only [Fc.cells] at cx
  simp -dsimp [h1',h2,h15,h16,h17,e1,e2,hok]
  refine Za (cx _) ?_
  cases hxy:x.eqB y
  ·rw [hxy] at hinv
   simp -dsimp
   exact fin false _ (by rw [←hinv];rfl)
  ·rw [hxy] at hinv
   simp -dsimp [h1',h2,h15,h16,h17]
   exact⟨i+1,by omega,ZC (by omega),by omega,by simpa using hinv⟩
 ·have h3:a.drop i=[]:=List.drop_eq_nil_of_le (by omega)
  have h4:b.drop i=[]:=List.drop_eq_nil_of_le (by omega)
  rw [h3,h4,J9] at hinv
  simp -dsimp
  exact fin _ _ hinv
end Go.Proofs
namespace Go.Proofs
open Go.Mu
theorem Zcr {l:List Ex} {e:Ex} (h:e∈l):e.count≤ZE l:=by
 induction l with
 |nil=>cases h
 |cons x l ih=>
  rw [ZE]
  rcases List.mem_cons.1 h with rfl|h
  ·omega
  ·have:=ih h;omega
theorem Za8 {l:List Sm} {e:Sm} (h:e∈l):e.count≤Zh l:=by
 induction l with
 |nil=>cases h
 |cons x l ih=>
  rw [Zh]
  rcases List.mem_cons.1 h with rfl|h
  ·omega
  ·have:=ih h;omega
theorem Ziz (m:Nat):∀ (x y:Ex),x.count<m→x.count≤2^40→y.count≤2^40→∀ (H:List Ze),Zi Tryz.prog 116 [.agg x.cells,.agg y.cells] H (fun e H'=>e=.ret (Bo (x.eqB y))∧H'=H):=by
 induction m with
 |zero=>intro x y h;omega
 |succ m ih=>
  intro x y hm hcx hcy H
  have hx:=Ex.count_eq x
  have hy:=Ex.count_eq y
  have hlx:=Yy x.args
  have hly:=Yy y.args
  have ok1:ZL Tryz.prog 116=true:=by kernel_rfl
  have c:∀H,Zi Tryz.prog 117 [Ex.sl x.args,Ex.sl y.args,.fn (.func 116) [] []] H (fun e H'=>e=.ret (Bo (Y9 x.args y.args))∧H'=H):=fun H=>by
   refine ZnI x.args y.args 116 ok1 (by omega) (by omega) (fun i u v hu hv H=>?_) H
   have a1:=Zcr (List.mem_of_getElem? hu)
   have a2:=Zcr (List.mem_of_getElem? hv)
   exact ih u v (by omega) (by omega) (by omega) H
  refine Zf (Zg Tryz.func116 rfl (by kernel_rfl) ?_)
  obtain⟨E,hE⟩:∃E,E=x.eqB y:=⟨_,rfl⟩
  rw [←hE]
  rw [Ex.eqB_eq] at hE
  have fin:∀b L,b=E→ZW H (fun e H'=>e=.ret (Bo E)∧H'=H) (.ret (Bo b)) (H++L):=fun b L h=>by rw [h];exact Z2 rfl ⟨rfl,rfl⟩
  replace hE:=YE.mk hE
  simp only [Ex.cells_eq]
  by_cases h1:x.op=y.op
  rotate_left
  ·have hb:(x.op==y.op)=false:=by simpa using h1
   simp -dsimp [hb]
   exact fin false _ (by rw [hE.out,decide_eq_false h1];rfl)
  by_cases h2:x.word=y.word
  rotate_left
  ·have hb:(x.word==y.word)=false:=by simpa using h2
   simp -dsimp [h1,hb]
   exact fin false _ (by rw [hE.out,decide_eq_false h2,Bool.and_false];rfl)
  by_cases h3:x.name=y.name
  rotate_left
  ·simp -dsimp [h1,h2,h3]
   exact fin false _ (by rw [hE.out,decide_eq_false h3,Bool.and_false];rfl)
  simp -dsimp [h1,h2,h3]
  refine Za (c _) ?_
  simp -dsimp [h1,h2,h3]
  exact fin _ _ (by rw [hE.out,decide_eq_true h1,decide_eq_true h2,decide_eq_true h3];rfl)
def Zb9 (x y:Sm):Bool:=decide (x.kind=y.kind)&&decide (x.name=y.name)&&decide (x.names=y.names)&&decide (x.low=y.low)&&decide (x.high=y.high)
theorem ZsK (x y:Sm):x.eqB y=(Zb9 x y&&(x.e.eqB y.e&&(x.a.eqB y.a&&(Y9 x.args y.args&&(Yj x.body y.body&&Yj x.els y.els))))):=by
 rw [Sm.eqB_eq,Zb9]
 cases decide (x.kind=y.kind)<;>cases decide (x.name=y.name)<;>cases decide (x.names=y.names)<;>cases decide (x.low=y.low)<;>cases decide (x.high=y.high)<;>cases Y9 x.args y.args<;>cases x.e.eqB y.e<;>cases x.a.eqB y.a<;>rfl
theorem Zrq (m:Nat):∀ (x y:Sm),x.count<m→x.count≤2^40→y.count≤2^40→∀ (H:List Ze),Zi Tryz.prog 78 [.agg x.cells,.agg y.cells] H (fun e H'=>e=.ret (Bo (x.eqB y))∧H'=H):=by
 induction m with
 |zero=>intro x y h;omega
 |succ m ih=>
  intro x y hm hcx hcy H
  have hx:=Sm.count_eq x
  have hy:=Sm.count_eq y
  have l1:=Yy x.args
  have l2:=Yy y.args
  have l3:=Yi x.body
  have l4:=Yi y.body
  have l5:=Yi x.els
  have l6:=Yi y.els
  have ok1:ZL Tryz.prog 116=true:=by kernel_rfl
  have ok2:ZL Tryz.prog 78=true:=by kernel_rfl
  have cn:=fun H=>Zon x.names y.names (by omega) (by omega) H
  have ce:=fun H=>Ziz _ x.e y.e (Nat.lt_succ_self _) (by omega) (by omega) H
  have ca:=fun H=>Ziz _ x.a y.a (Nat.lt_succ_self _) (by omega) (by omega) H
  have cg:∀H,Zi Tryz.prog 117 [Ex.sl x.args,Ex.sl y.args,.fn (.func 116) [] []] H (fun e H'=>e=.ret (Bo (Y9 x.args y.args))∧H'=H):=fun H=>by
   refine ZnI x.args y.args 116 ok1 (by omega) (by omega) (fun i u v hu hv H=>?_) H
   have a1:=Zcr (List.mem_of_getElem? hu)
   have a2:=Zcr (List.mem_of_getElem? hv)
   exact Ziz _ u v (Nat.lt_succ_self _) (by omega) (by omega) H
  have cb:∀H,Zi Tryz.prog 77 [Sm.sl x.body,Sm.sl y.body,.fn (.func 78) [] []] H (fun e H'=>e=.ret (Bo (Yj x.body y.body))∧H'=H):=fun H=>by
   refine ZkI x.body y.body 78 ok2 (by omega) (by omega) (fun i u v hu hv H=>?_) H
   have a1:=Za8 (List.mem_of_getElem? hu)
   have a2:=Za8 (List.mem_of_getElem? hv)
   exact ih u v (by omega) (by omega) (by omega) H
  have cl:∀H,Zi Tryz.prog 77 [Sm.sl x.els,Sm.sl y.els,.fn (.func 78) [] []] H (fun e H'=>e=.ret (Bo (Yj x.els y.els))∧H'=H):=fun H=>by
   refine ZkI x.els y.els 78 ok2 (by omega) (by omega) (fun i u v hu hv H=>?_) H
   have a1:=Za8 (List.mem_of_getElem? hu)
   have a2:=Za8 (List.mem_of_getElem? hv)
   exact ih u v (by omega) (by omega) (by omega) H
  simp only [Ex.cells_eq] at ce ca
  refine Zf (Z0 Tryz.func78 rfl (by kernel_rfl) ?_)
  obtain⟨E,hE⟩:∃E,E=x.eqB y:=⟨_,rfl⟩
  rw [←hE]
  rw [ZsK] at hE
  have fin:∀b L,b=E→ZW H (fun e H'=>e=.ret (Bo E)∧H'=H) (.ret (Bo b)) (H++L):=fun b L h=>by rw [h];exact Z2 rfl ⟨rfl,rfl⟩
  replace hE:=YE.mk hE
  simp only [Sm.cells_eq]
  obtain⟨bx,hbx⟩:∃bx,bx=Ze.box 82 [I x.kind,St x.name,St.sl x.names,I x.e.op,U x.e.word,St x.e.name,Ex.sl x.e.args,I x.a.op,U x.a.word,St x.a.name,Ex.sl x.a.args,Ex.sl x.args,U x.low,U x.high,Sm.sl x.body,Sm.sl x.els]:=⟨_,rfl⟩
  obtain⟨b',hby⟩:∃bx,bx=Ze.box 82 [I y.kind,St y.name,St.sl y.names,I y.e.op,U y.e.word,St y.e.name,Ex.sl y.e.args,I y.a.op,U y.a.word,St y.a.name,Ex.sl y.a.args,Ex.sl y.args,U y.low,U y.high,Sm.sl y.body,Sm.sl y.els]:=⟨_,rfl⟩
  refine Zc (fun f H'=>H'=H++[bx,b']∧f 2=.bp H.length 0∧f 3=.bp (H.length+1) 0) (by kernel_rfl) ?_ ?_
  ·simp -dsimp [hbx,hby]
  rintro g _ ⟨rfl,g2,g3⟩
  obtain⟨V,hV⟩:∃V,V=H++[bx,b']:=⟨_,rfl⟩
  have v0:V[H.length]?=some (.box 82 [I x.kind,St x.name,St.sl x.names,I x.e.op,U x.e.word,St x.e.name,Ex.sl x.e.args,I x.a.op,U x.a.word,St x.a.name,Ex.sl x.a.args,Ex.sl x.args,U x.low,U x.high,Sm.sl x.body,Sm.sl x.els]):=by rw [hV,hbx];simp
  have v1:V[H.length+1]?=some (.box 82 [I y.kind,St y.name,St.sl y.names,I y.e.op,U y.e.word,St y.e.name,Ex.sl y.e.args,I y.a.op,U y.a.word,St y.a.name,Ex.sl y.a.args,Ex.sl y.args,U y.low,U y.high,Sm.sl y.body,Sm.sl y.els]):=by rw [hV,hby];simp
  have finV:∀b,b=E→ZW H (fun e H'=>e=.ret (Bo E)∧H'=H) (.ret (Bo b)) V:=fun b h=>by rw [hV];exact fin b _ h
  rw [←hV]
  clear hV
  refine Zc (fun f H'=>V=H'∧f 2=.bp H.length 0∧f 3=.bp (H.length+1) 0∧Zb9 x y=true) (by kernel_rfl) ?_ ?_
  ·obtain⟨hd,hhd⟩:∃hd,hd=Zb9 x y:=⟨_,rfl⟩
   rw [←hhd]
   have hE2:hd=false→false=E:=fun h=>by rw [hE.out,←hhd,h];rfl
   unfold Zb9 at hhd
   by_cases h1:x.kind=y.kind
   rotate_left
   ·have hb:(x.kind==y.kind)=false:=by simpa using h1
    have hb':(x.kind != y.kind)=true:=by simpa using h1
    simp -dsimp [g2,g3,v0,v1,hb,hb']
    exact finV _ (hE2 (by rw [hhd,decide_eq_false h1];rfl))
   by_cases h2:x.name=y.name
   rotate_left
   ·simp -dsimp [g2,g3,v0,v1,h1,h2]
    exact finV _ (hE2 (by rw [hhd,decide_eq_false h2,Bool.and_false];rfl))
   by_cases h3:x.names=y.names
   rotate_left
   ·rw [decide_eq_false h3] at cn
    simp -dsimp [g2,g3,v0,v1,h1,h2]
    refine Za (cn _) ?_
    simp -dsimp [g2,g3,v0,v1,h1,h2]
    exact finV _ (hE2 (by rw [hhd,decide_eq_false h3,Bool.and_false];rfl))
   rw [decide_eq_true h3] at cn
   by_cases h4:x.low=y.low
   rotate_left
   ·have hb':(x.low != y.low)=true:=by simpa using h4
    simp -dsimp [g2,g3,v0,v1,h1,h2]
    refine Za (cn _) ?_
    simp -dsimp [g2,g3,v0,v1,h1,h2,hb']
    exact finV _ (hE2 (by rw [hhd,decide_eq_false h4,Bool.and_false];rfl))
   by_cases h5:x.high=y.high
   rotate_left
   ·have hb':(x.high != y.high)=true:=by simpa using h5
    simp -dsimp [g2,g3,v0,v1,h1,h2]
    refine Za (cn _) ?_
    simp -dsimp [g2,g3,v0,v1,h1,h2,h4,hb']
    exact finV _ (hE2 (by rw [hhd,decide_eq_false h5,Bool.and_false]))
   have hT:hd=true:=by rw [hhd,decide_eq_true h1,decide_eq_true h2,decide_eq_true h3,decide_eq_true h4,decide_eq_true h5];rfl
   simp -dsimp [g2,g3,v0,v1,h1,h2]
   refine Za (cn _) ?_
   simp -dsimp [g2,g3,v0,v1,h1,h2,h4,h5]
   exact hT
  clear g g2 g3
  rintro g _ ⟨rfl,g2,g3,hhd⟩
  have hE3:E=(x.e.eqB y.e&&(x.a.eqB y.a&&(Y9 x.args y.args&&(Yj x.body y.body&&Yj x.els y.els)))):=by rw [hE.out,hhd,Bool.true_and]
  clear hE hhd
  replace hE:=YE.mk hE3
  clear hE3
  refine Zk (by kernel_rfl) ?_
  simp -dsimp [g2,g3,v0,v1]
  refine Za (ce _) ?_
  cases q1:x.e.eqB y.e
  ·simp -dsimp [g2,g3,v0,v1]
   exact finV _ (by rw [hE.out,q1];rfl)
  simp -dsimp [g2,g3,v0,v1]
  refine Za (ca _) ?_
  cases q2:x.a.eqB y.a
  ·simp -dsimp [g2,g3,v0,v1]
   exact finV _ (by rw [hE.out,q1,q2];rfl)
  simp -dsimp [g2,g3,v0,v1]
  refine Za (cg _) ?_
  cases q3:Y9 x.args y.args
  ·simp -dsimp [g2,g3,v0,v1]
   exact finV _ (by rw [hE.out,q1,q2,q3];rfl)
  simp -dsimp [g2,g3,v0,v1]
  refine Za (cb _) ?_
  cases q4:Yj x.body y.body
  ·simp -dsimp [g2,g3,v0,v1]
   exact finV _ (by rw [hE.out,q1,q2,q3,q4];rfl)
  simp -dsimp [g2,g3,v0,v1]
  refine Za (cl _) ?_
  simp -dsimp [g2,g3,v0,v1]
  exact finV _ (by rw [hE.out,q1,q2,q3,q4];rfl)
structure Fc.OkS (f:Fc):Prop where
 params:f.params.length≤2^40
 vars:f.vars.length≤2^40
 rets:f.rets.length≤2^40
 body:Zh f.body≤2^40
theorem ZqO (f g:Fc):f.eqB g=(decide (f.name=g.name)&&(decide (f.params=g.params)&&(decide (f.vars=g.vars)&&(decide (f.rets=g.rets)&&Yj f.body g.body)))):=by
 unfold Fc.eqB
 cases decide (f.name=g.name)<;>cases decide (f.params=g.params)<;>cases decide (f.vars=g.vars)<;>cases decide (f.rets=g.rets)<;>cases Yj f.body g.body<;>rfl
theorem Zqv (x y:Fc) (hx:x.OkS) (hy:y.OkS) (H:List Ze):Zi Tryz.prog 74 [.agg x.cells,.agg y.cells] H (fun e H'=>e=.ret (Bo (x.eqB y))∧H'=H):=by
 have l3:=Yi x.body
 have l4:=Yi y.body
 have b1:=hx.body
 have b2:=hy.body
 have ok2:ZL Tryz.prog 78=true:=by kernel_rfl
 have cp:=fun H=>ZnV x.params y.params hx.params hy.params H
 have cv:=fun H=>ZnV x.vars y.vars hx.vars hy.vars H
 have cr:=fun H=>Zon x.rets y.rets hx.rets hy.rets H
 have cb:∀H,Zi Tryz.prog 77 [Sm.sl x.body,Sm.sl y.body,.fn (.func 78) [] []] H (fun e H'=>e=.ret (Bo (Yj x.body y.body))∧H'=H):=fun H=>by
  refine ZkI x.body y.body 78 ok2 (by omega) (by omega) (fun i u v hu hv H=>?_) H
  have a1:=Za8 (List.mem_of_getElem? hu)
  have a2:=Za8 (List.mem_of_getElem? hv)
  exact Zrq _ u v (Nat.lt_succ_self _) (by omega) (by omega) H
 refine Zf (Zg Tryz.func74 rfl (by kernel_rfl) ?_)
 obtain⟨E,hE⟩:∃E,E=x.eqB y:=⟨_,rfl⟩
 rw [←hE]
 rw [ZqO] at hE
 have fin:∀b L,b=E→ZW H (fun e H'=>e=.ret (Bo E)∧H'=H) (.ret (Bo b)) (H++L):=fun b L h=>by rw [h];exact Z2 rfl ⟨rfl,rfl⟩
 replace hE:=YE.mk hE
 simp only [Fc.cells]
 by_cases h1:x.name=y.name
 rotate_left
 ·simp -dsimp [h1]
  exact fin false _ (by rw [hE.out,decide_eq_false h1];rfl)
 simp -dsimp [h1]
 refine Za (cp _) ?_
 cases q1:decide (x.params=y.params)
 ·simp -dsimp [h1]
  exact fin false _ (by rw [hE.out,q1,Bool.false_and,Bool.and_false])
 simp -dsimp [h1]
 refine Za (cv _) ?_
 cases q2:decide (x.vars=y.vars)
 ·simp -dsimp [h1]
  exact fin false _ (by rw [hE.out,q1,q2,Bool.false_and,Bool.and_false,Bool.and_false])
 simp -dsimp [h1]
 refine Za (cr _) ?_
 cases q3:decide (x.rets=y.rets)
 ·simp -dsimp [h1]
  exact fin false _ (by rw [hE.out,q1,q2,q3,Bool.false_and,Bool.and_false,Bool.and_false,Bool.and_false])
 simp -dsimp [h1]
 refine Za (cb _) ?_
 simp -dsimp [h1]
 exact fin _ _ (by rw [hE.out,decide_eq_true h1,q1,q2,q3];rfl)
theorem ZpP (a b:Pg) (ha:a.OkS) (hb:b.OkS) (H:List Ze):Zi Tryz.prog 40 [.agg a.cells,.agg b.cells] H (fun e H'=>e=.ret (Bo (a.eqB b))∧H'=H):=by
 have ok1:ZL Tryz.prog 74=true:=by kernel_rfl
 have cr:=fun H=>Zsp a.regions b.regions ha.regions hb.regions H
 have cf:∀H,Zi Tryz.prog 73 [Fc.sl a.funcs,Fc.sl b.funcs,.fn (.func 74) [] []] H (fun e H'=>e=.ret (Bo (J9 a.funcs b.funcs))∧H'=H):=fun H=>by
  refine Zsg a.funcs b.funcs 74 ok1 ha.funcs hb.funcs (fun i u v hu hv H=>?_) H
  have m1:=List.mem_of_getElem? hu
  have m2:=List.mem_of_getElem? hv
  exact Zqv u v ⟨ha.params u m1,ha.vars u m1,ha.rets u m1,ha.body u m1⟩ ⟨hb.params v m2,hb.vars v m2,hb.rets v m2,hb.body v m2⟩ H
 refine Zf (Zg Tryz.func40 rfl (by kernel_rfl) ?_)
 obtain⟨E,hE⟩:∃E,E=a.eqB b:=⟨_,rfl⟩
 rw [←hE]
 unfold Pg.eqB at hE
 have fin:∀b L,b=E→ZW H (fun e H'=>e=.ret (Bo E)∧H'=H) (.ret (Bo b)) (H++L):=fun b L h=>by rw [h];exact Z2 rfl ⟨rfl,rfl⟩
 replace hE:=YE.mk hE
 simp only [Pg.cells]
 simp -dsimp
 refine Za (cr _) ?_
 cases q1:decide (a.regions=b.regions)
 ·simp -dsimp
  exact fin false _ (by rw [hE.out,q1];rfl)
 simp -dsimp
 refine Za (cf _) ?_
 simp -dsimp
 exact fin _ _ (by rw [hE.out,q1];rfl)
end Go.Proofs
namespace Go.Proofs
open Go.Mu
structure Pg.OkP (p:Pg):Prop where
 ok2:p.Ok2
 okc:p.OkC
def Zbf (p:Pg):Int:=if Zc2 p=0 then (if (JB p).calls=true∨(JB p).fors=true then 9 else 0) else Zc2 p
theorem Zoe (p:Pg) (hp:p.OkP) (H:List Ze):Zi Tryz.prog 37 [.agg p.cells] H (fun e H'=>e=.ret (I (Zbf p))∧H'=H):=by
 have cm:=fun H=>ZrH p hp.ok2 H
 have cf:=fun H=>Ztx p hp.ok2 hp.ok2.body36 (fun f hf=>hp.okc.vars f hf) hp.okc.funcs hp.okc.regions H
 refine Zf (Zg Tryz.func37 rfl (by kernel_rfl) ?_)
 obtain⟨E,hE⟩:∃E,E=Zbf p:=⟨_,rfl⟩
 rw [←hE]
 unfold Zbf at hE
 have fin:∀c L,c=E→ZW H (fun x H'=>x=AE.ret (I E)∧H'=H) (.ret (I c)) (H++L):=fun c L h=>by rw [h];exact Z2 rfl ⟨rfl,rfl⟩
 simp only [Pg.cells] at cm cf
 simp -dsimp [Pg.cells]
 refine Za (cm _) ?_
 by_cases hm:Zc2 p=0
 ·have h2:ZiF p=JB p:=by rw [ZiF,if_pos hm]
  rw [h2] at cf
  rw [if_pos hm] at hE
  obtain⟨ca,fo,ar,st,hT⟩:∃a b c d,(⟨a,b,c,d⟩:Fo)=JB p:=⟨_,_,_,_,rfl⟩
  rw [←hT] at cf hE
  simp only [Fo.cells] at cf
  simp only [] at hE
  replace hE:=YE.mk hE
  simp -dsimp [hm]
  refine Za (cf _) ?_
  cases ca
  ·cases fo
   ·simp -dsimp
    exact fin _ _ (by rw [hE.out];rfl)
   ·simp -dsimp
    exact fin _ _ (by rw [hE.out];rfl)
  ·simp -dsimp
   exact fin _ _ (by rw [hE.out];rfl)
 ·rw [if_neg hm] at hE
  replace hE:=YE.mk hE
  have hb:(Zc2 p != 0)=true:=by simpa using hm
  simp -dsimp [hb]
  exact fin _ _ hE.out.symm
structure Zmc (p:Pg) (F:Fc):Prop where
 eq:p=ZJ p.regions F
 okf:F.OkF
 kinds:∃K,J7 K F.body=true∧∀n∈K,n.size≤maxLen
theorem ZkB {p:Pg} (hp:p.OkP) (h:Zbf p=0):∃F,Zmc p F:=by
 unfold Zbf at h
 by_cases hm:Zc2 p=0
 ·rw [if_pos hm] at h
  by_cases hc:(JB p).calls=true∨(JB p).fors=true
  ·rw [if_pos hc] at h;cases h
  ·simp only [not_or,Bool.not_eq_true] at hc
   obtain⟨F,hF⟩:=Zmq hm hc.1
   have hmem:F∈p.funcs:=by rw [hF];exact List.mem_singleton.2 rfl
   have hk:=Zs2 hm hF hc.1 hc.2
   have hnm:∀n∈(F.params++F.vars).map Vr.name,n.size≤maxLen:=fun n hn=>by
    obtain⟨v,hv,rfl⟩:=List.mem_map.1 hn
    have:=(hp.ok2.nok.funcs F hmem).2.1 v hv
    unfold maxLen;omega
   refine⟨F,by cases p;simp only at hF;rw [hF];rfl,⟨hp.okc.vars F hmem,hp.okc.body F hmem,fun n hn=>hnm n (Zlc _ _ _ (Nat.le_refl _) hk n hn),fun v hv=>hnm _ (List.mem_map_of_mem (List.mem_append_right _ hv))⟩,_,hk,hnm⟩
 ·rw [if_neg hm] at h;exact absurd h hm
theorem Zmc.fold {p:Pg} {F:Fc} (h:Zmc p F):Zmc (ZJ p.regions F.fold1) F.fold1:=by
 obtain⟨K,hK,hn⟩:=h.kinds
 have hk:=ZqZ K _ F.body (Zcf F.vars) (Nat.le_refl _) hK
 refine⟨rfl,⟨h.okf.vars,?_,fun n hn'=>hn n (Zlc _ _ _ (Nat.le_refl _) hk n hn'),h.okf.vnames⟩,K,hk,hn⟩
 have:=ZfH F.body (Zcf F.vars)
 have:=h.okf.body
 show Zh (ZB F.body (Zcf F.vars)).1≤_
 omega
theorem ZsA {rs:List Rg} {F:Fc} (h:(ZJ rs F).OkC):(ZJ rs F.fold1).OkC:=by
 have m:F∈(ZJ rs F).funcs:=List.mem_singleton.2 rfl
 refine⟨h.regions,by simp [ZJ],fun f hf=>?_,fun f hf=>?_,fun f hf=>?_,fun f hf=>?_⟩<;>obtain rfl:=List.mem_singleton.1 hf
 ·exact h.params F m
 ·exact h.vars F m
 ·exact h.rets F m
 ·have:=ZfH F.body (Zcf F.vars)
  have:=h.body F m
  show Zh (ZB F.body (Zcf F.vars)).1≤_
  omega
theorem Zhe {rs:List Rg} {F:Fc} (h:(ZJ rs F).OkC):(ZJ rs F).OkS:=
 ⟨by have:=h.regions;omega,by have:=h.funcs;omega,fun f hf=>by have:=h.params f hf;omega,fun f hf=>by have:=h.vars f hf;omega,fun f hf=>by have:=h.rets f hf;omega,fun f hf=>by have:=h.body f hf;omega⟩
def Pg.nil:Pg:=⟨[],[]⟩
def foldE (p:Pg):Pg×List Tm×Int:=if Zbf p=0 then (match p.funcs with|[F]=>(ZJ p.regions F.fold1,F.terms1,0)|_=>(Pg.nil,[],0)) else (Pg.nil,[],Zbf p)
theorem Zjv {p:Pg} {F:Fc} (h:Zmc p F) (h0:Zbf p=0):foldE p=(ZJ p.regions F.fold1,F.terms1,0):=by
 unfold foldE
 rw [if_pos h0]
 have:p.funcs=[F]:=by rw [h.eq];rfl
 rw [this]
theorem Zmn (p:Pg) (hp:p.OkP) (H:List Ze):Zi Tryz.prog 19 [.agg p.cells] H (fun e H'=>e=.ret (.tup [.agg (foldE p).1.cells,Tm.sl (foldE p).2.1,I (foldE p).2.2])∧H'=H):=by
 have ca:=fun H=>Zoe p hp H
 refine Zf (ZU (Zg Tryz.func19 rfl (by kernel_rfl) ?_))
 by_cases h0:Zbf p=0
 ·obtain⟨F,hF⟩:=ZkB hp h0
  have co:=fun H=>ZnQ p.regions F (by rw [←hF.eq];exact hp.okc) hF.okf H
  rw [Zjv hF h0]
  rw [←hF.eq] at co
  obtain⟨Q,hQ⟩:∃Q,Q=ZJ p.regions F.fold1:=⟨_,rfl⟩
  obtain⟨tm,htm⟩:∃tm,tm=F.terms1:=⟨_,rfl⟩
  rw [←hQ,←htm] at co ⊢
  simp only [Pg.cells,h0] at ca co ⊢
  simp -dsimp
  refine Za (ca _) ?_
  simp -dsimp
  refine Za (co _) ?_
  simp -dsimp
  exact ZR (.refl _) (Z2 rfl ⟨rfl,rfl⟩)
 ·have hE:foldE p=(Pg.nil,[],Zbf p):=by unfold foldE;rw [if_neg h0]
  rw [hE]
  have hb:(Zbf p != 0)=true:=by simpa using h0
  simp only [Pg.cells] at ca ⊢
  simp -dsimp
  refine Za (ca _) ?_
  simp -dsimp [hb]
  refine ZR (r':=.tup [.agg [Rg.sl [],Fc.sl []],Tm.sl [],I (Zbf p)]) (.tupL (.cons (.aggL (.cons (.nil 4) (.cons (.nil 5) .nil))) (.cons (.nil 4) (.cons (.refl _) .nil)))) ?_
  exact Z2 rfl ⟨rfl,rfl⟩
end Go.Proofs
namespace Go.Proofs
open Go.Mu
abbrev lF:ByteArray:=⟨#[102]⟩
abbrev lP:ByteArray:=⟨#[112]⟩
abbrev lQ:ByteArray:=⟨#[113]⟩
abbrev lS:ByteArray:=⟨#[115]⟩
abbrev lX:ByteArray:=⟨#[120]⟩
abbrev lY:ByteArray:=⟨#[121]⟩
def eZ:Ex:=.mk 0 0 ByteArray.empty []
def vE (nm:ByteArray):Ex:=.mk 2 0 nm []
def cE (n:Int):Ex:=.mk 1 n ByteArray.empty []
def opE (o:Int) (l:List Ex):Ex:=.mk o 0 ByteArray.empty l
def Zdo (n:ByteArray) (e:Ex):Sm:=.mk 1 n [] e eZ [] 0 0 [] []
def ifS (e:Ex) (a b:List Sm):Sm:=.mk 3 ByteArray.empty [] e eZ [] 0 0 a b
def ZqT (e:Ex) (a:List Sm):Sm:=.mk 4 ByteArray.empty [] e eZ [] 0 0 a []
def ZiO (l:List Sm):Fc:=⟨lF,[⟨lP,1,0,false⟩],[⟨lX,1,0,false⟩,⟨lY,1,0,false⟩],[],l⟩
def Zge (l:List Sm):Pg:=ZJ [] (ZiO l)
theorem Zc4 (n:Int) (H:List Ze):Zi Tryz.prog 13 [I n] H (fun e H'=>e=.ret (I n)∧H'=H):=by
 refine Zf (Zg Tryz.func13 rfl (by kernel_rfl) ?_)
 simp -dsimp
 exact Z7 rfl ⟨rfl,rfl⟩
theorem Zb4 (nm:ByteArray) (H:List Ze):Zi Tryz.prog 33 [St nm] H (fun e H'=>e=.ret (.agg (vE nm).cells)∧H'=H):=by
 refine Zf (ZU (Zg Tryz.func33 rfl (by kernel_rfl) ?_))
 simp -dsimp
 refine ZR (r':=.agg (vE nm).cells) ?_ (Z2 rfl ⟨by simp,rfl⟩)
 rw [Ex.cells_eq]
 exact .aggL (.cons (.refl _) (.cons (.refl _) (.cons (.refl _) (.cons (.nil _) .nil))))
theorem Zbh (n:Int) (H:List Ze):Zi Tryz.prog 31 [U n] H (fun e H'=>e=.ret (.agg (cE n).cells)∧H'=H):=by
 refine Zf (ZU (Zg Tryz.func31 rfl (by kernel_rfl) ?_))
 simp -dsimp
 refine ZR (r':=.agg (cE n).cells) ?_ (Z2 rfl ⟨by simp,rfl⟩)
 rw [Ex.cells_eq]
 exact .aggL (.cons (.refl _) (.cons (.refl _) (.cons (.refl _) (.cons (.nil _) .nil))))
theorem Zcv (o:Int) (l:List Ex) (H:List Ze):Zi Tryz.prog 32 [I o,Ex.sl l] H (fun e H'=>e=.ret (.agg (opE o l).cells)∧H'=H):=by
 refine Zf (Zg Tryz.func32 rfl (by kernel_rfl) ?_)
 simp -dsimp
 exact Z2 rfl ⟨rfl,rfl⟩
theorem Zbp (n:ByteArray) (e:Ex) (H:List Ze):Zi Tryz.prog 30 [St n,.agg e.cells] H (fun r H'=>r=.ret (.agg (Zdo n e).cells)∧H'=H):=by
 refine Zf (ZU (Zg Tryz.func30 rfl (by kernel_rfl) ?_))
 simp -dsimp [Ex.cells_eq]
 refine ZR (r':=.agg (Zdo n e).cells) ?_ (Z2 rfl ⟨by simp,rfl⟩)
 rw [Sm.cells_eq]
 exact .aggL (.cons (.refl _) (.cons (.refl _) (.cons (.nil _) (.cons (.refl _) (.cons (.refl _) (.cons (.refl _) (.cons (.refl _) (.cons (.refl _) (.cons (.refl _) (.cons (.refl _) (.cons (.nil _) (.cons (.nil _) (.cons (.refl _) (.cons (.refl _) (.cons (.nil _) (.cons (.nil _) .nil))))))))))))))))
theorem Ziy (l:List Sm) (H:List Ze):Zi Tryz.prog 29 [Sm.sl l] H (fun r H'=>r=.ret (.agg (Zge l).cells)∧H'=H):=by
 refine Zf (ZU (Zg Tryz.func29 rfl (by kernel_rfl) ?_))
 simp -dsimp
 refine ZR (r':=.agg (Zge l).cells) ?_ (Z2 rfl ⟨by simp,rfl⟩)
 refine .aggL (.cons (.nil _) (.cons (.vsR (.cons (.cons (.refl _) (.cons (.refl _) (.cons (.refl _) (.cons (.nil _) (.cons (.refl _) .nil))))) .nil)) .nil))
theorem ZhL (l:List Sm) (h:Zh l≤1000):(Zge l).OkP:=by
 have one:∀f∈(Zge l).funcs,f=ZiO l:=fun f hf=>by simpa [Zge,ZJ] using hf
 refine⟨⟨⟨by simp [Zge,ZJ],by simp [Zge,ZJ],fun f hf=>?_,fun f hf=>?_,fun f hf=>?_,fun f hf=>?_⟩,⟨by simp [Zge,ZJ],fun f hf=>⟨?_,?_,?_⟩⟩,fun f hf=>?_⟩,⟨by simp [Zge,ZJ],by simp [Zge,ZJ],fun f hf=>?_,fun f hf=>?_,fun f hf=>?_,fun f hf=>?_⟩⟩<;>obtain rfl:=one f hf
 ·show Zh l≤_;omega
 ·simp [ZiO]
 ·simp [ZiO]
 ·simp [ZiO]
 ·show ByteArray.size lF≤_;decide
 ·intro v hv
  simp [ZiO] at hv
  rcases hv with rfl|rfl|rfl
  ·show ByteArray.size lP≤_;decide
  ·show ByteArray.size lX≤_;decide
  ·show ByteArray.size lY≤_;decide
 ·intro s hs;simp [ZiO] at hs
 ·show Zh l≤_;omega
 ·simp [ZiO]
 ·simp [ZiO]
 ·simp [ZiO]
 ·show Zh l≤_;omega
def w1:Pg:=Zge [Zdo lX (cE 1),Zdo lY (opE 6 [vE lX,vE lP]),ifS (opE 17 [vE lX,cE 1]) [Zdo lY (cE 2)] [Zdo lY (cE 3)]]
def w1':Pg:=Zge [Zdo lX (cE 1),Zdo lY (opE 6 [cE 1,vE lP]),Zdo lY (cE 2)]
def w2:Pg:=Zge [ZqT (vE lP) [Zdo lX (opE 6 [vE lX,cE 1])]]
def ixE:Ex:=.mk 3 0 lS [cE 0]
theorem ZwG:foldE w1=(w1',[ZaN,ZaN,.mk 4 [] true [[ZaN]]],0):=by kernel_rfl
theorem Zr3:foldE w2=(w2,[.mk 5 [] false [[ZaN]]],0):=by kernel_rfl
def noK:YQ:=fun _=>none
theorem Zvg (H:List Ze):Zo5 noK H (.v (.map none)):=⟨[],fun L=>rfl,fun n=>rfl⟩
theorem ZxI:(opE 21 [cE 1,vE lP,ixE]).fold noK=opE 21 [cE 1,vE lP,ixE]:=by kernel_rfl
theorem Zys:(opE 21 [cE 1,vE lP,vE lQ]).fold noK=vE lP:=by kernel_rfl
theorem ZnB {p q:Pg} {t:List Tm} {e:Int} (hp:p.OkP) (h:foldE p=(q,t,e)) (H:List Ze):Zi Tryz.prog 19 [.agg p.cells] H (fun x H'=>x=.ret (.tup [.agg q.cells,Tm.sl t,I e])∧H'=H):=by
 have:=Zmn p hp H
 rwa [h] at this
theorem ZhC {e x:Ex} (hc:e.count≤1000) (h:e.fold noK=x) (H:List Ze):Zi Tryz.prog 25 [.agg e.cells,.v (.map none)] H (fun r H'=>r=.ret (.agg x.cells)∧H'=H):=by
 have:=ZhS noK _ e (Nat.lt_succ_self _) (by omega) H _ (Zvg H)
 rwa [h] at this
theorem Zoz {p:Pg} (h:p.OkP):p.OkS:=by
 have h1:=h.ok2.ok
 exact⟨h1.regions,h1.funcs,fun f hf=>by have:=h1.params f hf;omega,fun f hf=>by have:=h1.vars f hf;omega,h1.rets,h1.body⟩
theorem ZnO {p:Pg} (h:p.OkP) (H:List Ze):Zi Tryz.prog 20 [.agg p.cells,.agg p.cells] H (fun e H'=>e=.ret (Bo true)∧H'=H):=by
 have:=Zre p p (Zoz h) (Zoz h) H
 rwa [Zod] at this
theorem Zle {x:Ex} (h:x.count≤1000) (H:List Ze):Zi Tryz.prog 26 [.agg x.cells,.agg x.cells] H (fun e H'=>e=.ret (Bo true)∧H'=H):=by
 have:=Zkt _ x x (Nat.lt_succ_self _) (by omega) (by omega) H
 rwa [ZsQ] at this
theorem ZeO (H:List Ze):Zi Tryz.prog 7 [] H (fun e H'=>e=.ret (Bo true)∧H'=H):=by
 refine Zf (J4 (hn:=fun _=>false) (od:=fun i=>if i=6 then some [(0,[]),(1,[]),(2,[]),(3,[]),(4,[]),(5,[]),(6,[0,1,2,3,4,5]),(7,[])] else none) Tryz.func7 rfl (by kernel_rfl) ?_)
 have o1:w1.OkP:=ZhL _ (by decide)
 have o2:w2.OkP:=ZhL _ (by decide)
 have o3:w1'.OkP:=ZhL _ (by decide)
 have hw0:(IntKind.i64.wrap 0==0)=true:=by decide
 simp -dsimp
 refine Za (Zbh 1 _) ?_
 simp -dsimp
 refine Za (Zbp lX (cE 1) _) ?_
 simp -dsimp
 refine Za (Zb4 lX _) ?_
 simp -dsimp
 refine Za (Zb4 lP _) ?_
 simp -dsimp
 refine Za (Zcv 6 [vE lX,vE lP] _) ?_
 simp -dsimp
 refine Za (Zbp lY (opE 6 [vE lX,vE lP]) _) ?_
 simp -dsimp
 refine Za (Zb4 lX _) ?_
 simp -dsimp
 refine Za (Zbh 1 _) ?_
 simp -dsimp
 refine Za (Zcv 17 [vE lX,cE 1] _) ?_
 simp -dsimp
 refine Za (Zbh 2 _) ?_
 simp -dsimp
 refine Za (Zbp lY (cE 2) _) ?_
 simp -dsimp
 refine Za (Zbh 3 _) ?_
 simp -dsimp
 refine Za (Zbp lY (cE 3) _) ?_
 simp -dsimp
 refine ZA (XT (args':=[Sm.sl [Zdo lX (cE 1),Zdo lY (opE 6 [vE lX,vE lP]),ifS (opE 17 [vE lX,cE 1]) [Zdo lY (cE 2)] [Zdo lY (cE 3)]]]) (.cons (.vsR (.cons (.refl _) (.cons (.refl _) (.cons (by repeat first|exact XP.refl _|exact XP.nil _|exact JZ.nil|exact ZbC.nil|apply XP.aggL|apply XP.vsR|apply JZ.cons|apply ZbC.cons) .nil)))) .nil) (Ziy _ _)) ?_
 rintro _ _ ⟨rfl,rfl⟩
 simp -dsimp
 refine Za (ZnB o1 ZwG _) ?_
 simp -dsimp
 refine Za (Zb4 lP _) ?_
 simp -dsimp
 refine Za (Zb4 lX _) ?_
 simp -dsimp
 refine Za (Zbh 1 _) ?_
 simp -dsimp
 refine Za (Zcv 6 [vE lX,cE 1] _) ?_
 simp -dsimp
 refine Za (Zbp lX (opE 6 [vE lX,cE 1]) _) ?_
 simp -dsimp
 refine ZA (XT (args':=[Sm.sl [ZqT (vE lP) [Zdo lX (opE 6 [vE lX,cE 1])]]]) (.cons (.vsR (.cons (by repeat first|exact XP.refl _|exact XP.nil _|exact JZ.nil|exact ZbC.nil|apply XP.aggL|apply XP.vsR|apply JZ.cons|apply ZbC.cons) .nil)) .nil) (Ziy _ _)) ?_
 rintro _ _ ⟨rfl,rfl⟩
 simp -dsimp
 refine Za (ZnB o2 Zr3 _) ?_
 simp -dsimp
 refine Za (Zbh 0 _) ?_
 simp -dsimp
 refine Zd (Zbh 1 _) ?_
 simp -dsimp
 refine Zd (Zb4 lP _) ?_
 simp -dsimp
 refine Zd (Zcv 21 [cE 1,vE lP,ixE] _) ?_
 simp -dsimp
 refine Zd (ZhC (by decide) ZxI _) ?_
 simp -dsimp
 refine⟨⟨?_,?_,?_,?_⟩,?_⟩
 ·refine Zd (Zbh 1 _) ?_
  simp -dsimp
 ·refine Zd (Zb4 lP _) ?_
  simp -dsimp
 ·refine Zd (Zcv 21 [cE 1,vE lP,ixE] _) ?_
  simp -dsimp
 ·refine Zd (ZhC (by decide) ZxI _) ?_
  simp -dsimp
 refine Za (Zbh 1 _) ?_
 simp -dsimp
 refine Za (Zb4 lP _) ?_
 simp -dsimp
 refine Za (Zb4 lQ _) ?_
 simp -dsimp
 refine Za (Zcv 21 [cE 1,vE lP,vE lQ] _) ?_
 simp -dsimp
 refine Za (ZhC (by decide) Zys _) ?_
 simp -dsimp
 refine Zd (Zc4 0 _) ?_
 simp -dsimp
 refine Zd (Zc4 0 _) ?_
 simp -dsimp [hw0]
 refine Zd (Zbh 1 _) ?_
 simp -dsimp
 refine Zd (Zbp lX (cE 1) _) ?_
 simp -dsimp
 refine Zd (Zbh 1 _) ?_
 simp -dsimp
 refine Zd (Zb4 lP _) ?_
 simp -dsimp
 refine Zd (Zcv 6 [cE 1,vE lP] _) ?_
 simp -dsimp
 refine Zd (Zbp lY (opE 6 [cE 1,vE lP]) _) ?_
 simp -dsimp
 refine Zd (Zbh 2 _) ?_
 simp -dsimp
 refine Zd (Zbp lY (cE 2) _) ?_
 simp -dsimp
 refine Zd (Ziy [Zdo lX (cE 1),Zdo lY (opE 6 [cE 1,vE lP]),Zdo lY (cE 2)] _) ?_
 simp -dsimp
 refine Zd (ZnO o3 _) ?_
 simp -dsimp [Tm.kind,Tm.taken]
 refine Zd (ZnO o2 _) ?_
 simp -dsimp
 refine Zd (Zbh 1 _) ?_
 simp -dsimp
 refine Zd (Zb4 lP _) ?_
 simp -dsimp
 refine Zd (Zcv 21 [cE 1,vE lP,ixE] _) ?_
 simp -dsimp
 refine Zd (Zle (x:=opE 21 [cE 1,vE lP,ixE]) (by decide) _) ?_
 simp -dsimp
 refine Zd (Zb4 lP _) ?_
 simp -dsimp
 refine Zd (Zle (x:=vE lP) (by decide) _) ?_
 simp -dsimp
 exact Z2 rfl ⟨rfl,rfl⟩
end Go.Proofs
