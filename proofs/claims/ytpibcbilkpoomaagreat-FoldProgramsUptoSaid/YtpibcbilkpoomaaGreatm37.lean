import Derived.Test.YtpibcbilkpoomaaGreatm36
set_option linter.all false
set_option maxHeartbeats 4000000
set_option maxRecDepth 100000
namespace Go.Proofs
open Go.Mu
mutual
def Tm.sz:Tm→Nat
 | .mk _ _ _ s=>1+ZfR s
def Zfs:List Tm→Nat
 |[]=>0
 |x::l=>x.sz+Zfs l
def ZfR:List (List Tm)→Nat
 |[]=>0
 |a::l=>1+Zfs a+ZfR l
end
mutual
def Tm.plain:Tm→Bool
 | .mk _ i _ s=>i.isEmpty&&(decide (s.length≤2^40)&&Za1 s)
def JS:List Tm→Bool
 |[]=>true
 |x::l=>x.plain&&JS l
def Za1:List (List Tm)→Bool
 |[]=>true
 |a::l=>(decide (a.length≤2^40)&&JS a)&&Za1 l
end
theorem Tm.sz_eq (x:Tm):x.sz=1+ZfR x.subs:=by cases x;rw [Tm.sz];rfl
theorem Tm.plain_eq (x:Tm):x.plain=(x.lines.isEmpty&&(decide (x.subs.length≤2^40)&&Za1 x.subs)):=by cases x;rw [Tm.plain];rfl
theorem Zph (l:List Tm):l.length≤Zfs l:=by
 induction l with
 |nil=>simp
 |cons n l ih=>simp only [List.length_cons,Zfs,Tm.sz_eq];omega
theorem ZoF {l:List Tm} {i:Nat} (h:i<l.length):l[i].sz≤Zfs l:=by
 induction l generalizing i with
 |nil=>simp at h
 |cons n l ih=>cases i with
  |zero=>simp [Zfs]
  |succ i=>have:=ih (i:=i) (by simpa using h);simp only [List.getElem_cons_succ,Zfs];omega
theorem Znl {l:List (List Tm)} {i:Nat} (h:i<l.length):1+Zfs l[i]≤ZfR l:=by
 induction l generalizing i with
 |nil=>simp at h
 |cons n l ih=>cases i with
  |zero=>simp [ZfR]
  |succ i=>have:=ih (i:=i) (by simpa using h);simp only [List.getElem_cons_succ,ZfR];omega
theorem ZjZ {l:List Tm} (hp:JS l=true) {i:Nat} (h:i<l.length):l[i].plain=true:=by
 induction l generalizing i with
 |nil=>simp at h
 |cons n l ih=>
  rw [JS,Bool.and_eq_true] at hp
  cases i with
  |zero=>exact hp.1
  |succ i=>exact ih hp.2 (by simpa using h)
theorem ZiQ {l:List (List Tm)} (hp:Za1 l=true) {i:Nat} (h:i<l.length):(decide (l[i].length≤2^40)&&JS l[i])=true:=by
 induction l generalizing i with
 |nil=>simp at h
 |cons n l ih=>
  rw [Za1,Bool.and_eq_true] at hp
  cases i with
  |zero=>exact hp.1
  |succ i=>exact ih hp.2 (by simpa using h)
def Zt9 (H:List Ze) (x:Tm) (f6 f7:AV) (H':List Ze):Prop:=∃u v R,H'=H++R∧H'[u]?=some (.box 90 x.cells)∧H'[v]?=some (.box 90 x.cells)∧f6=.bp u 0∧f7=.bp v 0
theorem ZeY (m:Nat):∀ (a:List Tm),Zfs a<m→a.length≤2^40→JS a=true→∀ (H:List Ze),Zi Tryz.prog 23 [Tm.sl a,Tm.sl a] H (fun e H'=>e=.ret (Bo true)∧H'=H):=by
 induction m with
 |zero=>intro a h;omega
 |succ m ih=>
  intro a hm hc hp H
  refine Zf (Z0 Tryz.func23 rfl (by kernel_rfl) ?_)
  have hla:=Zph a
  have fin:∀L,ZW H (fun e H'=>e=.ret (Bo true)∧H'=H) (.ret (Bo true)) (H++L):=fun L=>Z2 rfl ⟨rfl,rfl⟩
  refine Zc (fun f H'=>H=H'∧f 0=Tm.sl a∧f 1=Tm.sl a) (by kernel_rfl) ?_ ?_
  ·simp -dsimp
  rintro g _ ⟨rfl,g0,g1⟩
  refine Zc (fun f H'=>H=H'∧f 0=Tm.sl a∧f 1=Tm.sl a) (by kernel_rfl) ?_ ?_
  ·simp -dsimp [g0,g1]
  clear g g0 g1
  rintro g _ ⟨rfl,g0,g1⟩
  refine Z4 (fun f H'=>(∃L,H'=H++L)) ?_ ?_
  rotate_left
  ·clear g g0 g1
   rintro g _ ⟨L,rfl⟩
   refine Zk (by kernel_rfl) ?_
   simp -dsimp
   exact fin L
  refine Zc (fun f H'=>H=H'∧f 0=Tm.sl a∧f 1=Tm.sl a∧f 5=I 0) (by kernel_rfl) ?_ ?_
  ·simp -dsimp [g0,g1]
  clear g g0 g1
  rintro g _ ⟨rfl,g0,g1,g5⟩
  refine Z9 ?_
  refine Yd (fun (i:Nat) f H'=>(∃L,H'=H++L)∧f 0=Tm.sl a∧f 1=Tm.sl a∧f 5=I i∧i≤a.length) (fun i=>a.length-i) 0 ⟨⟨[],by simp⟩,g0,g1,g5,by omega⟩ ?_
  clear g g0 g1 g5
  rintro i g _ ⟨⟨L,rfl⟩,g0,g1,g5,hi⟩
  refine Zc (fun f H'=>H'=H++L∧f 0=Tm.sl a∧f 1=Tm.sl a∧f 5=I i∧i<a.length) (by kernel_rfl) ?_ ?_
  ·simp -dsimp [g0,g1,g5]
   refine Zb (fun hlt=>?_) (fun hlt=>?_)
   ·simp -dsimp [g0,g1,g5]
    omega
   ·simp -dsimp
  clear g g0 g1 g5
  rintro g _ ⟨rfl,g0,g1,g5,hlt⟩
  have hgx:=ZoF hlt
  have hpx:=ZjZ hp hlt
  have e1:=List.getElem?_eq_getElem hlt
  obtain⟨x,hx⟩:∃x,x=a[i]:=⟨_,rfl⟩
  rw [←hx] at e1 hgx hpx
  clear hx
  rw [Tm.sz_eq] at hgx
  rw [Tm.plain_eq,Bool.and_eq_true,Bool.and_eq_true,decide_eq_true_eq] at hpx
  have hl0:x.lines=[]:=by simpa using hpx.1
  have hls:=hpx.2.1
  refine Z4 (fun f H'=>(∃L,H'=H++L)∧f 0=Tm.sl a∧f 1=Tm.sl a∧f 5=I i) ?_ ?_
  rotate_left
  ·clear g g0 g1 g5
   rintro g _ ⟨⟨L,rfl⟩,g0,g1,g5⟩
   refine Zk (by kernel_rfl) ?_
   simp -dsimp [g0,g1,g5]
   exact⟨i+1,by omega,ZC (by omega),by omega⟩
  refine Z9 ?_
  refine Z4 (fun f H'=>Zt9 H x (f 6) (f 7) H'∧f 0=Tm.sl a∧f 1=Tm.sl a∧f 5=I i) ?_ ?_
  ·refine Xb (fun d=>false) ZfX (by kernel_rfl) ?_
   have fin2:∀u v R X Y,(H++(L++R))[u]?=some (Ze.box 90 X)→(H++(L++R))[v]?=some (Ze.box 90 Y)→X=x.cells→Y=x.cells→Zt9 H x (.bp u 0) (.bp v 0) (H++(L++R)):=fun u v R X Y p q hX hY=>by
    subst hX hY
    exact⟨u,v,_,rfl,p,q,rfl,rfl⟩
   simp -dsimp [ZfX,g0,g1,g5,e1]
   refine⟨fin2 _ _ _ _ _ ?_ ?_ (Tm.cells_eq x).symm (Tm.cells_eq x).symm,fin2 _ _ _ _ _ ?_ ?_ (Tm.cells_eq x).symm (Tm.cells_eq x).symm⟩
   ·rw [List.getElem?_append_right (by omega),Nat.add_sub_cancel_left,List.getElem?_append_right (by omega),Nat.sub_self];rfl
   ·rw [List.getElem?_append_right (by omega),Nat.add_sub_cancel_left,List.getElem?_append_right (by omega),Nat.add_sub_cancel_left];rfl
   ·rw [List.getElem?_append_right (by omega),Nat.add_sub_cancel_left,List.getElem?_append_right (by omega),Nat.add_sub_cancel_left];rfl
   ·rw [List.getElem?_append_right (by omega),Nat.add_sub_cancel_left,List.getElem?_append_right (by omega),Nat.sub_self];rfl
  clear g g0 g1 g5
  rintro g V ⟨⟨u,v,R,hV,hVx,hVy,g6,g7⟩,g0,g1,g5⟩
  have hVH:∃L',V=H++L':=⟨_,hV⟩
  clear hV
  simp only [Tm.cells_eq,hl0] at hVx hVy
  refine Zc (fun f H'=>V=H'∧f 0=Tm.sl a∧f 1=Tm.sl a∧f 5=I i∧f 6=.bp u 0∧f 7=.bp v 0) (by kernel_rfl) ?_ ?_
  ·simp -dsimp [g0,g1,g5,g6,g7,hVx,hVy]
  clear g g0 g1 g5 g6 g7
  rintro g _ ⟨rfl,g0,g1,g5,g6,g7⟩
  refine Z4 (fun f H'=>V=H'∧f 0=Tm.sl a∧f 1=Tm.sl a∧f 5=I i∧f 6=.bp u 0∧f 7=.bp v 0) ?_ ?_
  ·refine Zk (by kernel_rfl) ?_
   simp -dsimp [g0,g1,g5,g6,g7]
   refine Zv (fun (j:Nat) f H'=>V=H'∧f 0=Tm.sl a∧f 1=Tm.sl a∧f 5=I i∧f 6=.bp u 0∧f 7=.bp v 0∧f 8=I 0) (fun j=>0) (by kernel_rfl) 0 (by simp [g0,g1,g5,g6,g7]) ?_
   clear g g0 g1 g5 g6 g7
   rintro j g _ ⟨rfl,g0,g1,g5,g6,g7,g8⟩
   simp -dsimp [g0,g1,g5,g6,g7,g8,hVx]
  clear g g0 g1 g5 g6 g7
  rintro g _ ⟨rfl,g0,g1,g5,g6,g7⟩
  refine Zk (by kernel_rfl) ?_
  simp -dsimp [g0,g1,g5,g6,g7]
  refine Zv (fun (j:Nat) f H'=>V=H'∧f 0=Tm.sl a∧f 1=Tm.sl a∧f 5=I i∧f 6=.bp u 0∧f 7=.bp v 0∧f 10=I j∧j≤x.subs.length) (fun j=>x.subs.length-j) (by kernel_rfl) 0 (by simp [g0,g1,g5,g6,g7]) ?_
  clear g g0 g1 g5 g6 g7
  rintro j g _ ⟨rfl,g0,g1,g5,g6,g7,g10,hj⟩
  simp -dsimp [g0,g1,g5,g6,g7,g10,hVx]
  refine Zb (fun hjt=>?_) (fun hjt=>?_)
  ·have e3:=List.getElem?_eq_getElem hjt
   have hgy:=Znl hjt
   have hpy:=ZiQ hpx.2.2 hjt
   rw [Bool.and_eq_true,decide_eq_true_eq] at hpy
   obtain⟨y,hy⟩:∃y,y=x.subs[j]:=⟨_,rfl⟩
   rw [←hy] at e3 hgy hpy
   obtain⟨hpl,hpy⟩:=hpy
   clear hy
   have cr:=ih y (by omega) hpl hpy V
   simp -dsimp [g0,g1,g5,g6,g7,g10,hVx,hVy,e3]
   refine Zd cr ?_
   simp -dsimp [g0,g1,g5,g6,g7,g10]
   exact⟨j+1,by omega,ZC (by omega),by omega⟩
  ·simp -dsimp [g0,g1,g5]
   exact hVH
end Go.Proofs
namespace Go.Proofs
open Go.Mu
theorem Zpw {F:Fc} (h:Jh F.body=true):Jh F.fold1.body=true:=(Zfc _ F.body _ (Nat.le_refl _) (Zl6 _) h).1
theorem Zl8 (m:Nat):∀ (l:List Sm) (K:YQ),Zh l≤m→m≤2^40→JS (ZB l K).2.1=true:=by
 induction m with
 |zero=>intro l K hl _;have:=Yi l;obtain rfl:l=[]:=List.eq_nil_of_length_eq_zero (by omega);simp [ZB,JS]
 |succ m ih=>
  intro l
  induction l with
  |nil=>intro K _ _;simp [ZB,JS]
  |cons s l ihl=>
   intro K h hm
   simp only [Zh] at h
   have hc:=Sm.count_eq s
   have hb:=fun K=>ih s.body K (by omega) (by omega)
   have he:=fun K=>ih s.els K (by omega) (by omega)
   have lb:=fun K=>Nat.le_trans (Nat.le_of_eq (Zcd s.body K)) (Yi s.body)
   have le:=fun K=>Nat.le_trans (Nat.le_of_eq (Zcd s.els K)) (Yi s.els)
   have hl:=ihl (s.fold K).2.2 (by omega) hm
   rw [ZB,JS,hl,Bool.and_true]
   have one:∀k b (a:List Tm),JS a=true→a.length≤2^40→(Tm.mk k [] b [a]).plain=true:=fun k b a h1 h2=>by
    rw [Tm.plain];simp [Za1,h1];omega
   have two:∀k b (a c:List Tm),JS a=true→a.length≤2^40→JS c=true→c.length≤2^40→(Tm.mk k [] b [a,c]).plain=true:=fun k b a c h1 h2 h3 h4=>by
    rw [Tm.plain];simp [Za1,h1,h3];omega
   have ts:ZaN.plain=true:=by rw [ZaN,Tm.plain];simp [Za1]
   rw [Sm.fold_eq,Sm.foldE]
   split
   ·exact ts
   ·split
    ·exact ts
    ·split
     ·split
      ·split
       ·exact one _ _ _ (he K) (by have:=le K;omega)
       ·exact one _ _ _ (hb K) (by have:=lb K;omega)
      ·exact two _ _ _ _ (hb K) (by have:=lb K;omega) (he K) (by have:=le K;omega)
     ·split
      ·exact one _ _ _ (hb _) (by have:=lb (Zai K (ZP s.body));omega)
      ·exact ts
theorem Zf3 (F:Fc) (h:Zh F.body≤2^36):JS F.terms1=true∧F.terms1.length≤2^36:=by
 refine⟨Zl8 _ F.body _ (Nat.le_refl _) (by omega),?_⟩
 have:=Zcd F.body (Zcf F.vars)
 have:=Yi F.body
 show (ZB F.body (Zcf F.vars)).2.1.length≤_
 omega
theorem Zrh (rs:List Rg) (F G:Fc) (hF:(ZJ rs F).OkC) (hG:(ZJ rs G).OkC) (H:List Ze):Zi Tryz.prog 52 [.agg (ZJ rs F).cells,.agg (ZJ rs G).cells] H (fun e H'=>e=.ret (Bo ((ZJ rs F).eqB (ZJ rs G)))∧H'=H):=
 Zsi _ _ (Zhe hF) (Zhe hG) H
def Zuv (M:Pg→List (List Tm)→List Ze→List Ze) (k:Nat) (rs:List Rg) (E:Fc×List (List Tm)) (i:Nat) (f4:AV) (H':List Ze):Prop:=
 ∃F al L,H'=M (ZJ rs F) al L∧f4=ZdB k al∧Zh1 rs F∧Jh F.body=true∧al.length=i∧((Jd rs (8-i) F).1,al++(Jd rs (8-i) F).2)=E
theorem Zm5 (rs:List Rg) (F:Fc) (hRd:Zh1 rs F) (hr:Jh F.body=true) (H:List Ze):Zi Tryz.prog 22 [.agg (ZJ rs F).cells] H (fun e H'=>e=.ret (.tup [.agg (ZJ rs (Jd rs 8 F).1).cells,Tm.sls (Jd rs 8 F).2])∧H'=H):=by
 refine Ya fun hu _=>Zf (ZU (Yv 1 (Z0 Tryz.func22 rfl (by kernel_rfl) ?_)))
 obtain⟨bz,hbz⟩:∃bz,bz=Ze.box 25 [Yp,Yp]:=⟨_,rfl⟩
 obtain⟨E,hE⟩:∃E,E=Jd rs 8 F:=⟨_,rfl⟩
 rw [←hE]
 have hM0:H++List.replicate 1 Ze.pend=H++[Zbn []]:=by simp [Zbn]
 rw [hM0]
 obtain⟨M,hM⟩:∃M:Pg→List (List Tm)→List Ze→List Ze,M=fun q al L=>H++Zbn al::.box 25 q.cells::bz::L:=⟨_,rfl⟩
 have hMe:∀q al L,M q al L=H++Zbn al::.box 25 q.cells::bz::L:=fun q al L=>by rw [hM]
 have m1:∀q al L,(M q al L)[H.length+1]?=some (.box 25 [Rg.sl q.regions,Fc.sl q.funcs]):=fun q al L=>by rw [hMe,Yr];rfl
 have m2:∀q al L,(M q al L)[H.length+2]?=some (.box 25 [Yp,Yp]):=fun q al L=>by rw [hMe,hbz,Yr];rfl
 have m0:∀q al L,(M q al L)[H.length]?=some (Zbn al):=fun q al L=>by rw [hMe];simp
 have s0:∀q al al' L,(M q al L).set H.length (Zbn al')=M q al' L:=fun q al al' L=>by rw [hMe,hMe];simp
 have s1:∀q q' al L,(M q al L).set (H.length+1) (.box 25 [Rg.sl q'.regions,Fc.sl q'.funcs])=M q' al L:=fun q q' al L=>by rw [hMe,hMe,YS];rfl
 have ma:∀q al L X,M q al L++X=M q al (L++X):=fun q al L X=>by rw [hMe,hMe];simp
 have ml:∀q al L,(M q al L).length=H.length+3+L.length:=fun q al L=>by rw [hMe];simp;omega
 refine Zc (fun f H'=>H'=M (ZJ rs F) [] []∧f 1=.bp (H.length+1) 0∧f 2=.bp (H.length+2) 0) (by kernel_rfl) ?_ ?_
 ·rw [hMe,hbz]
  simp -dsimp [Pg.cells]
 rintro g _ ⟨rfl,g1,g2⟩
 clear hM hM0
 have fin:∀F' al L,(F',al)=E→Zao (ZW H fun e H'=>e=AE.ret (.tup [.agg (ZJ rs E.1).cells,Tm.sls E.2])∧H'=H) (.ret (.tup [.agg [Rg.sl (ZJ rs F').regions,Fc.sl (ZJ rs F').funcs],ZdB H.length al])) (H++Zbn al::L):=fun F' al L h=>by
  subst h
  by_cases he:al=[]
  ·subst he
   exact ZR (.tupL (.cons (.refl _) (.cons (.nil 1) .nil))) (Z2 rfl ⟨rfl,rfl⟩)
  ·have hne:al.map (fun a=>[Tm.sl a])≠[]:=fun h=>he (List.map_eq_nil_iff.1 h)
   refine ZR (.refl _) ?_
   refine Zay hu 0 1 60 (al.map fun a=>[Tm.sl a]) (by simp only [Zbn,Yn,if_neg hne];rfl) (Zi3 al) ?_
   have e:(AV.tup [.agg [Rg.sl (ZJ rs F').regions,Fc.sl (ZJ rs F').funcs],ZdB H.length al]).frz (H.length+0) 1 (al.map fun a=>[Tm.sl a])=.tup [.agg (ZJ rs F').cells,Tm.sls al]:=by
    simp only [AV.frz,Zam,Nat.add_zero]
    rw [JV _ _ _ hne]
    rfl
   rw [e]
   exact Z2 rfl ⟨rfl,rfl⟩
 refine Zc (fun f H'=>H'=M (ZJ rs F) [] []∧f 1=.bp (H.length+1) 0∧f 2=.bp (H.length+2) 0∧f 4=Yp) (by kernel_rfl) ?_ ?_
 ·simp -dsimp [g1,g2]
 clear g g1 g2
 rintro g _ ⟨rfl,g1,g2,g4⟩
 refine Z4 (fun f H'=>ZwF M H.length rs E (f 4) H'∧f 1=.bp (H.length+1) 0∧f 2=.bp (H.length+2) 0) ?_ ?_
 rotate_left
 ·clear g g1 g2 g4
  rintro g _ ⟨⟨F',al,L,rfl,g4,he⟩,g1,g2⟩
  have vl:∀X,((M (ZJ rs F') al L).set (H.length+2) X)[H.length+2]?=some X:=fun X=>List.getElem?_set_self (by rw [ml];omega)
  have vs:(M (ZJ rs F') al L).set (H.length+2) (.box 25 [Rg.sl (ZJ rs F').regions,Fc.sl (ZJ rs F').funcs])=H++Zbn al::(.box 25 (ZJ rs F').cells::.box 25 [Rg.sl (ZJ rs F').regions,Fc.sl (ZJ rs F').funcs]::L):=by rw [hMe,YS];rfl
  refine Zk (by kernel_rfl) ?_
  simp -dsimp [g1,g2,g4,m1,m2,vl]
  rw [vs]
  exact fin F' al _ he
 clear fin
 refine Zc (fun f H'=>H'=M (ZJ rs F) [] []∧f 1=.bp (H.length+1) 0∧f 2=.bp (H.length+2) 0∧f 4=Yp∧f 5=I 0) (by kernel_rfl) ?_ ?_
 ·simp -dsimp [g1,g2,g4]
 clear g g1 g2 g4
 rintro g _ ⟨rfl,g1,g2,g4,g5⟩
 refine Z9 ?_
 refine Yd (fun (i:Nat) f H'=>Zuv M H.length rs E i (f 4) H'∧f 1=.bp (H.length+1) 0∧f 2=.bp (H.length+2) 0∧f 5=I i∧i≤8) (fun i=>8-i) 0
  ⟨⟨F,[],[],rfl,by rw [g4];exact (Xd _).symm,hRd,hr,rfl,by rw [hE];rfl⟩,g1,g2,g5,by omega⟩ ?_
 clear g g1 g2 g4 g5 hRd hE hr
 rintro i g _ ⟨⟨F,al,L,rfl,g4,hRd,hr,hal,hinv⟩,g1,g2,g5,hi⟩
 refine Zc (fun f H'=>H'=M (ZJ rs F) al L∧f 1=.bp (H.length+1) 0∧f 2=.bp (H.length+2) 0∧f 4=ZdB H.length al∧f 5=I i∧i<8) (by kernel_rfl) ?_ ?_
 ·simp -dsimp [g1,g2,g4,g5]
  refine Zb (fun hlt=>?_) (fun hlt=>?_)
  ·simp -dsimp [g1,g2,g4,g5]
   omega
  ·have h8:8-i=0:=by omega
   rw [h8] at hinv
   simp -dsimp [g1,g2,g4]
   exact⟨F,al,L,rfl,rfl,by rw [←hinv];simp [Jd]⟩
 clear g g1 g2 g4 g5
 rintro g _ ⟨rfl,g1,g2,g4,g5,hlt⟩
 obtain⟨n,hn⟩:∃n,8-i=n+1:=⟨7-i,by omega⟩
 rw [hn,Jd] at hinv
 refine Z4 (fun f H'=>Zuv M H.length rs E (i+1) (f 4) H'∧f 1=.bp (H.length+1) 0∧f 2=.bp (H.length+2) 0∧f 5=I i) ?_ ?_
 rotate_left
 ·clear g g1 g2 g4 g5
  rintro g H' ⟨ho,g1,g2,g5⟩
  replace ho:=YE.mk ho
  refine Zk (by kernel_rfl) ?_
  simp -dsimp [g1,g2,g5]
  exact⟨i+1,by omega,ho.out,ZC (by omega),by omega⟩
 refine Z9 ?_
 have co:=fun H=>ZlI rs F hRd hr H
 have hRd':=hRd.fold
 have hr':=Zpw hr
 have cs:=fun H=>Zrh rs F F.fold1 hRd.okc hRd'.okc H
 obtain⟨F',hF'⟩:∃F',F'=F.fold1:=⟨_,rfl⟩
 obtain⟨tm,htm⟩:∃tm,tm=F.terms1:=⟨_,rfl⟩
 rw [←hF',←htm] at co hinv
 rw [←hF'] at cs hRd' hr'
 simp only [Pg.cells] at co cs
 obtain⟨b7,hb7⟩:∃b,b=Ze.box 25 [Rg.sl (ZJ rs F').regions,Fc.sl (ZJ rs F').funcs]:=⟨_,rfl⟩
 obtain⟨V,hV⟩:∃V,V=M (ZJ rs F) al L:=⟨_,rfl⟩
 have v1:V[H.length+1]?=some (.box 25 [Rg.sl (ZJ rs F).regions,Fc.sl (ZJ rs F).funcs]):=by rw [hV,m1]
 rw [←hV]
 refine Zc (fun f H'=>H'=V++[b7]∧f 1=.bp (H.length+1) 0∧f 2=.bp (H.length+2) 0∧f 4=ZdB H.length al∧f 5=I i∧f 6=.bp V.length 0∧f 7=Tm.sl tm) (by kernel_rfl) ?_ ?_
 ·simp -dsimp [g1,g2,g4,g5,v1]
  refine Za (co _) ?_
  simp -dsimp [g1,g2,g4,g5,hb7]
 clear g g1 g2 g4 g5 v1
 obtain⟨kq,hkq⟩:∃kq,kq=V.length:=⟨_,rfl⟩
 have q7:∀q al',(M q al' (L++[b7]))[kq]?=some (.box 25 [Rg.sl (ZJ rs F').regions,Fc.sl (ZJ rs F').funcs]):=fun q al'=>by
  rw [hkq,hV,ml,hMe,show H.length+3+L.length=H.length+(3+L.length) from by omega,Yr,show 3+L.length=L.length+1+1+1 from by omega,←hb7];simp
 rw [←hkq,hV,ma]
 clear hkq hV V
 rintro g _ ⟨rfl,g1,g2,g4,g5,g6,g7⟩
 refine Zc (fun f H'=>H'=M (ZJ rs F) al (L++[b7])∧f 1=.bp (H.length+1) 0∧f 2=.bp (H.length+2) 0∧f 4=ZdB H.length al∧f 5=I i∧f 6=.bp kq 0∧f 7=Tm.sl tm∧(ZJ rs F).eqB (ZJ rs F')=false) (by kernel_rfl) ?_ ?_
 ·simp -dsimp [g1,g2,g4,g5,g6,g7,m1,q7]
  refine Za (cs _) ?_
  cases hq:(ZJ rs F).eqB (ZJ rs F')
  ·simp -dsimp [g1,g2,g4,g5,g6,g7]
  ·rw [if_pos hq] at hinv
   simp -dsimp [g1,g2,g4]
   exact⟨F,al,_,rfl,rfl,by rw [←hinv];simp⟩
 clear g g1 g2 g4 g5 g6 g7
 rintro g _ ⟨rfl,g1,g2,g4,g5,g6,g7,hq⟩
 rw [hq,if_neg (by decide)] at hinv
 refine Zc (fun f H'=>H'=M (ZJ rs F') al (L++[b7])∧f 1=.bp (H.length+1) 0∧f 2=.bp (H.length+2) 0∧f 4=ZdB H.length al∧f 5=I i∧f 7=Tm.sl tm) (by kernel_rfl) ?_ ?_
 ·simp -dsimp [g1,g2,g4,g5,g6,g7,m1,q7,s1]
 clear g g1 g2 g4 g5 g6 g7
 rintro g _ ⟨rfl,g1,g2,g4,g5,g7⟩
 refine YH (fun d=>d==24) (fun _=>none) (by kernel_rfl) ?_
 simp -dsimp [g1,g2,g4,g5,g7]
 refine ZD (k:=H.length) (es:=al.map fun a=>[Tm.sl a]) (by rw [m0]) (by simp;omega) (by simp;omega) ?_
 have hsb:al.map (fun a=>[Tm.sl a])++[[Tm.sl tm]]=(al++[tm]).map fun a=>[Tm.sl a]:=by simp
 rw [hsb,s0]
 simp -dsimp [g1,g2,g4,g5,g7]
 exact⟨F',al++[tm],_,rfl,by rw [ZdB,←hsb],hRd',hr',by simp [hal],by rw [←hinv,show 8-(i+1)=n from by omega];simp⟩
end Go.Proofs
namespace Go.Proofs
open Go.Mu
structure Pg.OkR (p:Pg):Prop where
 ok3:p.Ok3
 okc:p.OkC
 rng:p.rng=true
theorem Pg.OkR.okp {p:Pg} (h:p.OkR):p.OkP:=⟨h.ok3.ok,h.okc⟩
theorem Zkq (rs:List Rg) (n:Nat):∀ (F:Fc),Zh1 rs F→(Jd rs n F).2.length≤n∧Zh1 rs (Jd rs n F).1∧∀a∈(Jd rs n F).2,JS a=true∧a.length≤2^36:=by
 induction n with
 |zero=>intro F h;exact⟨Nat.le_refl _,h,fun a ha=>absurd ha (by simp [Jd])⟩
 |succ n ih=>
  intro F h
  rw [Jd]
  split
  ·exact⟨by simp,h,fun a ha=>absurd ha (by simp)⟩
  ·obtain⟨h1,h2,h3⟩:=ih _ h.fold
   refine⟨by simp;omega,h2,fun a ha=>?_⟩
   rcases List.mem_cons.1 ha with rfl|ha
   ·exact Zf3 F (h.okc.body F (by simp [ZJ]))
   ·exact h3 a ha
theorem Zf1 {p:Pg} (h:p.OkC) (H:List Ze):Zi Tryz.prog 20 [.agg p.cells,.agg p.cells] H (fun e H'=>e=.ret (Bo true)∧H'=H):=by
 have hs:p.OkS:=⟨by have:=h.regions;omega,by have:=h.funcs;omega,fun f hf=>by have:=h.params f hf;omega,fun f hf=>by have:=h.vars f hf;omega,fun f hf=>by have:=h.rets f hf;omega,fun f hf=>by have:=h.body f hf;omega⟩
 have:=Zre p p hs hs H
 rwa [Zod] at this
theorem ZnJ:(Pg.nil).OkC:=⟨by simp [Pg.nil],by simp [Pg.nil],by simp [Pg.nil],by simp [Pg.nil],by simp [Pg.nil],by simp [Pg.nil]⟩
theorem Zqu (H:List Ze):Zi Tryz.prog 20 [.agg [Rg.sl Pg.nil.regions,Fc.sl Pg.nil.funcs],.agg [Yp,Yp]] H (fun e H'=>e=.ret (Bo true)∧H'=H):=
 XT (args':=[.agg Pg.nil.cells,.agg Pg.nil.cells]) (.cons (.refl _) (.cons (.aggL (.cons (.nil 4) (.cons (.nil 5) .nil))) .nil)) (Zf1 ZnJ H)
theorem ZwY {p:Pg} {F:Fc} (hp:p.OkR) (h:Zmc p F):Zh1 p.regions F∧Jh F.body=true:=by
 have e:=h.eq
 have hc:=hp.okc
 have hr:=hp.rng
 rw [e] at hc hr
 refine⟨⟨⟨rfl,h.okf,h.kinds⟩,hc⟩,?_⟩
 simp only [Pg.rng,ZJ,List.all_cons,List.all_nil,Bool.and_true,Bool.and_eq_true,Fc.rng] at hr
 exact hr.2.2
theorem ZgO (p:Pg) (hp:p.OkR) (H:List Ze):Zi Tryz.prog 5 [.agg p.cells] H (fun e H'=>e=.ret (Bo true)∧H'=H):=by
 refine Zf (Zg Tryz.func5 rfl (by kernel_rfl) ?_)
 have cs:=fun H=>Zql p hp.ok3.ok 1500 H
 have c1:=fun H=>Zmn p hp.okp H
 have c2:=fun H=>ZmE p hp.okp H
 have ca:=fun H=>ZsJ p hp.ok3 hp.okp H
 simp only [Pg.cells] at cs c1 c2 ca
 simp -dsimp
 refine Za (cs _) ?_
 cases Zkx p 1500
 ·simp -dsimp
  refine Za (ZeO _) ?_
  simp -dsimp
  exact Z2 rfl ⟨rfl,rfl⟩
 simp -dsimp
 by_cases h0:Zbf p=0
 ·obtain⟨F,hF⟩:=ZkB hp.okp h0
  obtain⟨hRd,hr⟩:=ZwY hp hF
  rw [Zjv hF h0] at c1
  rw [Zh5 hF h0] at c2
  have c3:=fun H=>ZlI p.regions F hRd hr H
  have c4:=fun H=>Zm5 p.regions F hRd hr H
  rw [←hF.eq] at c3 c4
  obtain⟨hl,hR,hA⟩:=Zkq p.regions 8 F hRd
  obtain⟨t1,t2⟩:=Zf3 F hF.okf.body
  have s1:=fun H=>Zf1 hRd.fold.okc H
  have s2:=fun H=>Zf1 hR.okc H
  have s3:=fun H=>ZeY _ F.terms1 (Nat.lt_succ_self _) (by omega) t1 H
  obtain⟨q,hq⟩:∃q,q=ZJ p.regions F.fold1:=⟨_,rfl⟩
  obtain⟨r,hr⟩:∃q,q=ZJ p.regions (Jd p.regions 8 F).1:=⟨_,rfl⟩
  obtain⟨A,hAe⟩:∃q,q=(Jd p.regions 8 F).2:=⟨_,rfl⟩
  obtain⟨T,hT⟩:∃q,q=F.terms1:=⟨_,rfl⟩
  simp only [←hq,←hr,←hAe,←hT] at c1 c2 c3 c4 s1 s2 s3 hl hA
  clear hq hr hAe hT t1 t2 hR
  rw [h0] at ca
  simp only [Pg.cells] at c1 c2 c3 c4 s1 s2
  refine Za (c1 _) ?_
  simp -dsimp
  refine Za (c2 _) ?_
  simp -dsimp
  refine Za (ca _) ?_
  simp -dsimp
  refine Za (c3 _) ?_
  simp -dsimp
  refine Za (c4 _) ?_
  simp -dsimp
  refine Za (Zc4 0 _) ?_
  simp -dsimp
  refine Za (Zc4 0 _) ?_
  have hw0:(IntKind.i64.wrap 0 != 0)=false:=by decide
  simp -dsimp [hw0]
  refine Za (s1 _) ?_
  simp -dsimp
  refine Za (s3 _) ?_
  simp -dsimp
  refine Za (s2 _) ?_
  simp -dsimp
  refine Zv (fun (i:Nat) f H'=>H'=H++[Ze.box 25 [Rg.sl p.regions,Fc.sl p.funcs],Ze.box 25 [Rg.sl q.regions,Fc.sl q.funcs],Ze.box 25 [Rg.sl r.regions,Fc.sl r.funcs],Ze.box 25 [Rg.sl q.regions,Fc.sl q.funcs],Ze.box 25 [Rg.sl r.regions,Fc.sl r.funcs]]∧f 7=Tm.sls A∧f 13=Tm.sls A∧f 14=I i∧i≤A.length) (fun i=>A.length-i) (by kernel_rfl) 0 (by simp) ?_
  rintro i f _ ⟨rfl,h7,h13,h14,hi⟩
  simp -dsimp [h7,h13,h14]
  refine Zb (fun hlt=>?_) (fun hlt=>?_)
  ·have g1:=List.getElem?_eq_getElem hlt
   have ha:=hA A[i] (List.getElem_mem hlt)
   have s4:=fun H=>ZeY _ A[i] (Nat.lt_succ_self _) (by omega) ha.1 H
   obtain⟨a,hae⟩:∃a,a=A[i]:=⟨_,rfl⟩
   rw [←hae] at g1 s4
   simp -dsimp [h7,h13,h14,g1]
   refine Zd (s4 _) ?_
   simp -dsimp [h7,h13,h14,g1]
   exact⟨i+1,by omega,ZC (by omega),by omega⟩
  ·simp -dsimp
   refine Za (ZeO _) ?_
   simp -dsimp
   exact Z2 rfl ⟨rfl,rfl⟩
 ·have e1:foldE p=(Pg.nil,[],Zbf p):=by rw [foldE,if_neg h0]
  have e2:ZcL p=(Pg.nil,[],Zbf p):=by rw [ZcL,if_neg h0]
  rw [e1] at c1
  rw [e2] at c2
  have hb:(Zbf p != 0)=true:=by simpa using h0
  have hw0:(IntKind.i64.wrap 0==0)=true:=by decide
  have s1:=fun H=>Zf1 ZnJ H
  simp only [Pg.cells] at s1 c1 c2
  refine Za (c1 _) ?_
  simp -dsimp
  refine Za (c2 _) ?_
  simp -dsimp
  refine Za (ca _) ?_
  simp -dsimp [hb]
  refine Za (Zqu _) ?_
  simp -dsimp
  refine Za (s1 _) ?_
  simp -dsimp [hw0]
  refine Za (Zc4 _ _) ?_
  simp -dsimp
  refine Za (Zc4 _ _) ?_
  simp -dsimp
  refine Za (ZeO _) ?_
  simp -dsimp
  exact Z2 rfl ⟨rfl,rfl⟩
end Go.Proofs
