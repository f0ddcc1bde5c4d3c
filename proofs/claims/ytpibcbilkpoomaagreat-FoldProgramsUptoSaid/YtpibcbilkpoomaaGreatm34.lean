import Derived.Test.YtpibcbilkpoomaaGreatm33
set_option linter.all false
set_option maxHeartbeats 4000000
set_option maxRecDepth 100000
namespace Go.Proofs
open Go.Mu
theorem Zjf {P:Program} {n:Nat} {c:Code} {rs:List ResultVar} {R:AE→List Ze→Prop} {f:Fr} {H:List Ze} {ds:List ZO} (h:X6 P n c (ZgB P rs R) f H ds):X6 P n (.scope c) (ZgB P rs R) f H ds:=by
 refine Zpy ?_
 refine Eq.mpr (congrArg (fun Q=>X6 P n c Q f H ds) (a₂:=ZgB P rs R) ?_) h
 funext x f H ds
 cases x<;>rfl
abbrev Zbn (l:List (List Tm)):Ze:=Yn 60 1 (l.map fun a=>[Tm.sl a])
abbrev ZdB (k:Nat) (l:List (List Tm)):AV:=Yo k (l.map fun a=>[Tm.sl a])
theorem Zi3 (l:List (List Tm)):(l.map fun a=>[Tm.sl a]).flatten.all AV.frzB=true:=XQ _ (fun x=>by simp [AV.frzB]) l
def Jd (rs:List Rg):Nat→Fc→Fc×List (List Tm)
 |0,F=>(F,[])
 |n+1,F=>if (ZJ rs F).eqB (ZJ rs F.fold1)=true then (F,[]) else ((Jd rs n F.fold1).1,F.terms1::(Jd rs n F.fold1).2)
structure Zh1 (rs:List Rg) (F:Fc):Prop where
 ask:Zmc (ZJ rs F) F
 okc:(ZJ rs F).OkC
theorem Zh1.fold {rs:List Rg} {F:Fc} (h:Zh1 rs F):Zh1 rs F.fold1:=⟨h.ask.fold,ZsA h.okc⟩
def ZcL (p:Pg):Pg×List (List Tm)×Int:=if Zbf p=0 then (match p.funcs with|[F]=>(ZJ p.regions (Jd p.regions 8 F).1,(Jd p.regions 8 F).2,0)|_=>(Pg.nil,[],0)) else (Pg.nil,[],Zbf p)
theorem Zh5 {p:Pg} {F:Fc} (h:Zmc p F) (h0:Zbf p=0):ZcL p=(ZJ p.regions (Jd p.regions 8 F).1,(Jd p.regions 8 F).2,0):=by
 unfold ZcL
 rw [if_pos h0]
 have:p.funcs=[F]:=by rw [h.eq];rfl
 rw [this]
def ZwU (M:Pg→List (List Tm)→List Ze→List Ze) (k:Nat) (rs:List Rg) (E:Fc×List (List Tm)) (i:Nat) (f6:AV) (H':List Ze):Prop:=
 ∃F al L,H'=M (ZJ rs F) al L∧f6=ZdB k al∧Zh1 rs F∧al.length=i∧((Jd rs (8-i) F).1,al++(Jd rs (8-i) F).2)=E
def ZwF (M:Pg→List (List Tm)→List Ze→List Ze) (k:Nat) (rs:List Rg) (E:Fc×List (List Tm)) (f6:AV) (H':List Ze):Prop:=
 ∃F al L,H'=M (ZJ rs F) al L∧f6=ZdB k al∧(F,al)=E
theorem ZmE (p:Pg) (hp:p.OkP) (H:List Ze):Zi Tryz.prog 11 [.agg p.cells] H (fun e H'=>e=.ret (.tup [.agg (ZcL p).1.cells,Tm.sls (ZcL p).2.1,I (ZcL p).2.2])∧H'=H):=by
 have ca:=fun H=>Zoe p hp H
 refine Ya fun hu _=>Zf (ZU (Yv 1 (Z0 Tryz.func11 rfl (by kernel_rfl) ?_)))
 obtain⟨bz,hbz⟩:∃bz,bz=Ze.box 25 [Yp,Yp]:=⟨_,rfl⟩
 obtain⟨R,hR⟩:∃R,R=ZcL p:=⟨_,rfl⟩
 rw [←hR]
 have hM0:H++List.replicate 1 Ze.pend=H++[Zbn []]:=by simp [Zbn]
 rw [hM0]
 obtain⟨M,hM⟩:∃M:Pg→List (List Tm)→List Ze→List Ze,M=fun q al L=>H++Zbn al::.box 25 q.cells::bz::L:=⟨_,rfl⟩
 have hMe:∀q al L,M q al L=H++Zbn al::.box 25 q.cells::bz::L:=fun q al L=>by rw [hM]
 have m1:∀q al L,(M q al L)[H.length+1]?=some (.box 25 [Rg.sl q.regions,Fc.sl q.funcs]):=fun q al L=>by rw [hMe,Yr];rfl
 have m2:∀q al L,(M q al L)[H.length+2]?=some (.box 25 [Yp,Yp]):=fun q al L=>by rw [hMe,hbz,Yr];rfl
 have m0:∀q al L,(M q al L)[H.length]?=some (Zbn al):=fun q al L=>by rw [hMe];simp
 have s0:∀q al al' L,(M q al L).set H.length (Zbn al')=M q al' L:=fun q al al' L=>by rw [hMe,hMe];simp
 have s1:∀q q' al L,(M q al L).set (H.length+1) (.box 25 [Rg.sl q'.regions,Fc.sl q'.funcs])=M q' al L:=fun q q' al L=>by rw [hMe,hMe,YS];rfl
 have ma:∀q al L X,M q al L++X=M q al (L++X):=fun q al L X=>by rw [hMe,hMe];simp
 have ml:∀q al L,(M q al L).length=H.length+3+L.length:=fun q al L=>by rw [hMe];simp;omega
 refine Zc (fun f H'=>H'=M p [] []∧f 1=.bp (H.length+1) 0∧f 2=.bp (H.length+2) 0) (by kernel_rfl) ?_ ?_
 ·rw [hMe,hbz]
  simp -dsimp [Pg.cells]
 rintro g _ ⟨rfl,g1,g2⟩
 clear hM
 have fin:∀q al L,(q,al,(0:Int))=R→Zao (ZW H fun e H'=>e=AE.ret (.tup [.agg R.1.cells,Tm.sls R.2.1,I R.2.2])∧H'=H) (.ret (.tup [.agg [Rg.sl q.regions,Fc.sl q.funcs],ZdB H.length al,I 0])) (H++Zbn al::L):=fun q al L h=>by
  subst h
  by_cases he:al=[]
  ·subst he
   exact ZR (.tupL (.cons (.refl _) (.cons (.nil 1) (.cons (.refl _) .nil)))) (Z2 rfl ⟨rfl,rfl⟩)
  ·have hne:al.map (fun a=>[Tm.sl a])≠[]:=fun h=>he (List.map_eq_nil_iff.1 h)
   refine ZR (.refl _) ?_
   refine Zay hu 0 1 60 (al.map fun a=>[Tm.sl a]) (by simp only [Zbn,Yn,if_neg hne];rfl) (Zi3 al) ?_
   have e:(AV.tup [.agg [Rg.sl q.regions,Fc.sl q.funcs],ZdB H.length al,I 0]).frz (H.length+0) 1 (al.map fun a=>[Tm.sl a])=.tup [.agg q.cells,Tm.sls al,I 0]:=by
    simp only [AV.frz,Zam,Nat.add_zero]
    rw [JV _ _ _ hne]
    rfl
   rw [e]
   exact Z2 rfl ⟨rfl,rfl⟩
 refine Zjf ?_
 have hR0:=hR
 unfold ZcL at hR0
 simp only [Pg.cells] at ca
 refine Z4 (fun f H'=>H'=M p [] []∧f 1=.bp (H.length+1) 0∧f 2=.bp (H.length+2) 0∧Zbf p=0) ?_ ?_
 ·refine Zc (fun f H'=>H'=M p [] []∧f 1=.bp (H.length+1) 0∧f 2=.bp (H.length+2) 0∧f 5=I (Zbf p)) (by kernel_rfl) ?_ ?_
  ·simp -dsimp [g1,g2,m1]
   refine Za (ca _) ?_
   simp -dsimp [g1,g2]
  clear g g1 g2
  rintro g _ ⟨rfl,g1,g2,g5⟩
  by_cases h0:Zbf p=0
  ·refine Zk (by kernel_rfl) ?_
   simp -dsimp [g1,g2,g5,h0]
  ·rw [if_neg h0] at hR0
   have hb:(Zbf p != 0)=true:=by simpa using h0
   refine Zk (by kernel_rfl) ?_
   have vl:∀X,((M p [] []).set (H.length+2) X)[H.length+2]?=some X:=fun X=>List.getElem?_set_self (by rw [ml];simp)
   have vs:∃L,(M p [] []).set (H.length+2) (.box 25 [Yp,Yp])=H++L:=⟨Zbn []::.box 25 p.cells::.box 25 [Yp,Yp]::[],by rw [hMe,YS];rfl⟩
   simp -dsimp [g1,g2,g5,hb,m2,vl]
   obtain⟨L,hL⟩:=vs
   rw [hL,hR0]
   refine ZR (r':=.tup [.agg [Rg.sl [],Fc.sl []],Tm.sls [],I (Zbf p)]) (.tupL (.cons (.aggL (.cons (.nil 4) (.cons (.nil 5) .nil))) (.cons (.nil 1) (.cons (.refl _) .nil)))) ?_
   exact Z2 rfl ⟨rfl,rfl⟩
 clear g g1 g2
 rintro g _ ⟨rfl,g1,g2,h0⟩
 clear hR0
 obtain⟨F,hF⟩:=ZkB hp h0
 rw [Zh5 hF h0] at hR
 obtain⟨rs,hrs⟩:∃rs,rs=p.regions:=⟨_,rfl⟩
 have hRd:Zh1 rs F:=⟨by rw [hrs];have e:=hF.eq;rw [←e];exact hF,by rw [hrs,←hF.eq];exact hp.okc⟩
 have hpe:p=ZJ rs F:=by rw [hrs];exact hF.eq
 rw [←hrs] at hR
 clear hrs hF ca h0
 subst hpe
 --a copy
 have cl:=fun H=>ZjX (ZJ rs F) hRd.okc H
 have hfs:∀k,fcS k [F]=.hs k 0 1 1:=fun k=>by simp [fcS,Yo]
 have hfb:fcB [F]=.row 56 5 [F.cells]:=by simp [fcB,Yn]
 simp only [ZJ,Pg.cells,hfs,hfb] at cl
 obtain⟨k,hk⟩:∃k,k=H.length+3:=⟨_,rfl⟩
 have hs1:∀X,(H++[Zbn [],.box 25 [Rg.sl rs,Fc.sl [F]],bz,.row 56 5 [F.cells]]).set (H.length+1) X=H++[Zbn [],X,bz,.row 56 5 [F.cells]]:=fun X=>by rw [YS];rfl
 refine Zc (fun f H'=>H'=H++[Zbn [],.box 25 [Rg.sl rs,.hs k 0 1 1],bz,.row 56 5 [F.cells]]∧f 1=.bp (H.length+1) 0∧f 2=.bp (H.length+2) 0) (by kernel_rfl) ?_ ?_
 ·have e1:M (ZJ rs F) [] []++[.row 56 5 [F.cells]]=H++[Zbn [],.box 25 [Rg.sl rs,Fc.sl [F]],bz,.row 56 5 [F.cells]]:=by rw [hMe];simp [ZJ,Pg.cells]
  have e2:(M (ZJ rs F) [] []).length=k:=by rw [ml,hk];rfl
  have e3:(H++[Zbn [],.box 25 [Rg.sl rs,Fc.sl [F]],bz,.row 56 5 [F.cells]])[H.length+1]?=some (.box 25 [Rg.sl rs,Fc.sl [F]]):=by rw [Yr];rfl
  simp -dsimp [g1,g2,m1]
  refine ZA (cl _) ?_
  rintro e H' ⟨rfl,rfl⟩
  rw [e1,e2]
  simp -dsimp [g1,g2,e3,hs1]
 clear g g1 g2 hs1 cl
 rintro g _ ⟨rfl,g1,g2⟩
 have hcells:(ZJ rs F).cells=[Rg.sl rs,Fc.sl [F]]:=rfl
 refine Zg7 hu 3 5 56 [Fc.cells F] (by simp [Yn]) (Zi0 [F]) 1 25 _ (ZJ rs F).cells rfl (by omega) (by
  rw [hcells,←hk]
  have e:(AV.hs k 0 1 1).frzS k 5 [Fc.cells F]=Fc.sl [F]:=by simp [AV.frzS,AV.frz]
  simp only [List.map_cons,List.map_nil,Zck,e]
  exact .refl _) ?_
 intro L' f' hf' hLl hL0 hLo
 obtain⟨L1,rfl⟩:∃L1,L'=Zbn []::.box 25 (ZJ rs F).cells::bz::L1:=by
  have e0:=hLo 0 (Zbn []) (by omega) (by omega) rfl rfl
  have e1:=hLo 2 bz (by omega) (by omega) rfl (by rw [hbz];rfl)
  match L',hL0,e0,e1 with
  |a::b::c::L1,e1,e0,e2=>
   simp only [List.getElem?_cons_zero,List.getElem?_cons_succ,Option.some.injEq] at e0 e1 e2
   subst e0 e1 e2
   exact⟨L1,rfl⟩
 have f1:f' 1=.bp (H.length+1) 0:=by rw [hf',g1];simp
 have f2:f' 2=.bp (H.length+2) 0:=by rw [hf',g2];simp
 clear hf' g1 g2 hLl hL0 hLo
 rw [←hMe]
 refine Zc (fun f H'=>H'=M (ZJ rs F) [] L1∧f 1=.bp (H.length+1) 0∧f 2=.bp (H.length+2) 0∧f 6=Yp) (by kernel_rfl) ?_ ?_
 ·simp -dsimp [f1,f2]
 clear f1 f2 f'
 rintro g _ ⟨rfl,g1,g2,g6⟩
 refine Zc (fun f H'=>H'=M (ZJ rs F) [] L1∧f 1=.bp (H.length+1) 0∧f 2=.bp (H.length+2) 0∧f 6=Yp) (by kernel_rfl) ?_ ?_
 ·simp -dsimp [g1,g2,g6]
 clear g g1 g2 g6
 rintro g _ ⟨rfl,g1,g2,g6⟩
 obtain⟨E,hE⟩:∃E,E=Jd rs 8 F:=⟨_,rfl⟩
 rw [←hE] at hR
 refine Z4 (fun f H'=>ZwF M H.length rs E (f 6) H'∧f 1=.bp (H.length+1) 0∧f 2=.bp (H.length+2) 0) ?_ ?_
 rotate_left
 ·clear g g1 g2 g6
  rintro g _ ⟨⟨F',al,L,rfl,g6,he⟩,g1,g2⟩
  rw [←he] at hR
  have vl:∀X,((M (ZJ rs F') al L).set (H.length+2) X)[H.length+2]?=some X:=fun X=>List.getElem?_set_self (by rw [ml];omega)
  have vs:(M (ZJ rs F') al L).set (H.length+2) (.box 25 [Rg.sl (ZJ rs F').regions,Fc.sl (ZJ rs F').funcs])=H++Zbn al::(.box 25 (ZJ rs F').cells::.box 25 [Rg.sl (ZJ rs F').regions,Fc.sl (ZJ rs F').funcs]::L):=by rw [hMe,YS];rfl
  refine Zk (by kernel_rfl) ?_
  simp -dsimp [g1,g2,g6,m1,m2,vl]
  rw [vs]
  exact fin (ZJ rs F') al _ hR.symm
 clear fin
 refine Zc (fun f H'=>H'=M (ZJ rs F) [] L1∧f 1=.bp (H.length+1) 0∧f 2=.bp (H.length+2) 0∧f 6=Yp∧f 17=I 0) (by kernel_rfl) ?_ ?_
 ·simp -dsimp [g1,g2,g6]
 clear g g1 g2 g6
 rintro g _ ⟨rfl,g1,g2,g6,g17⟩
 refine Z9 ?_
 refine Yd (fun (i:Nat) f H'=>ZwU M H.length rs E i (f 6) H'∧f 1=.bp (H.length+1) 0∧f 2=.bp (H.length+2) 0∧f 17=I i∧i≤8) (fun i=>8-i) 0
  ⟨⟨F,[],L1,rfl,by rw [g6];exact (Xd _).symm,hRd,rfl,by rw [hE];rfl⟩,g1,g2,g17,by omega⟩ ?_
 clear g g1 g2 g6 g17 hRd hE
 rintro i g _ ⟨⟨F,al,L,rfl,g6,hRd,hal,hinv⟩,g1,g2,g17,hi⟩
 refine Zc (fun f H'=>H'=M (ZJ rs F) al L∧f 1=.bp (H.length+1) 0∧f 2=.bp (H.length+2) 0∧f 6=ZdB H.length al∧f 17=I i∧f 18=Bo (decide ((i:Int)<8))) (by kernel_rfl) ?_ ?_
 ·simp -dsimp [g1,g2,g6,g17]
 clear g g1 g2 g6 g17
 rintro g _ ⟨rfl,g1,g2,g6,g17,g18⟩
 refine Zc (fun f H'=>H'=M (ZJ rs F) al L∧f 1=.bp (H.length+1) 0∧f 2=.bp (H.length+2) 0∧f 6=ZdB H.length al∧f 17=I i∧i<8) (by kernel_rfl) ?_ ?_
 ·simp -dsimp [g18]
  refine Zb (fun hlt=>?_) (fun hlt=>?_)
  ·simp -dsimp [g1,g2,g6,g17]
   omega
  ·have h8:8-i=0:=by omega
   rw [h8] at hinv
   simp -dsimp [g1,g2,g6]
   exact⟨F,al,L,rfl,rfl,by rw [←hinv];simp [Jd]⟩
 clear g g1 g2 g6 g17 g18
 rintro g _ ⟨rfl,g1,g2,g6,g17,hlt⟩
 obtain⟨n,hn⟩:∃n,8-i=n+1:=⟨7-i,by omega⟩
 rw [hn,Jd] at hinv
 refine Z4 (fun f H'=>ZwU M H.length rs E (i+1) (f 6) H'∧f 1=.bp (H.length+1) 0∧f 2=.bp (H.length+2) 0∧f 17=I i) ?_ ?_
 rotate_left
 ·clear g g1 g2 g6 g17
  rintro g H' ⟨ho,g1,g2,g17⟩
  replace ho:=YE.mk ho
  refine Zk (by kernel_rfl) ?_
  simp -dsimp [g1,g2,g17]
  exact⟨i+1,by omega,ho.out,ZC (by omega),by omega⟩
 refine Z9 ?_
 have co:=fun H=>ZnQ rs F hRd.okc hRd.ask.okf H
 have hRd':=hRd.fold
 have cs:=fun H=>ZpP (ZJ rs F) (ZJ rs F.fold1) (Zhe hRd.okc) (Zhe hRd'.okc) H
 obtain⟨F',hF'⟩:∃F',F'=F.fold1:=⟨_,rfl⟩
 obtain⟨tm,htm⟩:∃tm,tm=F.terms1:=⟨_,rfl⟩
 rw [←hF',←htm] at co hinv
 rw [←hF'] at cs hRd'
 simp only [Pg.cells] at co cs
 obtain⟨b7,hb7⟩:∃b,b=Ze.box 25 [Rg.sl (ZJ rs F').regions,Fc.sl (ZJ rs F').funcs]:=⟨_,rfl⟩
 obtain⟨V,hV⟩:∃V,V=M (ZJ rs F) al L:=⟨_,rfl⟩
 have v1:V[H.length+1]?=some (.box 25 [Rg.sl (ZJ rs F).regions,Fc.sl (ZJ rs F).funcs]):=by rw [hV,m1]
 rw [←hV]
 refine Zc (fun f H'=>H'=V++[b7]∧f 1=.bp (H.length+1) 0∧f 2=.bp (H.length+2) 0∧f 6=ZdB H.length al∧f 17=I i∧f 7=.bp V.length 0∧f 8=Tm.sl tm) (by kernel_rfl) ?_ ?_
 ·simp -dsimp [g1,g2,g6,g17,v1]
  refine Za (co _) ?_
  simp -dsimp [g1,g2,g6,g17,hb7]
 clear g g1 g2 g6 g17 v1
 obtain⟨kq,hkq⟩:∃kq,kq=V.length:=⟨_,rfl⟩
 have q7:∀q al',(M q al' (L++[b7]))[kq]?=some (.box 25 [Rg.sl (ZJ rs F').regions,Fc.sl (ZJ rs F').funcs]):=fun q al'=>by
  rw [hkq,hV,ml,hMe,show H.length+3+L.length=H.length+(3+L.length) from by omega,Yr,show 3+L.length=L.length+1+1+1 from by omega,←hb7];simp
 rw [←hkq,hV,ma]
 clear hkq hV V
 rintro g _ ⟨rfl,g1,g2,g6,g17,g7,g8⟩
 refine Zc (fun f H'=>H'=M (ZJ rs F) al (L++[b7])∧f 1=.bp (H.length+1) 0∧f 2=.bp (H.length+2) 0∧f 6=ZdB H.length al∧f 17=I i∧f 7=.bp kq 0∧f 8=Tm.sl tm∧(ZJ rs F).eqB (ZJ rs F')=false) (by kernel_rfl) ?_ ?_
 ·simp -dsimp [g1,g2,g6,g17,g7,g8,m1,q7]
  refine Za (cs _) ?_
  cases hq:(ZJ rs F).eqB (ZJ rs F')
  ·simp -dsimp [g1,g2,g6,g17,g7,g8]
  ·rw [if_pos hq] at hinv
   simp -dsimp [g1,g2,g6]
   exact⟨F,al,_,rfl,rfl,by rw [←hinv];simp⟩
 clear g g1 g2 g6 g17 g7 g8
 rintro g _ ⟨rfl,g1,g2,g6,g17,g7,g8,hq⟩
 rw [hq,if_neg (by decide)] at hinv
 refine YH (fun d=>d==31) (fun i=>if i=10 then some [(0,[]),(1,[]),(2,[]),(3,[]),(4,[0]),(5,[]),(6,[])] else none) (by kernel_rfl) ?_
 simp -dsimp [g1,g2,g6,g17,g7,g8,q7]
 refine ZD (k:=H.length) (es:=al.map fun a=>[Tm.sl a]) (by rw [m0]) (by simp;omega) (by simp;omega) ?_
 have hsb:al.map (fun a=>[Tm.sl a])++[[Tm.sl tm]]=(al++[tm]).map fun a=>[Tm.sl a]:=by simp
 rw [hsb,s0]
 simp -dsimp [g1,g2,g6,g17,g7,g8,q7,m1,s1]
 exact⟨F',al++[tm],_,rfl,by rw [ZdB,←hsb],hRd',by simp [hal],by rw [←hinv,show 8-(i+1)=n from by omega];simp⟩
end Go.Proofs
namespace Go.Mu
theorem ZbI {P:Program} {n:Nat} {Q:AQ} {c:Code} {f:Fr} {N L:List Ze} (hu:YC N.length N=true) (j sz:Nat) (t:TypeId) (es:List (List AV)) (hj:L[j]?=some (Yn t sz es)) (hz:es.flatten.all AV.frzB=true)
 (s:Nat) (hs:f s=Yo (N.length+j) es)
 (h:∀L' f',f' s=.vs sz es→(∀q,q≠s→f' q=(f q).frzS (N.length+j) sz es)→L'.length=L.length→(∀i x,i≠j→L[i]?=some x→x.under N.length=true→L'[i]?=some x)→X6 P n c Q f' (N++L') []):X6 P n c Q f (N++L) []:=by
 refine ZjS hu j sz t es hj hz ?_
 refine Zq6 (f':=fun q=>if q=s then .vs sz es else (f q).frzS (N.length+j) sz es) (fun q=>?_) ?_
 ·by_cases hq:q=s
  ·subst hq
   rw [if_pos rfl,hs,ZpX]
   exact XP.gvS _ _
  ·rw [if_neg hq];exact .refl _
 ·refine h _ _ (if_pos rfl) (fun q hq=>if_neg hq) (by simp) ?_
  intro i x hij hx hux
  rw [List.getElem?_set_ne (Ne.symm hij),List.getElem?_map,hx]
  simp only [Option.map_some]
  rw [ZnR (n:=N.length) (by omega) x hux]
end Go.Mu
namespace Go.Proofs
open Go.Mu
def KC (k:KL):Prop:=∀n x,(n,x)∈k→Yq n k=some x
theorem Zi2:∀ {k:KL} {n:ByteArray} {x:Int},Yq n k=some x→(n,x)∈k
 |(m,y)::k,n,x,h=>by
  rw [Yq] at h
  split at h
  ·rename_i e;cases h;rw [e];exact List.mem_cons_self ..
  ·exact List.mem_cons_of_mem _ (Zi2 h)
theorem KC.mem {k:KL} (h:KC k) {n:ByteArray} {x:Int}:Yq n k=some x↔(n,x)∈k:=⟨Zi2,h n x⟩
theorem ZdC {k:KL} {n:ByteArray}:Yq n k=none↔∀x,(n,x)∉k:=by
 induction k with
 |nil=>simp [Yq]
 |cons a k ih=>
  obtain⟨m,y⟩:=a
  rw [Yq]
  by_cases h:n=m
  ·subst h
   rw [if_pos rfl]
   constructor
   ·intro h;cases h
   ·intro h;exact absurd (List.mem_cons_self ..) (h y)
  ·rw [if_neg h,ih]
   constructor
   ·intro q x hx
    rcases List.mem_cons.1 hx with e|hx
    ·cases e;exact h rfl
    ·exact q x hx
   ·intro q x hx;exact q x (List.mem_cons_of_mem _ hx)
theorem ZkE {k:KL} {E:YQ} (hc:∀n x,(n,x)∈k↔E n=some x):KC k∧Jv k=E:=by
 have key:Jv k=E:=by
  funext n
  show Yq n k=E n
  cases he:E n with
  |none=>exact ZdC.2 fun x hx=>by have:=(hc n x).1 hx;rw [he] at this;cases this
  |some x=>
   cases ha:Yq n k with
   |none=>exact absurd ((hc n x).2 he) (ZdC.1 ha x)
   |some y=>have:=(hc n y).1 (Zi2 ha);rw [he] at this;exact this.symm
 exact⟨fun n x hx=>by have:=(hc n x).1 hx;rw [←key] at this;exact this,key⟩
theorem KC.iff {k:KL} (h:KC k) (n:ByteArray) (x:Int):(n,x)∈k↔Jv k n=some x:=h.mem.symm
theorem KC.without {k:KL} (h:KC k) (n:ByteArray):KC (ZX n k)∧Jv (ZX n k)=ZfB (Jv k) n:=by
 refine ZkE fun m x=>?_
 unfold ZX ZfB
 rw [List.mem_filter,h.iff]
 simp only [decide_eq_true_eq]
 constructor
 ·rintro ⟨a,b⟩;rw [if_neg b];exact a
 ·intro q
  by_cases hm:m=n
  ·rw [if_pos hm] at q;cases q
  ·rw [if_neg hm] at q;exact⟨q,hm⟩
theorem KC.set1 {k:KL} (h:KC k) (n:ByteArray) (e:Ex) (he:e.op=1):KC (ZX n k++[(n,e.word)])∧Jv (ZX n k++[(n,e.word)])=Zg9 (Jv k) n e:=by
 obtain⟨h1,h2⟩:=h.without n
 refine ZkE fun m x=>?_
 rw [List.mem_append,h1.iff,h2,Zhc,if_pos he,List.mem_singleton,Prod.mk.injEq]
 by_cases hm:m=n
 ·rw [if_pos hm]
  unfold ZfB
  rw [if_pos hm]
  constructor
  ·rintro (q|⟨_,rfl⟩)
   ·cases q
   ·rfl
  ·intro q;cases q;exact .inr ⟨hm,rfl⟩
 ·rw [if_neg hm]
  constructor
  ·rintro (q|⟨q,_⟩)
   ·exact q
   ·exact absurd q hm
  ·exact .inl
theorem KC.set0 {k:KL} (h:KC k) (n:ByteArray) (e:Ex) (he: ¬ e.op=1):KC (ZX n k)∧Jv (ZX n k)=Zg9 (Jv k) n e:=by
 rw [Zhc,if_neg he];exact h.without n
theorem KC.both {a b:KL} (ha:KC a):KC (XL a b)∧Jv (XL a b)=Ze9 (Jv a) (Jv b):=by
 refine ZkE fun m x=>?_
 unfold XL Ze9
 rw [List.mem_filter,ha.iff]
 simp only [decide_eq_true_eq]
 constructor
 ·rintro ⟨p,q⟩
  have:Jv a m=Jv b m:=p.trans q.symm
  rw [if_pos this];exact p
 ·intro q
  by_cases h:Jv a m=Jv b m
  ·rw [if_pos h] at q;exact⟨q,h.symm.trans q⟩
  ·rw [if_neg h] at q;cases q
theorem Zfx (n:ByteArray) (k:KL):(ZX n k).length≤k.length:=List.length_filter_le _ _
theorem Zpg (a b:KL):(XL a b).length≤a.length:=List.length_filter_le _ _
def withouts (l:List ByteArray) (k:KL):KL:=l.foldl (fun k n=>ZX n k) k
theorem Zjj {l:List ByteArray} {i:Nat} (h:i<l.length) (k:KL):withouts (l.take (i+1)) k=ZX l[i] (withouts (l.take i) k):=by rw [Y1 h,withouts,List.foldl_append];rfl
theorem KC.withouts (l:List ByteArray):∀ {k:KL},KC k→KC (withouts l k)∧Jv (Go.Proofs.withouts l k)=Zai (Jv k) l:=by
 induction l with
 |nil=>intro k h;exact⟨h,rfl⟩
 |cons n l ih=>
  intro k h
  obtain⟨a,b⟩:=h.without n
  obtain⟨c,d⟩:=ih a
  exact⟨c,by show Jv (Go.Proofs.withouts l (ZX n k))=_;rw [d,b];rfl⟩
theorem Zfw (l:List ByteArray):∀k,(withouts l k).length≤k.length:=by
 induction l with
 |nil=>intro k;exact Nat.le_refl _
 |cons n l ih=>intro k;exact Nat.le_trans (ih (ZX n k)) (Zfx n k)
def Zbs (vs:List Vr):KL:=(vs.filter fun v=>decide (v.kind=1)).map fun v=>(v.name,0)
theorem ZmH {l:List Vr} {i:Nat} (h:i<l.length):Zbs (l.take (i+1))=if l[i].kind=1 then Zbs (l.take i)++[(l[i].name,0)] else Zbs (l.take i):=by
 unfold Zbs
 rw [Y1 h,List.filter_append,List.map_append]
 by_cases hv:l[i].kind=1<;>simp [hv]
theorem Zj2 (l:List Vr):(Zbs l).length≤l.length:=by unfold Zbs;rw [List.length_map];exact List.length_filter_le _ _
theorem Zrd (vs:List Vr):KC (Zbs vs)∧Jv (Zbs vs)=Zcf vs:=by
 refine ZkE fun n x=>?_
 unfold Zbs Zcf
 rw [List.mem_map]
 constructor
 ·rintro ⟨v,hv,e⟩
  rw [List.mem_filter,decide_eq_true_eq] at hv
  cases e
  rw [if_pos]
  exact List.any_eq_true.2 ⟨v,hv.1,by simp [hv.2]⟩
 ·intro q
  split at q
  ·rename_i h
   cases q
   obtain⟨v,hv,h2⟩:=List.any_eq_true.1 h
   simp only [Bool.and_eq_true,decide_eq_true_eq] at h2
   exact⟨v,List.mem_filter.2 ⟨hv,decide_eq_true h2.1⟩,by rw [h2.2]⟩
  ·cases q
theorem Zr4 {K:YQ} (hK:K.ok) (n:ByteArray) {e:Ex} (he:e.rng=true):(Zg9 K n e).ok:=by
 intro m v h
 unfold Zg9 at h
 split at h
 ·split at h
  ·cases h
   rw [Ex.rng_eq] at he
   simp only [Bool.and_eq_true] at he
   exact he.1.2
  ·cases h
 ·exact hK m v h
theorem ZjH {K:YQ} (hK:K.ok) (l:List ByteArray):(Zai K l).ok:=by
 intro m v h
 by_cases hm:m∈l
 ·rw [Zhv l K m hm] at h;cases h
 ·rw [ZfO l K m hm] at h;exact hK m v h
theorem Zpf {A B:YQ} (hA:A.ok):(Ze9 A B).ok:=by
 intro m v h
 unfold Ze9 at h
 split at h
 ·exact hA m v h
 ·cases h
theorem Zl6 (vs:List Vr):(Zcf vs).ok:=by
 intro m v h
 unfold Zcf at h
 split at h
 ·cases h;decide
 ·cases h
theorem Zfc (m:Nat):∀ (l:List Sm) (K:YQ),Zh l≤m→K.ok→Jh l=true→Jh (ZB l K).1=true∧(ZB l K).2.2.ok:=by
 induction m with
 |zero=>intro l K hl hK _;have:=Yi l;obtain rfl:l=[]:=List.eq_nil_of_length_eq_zero (by omega);exact⟨by simp [ZB,Jh],by simpa [ZB] using hK⟩
 |succ m ih=>
  intro l
  induction l with
  |nil=>intro K _ hK _;exact⟨by simp [ZB,Jh],by simpa [ZB] using hK⟩
  |cons s l ihl=>
   intro K h hK hr
   simp only [Zh] at h
   have hc:=Sm.count_eq s
   rw [Jh,Bool.and_eq_true] at hr
   obtain⟨r1,r2⟩:=hr
   have r0:=r1
   rw [Sm.rng_eq] at r1
   simp only [Bool.and_eq_true] at r1
   obtain⟨⟨⟨⟨⟨⟨⟨a1,a2⟩,a3⟩,a4⟩,a5⟩,a6⟩,a7⟩,a8⟩:=r1
   have hs:Jh (s.fold K).1=true∧(s.fold K).2.2.ok:=by
    have hb:=fun K hK=>ih s.body K (by omega) hK a7
    have hel:=fun K hK=>ih s.els K (by omega) hK a8
    have one:∀y:Sm,y.rng=true→Jh [y]=true:=fun y hy=>by rw [Jh,hy];rfl
    have he:=fun K hK=>ZdR K hK s.e a2
    have ha:=ZdR K hK s.a a3
    have mk:∀e a b el,Ex.rng e=true→Ex.rng a=true→Jh b=true→Jh el=true→(Sm.mk s.kind s.name s.names e a s.args s.low s.high b el).rng=true:=fun e a b el h1 h2 h3 h4=>by
     rw [Sm.rng,a1,h1,h2,a4,a5,a6,h3,h4];rfl
    rw [Sm.fold_eq,Sm.foldE]
    split
    ·exact⟨one _ (mk _ _ _ _ (he K hK) a3 a7 a8),Zr4 hK _ (he K hK)⟩
    ·split
     ·exact⟨one _ (mk _ _ _ _ (he K hK) ha a7 a8),hK⟩
     ·split
      ·split
       ·split
        ·exact hel K hK
        ·exact hb K hK
       ·exact⟨one _ (mk _ _ _ _ (he K hK) a3 (hb K hK).1 (hel K hK).1),Zpf (hb K hK).2⟩
      ·split
       ·have hK2:=ZjH hK (ZP s.body)
        exact⟨one _ (mk _ _ _ _ (he _ hK2) a3 (hb _ hK2).1 a8),hK2⟩
       ·exact⟨one _ r0,hK⟩
   obtain⟨q1,q2⟩:=ihl (s.fold K).2.2 (by omega) hs.2 r2
   rw [ZB]
   refine⟨Zok fun e he=>?_,q2⟩
   rcases List.mem_append.1 he with he|he
   ·exact Zd8 hs.1 e he
   ·exact Zd8 q1 e he
end Go.Proofs
namespace Go.Proofs
open Go.Mu
def NB (H:List Ze) (o t:Ze) (L:List Ze):List Ze:=H++o::t::L
section
variable {H L:List Ze} {o t:Ze} {j k1:Nat} {b:Ze}
theorem ZpO (o t:Ze) (L:List Ze):NB H o t L=H++o::t::L:=rfl
theorem ZmL (o t:Ze) (L R:List Ze):NB H o t L++R=NB H o t (L++R):=by simp [NB]
theorem ZmQ (o t:Ze) (L:List Ze):(NB H o t L).length=H.length+2+L.length:=by simp [NB];omega
theorem ZxE (o t:Ze) (L:List Ze):(NB H o t L)[H.length]?=some o:=by simp [NB]
theorem ZmF (o t:Ze) (L:List Ze):(NB H o t L)[H.length+1]?=some t:=by rw [NB,Yr];rfl
theorem ZtX (o o' t:Ze) (L:List Ze):(NB H o t L).set H.length o'=NB H o' t L:=by simp [NB]
theorem Zhl (o t t':Ze) (L:List Ze):(NB H o t L).set (H.length+1) t'=NB H o t' L:=by rw [NB,YS];rfl
theorem Zvw (o t:Ze) (L:List Ze) (i:Nat):(NB H o t L)[H.length+2+i]?=L[i]?:=by rw [NB,show H.length+2+i=H.length+(i+2) by omega,Yr];rfl
theorem Zt7 (o t:Ze) (L:List Ze) (i:Nat) (Y:Ze):(NB H o t L).set (H.length+2+i) Y=NB H o t (L.set i Y):=by rw [NB,show H.length+2+i=H.length+(i+2) by omega,YS];rfl
theorem Yc (hk:k1=H.length+2+j) (hL:L[j]?=some b):(NB H o t L)[k1]?=some b:=by rw [hk,Zvw];exact hL
theorem Y8 {R:List Ze} (hk:k1=H.length+2+j) (hL:L[j]?=some b):(NB H o t (L++R))[k1]?=some b:=by rw [hk,Zvw];exact ZG hL R
theorem Yf (hk:k1=H.length+2+j) (Y:Ze):(NB H o t L).set k1 Y=NB H o t (L.set j Y):=by rw [hk,Zt7]
end
def MX (H:List Ze) (o t:Ze) (j:Nat) (b:Ze) (H':List Ze):Prop:=∃L,H'=NB H o t L∧L[j]?=some b
def ZqP (H:List Ze) (N:Nat) (E:FR) (rest:List Sm) (i:Nat) (f1 f7 f8:AV) (H':List Ze):Prop:=
 ∃out ts k L,H'=NB H (J8 out) (JF ts) L∧f1=XK k∧f7=X5 H.length out∧f8=X9 (H.length+1) ts∧KC k∧(Jv k).ok∧k.length+Zh rest≤N∧ts.length=i∧(out++(ZB rest (Jv k)).1,ts++(ZB rest (Jv k)).2.1,(ZB rest (Jv k)).2.2)=E
def ZwC (H:List Ze) (N:Nat) (E:FR) (f1 f7 f8:AV) (H':List Ze):Prop:=
 ∃out ts k L,H'=NB H (J8 out) (JF ts) L∧f1=XK k∧f7=X5 H.length out∧f8=X9 (H.length+1) ts∧KC k∧k.length≤N∧(out,ts,Jv k)=E
def ZwA (H:List Ze) (n:Nat) (out:List Sm) (ts:List Tm) (j:Nat) (R:List Sm×Tm×YQ) (f1 f8:AV) (H':List Ze):Prop:=
 ∃y tm raw k L,H'=NB H (J8 out) (Yn 90 4 (ts.map Tm.cells++[raw])) L∧L[j]?=some (.box 82 y.cells)∧f1=XK k∧f8=Yo (H.length+1) (ts.map Tm.cells++[raw])∧JZ raw tm.cells∧R.1=[y]∧R.2.1=tm∧R.2.2=Jv k∧KC k∧k.length≤n
def Zyt (N:Nat) (H:List Ze) (E:FR) (e:AE) (H':List Ze):Prop:=∃k,e=.ret (.tup [Sm.sl E.1,Tm.sl E.2.1,XK k])∧H'=H∧KC k∧Jv k=E.2.2∧k.length≤N
def KX (H:List Ze) (o t:Ze) (j:Nat) (b:Ze) (kk:KL) (f1:AV) (H':List Ze):Prop:=∃L,H'=NB H o t (L++[knB kk])∧L[j]?=some b∧f1=knS (H.length+2+L.length) kk
theorem Zuh {P:Program} {n:Nat} {Q:AQ} {c:Code} {g:Fr} {H L:List Ze} {o t b:Ze} {j:Nat} (hu:YC H.length H=true) (hL:L[j]?=some b) (hb:b.under H.length=true) (ho:o.under H.length=true) (ht:t.under H.length=true) (kk:KL) (h1:g 1=knS (H.length+2+L.length) kk)
 (h:∀L' f',L'[j]?=some b→f' 1=XK kk→(∀q,q≠1→f' q=(g q).frzS (H.length+2+L.length) 2 (kk.map knC))→X6 P n c Q f' (NB H o t L') []):X6 P n c Q g (NB H o t (L++[knB kk])) []:=by
 have hj:=ZT hL
 have e:H.length+2+L.length=H.length+(2+L.length):=by omega
 rw [e] at h1
 rw [ZpO]
 refine ZbI hu (2+L.length) 2 122 (kk.map knC) (by rw [show 2+L.length=L.length+1+1 by omega];simp) (Zhf kk) 1 h1 ?_
 intro L' f' a1 af hl hg
 have e0:=hg 0 o (by omega) rfl ho
 have e1:=hg 1 t (by omega) rfl ht
 have e2:=hg (j+1+1) b (by omega) (by simp only [List.getElem?_cons_succ];exact ZG hL _) hb
 match L',e0,e1,e2 with
 |a::b2::L2,e0,e1,e2=>
  simp only [List.getElem?_cons_succ,List.getElem?_cons_zero,Option.some.injEq] at e0 e1 e2
  subst e0 e1
  exact h L2 f' e2 a1 (by rw [e];exact af)
def KV3 (b:List Sm) (tb:List Tm) (K':YQ) (n:Nat) (x y z:AV):Prop:=∃k',KC k'∧Jv k'=K'∧k'.length≤n∧x=Sm.sl b∧y=Tm.sl tb∧z=XK k'
theorem Zrm (m:Nat):∀ (l:List Sm) (k0:KL),Zh l<m→Zh l≤2^36→Jh l=true→(∃K,J7 K l=true)→KC k0→(Jv k0).ok→k0.length+Zh l≤2^38→∀ (H:List Ze),
 Zi Tryz.prog 51 [Sm.sl l,XK k0] H (Zyt (k0.length+Zh l) H (ZB l (Jv k0))):=by
 induction m with
 |zero=>intro l k0 h;omega
 |succ m ih=>
  intro l k0 hm hcl hrl ⟨KK,hkk⟩ hKC hok hk0 H
  refine Ya fun hu _=>Zf (ZU (Yv 2 (Z0 Tryz.func51 rfl (by kernel_rfl) ?_)))
  have hlen:=Yi l
  obtain⟨E,hE⟩:∃E,E=ZB l (Jv k0):=⟨_,rfl⟩
  obtain⟨N,hN⟩:∃N,N=k0.length+Zh l:=⟨_,rfl⟩
  have hE1:E.1.length≤Zh l:=by rw [hE];exact Nat.le_trans (Yi _) (ZfH l _)
  have hE2:E.2.1.length=l.length:=by rw [hE];exact Zcd l _
  rw [←hE,←hN]
  have hM0:H++List.replicate 2 Ze.pend=NB H (J8 []) (JF []) []:=by rw [ZpO];simp [Yn]
  rw [hM0]
  clear hM0
  refine Zc (fun f H'=>H'=NB H (J8 []) (JF []) []∧f 0=Sm.sl l∧f 1=XK k0) (by kernel_rfl) ?_ ?_
  ·simp -dsimp
  rintro g _ ⟨rfl,g0,g1⟩
  refine Zc (fun f H'=>H'=NB H (J8 []) (JF []) []∧f 0=Sm.sl l∧f 1=XK k0∧f 7=Yp) (by kernel_rfl) ?_ ?_
  ·simp -dsimp [g0,g1]
  clear g g0 g1
  rintro g _ ⟨rfl,g0,g1,g7⟩
  refine Zc (fun f H'=>H'=NB H (J8 []) (JF []) []∧f 0=Sm.sl l∧f 1=XK k0∧f 7=Yp∧f 8=Yp) (by kernel_rfl) ?_ ?_
  ·simp -dsimp [g0,g1,g7]
  clear g g0 g1 g7
  rintro g _ ⟨rfl,g0,g1,g7,g8⟩
  refine Z4 (fun f H'=>ZwC H N E (f 1) (f 7) (f 8) H') ?_ ?_
  rotate_left
  ·clear g g0 g1 g7 g8
   rintro g _ ⟨out,ts,k,L,rfl,g1,g7,g8,h1,h2,h3⟩
   rw [ZpO]
   refine ZbI hu 0 16 82 (out.map Sm.cells) rfl (ZdD out) 7 g7 ?_
   intro L1 f1 a7 af hl1 hg1
   obtain⟨o,L2,rfl⟩:∃o L2,L1=o::JF ts::L2:=by
    have e1:=hg1 1 (JF ts) (by omega) rfl (YR (ZdL ts))
    match L1,e1 with
    |a::b::L2,e1=>simp only [List.getElem?_cons_succ,List.getElem?_cons_zero,Option.some.injEq] at e1;subst e1;exact⟨a,L2,rfl⟩
   have b1:f1 1=XK k:=by rw [af 1 (by omega),g1];exact Zck _ _ _ _ _
   have b8:f1 8=X9 (H.length+1) ts:=by rw [af 8 (by omega),g8];exact ZeV (by omega)
   clear af hg1 hl1 g1 g7 g8
   refine ZbI hu 1 4 90 (ts.map Tm.cells) rfl (ZdL ts) 8 b8 ?_
   intro L3 f2 c8 af hl1 hg1
   have c1:f2 1=XK k:=by rw [af 1 (by omega),b1];exact Zck _ _ _ _ _
   have c7:f2 7=Sm.sl out:=by rw [af 7 (by omega),a7];exact Zck _ _ _ _ _
   refine Zk (by kernel_rfl) ?_
   simp -dsimp [c1,c7,c8]
   refine ZR (.refl _) (Z2 rfl ⟨k,?_,rfl,h1,?_,h2⟩)
   ·rw [←h3]
   ·rw [←h3]
  refine Zc (fun f H'=>H'=NB H (J8 []) (JF []) []∧f 0=Sm.sl l∧f 1=XK k0∧f 7=Yp∧f 8=Yp∧f 9=I 0) (by kernel_rfl) ?_ ?_
  ·simp -dsimp [g0,g1,g7,g8]
  clear g g0 g1 g7 g8
  rintro g _ ⟨rfl,g0,g1,g7,g8,g9⟩
  refine Z9 ?_
  refine Yd (fun (i:Nat) f H'=>ZqP H N E (l.drop i) i (f 1) (f 7) (f 8) H'∧f 0=Sm.sl l∧f 9=I i∧i≤l.length) (fun i=>l.length-i) 0
   ⟨⟨[],[],k0,[],rfl,g1,by rw [g7];exact (Xd _).symm,by rw [g8];exact (Xd _).symm,hKC,hok,by rw [hN];exact Nat.le_refl _,rfl,by rw [hE];rfl⟩,g0,g9,by omega⟩ ?_
  clear g g0 g1 g7 g8 g9 hE hKC hok
  rintro i g _ ⟨⟨out,ts,k,L,rfl,g1,g7,g8,hKC,hok,hkN,htl,hinv⟩,g0,g9,hi⟩
  obtain⟨V,hV⟩:∃V,V=NB H (J8 out) (JF ts) L:=⟨_,rfl⟩
  rw [←hV]
  refine Zc (fun f H'=>V=H'∧f 0=Sm.sl l∧f 1=XK k∧f 7=X5 H.length out∧f 8=X9 (H.length+1) ts∧f 9=I i∧i<l.length) (by kernel_rfl) ?_ ?_
  ·simp -dsimp [g0,g1,g7,g8,g9]
   refine Zb (fun hlt=>?_) (fun hlt=>?_)
   ·simp -dsimp [g0,g1,g7,g8,g9]
    omega
   ·rw [ZI hlt] at hinv hkN
    simp -dsimp [g1,g7,g8]
    exact⟨out,ts,k,L,hV,rfl,rfl,rfl,hKC,by omega,by rw [←hinv];simp [ZB]⟩
  clear g g0 g1 g7 g8 g9
  rintro g _ ⟨rfl,g0,g1,g7,g8,g9,hlt⟩
  have hlx:l[i]?=some l[i]:=List.getElem?_eq_getElem hlt
  have hgx:=JY hlt
  have hfx:=ZgU hkk _ (List.getElem_mem hlt)
  have hrx:=Zd8 hrl _ (List.getElem_mem hlt)
  rw [Zo hlt] at hinv hkN
  obtain⟨x,hx⟩:∃x,x=l[i]:=⟨_,rfl⟩
  rw [←hx] at hlx hgx hfx hrx hinv hkN
  clear hx
  have hcx:=Sm.count_eq x
  rw [ZB] at hinv
  rw [Zh] at hkN
  rw [Sm.rng_eq] at hrx
  simp only [Bool.and_eq_true] at hrx
  obtain⟨⟨⟨⟨⟨⟨⟨r1,r2⟩,r3⟩,r4⟩,r5⟩,r6⟩,r7⟩,r8⟩:=hrx
  obtain⟨rest,hrest⟩:∃rest,rest=l.drop (i+1):=⟨_,rfl⟩
  rw [←hrest] at hinv hkN
  have hol:out.length≤Zh l:=by rw [←hinv] at hE1;simp only [List.length_append] at hE1;omega
  have hlf:∃c,(l.map Sm.cells)[i]?=some c∧c=[I x.kind,St x.name,St.sl x.names,I x.e.op,U x.e.word,St x.e.name,Ex.sl x.e.args,I x.a.op,U x.a.word,St x.a.name,Ex.sl x.a.args,Ex.sl x.args,U x.low,U x.high,Sm.sl x.body,Sm.sl x.els]:=⟨_,by rw [List.getElem?_map,hlx];rfl,Sm.cells_eq x⟩
  obtain⟨c,hc1,hc2⟩:=hlf
  rw [hc2] at hc1
  clear hc2 c
  have hokx:(x.fold (Jv k)).2.2.ok:=by
   have:=(Zfc _ [x] (Jv k) (Nat.le_refl _) hok (by rw [Jh,Sm.rng_eq,r1,r2,r3,r4,r5,r6,r7,r8];rfl)).2
   rw [ZB,ZB] at this
   exact this
  refine Z4 (fun f H'=>ZqP H N E rest (i+1) (f 1) (f 7) (f 8) H'∧f 0=Sm.sl l∧f 9=I i) ?_ ?_
  rotate_left
  ·clear g g0 g1 g7 g8 g9
   rintro g H' ⟨ho,g0,g9⟩
   rw [hrest] at ho
   replace ho:=YE.mk ho
   refine Zk (by kernel_rfl) ?_
   simp -dsimp [g0,g9]
   exact⟨i+1,by omega,ho.out,ZC (by omega),by omega⟩
  clear hrest
  refine Z9 ?_
  obtain⟨bX,hbX⟩:∃bX,bX=Ze.box 82 [I x.kind,St x.name,St.sl x.names,I x.e.op,U x.e.word,St x.e.name,Ex.sl x.e.args,I x.a.op,U x.a.word,St x.a.name,Ex.sl x.a.args,Ex.sl x.args,U x.low,U x.high,Sm.sl x.body,Sm.sl x.els]:=⟨_,rfl⟩
  obtain⟨j,hj⟩:∃j,j=L.length:=⟨_,rfl⟩
  obtain⟨k1,hk1⟩:∃k1,k1=H.length+2+j:=⟨_,rfl⟩
  refine Zc (fun f H'=>H'=V++[bX]∧f 0=Sm.sl l∧f 1=XK k∧f 7=X5 H.length out∧f 8=X9 (H.length+1) ts∧f 9=I i∧f 10=.bp V.length 0) (by kernel_rfl) ?_ ?_
  ·simp -dsimp [g0,g1,g7,g8,g9,hc1,hbX]
  clear g g0 g1 g7 g8 g9
  rw [hV,ZmQ,←hj,←hk1,ZmL]
  clear hV V
  rintro g _ ⟨rfl,g0,g1,g7,g8,g9,g10⟩
  obtain⟨L0,hL0⟩:∃L0,L0=L++[bX]:=⟨_,rfl⟩
  have hL:L0[j]?=some bX:=by rw [hL0,hj];simp
  rw [←hL0]
  clear hL0 hj L
  obtain⟨L,hLL⟩:∃L,L=L0:=⟨_,rfl⟩
  rw [←hLL] at hL ⊢
  clear hLL L0
  have hfe:=Sm.fold_eq x (Jv k)
  unfold Sm.foldE at hfe
  --what the statement becomes
  refine Z4 (fun f H'=>ZwA H (k.length+x.count) out ts j (x.fold (Jv k)) (f 1) (f 8) H'∧f 0=Sm.sl l∧f 7=X5 H.length out∧f 9=I i∧f 10=.bp k1 0) ?_ ?_
  rotate_left
  ·clear g g0 g1 g7 g8 g9 g10 hL L hfe
   rintro g _ ⟨⟨y,tm,raw,k',L,rfl,hL,g1,g8,hw,h1,h2,h3,hKC',hkl⟩,g0,g7,g9,g10⟩
   rw [h1,h2,h3] at hinv
   rw [h3] at hokx
   refine ZfY (H.length+1) 90 4 (ts.map Tm.cells++[raw]) ((ts++[tm]).map Tm.cells) (by rw [ZmF]) (by rw [List.map_append];exact ZfV (ZcV _) (.cons hw .nil)) ?_
   rw [Zhl]
   have g8':g 8=X9 (H.length+1) (ts++[tm]):=by rw [g8];exact Zi8 _ (by simp)
   have hyc:=Sm.cells_eq y
   have gX:=fun o u=>Yc (o:=o) (t:=u) hk1 hL
   rw [hyc] at gX
   refine YH (fun d=>d==191) (fun _=>none) (by kernel_rfl) ?_
   simp -dsimp [g0,g1,g7,g8',g9,g10,gX]
   refine ZD (k:=H.length) (es:=out.map Sm.cells) (by rw [ZxE]) (by simp;omega) (by simp;omega) ?_
   rw [ZtX]
   simp -dsimp [g0,g1,g7,g8',g9,g10]
   have ho1:out.map Sm.cells++[[I y.kind,St y.name,St.sl y.names,I y.e.op,U y.e.word,St y.e.name,Ex.sl y.e.args,I y.a.op,U y.a.word,St y.a.name,Ex.sl y.a.args,Ex.sl y.args,U y.low,U y.high,Sm.sl y.body,Sm.sl y.els]]=(out++[y]).map Sm.cells:=by rw [List.map_append,List.map_cons,hyc];rfl
   have ht1:ts.map Tm.cells++[[I tm.kind,Pk.sls tm.lines,Bo tm.taken,Tm.sls tm.subs]]=(ts++[tm]).map Tm.cells:=by rw [List.map_append,List.map_cons,Tm.cells_eq];rfl
   exact⟨out++[y],ts++[tm],k',L,by rw [J8,JF,←ho1,←ht1],rfl,by rw [X5,←ho1],by rw [X9,←ht1],hKC',hokx,by omega,by simp [htl],by rw [←hinv];simp⟩
  have htl2:ts.length≤l.length:=by omega
  have gX:=fun o u=>Yc (o:=o) (t:=u) hk1 hL
  have gXa:=fun o u R=>Y8 (o:=o) (t:=u) (R:=R) hk1 hL
  have sX:=fun o u Y=>Yf (o:=o) (t:=u) (L:=L) hk1 Y
  have sXg:=fun Y=>ZY (α:=Ze) hL Y
  have gS:=fun o u Y=>Yc (o:=o) (t:=u) hk1 (sXg Y)
  have sS:=fun o u Y Z=>Yf (o:=o) (t:=u) (L:=L.set j Y) hk1 Z
  refine Zc (fun f H'=>MX H (J8 out) (JF ts) j bX H'∧f 0=Sm.sl l∧f 1=XK k∧f 7=X5 H.length out∧f 8=X9 (H.length+1) ts∧f 9=I i∧f 10=.bp k1 0∧f 37=I x.kind) (by kernel_rfl) ?_ ?_
  ·simp -dsimp [g0,g1,g7,g8,g9,g10,gX,hbX]
   exact⟨L,rfl,by rw [hL,hbX]⟩
  clear g0 g1 g7 g8 g9 g10 gX gXa sX sXg gS sS hL L
  rintro g _ ⟨⟨L,rfl,hL⟩,g0,g1,g7,g8,g9,g10,g37⟩
  have gX:=fun o u=>Yc (o:=o) (t:=u) hk1 hL
  have gXa:=fun o u R=>Y8 (o:=o) (t:=u) (R:=R) hk1 hL
  have sX:=fun o u Y=>Yf (o:=o) (t:=u) (L:=L) hk1 Y
  have sXg:=fun Y=>ZY (α:=Ze) hL Y
  have gS:=fun o u Y=>Yc (o:=o) (t:=u) hk1 (sXg Y)
  have sS:=fun o u Y Z=>Yf (o:=o) (t:=u) (L:=L.set j Y) hk1 Z
  refine Z9 ?_
  refine Zc (fun f H'=>MX H (J8 out) (JF ts) j bX H'∧f 0=Sm.sl l∧f 1=XK k∧f 7=X5 H.length out∧f 8=X9 (H.length+1) ts∧f 9=I i∧f 10=.bp k1 0∧f 37=I x.kind∧f 74=Bo (x.kind==1)) (by kernel_rfl) ?_ ?_
  ·simp -dsimp [g0,g1,g7,g8,g9,g10,g37]
   exact⟨L,rfl,hL⟩
  clear g0 g1 g7 g8 g9 g10 gX gXa sX sXg gS sS hL L g37
  rintro g _ ⟨⟨L,rfl,hL⟩,g0,g1,g7,g8,g9,g10,g37,g74⟩
  have gX:=fun o u=>Yc (o:=o) (t:=u) hk1 hL
  have gXa:=fun o u R=>Y8 (o:=o) (t:=u) (R:=R) hk1 hL
  have sX:=fun o u Y=>Yf (o:=o) (t:=u) (L:=L) hk1 Y
  have sXg:=fun Y=>ZY (α:=Ze) hL Y
  have gS:=fun o u Y=>Yc (o:=o) (t:=u) hk1 (sXg Y)
  have sS:=fun o u Y Z=>Yf (o:=o) (t:=u) (L:=L.set j Y) hk1 Z
  have ce:=fun (k:KL) (hok:(Jv k).ok) (hkl:k.length≤2^40) M=>Zih k hkl hok _ x.e (Nat.lt_succ_self _) (by omega) r2 M
  simp only [Ex.cells_eq] at ce
  by_cases h1:x.kind=1
  ·rw [if_pos h1] at hfe
   refine YP (by kernel_rfl) (by show g 74=_;rw [g74];simp [h1]) ?_
   have cE:=ce k hok (by omega)
   obtain⟨e,he⟩:∃e,e=x.e.fold (Jv k):=⟨_,rfl⟩
   rw [←he] at hfe cE
   have herng:e.rng=true:=by rw [he];exact ZdR _ hok _ r2
   clear ce he
   obtain⟨bY,hbY⟩:∃bY,bY=Ze.box 82 [I x.kind,St x.name,St.sl x.names,I e.op,U e.word,St e.name,Ex.sl e.args,I x.a.op,U x.a.word,St x.a.name,Ex.sl x.a.args,Ex.sl x.args,U x.low,U x.high,Sm.sl x.body,Sm.sl x.els]:=⟨_,rfl⟩
   refine Zc (fun f H'=>MX H (J8 out) (JF ts) j bY H'∧f 0=Sm.sl l∧f 1=XK k∧f 7=X5 H.length out∧f 8=X9 (H.length+1) ts∧f 9=I i∧f 10=.bp k1 0) (by kernel_rfl) ?_ ?_
   ·simp -dsimp [g0,g1,g7,g8,g9,g10,gX,sX,hbX,hbY]
    refine Za (cE _) ?_
    simp -dsimp [g0,g1,g7,g8,g9,g10,gX,sX,hbX,hbY]
    exact⟨_,rfl,sXg _⟩
   clear g0 g1 g7 g8 g9 g10 gX gXa sX sXg gS sS hL L g74 cE
   rintro g _ ⟨⟨L,rfl,hL⟩,g0,g1,g7,g8,g9,g10⟩
   have gX:=fun o u=>Yc (o:=o) (t:=u) hk1 hL
   have gXa:=fun o u R=>Y8 (o:=o) (t:=u) (R:=R) hk1 hL
   have sX:=fun o u Y=>Yf (o:=o) (t:=u) (L:=L) hk1 Y
   have sXg:=fun Y=>ZY (α:=Ze) hL Y
   have gS:=fun o u Y=>Yc (o:=o) (t:=u) hk1 (sXg Y)
   have sS:=fun o u Y Z=>Yf (o:=o) (t:=u) (L:=L.set j Y) hk1 Z
   have cw:=fun M=>ZhP k x.name (by omega) M
   refine Zc (fun f H'=>KX H (J8 out) (JF ts) j bY (ZX x.name k) (f 1) H'∧f 0=Sm.sl l∧f 7=X5 H.length out∧f 8=X9 (H.length+1) ts∧f 9=I i∧f 10=.bp k1 0) (by kernel_rfl) ?_ ?_
   ·simp -dsimp [g0,g1,g7,g8,g9,g10,gX,hbY]
    refine ZA (cw _) ?_
    rintro r M' ⟨rfl,rfl⟩
    rw [ZmL,ZmQ]
    simp -dsimp [g0,g1,g7,g8,g9,g10,gXa,hbY]
    exact⟨L,rfl,by rw [hL,hbY],rfl⟩
   clear g1 gX sX sXg gS sS cw
   clear g0 g7 g8 g9 g10 gXa hL L
   rintro g _ ⟨⟨L,rfl,hL,g1⟩,g0,g7,g8,g9,g10⟩
   have gXa:=fun o u R=>Y8 (o:=o) (t:=u) (R:=R) hk1 hL
   obtain⟨kk,hkk2⟩:∃kk,kk=if e.op=1 then ZX x.name k++[(x.name,e.word)] else ZX x.name k:=⟨_,rfl⟩
   have hwl:=Zfx x.name k
   have hkkl:kk.length≤k.length+1:=by
    rw [hkk2];split
    ·rw [List.length_append];simp;omega
    ·omega
   have hkkK:KC kk∧Jv kk=Zg9 (Jv k) x.name e:=by
    rw [hkk2];split
    ·rename_i h;exact hKC.set1 x.name e h
    ·rename_i h;exact hKC.set0 x.name e h
   refine Z4 (fun f H'=>KX H (J8 out) (JF ts) j bY kk (f 1) H'∧f 0=Sm.sl l∧f 7=X5 H.length out∧f 8=X9 (H.length+1) ts∧f 9=I i∧f 10=.bp k1 0) ?_ ?_
   ·refine Zc (fun f H'=>KX H (J8 out) (JF ts) j bY (ZX x.name k) (f 1) H'∧f 0=Sm.sl l∧f 7=X5 H.length out∧f 8=X9 (H.length+1) ts∧f 9=I i∧f 10=.bp k1 0∧f 88=Bo (e.op==1)) (by kernel_rfl) ?_ ?_
    ·simp -dsimp [g0,g1,g7,g8,g9,g10,gXa,hbY]
     exact⟨L,rfl,by rw [hL,hbY],rfl⟩
    clear g1
    clear g0 g7 g8 g9 g10 gXa hL L
    rintro g _ ⟨⟨L,rfl,hL,g1⟩,g0,g7,g8,g9,g10,g88⟩
    have gXa:=fun o u R=>Y8 (o:=o) (t:=u) (R:=R) hk1 hL
    by_cases h4:e.op=1
    ·refine YP (by kernel_rfl) (by show g 88=_;rw [g88];simp [h4]) ?_
     rw [if_pos h4] at hkk2
     refine YH (fun d=>d==97) (fun _=>none) (by kernel_rfl) ?_
     simp -dsimp [g0,g1,g7,g8,g9,g10,gXa,hbY]
     refine ZD (k:=H.length+2+L.length) (es:=(ZX x.name k).map knC) (by rw [Zvw];simp) (by simp;omega) (by simp;omega) ?_
     rw [Zt7]
     have hset:(L++[knB (ZX x.name k)]).set L.length (Yn 122 2 ((ZX x.name k).map knC++[[St x.name,U e.word]]))=L++[knB kk]:=by
      rw [hkk2]
      show _=L++[Yn 122 2 ((ZX x.name k++[(x.name,e.word)]).map knC)]
      rw [List.map_append]
      simp
     rw [hset]
     simp -dsimp [g0,g1,g7,g8,g9,g10,gXa,hbY]
     exact⟨L,rfl,by rw [hL,hbY],by rw [hkk2,knS,List.map_append];rfl⟩
    ·refine YM (by kernel_rfl) (by show g 88=_;rw [g88];simp [h4]) ?_
     rw [if_neg h4] at hkk2
     refine Zk (by kernel_rfl) ?_
     simp -dsimp [g0,g1,g7,g8,g9,g10]
     exact⟨L,by rw [hkk2],hL,by rw [hkk2]⟩
   clear g1
   clear g0 g7 g8 g9 g10 gXa hL L
   rintro g _ ⟨⟨L,rfl,hL,g1⟩,g0,g7,g8,g9,g10⟩
   have gXa:=fun o u R=>Y8 (o:=o) (t:=u) (R:=R) hk1 hL
   refine Zuh hu hL (by rw [hbY];rfl) (YR (ZdD out)) (YR (ZdL ts)) kk g1 ?_
   intro L2 f2 hL2 a1 af
   have b0:f2 0=Sm.sl l:=by rw [af 0 (by omega),g0];exact Zck _ _ _ _ _
   have b7:f2 7=X5 H.length out:=by rw [af 7 (by omega),g7];exact ZeV (by omega)
   have b8:f2 8=X9 (H.length+1) ts:=by rw [af 8 (by omega),g8];exact ZeV (by omega)
   have b9:f2 9=I i:=by rw [af 9 (by omega),g9];exact Zm8 _ _ _ _
   have b10:f2 10=.bp k1 0:=by rw [af 10 (by omega),g10];exact Zfq _ _ _ _ _
   clear af g0 g1 g7 g8 g9 g10 gXa hL L
   obtain⟨g,hg⟩:∃g,g=f2:=⟨_,rfl⟩
   rw [←hg] at a1 b0 b7 b8 b9 b10 ⊢
   obtain⟨L,hLe⟩:∃L,L=L2:=⟨_,rfl⟩
   rw [←hLe] at hL2 ⊢
   have g0:=b0
   have g1:=a1
   have g7:=b7
   have g8:=b8
   have g9:=b9
   have g10:=b10
   have hL:=hL2
   clear b0 a1 b7 b8 b9 b10 hL2 hg hLe f2 L2
   have gX:=fun o u=>Yc (o:=o) (t:=u) hk1 hL
   have gXa:=fun o u R=>Y8 (o:=o) (t:=u) (R:=R) hk1 hL
   have sX:=fun o u Y=>Yf (o:=o) (t:=u) (L:=L) hk1 Y
   have sXg:=fun Y=>ZY (α:=Ze) hL Y
   have gS:=fun o u Y=>Yc (o:=o) (t:=u) hk1 (sXg Y)
   have sS:=fun o u Y Z=>Yf (o:=o) (t:=u) (L:=L.set j Y) hk1 Z
   have hcp:1≤x.count:=by omega
   refine YH (fun d=>d==101) (fun _=>none) (by kernel_rfl) ?_
   simp -dsimp [g0,g1,g7,g8,g9,g10]
   refine ZD (k:=H.length+1) (es:=ts.map Tm.cells) (by rw [ZmF]) (by simp;omega) (by simp;omega) ?_
   rw [Zhl]
   simp -dsimp [g0,g1,g7,g8,g9,g10]
   exact⟨Sm.mk x.kind x.name x.names e x.a x.args x.low x.high x.body x.els,ZaN,[I 1,Yp,Bo false,Yp],kk,L,rfl,by rw [hL,hbY,Sm.cells_eq];rfl,rfl,rfl,by rw [ZaN,Tm.cells_eq];exact .cons (.refl _) (.cons (.nil 1) (.cons (.refl _) (.cons (.nil 1) .nil))),by rw [hfe],by rw [hfe],by rw [hfe];exact hkkK.2.symm,hkkK.1,by omega⟩
  rw [if_neg h1] at hfe
  refine YM (by kernel_rfl) (by show g 74=_;rw [g74];simp [h1]) ?_
  refine Zc (fun f H'=>MX H (J8 out) (JF ts) j bX H'∧f 0=Sm.sl l∧f 1=XK k∧f 7=X5 H.length out∧f 8=X9 (H.length+1) ts∧f 9=I i∧f 10=.bp k1 0∧f 37=I x.kind∧f 102=Bo (x.kind==2)) (by kernel_rfl) ?_ ?_
  ·simp -dsimp [g0,g1,g7,g8,g9,g10,g37]
   exact⟨L,rfl,hL⟩
  clear g0 g1 g7 g8 g9 g10 gX gXa sX sXg gS sS hL L g37 g74
  rintro g _ ⟨⟨L,rfl,hL⟩,g0,g1,g7,g8,g9,g10,g37,g102⟩
  have gX:=fun o u=>Yc (o:=o) (t:=u) hk1 hL
  have gXa:=fun o u R=>Y8 (o:=o) (t:=u) (R:=R) hk1 hL
  have sX:=fun o u Y=>Yf (o:=o) (t:=u) (L:=L) hk1 Y
  have sXg:=fun Y=>ZY (α:=Ze) hL Y
  have gS:=fun o u Y=>Yc (o:=o) (t:=u) hk1 (sXg Y)
  have sS:=fun o u Y Z=>Yf (o:=o) (t:=u) (L:=L.set j Y) hk1 Z
  by_cases h2:x.kind=2
  ·rw [if_pos h2] at hfe
   refine YP (by kernel_rfl) (by show g 102=_;rw [g102];simp [h2]) ?_
   have cE:=ce k hok (by omega)
   obtain⟨e,he⟩:∃e,e=x.e.fold (Jv k):=⟨_,rfl⟩
   rw [←he] at hfe cE
   have ca:=fun M=>Zih k (by omega) hok _ x.a (Nat.lt_succ_self _) (by omega) r3 M
   simp only [Ex.cells_eq] at ca
   obtain⟨a,ha⟩:∃a,a=x.a.fold (Jv k):=⟨_,rfl⟩
   rw [←ha] at hfe ca
   clear ce he ha
   obtain⟨bY,hbY⟩:∃bY,bY=Ze.box 82 [I x.kind,St x.name,St.sl x.names,I e.op,U e.word,St e.name,Ex.sl e.args,I a.op,U a.word,St a.name,Ex.sl a.args,Ex.sl x.args,U x.low,U x.high,Sm.sl x.body,Sm.sl x.els]:=⟨_,rfl⟩
   refine Zc (fun f H'=>MX H (J8 out) (JF ts) j bY H'∧f 0=Sm.sl l∧f 1=XK k∧f 7=X5 H.length out∧f 8=X9 (H.length+1) ts∧f 9=I i∧f 10=.bp k1 0) (by kernel_rfl) ?_ ?_
   ·simp -dsimp [g0,g1,g7,g8,g9,g10,gX,sX,hbX,hbY]
    refine Zd (ca _) ?_
    simp -dsimp [g0,g1,g7,g8,g9,g10,gX,sX,hbX,hbY]
    refine Zd (cE _) ?_
    simp -dsimp [g0,g1,g7,g8,g9,g10,gX,sX,gS,sS,hbX,hbY]
    exact⟨_,rfl,sXg _⟩
   clear g0 g1 g7 g8 g9 g10 gX gXa sX sXg gS sS hL L g102 ca cE
   rintro g _ ⟨⟨L,rfl,hL⟩,g0,g1,g7,g8,g9,g10⟩
   have gX:=fun o u=>Yc (o:=o) (t:=u) hk1 hL
   have gXa:=fun o u R=>Y8 (o:=o) (t:=u) (R:=R) hk1 hL
   have sX:=fun o u Y=>Yf (o:=o) (t:=u) (L:=L) hk1 Y
   have sXg:=fun Y=>ZY (α:=Ze) hL Y
   have gS:=fun o u Y=>Yc (o:=o) (t:=u) hk1 (sXg Y)
   have sS:=fun o u Y Z=>Yf (o:=o) (t:=u) (L:=L.set j Y) hk1 Z
   refine YH (fun d=>d==117) (fun _=>none) (by kernel_rfl) ?_
   simp -dsimp [g0,g1,g7,g8,g9,g10]
   refine ZD (k:=H.length+1) (es:=ts.map Tm.cells) (by rw [ZmF]) (by simp;omega) (by simp;omega) ?_
   rw [Zhl]
   simp -dsimp [g0,g1,g7,g8,g9,g10]
   exact⟨Sm.mk x.kind x.name x.names e a x.args x.low x.high x.body x.els,ZaN,[I 1,Yp,Bo false,Yp],k,L,rfl,by rw [hL,hbY,Sm.cells_eq];rfl,rfl,rfl,by rw [ZaN,Tm.cells_eq];exact .cons (.refl _) (.cons (.nil 1) (.cons (.refl _) (.cons (.nil 1) .nil))),by rw [hfe],by rw [hfe],by rw [hfe],hKC,by omega⟩
  rw [if_neg h2] at hfe
  refine YM (by kernel_rfl) (by show g 102=_;rw [g102];simp [h2]) ?_
  refine Zc (fun f H'=>MX H (J8 out) (JF ts) j bX H'∧f 0=Sm.sl l∧f 1=XK k∧f 7=X5 H.length out∧f 8=X9 (H.length+1) ts∧f 9=I i∧f 10=.bp k1 0∧f 37=I x.kind∧f 118=Bo (x.kind==3)) (by kernel_rfl) ?_ ?_
  ·simp -dsimp [g0,g1,g7,g8,g9,g10,g37]
   exact⟨L,rfl,hL⟩
  clear g0 g1 g7 g8 g9 g10 gX gXa sX sXg gS sS hL L g37 g102
  rintro g _ ⟨⟨L,rfl,hL⟩,g0,g1,g7,g8,g9,g10,g37,g118⟩
  have gX:=fun o u=>Yc (o:=o) (t:=u) hk1 hL
  have gXa:=fun o u R=>Y8 (o:=o) (t:=u) (R:=R) hk1 hL
  have sX:=fun o u Y=>Yf (o:=o) (t:=u) (L:=L) hk1 Y
  have sXg:=fun Y=>ZY (α:=Ze) hL Y
  have gS:=fun o u Y=>Yc (o:=o) (t:=u) hk1 (sXg Y)
  have sS:=fun o u Y Z=>Yf (o:=o) (t:=u) (L:=L.set j Y) hk1 Z
  by_cases h3:x.kind=3
  ·rw [if_pos h3] at hfe
   refine YP (by kernel_rfl) (by show g 118=_;rw [g118];simp [h3]) ?_
   have cE:=ce k hok (by omega)
   obtain⟨e,he⟩:∃e,e=x.e.fold (Jv k):=⟨_,rfl⟩
   rw [←he] at hfe cE
   clear ce he
   obtain⟨bY,hbY⟩:∃bY,bY=Ze.box 82 [I x.kind,St x.name,St.sl x.names,I e.op,U e.word,St e.name,Ex.sl e.args,I x.a.op,U x.a.word,St x.a.name,Ex.sl x.a.args,Ex.sl x.args,U x.low,U x.high,Sm.sl x.body,Sm.sl x.els]:=⟨_,rfl⟩
   refine Zc (fun f H'=>MX H (J8 out) (JF ts) j bY H'∧f 0=Sm.sl l∧f 1=XK k∧f 7=X5 H.length out∧f 8=X9 (H.length+1) ts∧f 9=I i∧f 10=.bp k1 0) (by kernel_rfl) ?_ ?_
   ·simp -dsimp [g0,g1,g7,g8,g9,g10,gX,sX,hbX,hbY]
    refine Za (cE _) ?_
    simp -dsimp [g0,g1,g7,g8,g9,g10,gX,sX,hbX,hbY]
    exact⟨_,rfl,sXg _⟩
   clear g0 g1 g7 g8 g9 g10 gX gXa sX sXg gS sS hL L g118 cE
   rintro g _ ⟨⟨L,rfl,hL⟩,g0,g1,g7,g8,g9,g10⟩
   have gX:=fun o u=>Yc (o:=o) (t:=u) hk1 hL
   have gXa:=fun o u R=>Y8 (o:=o) (t:=u) (R:=R) hk1 hL
   have sX:=fun o u Y=>Yf (o:=o) (t:=u) (L:=L) hk1 Y
   have sXg:=fun Y=>ZY (α:=Ze) hL Y
   have gS:=fun o u Y=>Yc (o:=o) (t:=u) hk1 (sXg Y)
   have sS:=fun o u Y Z=>Yf (o:=o) (t:=u) (L:=L.set j Y) hk1 Z
   refine Z4 (fun f H'=>MX H (J8 out) (JF ts) j bY H'∧f 0=Sm.sl l∧f 1=XK k∧f 7=X5 H.length out∧f 8=X9 (H.length+1) ts∧f 9=I i∧f 10=.bp k1 0∧ ¬ e.op=1) ?_ ?_
   ·refine Zc (fun f H'=>MX H (J8 out) (JF ts) j bY H'∧f 0=Sm.sl l∧f 1=XK k∧f 7=X5 H.length out∧f 8=X9 (H.length+1) ts∧f 9=I i∧f 10=.bp k1 0∧f 128=Bo (e.op==1)) (by kernel_rfl) ?_ ?_
    ·simp -dsimp [g0,g1,g7,g8,g9,g10,gX,hbY]
     exact⟨L,rfl,by rw [hL,hbY]⟩
    clear g0 g1 g7 g8 g9 g10 gX gXa sX sXg gS sS hL L
    rintro g _ ⟨⟨L,rfl,hL⟩,g0,g1,g7,g8,g9,g10,g128⟩
    have gX:=fun o u=>Yc (o:=o) (t:=u) hk1 hL
    have gXa:=fun o u R=>Y8 (o:=o) (t:=u) (R:=R) hk1 hL
    have sX:=fun o u Y=>Yf (o:=o) (t:=u) (L:=L) hk1 Y
    have sXg:=fun Y=>ZY (α:=Ze) hL Y
    have gS:=fun o u Y=>Yc (o:=o) (t:=u) hk1 (sXg Y)
    have sS:=fun o u Y Z=>Yf (o:=o) (t:=u) (L:=L.set j Y) hk1 Z
    by_cases h4:e.op=1
    ·rw [if_pos h4] at hfe
     refine YP (by kernel_rfl) (by show g 128=_;rw [g128];simp [h4]) ?_
     obtain⟨way,hway⟩:∃way,way=if e.word=0 then x.els else x.body:=⟨_,rfl⟩
     have hwc:Zh way≤x.count-1:=by rw [hway];split<;>omega
     have hwr:Jh way=true:=by
      rw [hway];split
      ·exact r8
      ·exact r7
     have hwf:J7 KK way=true:=by
      rw [hway];split
      ·exact hfx.els
      ·exact hfx.body
     have hfw:x.fold (Jv k)=((ZB way (Jv k)).1,Zcz (!decide (e.word=0)) (ZB way (Jv k)).2.1,(ZB way (Jv k)).2.2):=by
      rw [hfe,hway]
      by_cases hw:e.word=0
      ·rw [if_pos hw,if_pos hw];simp [Zcz,hw]
      ·rw [if_neg hw,if_neg hw];simp [Zcz,hw]
     refine Zc (fun f H'=>MX H (J8 out) (JF ts) j bY H'∧f 0=Sm.sl l∧f 1=XK k∧f 7=X5 H.length out∧f 8=X9 (H.length+1) ts∧f 9=I i∧f 10=.bp k1 0∧f 11=Sm.sl x.els) (by kernel_rfl) ?_ ?_
     ·simp -dsimp [g0,g1,g7,g8,g9,g10,gX,hbY]
      exact⟨L,rfl,by rw [hL,hbY]⟩
     clear g0 g1 g7 g8 g9 g10 gX gXa sX sXg gS sS hL L g128
     rintro g _ ⟨⟨L,rfl,hL⟩,g0,g1,g7,g8,g9,g10,g11⟩
     have gX:=fun o u=>Yc (o:=o) (t:=u) hk1 hL
     have gXa:=fun o u R=>Y8 (o:=o) (t:=u) (R:=R) hk1 hL
     have sX:=fun o u Y=>Yf (o:=o) (t:=u) (L:=L) hk1 Y
     have sXg:=fun Y=>ZY (α:=Ze) hL Y
     have gS:=fun o u Y=>Yc (o:=o) (t:=u) hk1 (sXg Y)
     have sS:=fun o u Y Z=>Yf (o:=o) (t:=u) (L:=L.set j Y) hk1 Z
     refine Z4 (fun f H'=>MX H (J8 out) (JF ts) j bY H'∧f 0=Sm.sl l∧f 1=XK k∧f 7=X5 H.length out∧f 8=X9 (H.length+1) ts∧f 9=I i∧f 10=.bp k1 0∧f 11=Sm.sl way) ?_ ?_
     ·refine Zc (fun f H'=>MX H (J8 out) (JF ts) j bY H'∧f 0=Sm.sl l∧f 1=XK k∧f 7=X5 H.length out∧f 8=X9 (H.length+1) ts∧f 9=I i∧f 10=.bp k1 0∧f 11=Sm.sl x.els∧f 134=Bo (e.word != 0)) (by kernel_rfl) ?_ ?_
      ·simp -dsimp [g0,g1,g7,g8,g9,g10,g11,gX,hbY]
       exact⟨L,rfl,by rw [hL,hbY]⟩
      clear g0 g1 g7 g8 g9 g10 gX gXa sX sXg gS sS hL L g11
      rintro g _ ⟨⟨L,rfl,hL⟩,g0,g1,g7,g8,g9,g10,g11,g134⟩
      have gX:=fun o u=>Yc (o:=o) (t:=u) hk1 hL
      have gXa:=fun o u R=>Y8 (o:=o) (t:=u) (R:=R) hk1 hL
      have sX:=fun o u Y=>Yf (o:=o) (t:=u) (L:=L) hk1 Y
      have sXg:=fun Y=>ZY (α:=Ze) hL Y
      have gS:=fun o u Y=>Yc (o:=o) (t:=u) hk1 (sXg Y)
      have sS:=fun o u Y Z=>Yf (o:=o) (t:=u) (L:=L.set j Y) hk1 Z
      by_cases hw:e.word=0
      ·refine YM (by kernel_rfl) (by show g 134=_;rw [g134];simp [hw]) ?_
       refine Zk (by kernel_rfl) ?_
       rw [if_pos hw] at hway
       simp -dsimp [g0,g1,g7,g8,g9,g10,g11,hway]
       exact⟨L,rfl,hL⟩
      ·refine YP (by kernel_rfl) (by show g 134=_;rw [g134];simp [hw]) ?_
       refine Zk (by kernel_rfl) ?_
       rw [if_neg hw] at hway
       simp -dsimp [g0,g1,g7,g8,g9,g10,g11,hway,gX,hbY]
       exact⟨L,rfl,by rw [hL,hbY]⟩
     clear g0 g1 g7 g8 g9 g10 gX gXa sX sXg gS sS hL L g11
     rintro g _ ⟨⟨L,rfl,hL⟩,g0,g1,g7,g8,g9,g10,g11⟩
     have gX:=fun o u=>Yc (o:=o) (t:=u) hk1 hL
     have gXa:=fun o u R=>Y8 (o:=o) (t:=u) (R:=R) hk1 hL
     have sX:=fun o u Y=>Yf (o:=o) (t:=u) (L:=L) hk1 Y
     have sXg:=fun Y=>ZY (α:=Ze) hL Y
     have gS:=fun o u Y=>Yc (o:=o) (t:=u) hk1 (sXg Y)
     have sS:=fun o u Y Z=>Yf (o:=o) (t:=u) (L:=L.set j Y) hk1 Z
     have hE5:=hE1
     rw [←hinv,hfw] at hE5
     simp only [List.length_append] at hE5
     have cw:=fun M=>ih way k (by omega) (by omega) hwr ⟨KK,hwf⟩ hKC hok (by omega) M
     rw [hfw] at hinv hokx
     obtain⟨b,tb,K',hR⟩:∃b tb K',(b,tb,K')=ZB way (Jv k):=⟨_,_,_,rfl⟩
     rw [←hR] at hinv cw hE5 hokx
     simp only [] at hinv hE5 hokx
     refine Zc (fun f H'=>MX H (J8 out) (JF ts) j bY H'∧f 0=Sm.sl l∧f 1=XK k∧f 7=X5 H.length out∧f 8=X9 (H.length+1) ts∧f 9=I i∧f 10=.bp k1 0∧KV3 b tb K' (k.length+Zh way) (f 12) (f 13) (f 14)) (by kernel_rfl) ?_ ?_
     ·simp -dsimp [g0,g1,g7,g8,g9,g10,g11]
      refine ZA (cw _) ?_
      rintro r M' ⟨k',rfl,rfl,q1,q2,q3⟩
      simp -dsimp [g0,g1,g7,g8,g9,g10,g11]
      exact⟨⟨L,rfl,hL⟩,k',q1,q2,q3,rfl,rfl,rfl⟩
     clear g0 g1 g7 g8 g9 g10 gX gXa sX sXg gS sS hL L g11 cw
     rintro g _ ⟨⟨L,rfl,hL⟩,g0,g1,g7,g8,g9,g10,k',q1,q2,q3,g12,g13,g14⟩
     have gX:=fun o u=>Yc (o:=o) (t:=u) hk1 hL
     have gXa:=fun o u R=>Y8 (o:=o) (t:=u) (R:=R) hk1 hL
     have sX:=fun o u Y=>Yf (o:=o) (t:=u) (L:=L) hk1 Y
     have sXg:=fun Y=>ZY (α:=Ze) hL Y
     have gS:=fun o u Y=>Yc (o:=o) (t:=u) hk1 (sXg Y)
     have sS:=fun o u Y Z=>Yf (o:=o) (t:=u) (L:=L.set j Y) hk1 Z
     refine J2 (fun d=>d==146) (fun _=>none) (fun f H'=>MX H (J8 (out++b)) (JF ts) j bY H'∧f 0=Sm.sl l∧f 7=X5 H.length (out++b)∧f 8=X9 (H.length+1) ts∧f 9=I i∧f 10=.bp k1 0∧f 13=Tm.sl tb∧f 14=XK k') (by kernel_rfl) ?_ ?_
     ·simp -dsimp [g0,g1,g7,g8,g9,g10,g12,g13,g14]
      refine ZD (k:=H.length) (es:=out.map Sm.cells) (by rw [ZxE]) (by simp;omega) (by simp;omega) ?_
      rw [ZtX,←List.map_append]
      simp -dsimp [g0,g1,g7,g8,g9,g10,g12,g13,g14]
      exact⟨⟨L,by rw [J8,List.map_append],hL⟩,by rw [X5,List.map_append]⟩
     clear g0 g1 g7 g8 g9 g10 g12 g13 g14 gX gXa sX sXg gS sS hL L
     rintro g _ ⟨⟨L,rfl,hL⟩,g0,g7,g8,g9,g10,g13,g14⟩
     have gX:=fun o u=>Yc (o:=o) (t:=u) hk1 hL
     have gXa:=fun o u R=>Y8 (o:=o) (t:=u) (R:=R) hk1 hL
     have sX:=fun o u Y=>Yf (o:=o) (t:=u) (L:=L) hk1 Y
     have sXg:=fun Y=>ZY (α:=Ze) hL Y
     have gS:=fun o u Y=>Yc (o:=o) (t:=u) hk1 (sXg Y)
     have sS:=fun o u Y Z=>Yf (o:=o) (t:=u) (L:=L.set j Y) hk1 Z
     obtain⟨raw,hraw⟩:∃raw,raw=[I 4,Yp,Bo (e.word != 0),.vs 1 [[Tm.sl tb]]]:=⟨_,rfl⟩
     refine J2 (fun d=>d==156) (fun _=>none) (fun f H'=>MX H (J8 (out++b)) (Yn 90 4 (ts.map Tm.cells++[raw])) j bY H'∧f 0=Sm.sl l∧f 7=X5 H.length (out++b)∧f 8=Yo (H.length+1) (ts.map Tm.cells++[raw])∧f 9=I i∧f 14=XK k') (by kernel_rfl) ?_ ?_
     ·simp -dsimp [g0,g7,g8,g9,g10,g13,g14,gX,hbY]
      refine ZD (k:=H.length+1) (es:=ts.map Tm.cells) (by rw [ZmF]) (by simp;omega) (by simp;omega) ?_
      rw [Zhl]
      simp -dsimp [g0,g7,g8,g9,g10,g13,g14,hraw]
      exact⟨L,rfl,by rw [hL,hbY]⟩
     clear g0 g7 g8 g9 g10 g13 g14 gX gXa sX sXg gS sS hL L
     rintro g _ ⟨⟨L,rfl,hL⟩,g0,g7,g8,g9,g14⟩
     obtain⟨tm,htm⟩:∃tm,tm=Zcz (!decide (e.word=0)) tb:=⟨_,rfl⟩
     rw [←htm] at hinv
     refine ZfY (H.length+1) 90 4 (ts.map Tm.cells++[raw]) ((ts++[tm]).map Tm.cells) (by rw [ZmF]) (by
      rw [List.map_append]
      refine ZfV (ZcV _) (.cons ?_ .nil)
      rw [hraw,htm,Zcz,Tm.cells_eq]
      have hb:(e.word != 0)= !decide (e.word=0):=by by_cases h:e.word=0<;>simp [h]
      rw [hb]
      exact .cons (.refl _) (.cons (.nil 1) (.cons (.refl _) (.cons (.refl _) .nil)))) ?_
     rw [Zhl]
     have g8':g 8=X9 (H.length+1) (ts++[tm]):=by rw [g8];exact Zi8 _ (by simp)
     rw [←q2] at hinv hokx
     have hfinal:ZqP H N E rest (i+1) (XK k') (g 7) (g 8) (NB H (J8 (out++b)) (JF (ts++[tm])) L):=⟨out++b,ts++[tm],k',L,rfl,rfl,g7,g8',q1,hokx,by omega,by simp [htl],by rw [←hinv];simp⟩
     obtain⟨MM,hMM⟩:∃MM,MM=NB H (J8 (out++b)) (JF (ts++[tm])) L:=⟨_,rfl⟩
     rw [←hMM] at hfinal ⊢
     rw [g7] at hfinal
     replace hfinal:=YE.mk hfinal
     refine Zk (by kernel_rfl) ?_
     simp -dsimp [g0,g7,g9,g14]
     exact hfinal.out
    ·rw [if_neg h4] at hfe
     refine YM (by kernel_rfl) (by show g 128=_;rw [g128];simp [h4]) ?_
     refine Zk (by kernel_rfl) ?_
     simp -dsimp [g0,g1,g7,g8,g9,g10]
     exact⟨⟨L,rfl,hL⟩,h4⟩
   clear g0 g1 g7 g8 g9 g10 gX gXa sX sXg gS sS hL L
   rintro g _ ⟨⟨L,rfl,hL⟩,g0,g1,g7,g8,g9,g10,h4⟩
   have gX:=fun o u=>Yc (o:=o) (t:=u) hk1 hL
   have gXa:=fun o u R=>Y8 (o:=o) (t:=u) (R:=R) hk1 hL
   have sX:=fun o u Y=>Yf (o:=o) (t:=u) (L:=L) hk1 Y
   have sXg:=fun Y=>ZY (α:=Ze) hL Y
   have gS:=fun o u Y=>Yc (o:=o) (t:=u) hk1 (sXg Y)
   have sS:=fun o u Y Z=>Yf (o:=o) (t:=u) (L:=L.set j Y) hk1 Z
   rw [if_neg h4] at hfe
   obtain⟨b,tb,Kb,hRb⟩:∃b tb Kb,(b,tb,Kb)=ZB x.body (Jv k):=⟨_,_,_,rfl⟩
   obtain⟨el,te,Ke,hRe⟩:∃b tb Kb,(b,tb,Kb)=ZB x.els (Jv k):=⟨_,_,_,rfl⟩
   have c1:=fun M=>ih x.body k (by omega) (by omega) r7 ⟨KK,hfx.body⟩ hKC hok (by omega) M
   have c2:=fun M=>ih x.els k (by omega) (by omega) r8 ⟨KK,hfx.els⟩ hKC hok (by omega) M
   rw [←hRb] at hfe c1
   rw [←hRe] at hfe c2
   simp only [] at hfe
   clear hRb hRe
   refine Zc (fun f H'=>MX H (J8 out) (JF ts) j bY H'∧f 0=Sm.sl l∧f 1=XK k∧f 7=X5 H.length out∧f 8=X9 (H.length+1) ts∧f 9=I i∧f 10=.bp k1 0∧KV3 b tb Kb (k.length+Zh x.body) (f 15) (f 16) (f 17)) (by kernel_rfl) ?_ ?_
   ·simp -dsimp [g0,g1,g7,g8,g9,g10,gX,hbY]
    refine ZA (c1 _) ?_
    rintro r M' ⟨k',rfl,rfl,q1,q2,q3⟩
    simp -dsimp [g0,g1,g7,g8,g9,g10]
    exact⟨⟨L,rfl,by rw [hL,hbY]⟩,k',q1,q2,q3,rfl,rfl,rfl⟩
   clear g0 g1 g7 g8 g9 g10 gX gXa sX sXg gS sS hL L c1
   rintro g _ ⟨⟨L,rfl,hL⟩,g0,g1,g7,g8,g9,g10,ka,q1,q2,q3,g15,g16,g17⟩
   have gX:=fun o u=>Yc (o:=o) (t:=u) hk1 hL
   have gXa:=fun o u R=>Y8 (o:=o) (t:=u) (R:=R) hk1 hL
   have sX:=fun o u Y=>Yf (o:=o) (t:=u) (L:=L) hk1 Y
   have sXg:=fun Y=>ZY (α:=Ze) hL Y
   have gS:=fun o u Y=>Yc (o:=o) (t:=u) hk1 (sXg Y)
   have sS:=fun o u Y Z=>Yf (o:=o) (t:=u) (L:=L.set j Y) hk1 Z
   refine Zc (fun f H'=>MX H (J8 out) (JF ts) j bY H'∧f 0=Sm.sl l∧f 1=XK k∧f 7=X5 H.length out∧f 8=X9 (H.length+1) ts∧f 9=I i∧f 10=.bp k1 0∧KV3 el te Ke (k.length+Zh x.els) (f 18) (f 19) (f 20)∧f 15=Sm.sl b∧f 16=Tm.sl tb∧f 17=XK ka) (by kernel_rfl) ?_ ?_
   ·simp -dsimp [g0,g1,g7,g8,g9,g10,gX,hbY,g15,g16,g17]
    refine ZA (c2 _) ?_
    rintro r M' ⟨k',rfl,rfl,q4,q5,q6⟩
    simp -dsimp [g0,g1,g7,g8,g9,g10,g15,g16,g17]
    exact⟨⟨L,rfl,by rw [hL,hbY]⟩,k',q4,q5,q6,rfl,rfl,rfl⟩
   clear g0 g1 g7 g8 g9 g10 g15 g16 g17 gX gXa sX sXg gS sS hL L c2
   rintro g _ ⟨⟨L,rfl,hL⟩,g0,g1,g7,g8,g9,g10,⟨kb,q4,q5,q6,g18,g19,g20⟩,g15,g16,g17⟩
   have gX:=fun o u=>Yc (o:=o) (t:=u) hk1 hL
   have gXa:=fun o u R=>Y8 (o:=o) (t:=u) (R:=R) hk1 hL
   have sX:=fun o u Y=>Yf (o:=o) (t:=u) (L:=L) hk1 Y
   have sXg:=fun Y=>ZY (α:=Ze) hL Y
   have gS:=fun o u Y=>Yc (o:=o) (t:=u) hk1 (sXg Y)
   have sS:=fun o u Y Z=>Yf (o:=o) (t:=u) (L:=L.set j Y) hk1 Z
   obtain⟨bZ,hbZ⟩:∃bZ,bZ=Ze.box 82 [I x.kind,St x.name,St.sl x.names,I e.op,U e.word,St e.name,Ex.sl e.args,I x.a.op,U x.a.word,St x.a.name,Ex.sl x.a.args,Ex.sl x.args,U x.low,U x.high,Sm.sl b,Sm.sl el]:=⟨_,rfl⟩
   refine Zc (fun f H'=>MX H (J8 out) (JF ts) j bZ H'∧f 0=Sm.sl l∧f 1=XK k∧f 7=X5 H.length out∧f 8=X9 (H.length+1) ts∧f 9=I i∧f 10=.bp k1 0∧f 16=Tm.sl tb∧f 17=XK ka∧f 19=Tm.sl te∧f 20=XK kb) (by kernel_rfl) ?_ ?_
   ·simp -dsimp [g0,g1,g7,g8,g9,g10,gX,sX,gS,sS,hbY,hbZ,g15,g16,g17,g18,g19,g20]
    exact⟨_,rfl,sXg _⟩
   clear g0 g1 g7 g8 g9 g10 gX gXa sX sXg gS sS hL L g15 g16 g17 g18 g19 g20
   rintro g _ ⟨⟨L,rfl,hL⟩,g0,g1,g7,g8,g9,g10,g16,g17,g19,g20⟩
   have gX:=fun o u=>Yc (o:=o) (t:=u) hk1 hL
   have gXa:=fun o u R=>Y8 (o:=o) (t:=u) (R:=R) hk1 hL
   have sX:=fun o u Y=>Yf (o:=o) (t:=u) (L:=L) hk1 Y
   have sXg:=fun Y=>ZY (α:=Ze) hL Y
   have gS:=fun o u Y=>Yc (o:=o) (t:=u) hk1 (sXg Y)
   have sS:=fun o u Y Z=>Yf (o:=o) (t:=u) (L:=L.set j Y) hk1 Z
   have cb:=fun M=>Zs3 ka kb (by omega) (by omega) M
   obtain⟨hB1,hB2⟩:=KC.both (b:=kb) q1
   have hB3:=Zpg ka kb
   rw [q2,q5] at hB2
   refine Zc (fun f H'=>MX H (J8 out) (JF ts) j bZ H'∧f 0=Sm.sl l∧f 1=XK (XL ka kb)∧f 7=X5 H.length out∧f 8=X9 (H.length+1) ts∧f 9=I i∧f 10=.bp k1 0∧f 16=Tm.sl tb∧f 19=Tm.sl te) (by kernel_rfl) ?_ ?_
   ·simp -dsimp [g0,g1,g7,g8,g9,g10,g16,g17,g19,g20]
    refine Za (cb _) ?_
    simp -dsimp [g0,g1,g7,g8,g9,g10,g16,g19]
    exact⟨L,rfl,hL⟩
   clear g0 g1 g7 g8 g9 g10 gX gXa sX sXg gS sS hL L g16 g17 g19 g20 cb
   rintro g _ ⟨⟨L,rfl,hL⟩,g0,g1,g7,g8,g9,g10,g16,g19⟩
   have gX:=fun o u=>Yc (o:=o) (t:=u) hk1 hL
   have gXa:=fun o u R=>Y8 (o:=o) (t:=u) (R:=R) hk1 hL
   have sX:=fun o u Y=>Yf (o:=o) (t:=u) (L:=L) hk1 Y
   have sXg:=fun Y=>ZY (α:=Ze) hL Y
   have gS:=fun o u Y=>Yc (o:=o) (t:=u) hk1 (sXg Y)
   have sS:=fun o u Y Z=>Yf (o:=o) (t:=u) (L:=L.set j Y) hk1 Z
   refine YH (fun d=>d==187) (fun _=>none) (by kernel_rfl) ?_
   simp -dsimp [g0,g1,g7,g8,g9,g10,g16,g19]
   refine ZD (k:=H.length+1) (es:=ts.map Tm.cells) (by rw [ZmF]) (by simp;omega) (by simp;omega) ?_
   rw [Zhl]
   simp -dsimp [g0,g1,g7,g8,g9,g10,g16,g19]
   exact⟨Sm.mk x.kind x.name x.names e x.a x.args x.low x.high b el,Ztf tb te,[I 3,Yp,Bo false,.vs 1 [[Tm.sl tb],[Tm.sl te]]],XL ka kb,L,rfl,by rw [hL,hbZ,Sm.cells_eq];rfl,rfl,rfl,by rw [Ztf,Tm.cells_eq];exact .cons (.refl _) (.cons (.nil 1) (.cons (.refl _) (.cons (.refl _) .nil))),by rw [hfe],by rw [hfe];rfl,by rw [hfe];exact hB2.symm,hB1,by omega⟩
  rw [if_neg h3] at hfe
  refine YM (by kernel_rfl) (by show g 118=_;rw [g118];simp [h3]) ?_
  have h4:x.kind=4:=by have:=hfx.lo;have:=hfx.hi;omega
  rw [if_pos h4] at hfe
  obtain⟨S,hS⟩:∃S,S=Zah x.body:=⟨_,rfl⟩
  have hSl:S.length≤Zh x.body:=by rw [hS];exact ZdW x.body
  obtain⟨hK1,hK2⟩:=KC.withouts S hKC
  have hwl:=Zfw S k
  have cs:=fun M=>ZoI x.body (by omega) M
  rw [←hS] at cs
  rw [hS,Zis,←hS] at hK2
  have hok2:(Jv (withouts S k)).ok:=by rw [hK2];exact ZjH hok _
  refine Zc (fun f H'=>MX H (J8 out) (JF ts) j bX H'∧f 0=Sm.sl l∧f 1=XK k∧f 7=X5 H.length out∧f 8=X9 (H.length+1) ts∧f 9=I i∧f 10=.bp k1 0∧f 21=St.sl S) (by kernel_rfl) ?_ ?_
  ·simp -dsimp [g0,g1,g7,g8,g9,g10,gX,hbX]
   refine Za (cs _) ?_
   simp -dsimp [g0,g1,g7,g8,g9,g10]
   exact⟨L,rfl,by rw [hL,hbX]⟩
  clear g0 g1 g7 g8 g9 g10 gX gXa sX sXg gS sS hL L g118 cs
  rintro g _ ⟨⟨L,rfl,hL⟩,g0,g1,g7,g8,g9,g10,g21⟩
  have gX:=fun o u=>Yc (o:=o) (t:=u) hk1 hL
  have gXa:=fun o u R=>Y8 (o:=o) (t:=u) (R:=R) hk1 hL
  have sX:=fun o u Y=>Yf (o:=o) (t:=u) (L:=L) hk1 Y
  have sXg:=fun Y=>ZY (α:=Ze) hL Y
  have gS:=fun o u Y=>Yc (o:=o) (t:=u) hk1 (sXg Y)
  have sS:=fun o u Y Z=>Yf (o:=o) (t:=u) (L:=L.set j Y) hk1 Z
  refine Z4 (fun f H'=>MX H (J8 out) (JF ts) j bX H'∧f 0=Sm.sl l∧f 1=XK (withouts S k)∧f 7=X5 H.length out∧f 8=X9 (H.length+1) ts∧f 9=I i∧f 10=.bp k1 0) ?_ ?_
  ·refine Zc (fun f H'=>MX H (J8 out) (JF ts) j bX H'∧f 0=Sm.sl l∧f 1=XK k∧f 7=X5 H.length out∧f 8=X9 (H.length+1) ts∧f 9=I i∧f 10=.bp k1 0∧f 21=St.sl S∧f 22=I 0) (by kernel_rfl) ?_ ?_
   ·simp -dsimp [g0,g1,g7,g8,g9,g10,g21]
    exact⟨L,rfl,hL⟩
   clear g0 g1 g7 g8 g9 g10 gX gXa sX sXg gS sS hL L g21
   rintro g _ ⟨⟨L,rfl,hL⟩,g0,g1,g7,g8,g9,g10,g21,g22⟩
   have gX:=fun o u=>Yc (o:=o) (t:=u) hk1 hL
   have gXa:=fun o u R=>Y8 (o:=o) (t:=u) (R:=R) hk1 hL
   have sX:=fun o u Y=>Yf (o:=o) (t:=u) (L:=L) hk1 Y
   have sXg:=fun Y=>ZY (α:=Ze) hL Y
   have gS:=fun o u Y=>Yc (o:=o) (t:=u) hk1 (sXg Y)
   have sS:=fun o u Y Z=>Yf (o:=o) (t:=u) (L:=L.set j Y) hk1 Z
   refine Z9 ?_
   refine Yd (fun (q:Nat) f H'=>MX H (J8 out) (JF ts) j bX H'∧f 0=Sm.sl l∧f 1=XK (withouts (S.take q) k)∧f 7=X5 H.length out∧f 8=X9 (H.length+1) ts∧f 9=I i∧f 10=.bp k1 0∧f 21=St.sl S∧f 22=I q∧q≤S.length) (fun q=>S.length-q) 0 ⟨⟨L,rfl,hL⟩,g0,g1,g7,g8,g9,g10,g21,g22,by omega⟩ ?_
   clear g0 g1 g7 g8 g9 g10 g21 g22 gX gXa sX sXg gS sS hL L g
   rintro q g _ ⟨⟨L,rfl,hL⟩,g0,g1,g7,g8,g9,g10,g21,g22,hq⟩
   have gX:=fun o u=>Yc (o:=o) (t:=u) hk1 hL
   have gXa:=fun o u R=>Y8 (o:=o) (t:=u) (R:=R) hk1 hL
   have sX:=fun o u Y=>Yf (o:=o) (t:=u) (L:=L) hk1 Y
   have sXg:=fun Y=>ZY (α:=Ze) hL Y
   have gS:=fun o u Y=>Yc (o:=o) (t:=u) hk1 (sXg Y)
   have sS:=fun o u Y Z=>Yf (o:=o) (t:=u) (L:=L.set j Y) hk1 Z
   refine Zc (fun f H'=>MX H (J8 out) (JF ts) j bX H'∧f 0=Sm.sl l∧f 1=XK (withouts (S.take q) k)∧f 7=X5 H.length out∧f 8=X9 (H.length+1) ts∧f 9=I i∧f 10=.bp k1 0∧f 21=St.sl S∧f 22=I q∧q<S.length) (by kernel_rfl) ?_ ?_
   ·simp -dsimp [g0,g1,g7,g8,g9,g10,g21,g22]
    refine Zb (fun hlt2=>?_) (fun hlt2=>?_)
    ·simp -dsimp [g0,g1,g7,g8,g9,g10,g21,g22]
     exact⟨⟨L,rfl,hL⟩,by omega⟩
    ·have hall:S.take q=S:=List.take_of_length_le (by omega)
     rw [hall] at g1
     simp -dsimp [g0,g1,g7,g8,g9,g10]
     exact⟨L,rfl,hL⟩
   clear g0 g1 g7 g8 g9 g10 gX gXa sX sXg gS sS hL L g21 g22
   rintro g _ ⟨⟨L,rfl,hL⟩,g0,g1,g7,g8,g9,g10,g21,g22,hlt2⟩
   have gX:=fun o u=>Yc (o:=o) (t:=u) hk1 hL
   have gXa:=fun o u R=>Y8 (o:=o) (t:=u) (R:=R) hk1 hL
   have sX:=fun o u Y=>Yf (o:=o) (t:=u) (L:=L) hk1 Y
   have sXg:=fun Y=>ZY (α:=Ze) hL Y
   have gS:=fun o u Y=>Yc (o:=o) (t:=u) hk1 (sXg Y)
   have sS:=fun o u Y Z=>Yf (o:=o) (t:=u) (L:=L.set j Y) hk1 Z
   have hT:=Zjj hlt2 k
   have hn:=List.getElem?_eq_getElem hlt2
   obtain⟨n,hne⟩:∃n,n=S[q]:=⟨_,rfl⟩
   rw [←hne] at hn hT
   obtain⟨kq,hkq⟩:∃kq,kq=withouts (S.take q) k:=⟨_,rfl⟩
   rw [←hkq] at hT g1
   have hkql:kq.length≤k.length:=by rw [hkq];exact Zfw _ _
   have cw:=fun M=>ZhP kq n (by omega) M
   refine Z4 (fun f H'=>KX H (J8 out) (JF ts) j bX (ZX n kq) (f 1) H'∧f 0=Sm.sl l∧f 7=X5 H.length out∧f 8=X9 (H.length+1) ts∧f 9=I i∧f 10=.bp k1 0∧f 21=St.sl S∧f 22=I q) ?_ ?_
   ·refine Z9 ?_
    refine Zk (by kernel_rfl) ?_
    simp -dsimp [g0,g1,g7,g8,g9,g10,g21,g22,hn]
    refine ZA (cw _) ?_
    rintro r M' ⟨rfl,rfl⟩
    rw [ZmL,ZmQ]
    simp -dsimp [g0,g1,g7,g8,g9,g10,g21,g22]
    exact⟨L,rfl,hL,rfl⟩
   clear g0 g1 g7 g8 g9 g10 g21 g22 gX gXa sX sXg gS sS hL L g cw
   rintro g _ ⟨⟨L,rfl,hL,g1⟩,g0,g7,g8,g9,g10,g21,g22⟩
   have gXa:=fun o u R=>Y8 (o:=o) (t:=u) (R:=R) hk1 hL
   refine Zuh hu hL (by rw [hbX];rfl) (YR (ZdD out)) (YR (ZdL ts)) (ZX n kq) g1 ?_
   intro L2 f2 hL2 a1 af
   have b0:f2 0=Sm.sl l:=by rw [af 0 (by omega),g0];exact Zck _ _ _ _ _
   have b7:f2 7=X5 H.length out:=by rw [af 7 (by omega),g7];exact ZeV (by omega)
   have b8:f2 8=X9 (H.length+1) ts:=by rw [af 8 (by omega),g8];exact ZeV (by omega)
   have b9:f2 9=I i:=by rw [af 9 (by omega),g9];exact Zm8 _ _ _ _
   have b10:f2 10=.bp k1 0:=by rw [af 10 (by omega),g10];exact Zfq _ _ _ _ _
   have b21:f2 21=St.sl S:=by rw [af 21 (by omega),g21];exact Zck _ _ _ _ _
   have b22:f2 22=I q:=by rw [af 22 (by omega),g22];exact Zm8 _ _ _ _
   clear g21 g22
   clear af g0 g1 g7 g8 g9 g10 gXa hL L
   obtain⟨g,hg⟩:∃g,g=f2:=⟨_,rfl⟩
   rw [←hg] at a1 b0 b7 b8 b9 b10 b21 b22 ⊢
   obtain⟨L,hLe⟩:∃L,L=L2:=⟨_,rfl⟩
   rw [←hLe] at hL2 ⊢
   have g0:=b0
   have g1:=a1
   have g7:=b7
   have g8:=b8
   have g9:=b9
   have g10:=b10
   have hL:=hL2
   have g21:=b21
   have g22:=b22
   clear b0 a1 b7 b8 b9 b10 hL2 hg hLe b21 b22 f2 L2
   have gX:=fun o u=>Yc (o:=o) (t:=u) hk1 hL
   have gXa:=fun o u R=>Y8 (o:=o) (t:=u) (R:=R) hk1 hL
   have sX:=fun o u Y=>Yf (o:=o) (t:=u) (L:=L) hk1 Y
   have sXg:=fun Y=>ZY (α:=Ze) hL Y
   have gS:=fun o u Y=>Yc (o:=o) (t:=u) hk1 (sXg Y)
   have sS:=fun o u Y Z=>Yf (o:=o) (t:=u) (L:=L.set j Y) hk1 Z
   refine Zk (by kernel_rfl) ?_
   simp -dsimp [g0,g1,g7,g8,g9,g10,g21,g22]
   exact⟨q+1,by omega,⟨L,rfl,hL⟩,by rw [hT],ZC (by omega),by omega⟩
  clear g0 g1 g7 g8 g9 g10 g21 gX gXa sX sXg gS sS hL L g
  rintro g _ ⟨⟨L,rfl,hL⟩,g0,g1,g7,g8,g9,g10⟩
  have gX:=fun o u=>Yc (o:=o) (t:=u) hk1 hL
  have gXa:=fun o u R=>Y8 (o:=o) (t:=u) (R:=R) hk1 hL
  have sX:=fun o u Y=>Yf (o:=o) (t:=u) (L:=L) hk1 Y
  have sXg:=fun Y=>ZY (α:=Ze) hL Y
  have gS:=fun o u Y=>Yc (o:=o) (t:=u) hk1 (sXg Y)
  have sS:=fun o u Y Z=>Yf (o:=o) (t:=u) (L:=L.set j Y) hk1 Z
  obtain⟨k2,hk2⟩:∃k2,k2=withouts S k:=⟨_,rfl⟩
  rw [←hk2] at hK1 hK2 hwl hok2 g1
  clear hk2 hS
  have cE:=ce k2 hok2 (by omega)
  obtain⟨e,he⟩:∃e,e=x.e.fold (Jv k2):=⟨_,rfl⟩
  rw [←hK2] at hfe
  rw [←he] at hfe cE
  clear ce he
  obtain⟨bY,hbY⟩:∃bY,bY=Ze.box 82 [I x.kind,St x.name,St.sl x.names,I e.op,U e.word,St e.name,Ex.sl e.args,I x.a.op,U x.a.word,St x.a.name,Ex.sl x.a.args,Ex.sl x.args,U x.low,U x.high,Sm.sl x.body,Sm.sl x.els]:=⟨_,rfl⟩
  refine Zc (fun f H'=>MX H (J8 out) (JF ts) j bY H'∧f 0=Sm.sl l∧f 1=XK k2∧f 7=X5 H.length out∧f 8=X9 (H.length+1) ts∧f 9=I i∧f 10=.bp k1 0) (by kernel_rfl) ?_ ?_
  ·simp -dsimp [g0,g1,g7,g8,g9,g10,gX,sX,hbX,hbY]
   refine Za (cE _) ?_
   simp -dsimp [g0,g1,g7,g8,g9,g10,gX,sX,hbX,hbY]
   exact⟨_,rfl,sXg _⟩
  clear g0 g1 g7 g8 g9 g10 gX gXa sX sXg gS sS hL L cE
  rintro g _ ⟨⟨L,rfl,hL⟩,g0,g1,g7,g8,g9,g10⟩
  have gX:=fun o u=>Yc (o:=o) (t:=u) hk1 hL
  have gXa:=fun o u R=>Y8 (o:=o) (t:=u) (R:=R) hk1 hL
  have sX:=fun o u Y=>Yf (o:=o) (t:=u) (L:=L) hk1 Y
  have sXg:=fun Y=>ZY (α:=Ze) hL Y
  have gS:=fun o u Y=>Yc (o:=o) (t:=u) hk1 (sXg Y)
  have sS:=fun o u Y Z=>Yf (o:=o) (t:=u) (L:=L.set j Y) hk1 Z
  obtain⟨b,tb,Kb,hRb⟩:∃b tb Kb,(b,tb,Kb)=ZB x.body (Jv k2):=⟨_,_,_,rfl⟩
  have c1:=fun M=>ih x.body k2 (by omega) (by omega) r7 ⟨KK,hfx.body⟩ hK1 hok2 (by omega) M
  rw [←hRb] at hfe c1
  simp only [] at hfe
  clear hRb
  refine Zc (fun f H'=>MX H (J8 out) (JF ts) j bY H'∧f 0=Sm.sl l∧f 1=XK k2∧f 7=X5 H.length out∧f 8=X9 (H.length+1) ts∧f 9=I i∧f 10=.bp k1 0∧KV3 b tb Kb (k2.length+Zh x.body) (f 23) (f 24) (f 25)) (by kernel_rfl) ?_ ?_
  ·simp -dsimp [g0,g1,g7,g8,g9,g10,gX,hbY]
   refine ZA (c1 _) ?_
   rintro r M' ⟨k',rfl,rfl,q1,q2,q3⟩
   simp -dsimp [g0,g1,g7,g8,g9,g10]
   exact⟨⟨L,rfl,by rw [hL,hbY]⟩,k',q1,q2,q3,rfl,rfl,rfl⟩
  clear g0 g1 g7 g8 g9 g10 gX gXa sX sXg gS sS hL L c1
  rintro g _ ⟨⟨L,rfl,hL⟩,g0,g1,g7,g8,g9,g10,ka,q1,q2,q3,g23,g24,g25⟩
  have gX:=fun o u=>Yc (o:=o) (t:=u) hk1 hL
  have gXa:=fun o u R=>Y8 (o:=o) (t:=u) (R:=R) hk1 hL
  have sX:=fun o u Y=>Yf (o:=o) (t:=u) (L:=L) hk1 Y
  have sXg:=fun Y=>ZY (α:=Ze) hL Y
  have gS:=fun o u Y=>Yc (o:=o) (t:=u) hk1 (sXg Y)
  have sS:=fun o u Y Z=>Yf (o:=o) (t:=u) (L:=L.set j Y) hk1 Z
  obtain⟨bZ,hbZ⟩:∃bZ,bZ=Ze.box 82 [I x.kind,St x.name,St.sl x.names,I e.op,U e.word,St e.name,Ex.sl e.args,I x.a.op,U x.a.word,St x.a.name,Ex.sl x.a.args,Ex.sl x.args,U x.low,U x.high,Sm.sl b,Sm.sl x.els]:=⟨_,rfl⟩
  refine Zc (fun f H'=>MX H (J8 out) (JF ts) j bZ H'∧f 0=Sm.sl l∧f 1=XK k2∧f 7=X5 H.length out∧f 8=X9 (H.length+1) ts∧f 9=I i∧f 10=.bp k1 0∧f 24=Tm.sl tb) (by kernel_rfl) ?_ ?_
  ·simp -dsimp [g0,g1,g7,g8,g9,g10,gX,sX,hbY,hbZ,g23,g24]
   exact⟨_,rfl,sXg _⟩
  clear g0 g1 g7 g8 g9 g10 gX gXa sX sXg gS sS hL L g23 g24 g25
  rintro g _ ⟨⟨L,rfl,hL⟩,g0,g1,g7,g8,g9,g10,g24⟩
  have gX:=fun o u=>Yc (o:=o) (t:=u) hk1 hL
  have gXa:=fun o u R=>Y8 (o:=o) (t:=u) (R:=R) hk1 hL
  have sX:=fun o u Y=>Yf (o:=o) (t:=u) (L:=L) hk1 Y
  have sXg:=fun Y=>ZY (α:=Ze) hL Y
  have gS:=fun o u Y=>Yc (o:=o) (t:=u) hk1 (sXg Y)
  have sS:=fun o u Y Z=>Yf (o:=o) (t:=u) (L:=L.set j Y) hk1 Z
  refine YH (fun d=>d==73) (fun _=>none) (by kernel_rfl) ?_
  simp -dsimp [g0,g1,g7,g8,g9,g10,g24]
  refine ZD (k:=H.length+1) (es:=ts.map Tm.cells) (by rw [ZmF]) (by simp;omega) (by simp;omega) ?_
  rw [Zhl]
  simp -dsimp [g0,g1,g7,g8,g9,g10,g24]
  exact⟨Sm.mk x.kind x.name x.names e x.a x.args x.low x.high b x.els,ZkY tb,[I 5,Yp,Bo false,.vs 1 [[Tm.sl tb]]],k2,L,rfl,by rw [hL,hbZ,Sm.cells_eq];rfl,rfl,rfl,by rw [ZkY,Tm.cells_eq];exact .cons (.refl _) (.cons (.nil 1) (.cons (.refl _) (.cons (.refl _) .nil))),by rw [hfe],by rw [hfe];rfl,by rw [hfe],hK1,by omega⟩
end Go.Proofs
