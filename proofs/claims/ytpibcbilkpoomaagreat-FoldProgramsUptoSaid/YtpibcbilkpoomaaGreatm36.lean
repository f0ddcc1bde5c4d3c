import Derived.Test.YtpibcbilkpoomaaGreatm34
import Derived.Test.YtpibcbilkpoomaaGreatm35
set_option linter.all false
set_option maxHeartbeats 4000000
set_option maxRecDepth 100000
namespace Go.Proofs
open Go.Mu
theorem Zlw (kd:Int) (m:Nat):∀ (l:List Sm),Zh l<m→Zh l≤2^40→∀ (H:List Ze),Zi Tryz.prog 64 [Sm.sl l,I kd] H (fun e H'=>e=.ret (Bo (Yz kd l))∧H'=H):=by
 induction m with
 |zero=>intro l h;omega
 |succ m ih=>
  intro l hm hc H
  refine Zf (Zg Tryz.func64 rfl (by kernel_rfl) ?_)
  have hlen:=Yi l
  obtain⟨E,hE⟩:∃E,E=Yz kd l:=⟨_,rfl⟩
  rw [←hE]
  have fin:∀b,b=E→ZW H (fun e H'=>e=.ret (Bo E)∧H'=H) (.ret (Bo b)) H:=fun b h=>by rw [h];exact Z7 rfl ⟨rfl,rfl⟩
  simp -dsimp
  refine Zv (fun (i:Nat) f H'=>H=H'∧f 0=Sm.sl l∧f 1=I kd∧f 5=I i∧i≤l.length∧E=Yz kd (l.drop i)) (fun i=>l.length-i) (by kernel_rfl) 0 (by simp;exact hE) ?_
  clear hE
  rintro i f _ ⟨rfl,f0,f1,f5,hi,hinv⟩
  replace hinv:=YE.mk hinv
  simp -dsimp [f0,f1,f5]
  refine Zb (fun hlt=>?_) (fun hlt=>?_)
  ·replace hinv:=hinv.out
   rw [Zo hlt,Yz,Sm.uses_eq] at hinv
   have hlx:=List.getElem?_eq_getElem hlt
   have hgx:=JY hlt
   obtain⟨x,hx⟩:∃x,x=l[i]:=⟨_,rfl⟩
   rw [←hx] at hinv hlx hgx
   clear hx
   have hcx:=Sm.count_eq x
   have c1:=fun H=>ih x.body (by omega) (by omega) H
   have c2:=fun H=>ih x.els (by omega) (by omega) H
   obtain⟨b1,hb1⟩:∃b1,b1=Yz kd x.body:=⟨_,rfl⟩
   obtain⟨b2,hb2⟩:∃b2,b2=Yz kd x.els:=⟨_,rfl⟩
   rw [←hb1] at c1 hinv
   rw [←hb2] at c2 hinv
   replace hinv:=YE.mk hinv
   by_cases hk:x.kind=kd
   ·simp -dsimp [f0,f1,f5,hlx,hk]
    exact fin _ (by rw [hinv.out];simp [hk])
   ·have hkb:(x.kind==kd)=false:=by simpa using hk
    simp -dsimp [f0,f1,f5,hlx,hkb]
    refine Za (c1 _) ?_
    cases b1
    ·simp -dsimp [f0,f1,f5,hlx,hkb]
     refine Za (c2 _) ?_
     cases b2
     ·simp -dsimp [f0,f1,f5]
      exact⟨i+1,by omega,ZC (by omega),by omega,by rw [hinv.out,hkb];rfl⟩
     ·simp -dsimp
      exact fin _ (by rw [hinv.out,hkb];rfl)
    ·simp -dsimp
     exact fin _ (by rw [hinv.out,hkb];rfl)
  ·replace hinv:=hinv.out
   rw [ZI hlt,Yz] at hinv
   simp -dsimp
   exact fin _ hinv.symm
def Zn0 (M:Bool→Bool→Bool→Bool→List Ze→List Ze) (a b C D ra rs:Bool) (L:List Ze) (l:List Vr) (H':List Ze):Prop:=∃c d,H'=M a b c d L∧(c||(Zb1 2 l||ra))=C∧(d||(Zb1 3 l||rs))=D
theorem Zr1 (p:Pg) (hc:∀f∈p.funcs,Zh f.body≤2^40) (hv:∀f∈p.funcs,f.vars.length≤2^40) (hfl:p.funcs.length≤2^40) (hrl:p.regions.length≤2^40) (H:List Ze):Zi Tryz.prog 36 [.agg p.cells] H (fun e H'=>e=.ret (.agg (JB p).cells)∧H'=H):=by
 refine Zf (Z0 Tryz.func36 rfl (by kernel_rfl) ?_)
 obtain⟨bP,hbP⟩:∃bP,bP=Ze.box 25 [Rg.sl p.regions,Fc.sl p.funcs]:=⟨_,rfl⟩
 obtain⟨z,hz⟩:∃z,z=Js false false false false:=⟨_,rfl⟩
 refine Zc (fun f H'=>H'=H++[bP,z]∧f 1=.bp H.length 0∧f 2=.bp (H.length+1) 0) (by kernel_rfl) ?_ ?_
 ·rw [hbP,hz]
  simp -dsimp
 rintro g _ ⟨rfl,g1,g2⟩
 obtain⟨b1,hb1⟩:∃b1,b1=decide (1<p.funcs.length):=⟨_,rfl⟩
 obtain⟨b4,hb4⟩:∃b4,b4=decide (0<p.regions.length):=⟨_,rfl⟩
 have e1:decide ((1:Int)<p.funcs.length)=b1:=by rw [hb1];by_cases h:1<p.funcs.length<;>simp [h]<;>omega
 have e4:decide ((0:Int)<p.regions.length)=b4:=by rw [hb4];by_cases h:0<p.regions.length<;>simp [h]<;>omega
 obtain⟨M,hM⟩:∃M:Bool→Bool→Bool→Bool→List Ze→List Ze,M=fun a b c d L=>H++bP::z::Js a b c d::L:=⟨_,rfl⟩
 have hMe:∀a b c d L,M a b c d L=H++bP::z::Js a b c d::L:=fun a b c d L=>by rw [hM]
 have m0:∀a b c d L,(M a b c d L)[H.length]?=some (.box 25 [Rg.sl p.regions,Fc.sl p.funcs]):=fun a b c d L=>by rw [hMe,←hbP];simp
 have m1:∀a b c d L,(M a b c d L)[H.length+1]?=some (Js false false false false):=fun a b c d L=>by rw [hMe,hz];simp
 have m2:∀a b c d L,(M a b c d L)[H.length+2]?=some (Js a b c d):=fun a b c d L=>by rw [hMe];simp
 have ms:∀a b c d a' b' c' d' L,(M a b c d L).set (H.length+2) (Js a' b' c' d')=M a' b' c' d' L:=fun a b c d a' b' c' d' L=>by rw [hMe,hMe];simp
 clear hM
 have hg0:(H++[bP,z])[H.length]?=some (.box 25 [Rg.sl p.regions,Fc.sl p.funcs]):=by rw [←hbP];simp
 obtain⟨V,hV⟩:∃V,V=H++[bP,z]:=⟨_,rfl⟩
 have hVl:V.length=H.length+2:=by rw [hV];simp
 have hVM:∀a b c d,V++[Js a b c d]=M a b c d []:=fun a b c d=>by rw [hMe,hV];simp
 rw [←hV] at hg0 ⊢
 refine Zc (fun f H'=>H'=M b1 false false b4 []∧f 1=.bp H.length 0∧f 2=.bp (H.length+1) 0∧f 3=.bp V.length 0) (by kernel_rfl) ?_ ?_
 ·simp -dsimp [g1,g2,hg0,e1,e4,hb4.symm,hb1.symm]
  exact hVM _ _ _ _
 clear g g1 g2
 rw [hVl]
 rintro g _ ⟨rfl,g1,g2,g3⟩
 clear hV hVl hVM hg0 V
 refine Z4 (fun f H'=>ZjC M (JB p) [] H'∧f 2=.bp (H.length+1) 0∧f 3=.bp (H.length+2) 0) ?_ ?_
 rotate_left
 ·clear g g1 g2 g3
  rintro g _ ⟨⟨a,b,c,d,L,rfl,h1,h2,h3,h4⟩,g2,g3⟩
  simp only [Zb3,Xi,Bool.or_false] at h1 h2 h3 h4
  refine Zk (by kernel_rfl) ?_
  have q1:∀X,((M a b c d L).set (H.length+1) X)[H.length+1]?=some X:=fun X=>by rw [List.getElem?_set_self (by rw [hMe];simp)]
  have q2:∀X,(M a b c d L).set (H.length+1) X=H++bP::X::Js a b c d::L:=fun X=>by rw [hMe];simp
  simp -dsimp [g2,g3,m2,m1,q1]
  rw [q2,h1,h2,h3,h4]
  exact Z2 rfl ⟨rfl,rfl⟩
 refine Zc (fun f H'=>H'=M b1 false false b4 []∧f 1=.bp H.length 0∧f 2=.bp (H.length+1) 0∧f 3=.bp (H.length+2) 0∧f 4=I 0) (by kernel_rfl) ?_ ?_
 ·simp -dsimp [g1,g2,g3]
 clear g g1 g2 g3
 rintro g _ ⟨rfl,g1,g2,g3,g4⟩
 refine Z9 ?_
 refine Yd (fun (i:Nat) f H'=>ZjC M (JB p) (p.funcs.drop i) H'∧f 1=.bp H.length 0∧f 2=.bp (H.length+1) 0∧f 3=.bp (H.length+2) 0∧f 4=I i∧i≤p.funcs.length) (fun i=>p.funcs.length-i) 0
  ⟨⟨b1,false,false,b4,[],rfl,by rw [hb1];rfl,rfl,rfl,by rw [hb4];rfl⟩,g1,g2,g3,g4,by omega⟩ ?_
 clear g g1 g2 g3 g4
 rintro i g _ ⟨⟨a,b,c,d,L,rfl,h1,h2,h3,h4⟩,g1,g2,g3,g4,hi⟩
 refine Zc (fun f H'=>H'=M a b c d L∧f 1=.bp H.length 0∧f 2=.bp (H.length+1) 0∧f 3=.bp (H.length+2) 0∧f 4=I i∧i<p.funcs.length) (by kernel_rfl) ?_ ?_
 ·simp -dsimp [g1,g2,g3,g4,m0]
  refine Zb (fun hlt=>?_) (fun hlt=>?_)
  ·simp -dsimp [g1,g2,g3,g4]
   omega
  ·rw [ZI hlt] at h1 h2 h3 h4
   simp -dsimp [g2,g3]
   exact⟨a,b,c,d,L,rfl,h1,h2,h3,h4⟩
 clear g g1 g2 g3 g4
 rintro g _ ⟨rfl,g1,g2,g3,g4,hlt⟩
 have hlx:p.funcs[i]?=some p.funcs[i]:=List.getElem?_eq_getElem hlt
 have hmx:=List.getElem_mem hlt
 rw [Zo hlt] at h1 h2 h3 h4
 obtain⟨x,hx⟩:∃x,x=p.funcs[i]:=⟨_,rfl⟩
 rw [←hx] at hlx hmx h1 h2 h3 h4
 clear hx
 have hxc:=hc x hmx
 have hxv:=hv x hmx
 rw [Zb3] at h1 h2
 rw [Xi] at h3 h4
 have w1:IntKind.i64.wrap ((i:Int)+1)=((i+1:Nat):Int):=ZC (by omega)
 refine Z4 (fun f H'=>ZjC M (JB p) (p.funcs.drop (i+1)) H'∧f 1=.bp H.length 0∧f 2=.bp (H.length+1) 0∧f 3=.bp (H.length+2) 0∧f 4=I i) ?_ ?_
 rotate_left
 ·clear g g1 g2 g3 g4
  rintro g H' ⟨ho,g1,g2,g3,g4⟩
  replace ho:=YE.mk ho
  refine Zk (by kernel_rfl) ?_
  simp -dsimp [g1,g2,g3,g4]
  exact⟨i+1,by omega,ho.out,w1,by omega⟩
 refine Z9 ?_
 have c6:=fun H=>Zlw 6 _ x.body (Nat.lt_succ_self _) hxc H
 have c5:=fun H=>Zlw 5 _ x.body (Nat.lt_succ_self _) hxc H
 refine Zc (fun f H'=>H'=M (a||Yz 6 x.body) b c d L∧f 1=.bp H.length 0∧f 2=.bp (H.length+1) 0∧f 3=.bp (H.length+2) 0∧f 4=I i) (by kernel_rfl) ?_ ?_
 ·clear h1 h2 h3 h4
  cases a
  ·simp -dsimp [g1,g2,g3,g4,m0,m2,ms,hlx]
   refine Za (c6 _) ?_
   simp -dsimp [g1,g2,g3,g4,m2,ms]
  ·simp -dsimp [g1,g2,g3,g4,m2,ms]
 clear g g1 g2 g3 g4
 rintro g _ ⟨rfl,g1,g2,g3,g4⟩
 obtain⟨a2,ha2⟩:∃a2,a2=(a||Yz 6 x.body):=⟨_,rfl⟩
 rw [←ha2]
 refine Zc (fun f H'=>H'=M a2 (b||Yz 5 x.body) c d L∧f 1=.bp H.length 0∧f 2=.bp (H.length+1) 0∧f 3=.bp (H.length+2) 0∧f 4=I i) (by kernel_rfl) ?_ ?_
 ·clear h1 h2 h3 h4
  cases b
  ·simp -dsimp [g1,g2,g3,g4,m0,m2,ms,hlx]
   refine Za (c5 _) ?_
   simp -dsimp [g1,g2,g3,g4,m2,ms]
  ·simp -dsimp [g1,g2,g3,g4,m2,ms]
 clear g g1 g2 g3 g4
 rintro g _ ⟨rfl,g1,g2,g3,g4⟩
 obtain⟨b2,hb2⟩:∃b2,b2=(b||Yz 5 x.body):=⟨_,rfl⟩
 rw [←hb2]
 have h1':(a2||Zb3 6 (p.funcs.drop (i+1)))=(JB p).calls:=by rw [←h1,ha2];simp only [Bool.or_assoc]
 have h2':(b2||Zb3 5 (p.funcs.drop (i+1)))=(JB p).fors:=by rw [←h2,hb2];simp only [Bool.or_assoc]
 clear h1 h2 ha2 hb2
 obtain⟨T,hT⟩:∃T,T=JB p:=⟨_,rfl⟩
 rw [←hT] at h1' h2' h3 h4 ⊢
 clear hT
 obtain⟨r2,hr2⟩:∃r,r=Xi 2 (p.funcs.drop (i+1)):=⟨_,rfl⟩
 obtain⟨r3,hr3⟩:∃r,r=Xi 3 (p.funcs.drop (i+1)):=⟨_,rfl⟩
 rw [←hr2] at h3
 rw [←hr3] at h4
 refine Zc (fun f H'=>H'=M a2 b2 c d L∧f 1=.bp H.length 0∧f 2=.bp (H.length+1) 0∧f 3=.bp (H.length+2) 0∧f 4=I i∧f 5=I 0) (by kernel_rfl) ?_ ?_
 ·simp -dsimp [g1,g2,g3,g4]
 clear g g1 g2 g3 g4
 rintro g _ ⟨rfl,g1,g2,g3,g4,g5⟩
 refine Z9 ?_
 refine Yd (fun (j:Nat) f H'=>Zn0 M a2 b2 T.arrays T.stack r2 r3 L (x.vars.drop j) H'∧f 1=.bp H.length 0∧f 2=.bp (H.length+1) 0∧f 3=.bp (H.length+2) 0∧f 4=I i∧f 5=I j∧j≤x.vars.length) (fun j=>x.vars.length-j) 0
  ⟨⟨c,d,rfl,h3,h4⟩,g1,g2,g3,g4,g5,by omega⟩ ?_
 clear g g1 g2 g3 g4 g5 h3 h4 c d
 rintro j g _ ⟨⟨c,d,rfl,h3,h4⟩,g1,g2,g3,g4,g5,hj⟩
 refine Zc (fun f H'=>H'=M a2 b2 c d L∧f 1=.bp H.length 0∧f 2=.bp (H.length+1) 0∧f 3=.bp (H.length+2) 0∧f 4=I i∧f 5=I j∧j<x.vars.length) (by kernel_rfl) ?_ ?_
 ·simp -dsimp [g1,g2,g3,g4,g5,m0,hlx]
  refine Zb (fun hlt2=>?_) (fun hlt2=>?_)
  ·simp -dsimp [g1,g2,g3,g4,g5]
   omega
  ·rw [ZI hlt2,Zb1,Bool.false_or] at h3 h4
   simp -dsimp [g1,g2,g3,g4]
   exact⟨a2,b2,c,d,L,rfl,h1',h2',by rw [h3.symm,hr2],by rw [h4.symm,hr3]⟩
 clear g g1 g2 g3 g4 g5
 rintro g _ ⟨rfl,g1,g2,g3,g4,g5,hlt2⟩
 have hly:x.vars[j]?=some x.vars[j]:=List.getElem?_eq_getElem hlt2
 rw [Zo hlt2,Zb1] at h3 h4
 obtain⟨y,hy⟩:∃y,y=x.vars[j]:=⟨_,rfl⟩
 rw [←hy] at hly h3 h4
 clear hy
 have w2:IntKind.i64.wrap ((j:Int)+1)=((j+1:Nat):Int):=ZC (by omega)
 refine Z4 (fun f H'=>Zn0 M a2 b2 T.arrays T.stack r2 r3 L (x.vars.drop (j+1)) H'∧f 1=.bp H.length 0∧f 2=.bp (H.length+1) 0∧f 3=.bp (H.length+2) 0∧f 4=I i∧f 5=I j) ?_ ?_
 rotate_left
 ·clear g g1 g2 g3 g4 g5
  rintro g H' ⟨ho,g1,g2,g3,g4,g5⟩
  replace ho:=YE.mk ho
  refine Zk (by kernel_rfl) ?_
  simp -dsimp [g1,g2,g3,g4,g5]
  exact⟨j+1,by omega,ho.out,w2,by omega⟩
 refine Z9 ?_
 refine Zc (fun f H'=>H'=M a2 b2 (c||y.kind==2) d L∧f 1=.bp H.length 0∧f 2=.bp (H.length+1) 0∧f 3=.bp (H.length+2) 0∧f 4=I i∧f 5=I j) (by kernel_rfl) ?_ ?_
 ·clear h3 h4 h1' h2'
  cases c<;>simp -dsimp [g1,g2,g3,g4,g5,m0,m2,ms,hlx,hly]
 clear g g1 g2 g3 g4 g5
 rintro g _ ⟨rfl,g1,g2,g3,g4,g5⟩
 have hdone:Zn0 M a2 b2 T.arrays T.stack r2 r3 L (x.vars.drop (j+1)) (M a2 b2 (c||y.kind==2) (d||y.kind==3) L):=⟨_,_,rfl,by rw [←h3];simp only [Bool.or_assoc],by rw [←h4];simp only [Bool.or_assoc]⟩
 obtain⟨c2,hc2⟩:∃c2,c2=(c||y.kind==2):=⟨_,rfl⟩
 rw [←hc2] at hdone ⊢
 clear h3 h4 h1' h2' hc2
 replace hdone:=YE.mk hdone
 refine Zk (by kernel_rfl) ?_
 cases d
 ·simp -dsimp [g1,g2,g3,g4,g5,m0,m2,ms,hlx,hly]
  have:=hdone.out
  rwa [Bool.false_or] at this
 ·simp -dsimp [g1,g2,g3,g4,g5,m0,m2,ms,hlx,hly]
  have:=hdone.out
  rwa [Bool.true_or] at this
end Go.Proofs
namespace Go.Proofs
open Go.Mu
theorem ZsJ (p:Pg) (h3:p.Ok3) (hp:p.OkP) (H:List Ze):Zi Tryz.prog 9 [.agg p.cells] H (fun e H'=>e=.ret (I (Zbf p))∧H'=H):=by
 have cm:=fun H=>ZsB p h3 H
 have cf:=fun H=>Zr1 p (fun f hf=>by have:=hp.okc.body f hf;omega) (fun f hf=>by have:=hp.okc.vars f hf;omega) (by have:=hp.okc.funcs;omega) (by have:=hp.okc.regions;omega) H
 refine Zf (Zg Tryz.func9 rfl (by kernel_rfl) ?_)
 obtain⟨E,hE⟩:∃E,E=Zbf p:=⟨_,rfl⟩
 rw [←hE]
 unfold Zbf at hE
 have fin:∀c L,c=E→ZW H (fun x H'=>x=AE.ret (I E)∧H'=H) (.ret (I c)) (H++L):=fun c L h=>by rw [h];exact Z2 rfl ⟨rfl,rfl⟩
 simp only [Pg.cells] at cm cf
 simp -dsimp [Pg.cells]
 refine Za (cm _) ?_
 by_cases hm:Zc2 p=0
 ·rw [if_pos hm] at hE
  obtain⟨ca,fo,ar,st,hT⟩:∃a b c d,(⟨a,b,c,d⟩:Fo)=JB p:=⟨_,_,_,_,rfl⟩
  rw [←hT] at cf hE
  simp only [Fo.cells] at cf
  simp only [] at hE
  replace hE:=YE.mk hE
  simp -dsimp [hm]
  refine Za (cf _) ?_
  cases ca
  ·cases fo
   ·simp -dsimp
    exact fin _ _ (by rw [hE.out];rfl)
   ·simp -dsimp
    exact fin _ _ (by rw [hE.out];rfl)
  ·simp -dsimp
   exact fin _ _ (by rw [hE.out];rfl)
 ·rw [if_neg hm] at hE
  replace hE:=YE.mk hE
  have hb:(Zc2 p != 0)=true:=by simpa using hm
  simp -dsimp [hb]
  exact fin _ _ hE.out.symm
theorem ZlI (rs:List Rg) (F:Fc) (hR:Zh1 rs F) (hr:Jh F.body=true) (H:List Ze):Zi Tryz.prog 21 [.agg (ZJ rs F).cells] H (fun e H'=>e=.ret (.tup [.agg (ZJ rs F.fold1).cells,Tm.sl F.terms1])∧H'=H):=by
 obtain⟨K,hK,hKn⟩:=hR.ask.kinds
 have hvl:=hR.ask.okf.vars
 have hbl:=hR.ask.okf.body
 obtain⟨z1,z2⟩:=Zrd F.vars
 have hzl:=Zj2 F.vars
 refine Ya fun hu _=>Zf (ZU (Yv 1 (Z0 Tryz.func21 rfl (by kernel_rfl) ?_)))
 obtain⟨bz,hbz⟩:∃bz,bz=Ze.box 25 [Yp,Yp]:=⟨_,rfl⟩
 obtain⟨bP,hbP⟩:∃bz,bz=Ze.box 25 [Rg.sl rs,Fc.sl [F]]:=⟨_,rfl⟩
 obtain⟨bF,hbF⟩:∃bz,bz=Ze.box 56 [St F.name,Vr.sl F.params,Vr.sl F.vars,St.sl F.rets,Sm.sl F.body]:=⟨_,rfl⟩
 have hM0:H++List.replicate 1 Ze.pend=H++[knB []]:=by simp [knB]
 rw [hM0]
 refine Zc (fun f H'=>H'=H++[knB [],bP,bz]∧f 1=.bp (H.length+1) 0∧f 2=.bp (H.length+2) 0) (by kernel_rfl) ?_ ?_
 ·rw [hbz,hbP]
  simp -dsimp [ZJ,Pg.cells]
 rintro g _ ⟨rfl,g1,g2⟩
 have v1:(H++[knB [],bP,bz])[H.length+1]?=some (.box 25 [Rg.sl rs,Fc.sl [F]]):=by rw [Yr,hbP];rfl
 obtain⟨V,hV⟩:∃V,V=H++[knB [],bP,bz]:=⟨_,rfl⟩
 have hVl:V.length=H.length+3:=by rw [hV];simp
 rw [←hV] at v1 ⊢
 refine Zc (fun f H'=>H'=V++[bF]∧f 1=.bp (H.length+1) 0∧f 2=.bp (H.length+2) 0∧f 4=.bp V.length 0) (by kernel_rfl) ?_ ?_
 ·have e:Fc.sl [F]=.vs 5 [[St F.name,Vr.sl F.params,Vr.sl F.vars,St.sl F.rets,Sm.sl F.body]]:=rfl
  rw [e] at v1
  simp -dsimp [g1,g2,v1,hbF]
 clear g g1 g2 v1
 rw [hVl,hV,List.append_assoc]
 clear hVl hV V
 rintro g _ ⟨rfl,g1,g2,g4⟩
 show X6 _ _ _ _ _ (H++[knB [],bP,bz,bF]) _
 obtain⟨M,hM⟩:∃M:KL→Ze→List Ze,M=fun k b=>H++[knB k,bP,bz,b]:=⟨_,rfl⟩
 have hMe:∀k b,M k b=H++[knB k,bP,bz,b]:=fun k b=>by rw [hM]
 have m0:∀k b,(M k b)[H.length]?=some (knB k):=fun k b=>by rw [hMe];simp
 have m3:∀k b,(M k b)[H.length+3]?=some b:=fun k b=>by rw [hMe,Yr];rfl
 have m3':∀k,(M k bF)[H.length+3]?=some (.box 56 [St F.name,Vr.sl F.params,Vr.sl F.vars,St.sl F.rets,Sm.sl F.body]):=fun k=>by rw [m3,hbF]
 have s0:∀k k' b,(M k b).set H.length (knB k')=M k' b:=fun k k' b=>by rw [hMe,hMe];simp
 rw [←hMe]
 clear hM
 refine Zc (fun f H'=>H'=M [] bF∧f 1=.bp (H.length+1) 0∧f 2=.bp (H.length+2) 0∧f 4=.bp (H.length+3) 0∧f 5=Yp) (by kernel_rfl) ?_ ?_
 ·simp -dsimp [g1,g2,g4]
 clear g g1 g2 g4
 rintro g _ ⟨rfl,g1,g2,g4,g5⟩
 refine Z4 (fun f H'=>H'=M (Zbs F.vars) bF∧f 1=.bp (H.length+1) 0∧f 2=.bp (H.length+2) 0∧f 4=.bp (H.length+3) 0∧f 5=knS H.length (Zbs F.vars)) ?_ ?_
 ·refine YH (fun d=>d==37) (fun _=>none) (by kernel_rfl) ?_
  simp -dsimp [g1,g2,g4,g5]
  refine Ju (hn:=fun d=>d==37) (od:=fun _=>none) (fun (i:Nat) f H'=>H'=M (Zbs (F.vars.take i)) bF∧f 1=.bp (H.length+1) 0∧f 2=.bp (H.length+2) 0∧f 4=.bp (H.length+3) 0∧f 5=knS H.length (Zbs (F.vars.take i))∧f 6=I i∧i≤F.vars.length) (fun i=>F.vars.length-i) (by kernel_rfl) 0 (by
   refine⟨rfl,?_,?_,?_,?_,?_,by omega⟩<;>simp [g1,g2,g4,g5,Zbs,knS]) ?_
  clear g g1 g2 g4 g5
  rintro i g _ ⟨rfl,g1,g2,g4,g5,g6,hi⟩
  simp -dsimp [g1,g2,g4,g5,g6,m3']
  refine Zb (fun hlt=>?_) (fun hlt=>?_)
  ·have e1:=List.getElem?_eq_getElem hlt
   have hT:=ZmH hlt
   have hl2:(Zbs (F.vars.take i)).length≤F.vars.length:=Nat.le_trans (Zj2 _) (by simp;omega)
   obtain⟨x,hx⟩:∃x,x=F.vars[i]:=⟨_,rfl⟩
   rw [←hx] at e1 hT
   obtain⟨k,hk⟩:∃k,k=Zbs (F.vars.take i):=⟨_,rfl⟩
   rw [←hk] at hT g5 hl2 ⊢
   clear hx
   by_cases hv:x.kind=1
   ·rw [if_pos hv] at hT
    simp -dsimp [g1,g2,g4,g5,g6,m3',e1,hv]
    refine ZD (k:=H.length) (es:=k.map knC) (by rw [m0]) (by simp;omega) (by simp;omega) ?_
    have hsb:k.map knC++[[St x.name,U 0]]=(k++[(x.name,(0:Int))]).map knC:=by simp
    rw [hsb,s0]
    simp -dsimp [g1,g2,g4,g5,g6]
    exact⟨i+1,by omega,by rw [hT],by rw [hT,knS,←hsb],ZC (by omega),by omega⟩
   ·have hvb:(x.kind==1)=false:=by simpa using hv
    rw [if_neg hv] at hT
    simp -dsimp [g1,g2,g4,g5,g6,m3',e1,hvb]
    exact⟨i+1,by omega,by rw [hT],by rw [hT],ZC (by omega),by omega⟩
  ·have hall:F.vars.take i=F.vars:=List.take_of_length_le (by omega)
   rw [hall] at g5 ⊢
   simp -dsimp [g1,g2,g4,g5]
 clear g g1 g2 g4 g5
 rintro g _ ⟨rfl,g1,g2,g4,g5⟩
 obtain⟨k,hk⟩:∃k,k=Zbs F.vars:=⟨_,rfl⟩
 rw [←hk] at g5 z1 z2 hzl ⊢
 rw [hMe]
 refine ZbI hu 0 2 122 (k.map knC) rfl (Zhf k) 5 g5 ?_
 intro L' f' a5 af hl hg
 have a1:f' 1=.bp (H.length+1) 0:=by rw [af 1 (by omega),g1];exact Zfq _ _ _ _ _
 have a2:f' 2=.bp (H.length+2) 0:=by rw [af 2 (by omega),g2];exact Zfq _ _ _ _ _
 have a4:f' 4=.bp (H.length+3) 0:=by rw [af 4 (by omega),g4];exact Zfq _ _ _ _ _
 obtain⟨b0,rfl⟩:∃b0,L'=[b0,bP,bz,bF]:=by
  have e1:=hg 1 bP (by omega) rfl (by rw [hbP];rfl)
  have e2:=hg 2 bz (by omega) rfl (by rw [hbz];rfl)
  have e3:=hg 3 bF (by omega) rfl (by rw [hbF];rfl)
  match L',hl,e1,e2,e3 with
  |[a,b,c,d],_,e1,e2,e3=>
   simp only [List.getElem?_cons_succ,List.getElem?_cons_zero,Option.some.injEq] at e1 e2 e3
   subst e1 e2 e3
   exact⟨a,rfl⟩
 clear af hg hl g1 g2 g4 g5 m0 m3 m3' s0 hMe M
 obtain⟨M,hM⟩:∃M:Ze→Ze→List Ze,M=fun z b=>H++[b0,bP,z,b]:=⟨_,rfl⟩
 have hMe:∀z b,M z b=H++[b0,bP,z,b]:=fun z b=>by rw [hM]
 have m1:∀z b,(M z b)[H.length+1]?=some (.box 25 [Rg.sl rs,Fc.sl [F]]):=fun z b=>by rw [hMe,Yr,hbP];rfl
 have m2:∀z b,(M z b)[H.length+2]?=some z:=fun z b=>by rw [hMe,Yr];rfl
 have m3:∀z b,(M z b)[H.length+3]?=some b:=fun z b=>by rw [hMe,Yr];rfl
 have s2:∀z b z',(M z b).set (H.length+2) z'=M z' b:=fun z b z'=>by rw [hMe,hMe,YS];rfl
 have s3:∀z b b',(M z b).set (H.length+3) b'=M z b':=fun z b b'=>by rw [hMe,hMe,YS];rfl
 rw [←hMe]
 clear hM
 have cf:=fun M=>Zrm _ F.body k (Nat.lt_succ_self _) hbl hr ⟨K,hK⟩ z1 (by rw [z2];exact Zl6 _) (by omega) M
 rw [z2] at cf
 obtain⟨F',hF'⟩:∃F',F'=F.fold1:=⟨_,rfl⟩
 obtain⟨tm,htm⟩:∃tm,tm=F.terms1:=⟨_,rfl⟩
 have cf2:∀M,Zi Tryz.prog 51 [Sm.sl F.body,XK k] M (fun e H'=>∃k',e=.ret (.tup [Sm.sl F'.body,Tm.sl tm,XK k'])∧H'=M):=fun M=>(cf M).mono fun e H' ⟨k',h1,h2,_⟩=>⟨k',by rw [h1,hF',htm];rfl,h2⟩
 have hFc:F'.cells=[St F.name,Vr.sl F.params,Vr.sl F.vars,St.sl F.rets,Sm.sl F'.body]:=by rw [hF'];rfl
 rw [←hF',←htm]
 clear cf
 rw [hbF]
 refine Zk (by kernel_rfl) ?_
 simp -dsimp [a1,a2,a4,a5,m3]
 refine ZA (cf2 _) ?_
 rintro e M' ⟨k',rfl,rfl⟩
 rw [hbz]
 simp -dsimp [a1,a2,a4,m1,m2,m3,s2,s3]
 rw [hMe]
 refine ZR (.refl _) (Z2 rfl ⟨?_,rfl⟩)
 show AE.ret (.tup [.agg [Rg.sl rs,.vs 5 [[St F.name,Vr.sl F.params,Vr.sl F.vars,St.sl F.rets,Sm.sl F'.body]]],Tm.sl tm])=.ret (.tup [.agg [Rg.sl rs,.vs 5 [F'.cells]],Tm.sl tm])
 rw [hFc]
end Go.Proofs
