import Derived.Test.YtpibcbilkpoomaaGreatm15
set_option linter.all false
set_option maxHeartbeats 4000000
set_option maxRecDepth 100000
namespace Go.Mu
open Go.RowKit (Below)
section
variable {P:Program}
def Zjt (H:List Ze) (args args':List AV):Prop:=∀B w0 cx vals,Yl B w0 cx→cx.H=H→ZN cx false args vals→∃cx1,Yl B w0 cx1∧cx1.w=cx.w∧ZN cx1 false args' vals
theorem Zjt.refl (H:List Ze) (args:List AV):Zjt H args args:=fun B w0 cx vals h1 h2 h3=>⟨cx,h1,rfl,h3⟩
theorem Zjt.row {H:List Ze} {args args':List AV} (k sz:Nat) (t:TypeId) (es:List (List AV)) (hk:H[k]?=some (.row t sz es)) (hz:es.flatten.all AV.frzB=true) (h:Zjt (ZeU k sz es H) (Zam k sz es args) args'):Zjt H args args':=by
 intro B w0 cx vals h1 h2 h3
 subst h2
 obtain⟨cx1,a,b,c⟩:=h B w0 (cx.frz k sz es) vals (ZeX h1 hk hz) rfl (Zf6 h1 hk hz h3)
 exact⟨cx1,a,b,c⟩
theorem Zda {fid:FuncId} {args args':List AV} {H:List Ze} {x:Value} (hs:Zjt H args args') (hu:YZ 0 args'=true) (h:Zi P fid args' [] (fun e H'=>e=.ret (.v x)∧H'=[])):
 Zi P fid args H (fun e H'=>e=.ret (.v x)∧H'=H):=by
 intro B w0 cx vals h1 h2 h3
 subst h2
 obtain⟨cx1,a1,a2,a3⟩:=hs B w0 cx vals h1 rfl h3
 have e1:cx1.H=[]++cx1.H:=rfl
 have r1:=ZiJ e1 a3 hu
 have hr:Yl cx.w.heap.size cx.w (cx1.cut []):=by
  refine⟨?_,?_,fun b hb=>?_,fun k bl hk=>?_,fun k k' bl bl' hk=>?_⟩
  ·show Below _ cx.w cx1.w
   rw [a2];exact Below.refl _ _
  ·show _≤cx1.w.heap.size
   rw [a2];exact Nat.le_refl _
  ·exact a1.frz b hb
  ·simp [Cx.cut] at hk
  ·simp [Cx.cut] at hk
 have:=h cx.w.heap.size cx.w (cx1.cut []) vals hr rfl r1
 rw [show (cx1.cut []).w=cx.w from a2] at this
 refine this.mono fun e w' he=>?_
 cases e with
 |returned y=>
  obtain⟨cx',r,rfl,b1,b2,b3,b4,b5⟩:=he
  cases b4
  have hb:Below cx.w.heap.size cx.w cx'.w:=b1.below
  refine⟨{cx with w:=cx'.w},.v x,rfl,Zfb h1 hb,⟨fun b o x hf hc=>?_,fun b h=>h,fun k bl hk hf=>⟨bl,hk,hf,rfl⟩,fun k t sz es hk=>.inr ⟨es,hk,Nat.le_refl _,fun _=>⟨rfl,rfl⟩⟩⟩,?_,rfl,rfl⟩
  ·show cx'.w.cell? _=_
   rw [hb.cell (h1.frz b hf)];exact hc
  ·obtain rfl:=b3.v_inv
   exact .v _
 |panicked ch=>obtain⟨cx',x',y,rfl,b1,b2,b3,b4,b5,b6⟩:=he;cases b5
 |outgrown=>exact he
end
end Go.Mu
namespace Go.Proofs
open Go.Mu
theorem Zfe {α:Type} {p:α→Bool} {l:List α} {i:Nat} (h:i<l.length):(l.drop i).any p=(p l[i]||(l.drop (i+1)).any p):=by rw [Zo h,List.any_cons]
theorem Zcn (l:List ByteArray) (s:ByteArray) (hl:l.length≤2^40) (H:List Ze):Zi Tryz.prog 62 [St.sl l,St s] H (fun e H'=>e=.ret (Bo (l.any fun x=>decide (s=x)))∧H'=H):=by
 refine Zg Tryz.func62 rfl (by kernel_rfl) ?_
 simp -dsimp
 obtain⟨B,hB⟩:∃B,B=l.any fun x=>decide (s=x):=⟨_,rfl⟩
 rw [←hB]
 refine Zv (fun (i:Nat) f H'=>H=H'∧f 0=St.sl l∧f 1=St s∧f 5=I i∧i≤l.length∧(l.drop i).any (fun x=>decide (s=x))=B) (fun i=>l.length-i) (by kernel_rfl) 0 (by simp [hB]) ?_
 rintro i f _ ⟨rfl,h0,h1,h5,hi,hinv⟩
 simp -dsimp [h0,h1,h5]
 refine Zb (fun hlt=>?_) (fun hlt=>?_)
 ·rw [Zfe hlt] at hinv
  simp -dsimp [h0,h1,h5,List.getElem?_eq_getElem,hlt]
  refine Zb (fun hp=>?_) (fun hp=>?_)
  ·simp -dsimp
   rw [←hinv];simp [hp]
  ·simp -dsimp [h0,h1,h5]
   rw [decide_eq_false (fun e=>hp e.symm),Bool.false_or] at hinv
   exact⟨i+1,by omega,ZC (by omega),by omega,hinv⟩
 ·simp -dsimp
  rw [ZI hlt] at hinv
  exact hinv.symm
theorem ZsH (s:ByteArray) (H:List Ze):Zi Tryz.prog 100 [St s] H (fun e H'=>e=.ret (Bo (Zk5.any fun x=>decide (s=x)))∧H'=H):=by
 refine Zg Tryz.func100 rfl (by kernel_rfl) ?_
 simp -dsimp
 obtain⟨B,hB⟩:∃B,B=Zk5.any fun x=>decide (s=x):=⟨_,rfl⟩
 rw [←hB]
 have hl:Zk5.length=11:=rfl
 refine Zv (fun (i:Nat) f H'=>H=H'∧f 0=St s∧f 3=St.sl Zk5∧f 4=I i∧i≤11∧(Zk5.drop i).any (fun x=>decide (s=x))=B) (fun i=>11-i) (by kernel_rfl) 0 (by simp [hB];rfl) ?_
 rintro i f _ ⟨rfl,h0,h3,h4,hi,hinv⟩
 simp -dsimp [h0,h3,h4,hl]
 refine Zb (fun hlt=>?_) (fun hlt=>?_)
 ·have hlt':i<Zk5.length:=by rw [hl];omega
  rw [Zfe hlt'] at hinv
  simp -dsimp [h0,h3,h4,List.getElem?_eq_getElem,hlt']
  refine Zb (fun hp=>?_) (fun hp=>?_)
  ·simp -dsimp
   rw [←hinv];simp [hp]
  ·simp -dsimp [h0,h3,h4]
   rw [decide_eq_false (fun e=>hp e.symm),Bool.false_or] at hinv
   exact⟨i+1,by omega,ZC (by omega),by omega,hinv⟩
 ·simp -dsimp
  rw [ZI (by rw [hl];omega)] at hinv
  exact hinv.symm
theorem ZlC (b:UInt8):ZiB b=true↔((b.toNat:Int)<97∨122<(b.toNat:Int))∧((b.toNat:Int)<48∨57<(b.toNat:Int))∧(b.toNat:Int)≠95:=by
 unfold ZiB
 simp [and_assoc]
theorem Zid (s:ByteArray) (hs:s.size≤2^40) (H:List Ze):Zi Tryz.prog 61 [St s] H (fun e H'=>e=.ret (Bo (XV s))∧H'=H):=by
 refine Z0 Tryz.func61 rfl (by kernel_rfl) ?_
 have co:=fun H=>ZsH s H
 obtain⟨⟨l⟩⟩:=s
 have hs:l.length≤2^40:=hs
 refine Zc (fun f H'=>H=H'∧f 0=St ⟨⟨l⟩⟩) (by kernel_rfl) ?_ ?_
 ·simp -dsimp
 rintro g _ ⟨rfl,g0⟩
 refine Zc (fun f H'=>H=H'∧f 0=St ⟨⟨l⟩⟩∧XV ⟨⟨l⟩⟩= !l.any ZiB) (by kernel_rfl) ?_ ?_
 ·cases l with
  |nil=>
   simp -dsimp [g0]
   rfl
  |cons b l=>
   simp -dsimp [g0]
   repeat' ((with_reducible first|refine And.intro ?_ ?_|refine Zm (fun _=>?_) (fun _=>?_)|refine Zn (fun _=>?_) (fun _=>?_)|refine Zb (fun _=>?_) (fun _=>?_)|refine Zr (fun _=>?_) (fun _ _ _=>?_)|refine Zt (fun _=>?_) (fun _ _ _=>?_)|refine Zq (fun _=>?_) (fun _ _ _=>?_)|refine Zs (fun _ _ _=>?_) (fun _=>?_)|refine Zp (fun _ _ _=>?_) (fun _=>?_)|refine Zl (fun _ _ _=>?_) (fun _=>?_)|refine Zz (fun _=>?_) (fun _=>?_)|refine Zy (fun _=>?_) (fun _=>?_)|refine Z6 (fun _=>?_) (fun _=>?_)|refine Zw (fun _=>?_) (fun _=>?_)|refine Zx (fun _=>?_) (fun _=>?_)|refine Z3 (fun _=>?_) (fun _=>?_)|refine Za (co _) ?_|refine Zd (co _) ?_)<;>simp -dsimp [g0, *])
   all_goals first
    |(exfalso;omega)
    |(simp [XV,ZqD, *];done)
    |(simp [XV,ZqD, *];intros;omega)
    |trace_state
 clear g g0
 rintro g _ ⟨rfl,g0,hN⟩
 rw [hN]
 obtain⟨B,hB⟩:∃B,B=l.any ZiB:=⟨_,rfl⟩
 rw [←hB]
 clear hN
 refine Zk (by kernel_rfl) ?_
 simp -dsimp [g0]
 refine Zv (fun (i:Nat) f H'=>H=H'∧f 0=St ⟨⟨l⟩⟩∧f 3=I i∧i≤l.length∧(l.drop i).any ZiB=B) (fun i=>l.length-i) (by kernel_rfl) 0 (by simp [hB,g0]) ?_
 clear g g0 hB
 rintro i f _ ⟨rfl,h0,h3,hi,hinv⟩
 simp -dsimp [h0,h3]
 refine Zb (fun hlt=>?_) (fun hlt=>?_)
 ·rw [Zfe hlt] at hinv
  obtain⟨b,hb⟩:∃b,b=l[i]:=⟨_,rfl⟩
  rw [←hb] at hinv
  replace hinv:=YE.mk hinv
  clear co
  simp -dsimp [h0,h3,List.getElem?_eq_getElem,hlt,←hb]
  replace hb:=YE.mk hb
  repeat' ((with_reducible first|refine And.intro ?_ ?_|refine Zm (fun _=>?_) (fun _=>?_)|refine Zn (fun _=>?_) (fun _=>?_)|refine Zb (fun _=>?_) (fun _=>?_)|refine Zr (fun _=>?_) (fun _ _ _=>?_)|refine Zt (fun _=>?_) (fun _ _ _=>?_)|refine Zq (fun _=>?_) (fun _ _ _=>?_)|refine Zs (fun _ _ _=>?_) (fun _=>?_)|refine Zp (fun _ _ _=>?_) (fun _=>?_)|refine Zl (fun _ _ _=>?_) (fun _=>?_)|refine Zz (fun _=>?_) (fun _=>?_)|refine Zy (fun _=>?_) (fun _=>?_)|refine Z6 (fun _=>?_) (fun _=>?_)|refine Zw (fun _=>?_) (fun _=>?_)|refine Zx (fun _=>?_) (fun _=>?_)|refine Z3 (fun _=>?_) (fun _=>?_))<;>simp -dsimp [h0,h3, *])
  all_goals replace hinv:=hinv.out
  all_goals try simp only [beq_iff_eq,beq_eq_false_iff_ne,ne_eq] at*
  all_goals first
   |(have e:ZiB b=true:=by rw [ZlC];omega
     rw [e] at hinv
     rw [←hinv];rfl)
   |(have e:ZiB b=false:=by rw [Bool.eq_false_iff,ne_eq,ZlC];omega
     rw [e,Bool.false_or] at hinv
     exact⟨i+1,by omega,ZC (by omega),by omega,hinv⟩)
   |trace_state
 ·simp -dsimp
  rw [ZI hlt] at hinv
  rw [←hinv];rfl
theorem Znd (f:Fc) (s:ByteArray) (hl:f.params.length≤2^40) (H:List Ze):Zi Tryz.prog 223 [.agg f.cells,St s] H (fun e H'=>e=.ret (Bo (f.params.any fun v=>decide (v.name=s)))∧H'=H):=by
 refine Zf (Zg Tryz.func223 rfl (by kernel_rfl) ?_)
 obtain⟨B,hB⟩:∃B,B=f.params.any fun v=>decide (v.name=s):=⟨_,rfl⟩
 rw [←hB]
 obtain⟨M,hM⟩:∃M,M=H++[.box 56 f.cells]:=⟨_,rfl⟩
 have hMb:M[H.length]?=some (.box 56 f.cells):=by rw [hM];simp
 have fin:∀b,b=B→ZW H (fun e H'=>e=.ret (Bo B)∧H'=H) (.ret (Bo b)) M:=fun b hb=>by rw [hM,hb];exact Z2 rfl ⟨rfl,rfl⟩
 simp only [Fc.cells] at hM hMb
 simp -dsimp
 rw [←hM]
 refine Zv (fun (i:Nat) g H'=>M=H'∧g 2=.bp H.length 0∧g 1=St s∧g 5=I i∧i≤f.params.length∧(f.params.drop i).any (fun v=>decide (v.name=s))=B) (fun i=>f.params.length-i) (by kernel_rfl) 0 (by simp [hB]) ?_
 clear hB hM
 rintro i g _ ⟨rfl,h2,h1,h5,hi,hinv⟩
 simp -dsimp [h1,h2,h5,hMb]
 refine Zb (fun hlt=>?_) (fun hlt=>?_)
 ·rw [Zfe hlt] at hinv
  simp -dsimp [h1,h2,h5,hMb,List.getElem?_eq_getElem,hlt]
  refine Zb (fun hp=>?_) (fun hp=>?_)
  ·simp -dsimp
   exact fin _ (by rw [←hinv];simp [hp])
  ·simp -dsimp [h1,h2,h5]
   rw [decide_eq_false hp,Bool.false_or] at hinv
   exact⟨i+1,by omega,ZC (by omega),by omega,hinv⟩
 ·simp -dsimp
  rw [ZI hlt] at hinv
  exact fin _ hinv
theorem ZbR (e:Ex) (H:List Ze):Zi Tryz.prog 169 [.agg e.cells] H (fun x H'=>x=.ret (Bo (ZbS e))∧H'=H):=by
 refine Zf (Zg Tryz.func169 rfl (by kernel_rfl) ?_)
 simp -dsimp
 repeat' ((with_reducible first|refine And.intro ?_ ?_|refine Zm (fun _=>?_) (fun _=>?_)|refine Zn (fun _=>?_) (fun _=>?_)|refine Zb (fun _=>?_) (fun _=>?_)|refine Zr (fun _=>?_) (fun _ _ _=>?_)|refine Zt (fun _=>?_) (fun _ _ _=>?_)|refine Zq (fun _=>?_) (fun _ _ _=>?_)|refine Zs (fun _ _ _=>?_) (fun _=>?_)|refine Zp (fun _ _ _=>?_) (fun _=>?_)|refine Zl (fun _ _ _=>?_) (fun _=>?_)|refine Zz (fun _=>?_) (fun _=>?_)|refine Zy (fun _=>?_) (fun _=>?_)|refine Z6 (fun _=>?_) (fun _=>?_)|refine Zw (fun _=>?_) (fun _=>?_)|refine Zx (fun _=>?_) (fun _=>?_)|refine Z3 (fun _=>?_) (fun _=>?_))<;>simp -dsimp [*])
 all_goals exact Z2 rfl ⟨by simp [ZbS, *],rfl⟩
theorem ZqQ (op:Int) (H:List Ze):Zi Tryz.prog 248 [I op] H (fun e H'=>e=.ret (I (Za4 op))∧H'=H):=by
 refine Zf (Zg Tryz.func248 rfl (by kernel_rfl) ?_)
 simp -dsimp
 repeat' ((with_reducible first|refine And.intro ?_ ?_|refine Zm (fun _=>?_) (fun _=>?_)|refine Zn (fun _=>?_) (fun _=>?_)|refine Zb (fun _=>?_) (fun _=>?_)|refine Zr (fun _=>?_) (fun _ _ _=>?_)|refine Zt (fun _=>?_) (fun _ _ _=>?_)|refine Zq (fun _=>?_) (fun _ _ _=>?_)|refine Zs (fun _ _ _=>?_) (fun _=>?_)|refine Zp (fun _ _ _=>?_) (fun _=>?_)|refine Zl (fun _ _ _=>?_) (fun _=>?_)|refine Zz (fun _=>?_) (fun _=>?_)|refine Zy (fun _=>?_) (fun _=>?_)|refine Z6 (fun _=>?_) (fun _=>?_)|refine Zw (fun _=>?_) (fun _=>?_)|refine Zx (fun _=>?_) (fun _=>?_)|refine Z3 (fun _=>?_) (fun _=>?_))<;>simp -dsimp [*])
 all_goals refine Z7 rfl ⟨?_,rfl⟩
 all_goals unfold Za4
 all_goals congr 2
 all_goals repeat' split
 all_goals first|rfl|omega|trace_state
end Go.Proofs
namespace Go.Proofs
open Go.Mu
theorem Zhn (f:Fc) (hp:f.params.length≤2^36) (hv:f.vars.length≤2^36) (H:List Ze):Zi Tryz.prog 60 [.agg f.cells] H (fun e H'=>e=.ret (Vr.sl (f.params++f.vars))∧H'=H):=by
 refine Ya fun hu _=>Zf (ZU (Yv 1 (J4 (hn:=fun d=>d==5||d==8) (od:=fun i=>if i=1 then some [(0,[]),(1,[]),(3,[]),(4,[]),(2,[3,4]),(5,[]),(6,[])] else none) Tryz.func60 rfl (by kernel_rfl) ?_)))
 have done:∀ (ws:List Vr) L,ws=f.params++f.vars→Zao (ZW H fun e H'=>e=AE.ret (Vr.sl (f.params++f.vars))∧H'=H) (.ret (Yo H.length (ws.map Vr.cells))) (H++Yn 120 4 (ws.map Vr.cells)::L):=fun ws L e=>by
  subst e
  by_cases hw:f.params++f.vars=[]
  ·rw [hw]
   refine ZR (.nil 4) ?_
   exact Z2 rfl ⟨rfl,rfl⟩
  ·have hne:(f.params++f.vars).map Vr.cells≠[]:=by simpa using hw
   have hz:((f.params++f.vars).map Vr.cells).flatten.all AV.frzB=true:=by
    rw [List.all_eq_true]
    intro c hc
    obtain⟨b,hb,hcb⟩:=List.mem_flatten.1 hc
    obtain⟨v,_,rfl⟩:=List.mem_map.1 hb
    simp at hcb
    rcases hcb with rfl|rfl|rfl|rfl<;>rfl
   refine ZR (.refl _) ?_
   rw [Yn,if_neg hne]
   refine Zav hu 4 _ _ hz ?_ ?_
   ·rw [JV _ _ _ hne];rfl
   ·rw [JV _ _ _ hne];exact⟨rfl,rfl⟩
 simp -dsimp
 refine Zdl H.length (by simp) (by simp;omega) (by simp;omega) ?_
 simp -dsimp
 refine ZD (es:=f.params.map Vr.cells) (by simp) (by simp;omega) (by simp;omega) ?_
 simp -dsimp
 rw [←List.map_append]
 exact done _ _ rfl
def ZeA:List Vr→ByteArray→Int
 |[],_=>0
 |v::l,n=>if v.name=n then (if v.kind=1 then 1 else 2) else ZeA l n
def Zhr:List Rg→ByteArray→Int
 |[],_=>0
 |r::l,n=>if r.name=n then 3 else Zhr l n
def ZdJ (rs:List Rg) (vs:List Vr) (n:ByteArray):Int:=if ZeA vs n=0 then Zhr rs n else ZeA vs n
theorem ZnD (p:Pg) (k:Nat) (n:ByteArray) (hp:p.Ok) (hk:k<p.funcs.length) (H:List Ze):Zi Tryz.prog 247 [.agg p.cells,I k,St n] H (fun e H'=>(∃i,e=.ret (.tup [I (ZdJ p.regions (p.funcs[k].params++p.funcs[k].vars) n),I i]))∧H'=H):=by
 refine Zf (Z0 Tryz.func247 rfl (by kernel_rfl) ?_)
 obtain⟨M,hM⟩:∃M,M=H++[.box 25 p.cells]:=⟨_,rfl⟩
 have hMb:M[H.length]?=some (.box 25 p.cells):=by rw [hM];simp
 obtain⟨F,hF⟩:∃F,F=p.funcs[k]:=⟨_,rfl⟩
 have h1:=hp.params _ (List.getElem_mem hk)
 have h2:=hp.vars _ (List.getElem_mem hk)
 have h3:=hp.regions
 rw [←hF] at h1 h2 ⊢
 obtain⟨vs,hvs⟩:∃vs,vs=F.params++F.vars:=⟨_,rfl⟩
 have hvl:vs.length≤2^40:=by rw [hvs];simp;omega
 have cv:=fun H=>Zhn F h1 h2 H
 simp only [Fc.cells] at cv
 rw [←hvs] at cv ⊢
 obtain⟨K,hK⟩:∃K,K=ZdJ p.regions vs n:=⟨_,rfl⟩
 rw [←hK]
 have fin:∀c i,c=K→ZW H (fun e H'=>(∃i,e=.ret (.tup [I K,I i]))∧H'=H) (.ret (.tup [I c,I i])) M:=fun c i hc=>by rw [hM,hc];exact Z2 rfl ⟨⟨i,rfl⟩,rfl⟩
 simp only [Pg.cells] at hM hMb
 refine Zc (fun f H'=>M=H'∧f 3=.bp H.length 0∧f 1=I k∧f 2=St n) (by kernel_rfl) ?_ ?_
 ·simp -dsimp [hM]
 clear hM
 rintro g _ ⟨rfl,g3,g1,g2⟩
 refine Zc (fun f H'=>M=H'∧f 3=.bp H.length 0∧f 2=St n∧f 8=Vr.sl vs) (by kernel_rfl) ?_ ?_
 ·simp -dsimp [g1,g2,g3,hMb,List.getElem?_eq_getElem,hk,←hF]
  refine Za (cv _) ?_
  simp -dsimp [g1,g2,g3]
 clear g g1 g2 g3 hF cv hvs h1 h2
 rintro g _ ⟨rfl,g3,g2,g8⟩
 refine Zc (fun f H'=>M=H'∧f 3=.bp H.length 0∧f 2=St n∧ZeA vs n=0) (by kernel_rfl) ?_ ?_
 ·simp -dsimp [g2,g3,g8]
  refine Zv (fun (i:Nat) f H'=>M=H'∧f 3=.bp H.length 0∧f 2=St n∧f 8=Vr.sl vs∧f 9=I i∧i≤vs.length∧ZeA (vs.drop i) n=ZeA vs n) (fun i=>vs.length-i) (by kernel_rfl) 0 (by simp [g2,g3,g8]) ?_
  clear g g2 g3 g8
  rintro i g _ ⟨rfl,g3,g2,g8,g9,hi,hinv⟩
  simp -dsimp [g2,g3,g8,g9]
  refine Zb (fun hlt=>?_) (fun hlt=>?_)
  ·rw [Zo hlt,ZeA] at hinv
   simp -dsimp [g2,g3,g8,g9,List.getElem?_eq_getElem,hlt]
   refine Zb (fun hp=>?_) (fun hp=>?_)
   ·rw [if_pos hp] at hinv
    simp -dsimp [g2,g3,g8,g9,List.getElem?_eq_getElem,hlt]
    refine Zq (fun hk1=>?_) (fun hk1 _ _=>?_)
    ·rw [if_pos hk1] at hinv
     simp -dsimp [g2,g3,g8,g9]
     exact fin _ _ (by rw [hK,ZdJ,←hinv];rfl)
    ·rw [if_neg hk1] at hinv
     simp -dsimp [g2,g3,g8,g9]
     exact fin _ _ (by rw [hK,ZdJ,←hinv];rfl)
   ·rw [if_neg hp] at hinv
    simp -dsimp [g2,g3,g8,g9]
    exact⟨i+1,by omega,ZC (by omega),by omega,hinv⟩
  ·rw [ZI hlt,ZeA] at hinv
   simp -dsimp [g2,g3]
   exact hinv.symm
 clear g g2 g3 g8
 rintro g _ ⟨rfl,g3,g2,h0⟩
 rw [ZdJ,if_pos h0] at hK
 refine Zk (by kernel_rfl) ?_
 simp -dsimp [g2,g3]
 refine Zv (fun (i:Nat) f H'=>M=H'∧f 3=.bp H.length 0∧f 2=St n∧f 10=I i∧i≤p.regions.length∧Zhr (p.regions.drop i) n=K) (fun i=>p.regions.length-i) (by kernel_rfl) 0 (by simp [g2,g3,hK]) ?_
 clear g g2 g3
 rintro i g _ ⟨rfl,g3,g2,g10,hi,hinv⟩
 simp -dsimp [g2,g3,g10,hMb]
 refine Zb (fun hlt=>?_) (fun hlt=>?_)
 ·rw [Zo hlt,Zhr] at hinv
  simp -dsimp [g2,g3,g10,hMb,List.getElem?_eq_getElem,hlt]
  refine Zb (fun hp=>?_) (fun hp=>?_)
  ·rw [if_pos hp] at hinv
   simp -dsimp [g2,g3,g10]
   exact fin _ _ hinv
  ·rw [if_neg hp] at hinv
   simp -dsimp [g2,g3,g10]
   exact⟨i+1,by omega,ZC (by omega),by omega,hinv⟩
 ·rw [ZI hlt,Zhr] at hinv
  simp -dsimp [g2,g3]
  exact fin _ _ hinv
def Zou (k:Int):Int:=if k=0 then 8 else if k=1 then 0 else 9
def Zka (k:Int):Int:=if k=0 then 8 else if k=1 then 9 else 0
theorem ZhR (p:Pg) (k:Nat) (n:ByteArray) (hp:p.Ok) (hk:k<p.funcs.length) (H:List Ze):Zi Tryz.prog 220 [.agg p.cells,I k,St n] H (fun e H'=>e=.ret (I (Zou (ZdJ p.regions (p.funcs[k].params++p.funcs[k].vars) n)))∧H'=H):=by
 refine Zf (Zg Tryz.func220 rfl (by kernel_rfl) ?_)
 have cf:=fun H=>ZnD p k n hp hk H
 simp only [Pg.cells] at cf
 simp -dsimp
 refine ZA (cf _) ?_
 rintro _ _ ⟨⟨i,rfl⟩,rfl⟩
 simp -dsimp
 repeat' ((with_reducible first|refine And.intro ?_ ?_|refine Zm (fun _=>?_) (fun _=>?_)|refine Zn (fun _=>?_) (fun _=>?_)|refine Zb (fun _=>?_) (fun _=>?_)|refine Zr (fun _=>?_) (fun _ _ _=>?_)|refine Zt (fun _=>?_) (fun _ _ _=>?_)|refine Zq (fun _=>?_) (fun _ _ _=>?_)|refine Zs (fun _ _ _=>?_) (fun _=>?_)|refine Zp (fun _ _ _=>?_) (fun _=>?_)|refine Zl (fun _ _ _=>?_) (fun _=>?_)|refine Zz (fun _=>?_) (fun _=>?_)|refine Zy (fun _=>?_) (fun _=>?_)|refine Z6 (fun _=>?_) (fun _=>?_)|refine Zw (fun _=>?_) (fun _=>?_)|refine Zx (fun _=>?_) (fun _=>?_)|refine Z3 (fun _=>?_) (fun _=>?_))<;>simp -dsimp [*])
 all_goals exact Z2 rfl ⟨by simp [Zou, *],rfl⟩
theorem ZjM (p:Pg) (k:Nat) (n:ByteArray) (hp:p.Ok) (hk:k<p.funcs.length) (H:List Ze):Zi Tryz.prog 222 [.agg p.cells,I k,St n] H (fun e H'=>e=.ret (I (Zka (ZdJ p.regions (p.funcs[k].params++p.funcs[k].vars) n)))∧H'=H):=by
 refine Zf (Zg Tryz.func222 rfl (by kernel_rfl) ?_)
 have cf:=fun H=>ZnD p k n hp hk H
 simp only [Pg.cells] at cf
 simp -dsimp
 refine ZA (cf _) ?_
 rintro _ _ ⟨⟨i,rfl⟩,rfl⟩
 simp -dsimp
 repeat' ((with_reducible first|refine And.intro ?_ ?_|refine Zm (fun _=>?_) (fun _=>?_)|refine Zn (fun _=>?_) (fun _=>?_)|refine Zb (fun _=>?_) (fun _=>?_)|refine Zr (fun _=>?_) (fun _ _ _=>?_)|refine Zt (fun _=>?_) (fun _ _ _=>?_)|refine Zq (fun _=>?_) (fun _ _ _=>?_)|refine Zs (fun _ _ _=>?_) (fun _=>?_)|refine Zp (fun _ _ _=>?_) (fun _=>?_)|refine Zl (fun _ _ _=>?_) (fun _=>?_)|refine Zz (fun _=>?_) (fun _=>?_)|refine Zy (fun _=>?_) (fun _=>?_)|refine Z6 (fun _=>?_) (fun _=>?_)|refine Zw (fun _=>?_) (fun _=>?_)|refine Zx (fun _=>?_) (fun _=>?_)|refine Z3 (fun _=>?_) (fun _=>?_))<;>simp -dsimp [*])
 all_goals exact Z2 rfl ⟨by simp [Zka, *],rfl⟩
end Go.Proofs
namespace Go.Proofs
open Go.Mu
structure Zel (p:Pg) (k:Nat) (hk:k<p.funcs.length) (tv:List (ByteArray×Vr)) (ta:List (ByteArray×Bool)):Prop where
 word:∀n,ZaL tv ta n=Zou (ZdJ p.regions (p.funcs[k].params++p.funcs[k].vars) n)
 array:∀n,Zbb tv ta n=Zka (ZdJ p.regions (p.funcs[k].params++p.funcs[k].vars) n)
def Zhw (e:Ex):Int:=ZK (ZM (decide (0≤Za4 e.op)&&(e.args.length:Int)==Za4 e.op) 9) (ZM (e.op==1||e.word==0) 9)
def Zoa (tv:List (ByteArray×Vr)) (ta:List (ByteArray×Bool)) (e:Ex):Int:=if e.op=2 then ZaL tv ta e.name else if e.op=3 then Zbb tv ta e.name else ZM e.name.toList.isEmpty 9
theorem Ex.chk_eq2 (tv:List (ByteArray×Vr)) (ta:List (ByteArray×Bool)) (deep:Nat) (e:Ex):e.chk tv ta deep=ZK (ZM (decide ((deep:Int)≤64)) 12) (ZK (Zhw e) (ZK (Zoa tv ta e) (Xj tv ta (deep+1) e.args))):=by
 rw [Ex.chk_eq,Zhw,Ys];rfl
theorem Zlz (e:Ex):Zhw e=if 0≤Za4 e.op∧(e.args.length:Int)=Za4 e.op∧(e.op=1∨e.word=0) then 0 else 9:=by
 unfold Zhw ZM
 simp only [Bool.and_eq_true,Bool.or_eq_true,decide_eq_true_eq,beq_iff_eq]
 by_cases h1:0≤Za4 e.op∧(e.args.length:Int)=Za4 e.op
 ·rw [if_pos h1,Zj]
  by_cases h2:e.op=1∨e.word=0
  ·rw [if_pos h2,if_pos ⟨h1.1,h1.2,h2⟩]
  ·rw [if_neg h2,if_neg (fun h=>h2 h.2.2)]
 ·rw [if_neg h1,Zu (by decide),if_neg (fun h=>h1 ⟨h.1,h.2.1⟩)]
theorem Ztp {e:Ex} (h:0≤Za4 e.op∧(e.args.length:Int)=Za4 e.op∧(e.op=1∨e.word=0)):Zhw e=0:=by rw [Zlz,if_pos h]
theorem Zsq {e:Ex} (h: ¬(0≤Za4 e.op∧(e.args.length:Int)=Za4 e.op∧(e.op=1∨e.word=0))):Zhw e=9:=by rw [Zlz,if_neg h]
theorem Zif (p:Pg) (k:Nat) (hp:p.Ok) (hk:k<p.funcs.length) (tv:List (ByteArray×Vr)) (ta:List (ByteArray×Bool)) (hN:Zel p k hk tv ta) (m:Nat):∀ (e:Ex) (deep:Nat),e.count≤m→e.count≤2^40→deep≤65→∀ (H:List Ze),
 Zi Tryz.prog 221 [.agg p.cells,I k,.agg e.cells,I deep] H (fun x H'=>x=.ret (I (e.chk tv ta deep))∧H'=H):=by
 induction m with
 |zero=>intro e deep h;have:=Ex.count_eq e;omega
 |succ m ih=>
  intro e deep hm hc hd H
  refine Zf (Z0 Tryz.func221 rfl (by kernel_rfl) ?_)
  have hce:=Ex.count_eq e
  have hla:=Yy e.args
  obtain⟨M,hM⟩:∃M,M=H++[.box 25 p.cells,.box 73 e.cells]:=⟨_,rfl⟩
  have hMp:M[H.length]?=some (.box 25 p.cells):=by rw [hM];simp
  have hMe:M[H.length+1]?=some (.box 73 e.cells):=by rw [hM];simp
  obtain⟨E,hE⟩:∃E,E=e.chk tv ta deep:=⟨_,rfl⟩
  have fin:∀c,c=E→ZW H (fun x H'=>x=.ret (I E)∧H'=H) (.ret (I c)) M:=fun c hc=>by rw [hM,hc];exact Z2 rfl ⟨rfl,rfl⟩
  rw [←hE]
  rw [Ex.chk_eq2] at hE
  replace hE:=hE.symm
  have cw:=fun H=>ZhR p k e.name hp hk H
  have car:=fun H=>ZjM p k e.name hp hk H
  have ca:=fun H=>ZqQ e.op H
  rw [←hN.word] at cw
  rw [←hN.array] at car
  simp only [Pg.cells,Ex.cells_eq] at hM hMp hMe cw car
  refine Zc (fun f H'=>M=H'∧f 4=.bp H.length 0∧f 6=.bp (H.length+1) 0∧f 1=I k∧f 3=I deep) (by kernel_rfl) ?_ ?_
  ·simp -dsimp [hM]
  clear hM
  rintro g _ ⟨rfl,g4,g6,g1,g3⟩
  refine Zc (fun f H'=>M=H'∧f 4=.bp H.length 0∧f 6=.bp (H.length+1) 0∧f 1=I k∧f 3=I deep∧deep≤64) (by kernel_rfl) ?_ ?_
  ·simp -dsimp [g1,g3,g4,g6]
   refine Zb (fun h=>?_) (fun h=>?_)
   ·simp -dsimp
    rw [decide_eq_false (by omega),Y2,Zu (by decide)] at hE
    exact fin _ hE
   ·simp -dsimp [g1,g3,g4,g6]
    omega
  clear g g1 g3 g4 g6
  rintro g _ ⟨rfl,g4,g6,g1,g3,hd64⟩
  rw [decide_eq_true (by omega),Y0,Zj] at hE
  refine Zc (fun f H'=>M=H'∧f 4=.bp H.length 0∧f 6=.bp (H.length+1) 0∧f 1=I k∧f 3=I deep∧Zhw e=0) (by kernel_rfl) ?_ ?_
  ·replace hE:=YE.mk hE
   replace fin:=YE.mk fin
   replace cw:=YE.mk cw
   replace car:=YE.mk car
   replace ih:=YE.mk ih
   replace hN:=YE.mk hN
   simp -dsimp [g1,g3,g4,g6,hMe]
   repeat' ((with_reducible first|refine And.intro ?_ ?_|refine Zm (fun _=>?_) (fun _=>?_)|refine Zn (fun _=>?_) (fun _=>?_)|refine Zb (fun _=>?_) (fun _=>?_)|refine Zr (fun _=>?_) (fun _ _ _=>?_)|refine Zt (fun _=>?_) (fun _ _ _=>?_)|refine Zq (fun _=>?_) (fun _ _ _=>?_)|refine Zs (fun _ _ _=>?_) (fun _=>?_)|refine Zp (fun _ _ _=>?_) (fun _=>?_)|refine Zl (fun _ _ _=>?_) (fun _=>?_)|refine Zz (fun _=>?_) (fun _=>?_)|refine Zy (fun _=>?_) (fun _=>?_)|refine Z6 (fun _=>?_) (fun _=>?_)|refine Zw (fun _=>?_) (fun _=>?_)|refine Zx (fun _=>?_) (fun _=>?_)|refine Z3 (fun _=>?_) (fun _=>?_)|refine Za (ca _) ?_|refine Zd (ca _) ?_)<;>simp -dsimp [g1,g3,g4,g6,hMe, *])
   all_goals first
    |exact Ztp (by omega)
    |exact fin.out 9 (by have h:=hE.out;rw [Zsq (by omega),Zu (by decide)] at h;exact h)
  clear g g1 g3 g4 g6
  rintro g _ ⟨rfl,g4,g6,g1,g3,hkx⟩
  rw [hkx,Zj] at hE
  clear hkx ca
  refine Zc (fun f H'=>M=H'∧f 4=.bp H.length 0∧f 6=.bp (H.length+1) 0∧f 1=I k∧f 3=I deep∧f 9=I 0) (by kernel_rfl) ?_ ?_
  ·simp -dsimp [g1,g3,g4,g6]
  clear g g1 g3 g4 g6
  rintro g _ ⟨rfl,g4,g6,g1,g3,g9⟩
  refine Zc (fun f H'=>M=H'∧f 4=.bp H.length 0∧f 6=.bp (H.length+1) 0∧f 1=I k∧f 3=I deep∧f 9=I (Zoa tv ta e)) (by kernel_rfl) ?_ ?_
  ·replace hE:=YE.mk hE
   replace fin:=YE.mk fin
   replace ih:=YE.mk ih
   replace hN:=YE.mk hN
   simp -dsimp [g1,g3,g4,g6,g9,hMe,hMp]
   repeat' ((with_reducible first|refine And.intro ?_ ?_|refine Zm (fun _=>?_) (fun _=>?_)|refine Zn (fun _=>?_) (fun _=>?_)|refine Zb (fun _=>?_) (fun _=>?_)|refine Zr (fun _=>?_) (fun _ _ _=>?_)|refine Zt (fun _=>?_) (fun _ _ _=>?_)|refine Zq (fun _=>?_) (fun _ _ _=>?_)|refine Zs (fun _ _ _=>?_) (fun _=>?_)|refine Zp (fun _ _ _=>?_) (fun _=>?_)|refine Zl (fun _ _ _=>?_) (fun _=>?_)|refine Zz (fun _=>?_) (fun _=>?_)|refine Zy (fun _=>?_) (fun _=>?_)|refine Z6 (fun _=>?_) (fun _=>?_)|refine Zw (fun _=>?_) (fun _=>?_)|refine Zx (fun _=>?_) (fun _=>?_)|refine Z3 (fun _=>?_) (fun _=>?_)|refine Za (cw _) ?_|refine Zd (cw _) ?_|refine Za (car _) ?_|refine Zd (car _) ?_)<;>simp -dsimp [g1,g3,g4,g6,g9,hMe,hMp, *])
   all_goals first
    |(simp [Zoa,ZM, *];done)
    |trace_state
  clear g g1 g3 g4 g6 g9
  rintro g _ ⟨rfl,g4,g6,g1,g3,g9⟩
  obtain⟨X,hX⟩:∃X,X=Zoa tv ta e:=⟨_,rfl⟩
  rw [←hX] at hE g9
  clear hX
  have w2:IntKind.i64.wrap ((deep:Int)+1)=(deep:Int)+1:=YG (by omega) (by omega)
  refine Zk (by kernel_rfl) ?_
  simp -dsimp [g1,g3,g4,g6,g9]
  refine Zv (fun (i:Nat) f H'=>M=H'∧f 4=.bp H.length 0∧f 6=.bp (H.length+1) 0∧f 1=I k∧f 3=I deep∧f 10=I i∧i≤e.args.length∧∃x,f 9=I x∧ZK x (Xj tv ta (deep+1) (e.args.drop i))=E) (fun i=>e.args.length-i) (by kernel_rfl) 0 (by simp [g1,g3,g4,g6,g9];exact hE) ?_
  clear g g1 g3 g4 g6 g9 hE
  rintro i g _ ⟨rfl,g4,g6,g1,g3,g10,hi,x,g9,hinv⟩
  simp -dsimp [g1,g3,g4,g6,g9,g10,hMe]
  refine Zm (fun hlt=>?_) (fun hlt=>?_)
  ·simp -dsimp [g1,g3,g4,g6,g9,g10,hMe,hlt]
   refine Zq (fun hx=>?_) (fun hx _ _=>?_)
   ·subst hx
    rw [Zj,Zo hlt,Xj] at hinv
    have hg:=JN hlt
    have cr:=fun H=>ih e.args[i] (deep+1) (by omega) (by omega) (by omega) H
    simp only [Pg.cells,Ex.cells_eq] at cr
    rw [show ((deep+1:Nat):Int)=(deep:Int)+1 from rfl] at cr
    simp -dsimp [g1,g3,g4,g6,g9,g10,hMe,hMp,w2,List.getElem?_eq_getElem,hlt]
    refine Zd (cr _) ?_
    simp -dsimp [g1,g3,g4,g6,g9,g10,hMe,hMp,w2]
    exact⟨i+1,by omega,ZC (by omega),by omega,hinv⟩
   ·rw [Zu hx] at hinv
    simp -dsimp [g1,g3,g4,g6,g9,g10]
    exact fin _ hinv
  ·simp -dsimp [g1,g3,g4,g6,g9,g10,hMe,hlt]
   rw [ZI hlt,Xj] at hinv
   refine fin _ ?_
   rw [←hinv]
   unfold ZK
   split
   ·assumption
   ·rfl
end Go.Proofs
namespace Go.Proofs
open Go.Mu
def ZeZ (s:Sm):Bool:=kd1 s&&kd2 s&&kd3 s&&kd4 s&&kd5 s&&kd6 s&&kd7 s&&kd8 s
theorem Zsz (s:Sm):Xr s=ZM (ZeZ s) 9:=rfl
theorem ZqA (s:Sm):kd5 s=(decide (¬(0<(s.args.length:Int)+s.names.length))||ZeE s.kind [6]):=by
 unfold kd5
 congr 1
 rw [Bool.eq_iff_iff]
 simp only [Bool.and_eq_true,beq_iff_eq,decide_eq_true_eq]
 omega
theorem Zrz (s:Sm) (hs:s.count≤2^40) (H:List Ze):Zi Tryz.prog 219 [.agg s.cells] H (fun e H'=>e=.ret (Bo (ZeZ s))∧H'=H):=by
 refine Zf (Z0 Tryz.func219 rfl (by kernel_rfl) ?_)
 obtain⟨M,hM⟩:∃M,M=H++[.box 82 s.cells]:=⟨_,rfl⟩
 have hMk:M[H.length]?=some (.box 82 s.cells):=by rw [hM];simp
 have d1:=fun H=>ZbR s.e H
 have d2:=fun H=>ZbR s.a H
 have hsc:=Sm.count_eq s
 have hla:=Yy s.args
 have w:IntKind.i64.wrap ((s.args.length:Int)+s.names.length)=(s.args.length:Int)+s.names.length:=YG (by omega) (by omega)
 have fin:∀b,b=ZeZ s→ZW H (fun e H'=>e=.ret (Bo (ZeZ s))∧H'=H) (.ret (Bo b)) M:=fun b hb=>by rw [hM,hb];exact Z2 rfl ⟨rfl,rfl⟩
 simp only [Sm.cells_eq,Ex.cells_eq] at hM hMk d1 d2
 refine Zc (fun f H'=>M=H'∧f 1=.bp H.length 0) (by kernel_rfl) ?_ ?_
 ·simp -dsimp [hM]
 clear hM
 rintro g _ ⟨rfl,g1⟩
 refine Zc (fun f H'=>M=H'∧f 1=.bp H.length 0∧f 3=I s.kind) (by kernel_rfl) ?_ ?_
 ·simp -dsimp [g1,hMk]
 clear g g1
 rintro g _ ⟨rfl,g1,g3⟩
 refine Zc (fun f H'=>M=H'∧f 1=.bp H.length 0∧f 3=I s.kind∧1≤s.kind∧s.kind≤6) (by kernel_rfl) ?_ ?_
 ·replace fin:=YE.mk fin
  replace hsc:=YE.mk hsc
  simp -dsimp [g1,g3]
  repeat' ((with_reducible first|refine And.intro ?_ ?_|refine Zm (fun _=>?_) (fun _=>?_)|refine Zn (fun _=>?_) (fun _=>?_)|refine Zb (fun _=>?_) (fun _=>?_)|refine Zr (fun _=>?_) (fun _ _ _=>?_)|refine Zt (fun _=>?_) (fun _ _ _=>?_)|refine Zq (fun _=>?_) (fun _ _ _=>?_)|refine Zs (fun _ _ _=>?_) (fun _=>?_)|refine Zp (fun _ _ _=>?_) (fun _=>?_)|refine Zl (fun _ _ _=>?_) (fun _=>?_)|refine Zz (fun _=>?_) (fun _=>?_)|refine Zy (fun _=>?_) (fun _=>?_)|refine Z6 (fun _=>?_) (fun _=>?_)|refine Zw (fun _=>?_) (fun _=>?_)|refine Zx (fun _=>?_) (fun _=>?_)|refine Z3 (fun _=>?_) (fun _=>?_))<;>simp -dsimp [g1,g3, *])
  all_goals first
   |omega
   |exact fin.out _ (by simp only [ZeZ,kd1];rw [decide_eq_false (show ¬(1≤s.kind) by omega)];rfl)
   |exact fin.out _ (by simp only [ZeZ,kd1];rw [decide_eq_false (show ¬(s.kind≤6) by omega)];simp)
   |(refine⟨?_,?_⟩<;>omega)
   |trace_state
 clear g g1 g3
 rintro g _ ⟨rfl,g1,g3,k1,k2⟩
 have hk:s.kind=1∨s.kind=2∨s.kind=3∨s.kind=4∨s.kind=5∨s.kind=6:=by omega
 clear k1 k2 hla
 replace hsc:=YE.mk hsc
 replace hs:=YE.mk hs
 replace fin:=YE.mk fin
 rcases hk with hk|hk|hk|hk|hk|hk
 all_goals rw [hk] at g3
 all_goals replace hk:=YE.mk hk
 all_goals refine Zk (by kernel_rfl) ?_
 all_goals simp -dsimp [g1,g3,hMk,w]
 all_goals repeat' ((with_reducible first|refine And.intro ?_ ?_|refine Zm (fun _=>?_) (fun _=>?_)|refine Zn (fun _=>?_) (fun _=>?_)|refine Zb (fun _=>?_) (fun _=>?_)|refine Zr (fun _=>?_) (fun _ _ _=>?_)|refine Zt (fun _=>?_) (fun _ _ _=>?_)|refine Zq (fun _=>?_) (fun _ _ _=>?_)|refine Zs (fun _ _ _=>?_) (fun _=>?_)|refine Zp (fun _ _ _=>?_) (fun _=>?_)|refine Zl (fun _ _ _=>?_) (fun _=>?_)|refine Zz (fun _=>?_) (fun _=>?_)|refine Zy (fun _=>?_) (fun _=>?_)|refine Z6 (fun _=>?_) (fun _=>?_)|refine Zw (fun _=>?_) (fun _=>?_)|refine Zx (fun _=>?_) (fun _=>?_)|refine Z3 (fun _=>?_) (fun _=>?_)|refine Za (d1 _) ?_|refine Zd (d1 _) ?_|refine Za (d2 _) ?_|refine Zd (d2 _) ?_)<;>simp -dsimp [g1,g3,hMk,w, *])
 all_goals refine fin.out _ ?_
 all_goals replace hk:=hk.out
 all_goals clear hMk d1 d2 fin hs hsc w g1 g3
 all_goals first
  |(simp only [ZeZ,ZqA];simp [kd1,kd2,kd3,kd4,kd6,kd7,kd8,ZeE, *];done)
  |(simp only [ZeZ,ZqA];simp only [kd1,kd2,kd3,kd4,kd6,kd7,kd8,ZeE,hk];simp [*];done)
  |trace_state
end Go.Proofs
namespace Go.Proofs
open Go.Mu
theorem Zh4 (l:List ByteArray):(l.map fun s=>[St s]).flatten.all AV.frzB=true:=by
 rw [Zec,List.all_eq_true]
 intro c hc
 obtain⟨b,_,rfl⟩:=List.mem_map.1 hc
 rfl
theorem Znn (m:Nat):∀ (l:List Sm) (deep:Nat),Zh l<m→Zh l≤2^36→deep≤65→∀ (H:List Ze),
 Zi Tryz.prog 102 [Sm.sl l,I deep] H (fun e H'=>e=.ret (St.sl (ZF deep l))∧H'=H):=by
 induction m with
 |zero=>intro l deep hm;omega
 |succ m ih=>
  intro l deep hm hb hd H
  refine Ya fun hu _=>Zf (ZU (Yv 1 (Z0 Tryz.func102 rfl (by kernel_rfl) ?_)))
  refine Zc (fun f H'=>H'=H++[Ze.pend]∧f 0=Sm.sl l∧f 1=I deep) (by kernel_rfl) ?_ ?_
  ·simp -dsimp
  rintro g _ ⟨rfl,g0,g1⟩
  have done:∀ (ws:List ByteArray) L,ws=ZF deep l→Zao (ZW H fun e H'=>e=AE.ret (St.sl (ZF deep l))∧H'=H) (.ret (Yo H.length (ws.map fun s=>[St s]))) (H++Yn 9 1 (ws.map fun s=>[St s])::L):=fun ws L e=>by
   subst e
   by_cases hw:ZF deep l=[]
   ·rw [hw]
    refine ZR (.nil 1) ?_
    exact Z2 rfl ⟨rfl,rfl⟩
   ·have hne:(ZF deep l).map (fun s=>[St s])≠[]:=by simpa using hw
    refine ZR (.refl _) ?_
    rw [Yn,if_neg hne]
    refine Zav hu 1 _ _ (Zh4 _) ?_ ?_
    ·rw [JV _ _ _ hne];rfl
    ·rw [JV _ _ _ hne];exact⟨rfl,rfl⟩
  refine Zc (fun f H'=>H'=H++[Ze.pend]∧f 0=Sm.sl l∧f 1=I deep∧deep≤64) (by kernel_rfl) ?_ ?_
  ·simp -dsimp [g0,g1]
   refine Zb (fun h=>?_) (fun h=>?_)
   ·simp -dsimp
    have:=done [] [] (Ze0 (by omega) l).symm
    simpa [Yo,Yn] using this
   ·simp -dsimp [g0,g1]
    omega
  clear g g0 g1
  rintro g _ ⟨rfl,g0,g1,hd64⟩
  have hlen:=Yi l
  refine Zc (fun f H'=>H'=H++[Ze.pend]∧f 0=Sm.sl l∧f 1=I deep∧f 5=Yp) (by kernel_rfl) ?_ ?_
  ·simp -dsimp [g0,g1]
  clear g g0 g1
  rintro g _ ⟨rfl,g0,g1,g5⟩
  refine J2 (fun d=>d==28||d==38||d==48) (fun id=>none) (fun f H'=>∃L,H'=H++Yn 9 1 ((ZF deep l).map fun s=>[St s])::L∧f 5=Yo H.length ((ZF deep l).map fun s=>[St s])) (by kernel_rfl) ?_ ?_
  ·simp -dsimp [g0,g1,g5]
   refine Ju (hn:=fun d=>d==28||d==38||d==48) (od:=fun id=>none)
    (fun (i:Nat) g H'=>(∃ws L,H'=H++Yn 9 1 (ws.map fun s=>[St s])::L∧g 5=Yo H.length (ws.map fun s=>[St s])∧ws++ZF deep (l.drop i)=ZF deep l)∧g 1=I deep∧g 0=Sm.sl l∧g 6=I i∧i≤l.length) (fun i=>l.length-i) (by kernel_rfl) 0
    (by simp [g0,g1,g5]) ?_
   clear g g0 g1 g5
   rintro i g _ ⟨⟨ws,L,rfl,g5,hws⟩,g1,g0,g6,hi⟩
   simp -dsimp [g1,g5,g0,g6]
   refine Zb (fun hlt=>?_) (fun hlt=>?_)
   ·rw [Zo hlt,ZF,if_neg (by omega),Sm.words_eq] at hws
    have hg:=JY hlt
    have hsc:=Sm.count_eq l[i]
    have hwl:=ZbJ _ l (Nat.le_refl _) deep
    have hwl2:=congrArg List.length hws
    simp only [List.length_append] at hwl2
    have w2:IntKind.i64.wrap ((deep:Int)+1)=(deep:Int)+1:=YG (by omega) (by omega)
    simp -dsimp [g1,g5,g0,g6,List.getElem?_eq_getElem,hlt]
    have c1:=fun H=>ih l[i].body (deep+1) (by omega) (by omega) (by omega) H
    have c2:=fun H=>ih l[i].els (deep+1) (by omega) (by omega) (by omega) H
    simp only [St.sl,show ((deep+1:Nat):Int)=(deep:Int)+1 from rfl] at c1 c2
    have step:∀ws1:List ByteArray,(ws1++ZF (deep+1) l[i].body++ZF (deep+1) l[i].els)++ZF deep (l.drop (i+1))=ZF deep l→ws1.length≤2^37:=fun ws1 h=>by
     have:=congrArg List.length h
     simp only [List.length_append] at this
     omega
    refine Zq (fun hk=>?_) (fun hk _ _=>?_)
    ·rw [if_pos hk] at hws
     simp -dsimp [g1,g5,g0,g6,List.getElem?_eq_getElem,hlt]
     refine ZD (es:=ws.map fun s=>[St s]) (by simp) (by simp;omega) (by simp;omega) ?_
     simp -dsimp [g1,g5,g0,g6,w2,List.getElem?_eq_getElem,hlt]
     obtain⟨ws1,hw1⟩:∃ws1,ws1=ws++[l[i].name]:=⟨_,rfl⟩
     have hm1:List.map (fun s=>[St s]) ws++[[AV.v (Value.string l[i].name)]]=ws1.map fun s=>[St s]:=by rw [hw1];simp
     have hl1:ws1.length≤ws.length+1:=by rw [hw1];simp
     rw [hm1]
     refine Za (c1 _) ?_
     simp -dsimp [g1,g5,g0,g6,w2]
     refine ZD (es:=ws1.map fun s=>[St s]) (by simp) (by simp;omega) (by simp;omega) ?_
     simp -dsimp [g1,g5,g0,g6,w2,List.getElem?_eq_getElem,hlt]
     refine Za (c2 _) ?_
     simp -dsimp [g1,g5,g0,g6,w2]
     refine ZD (es:=(ws1.map fun s=>[St s])++(ZF (deep+1) l[i].body).map fun s=>[St s]) (by simp) (by simp;omega) (by simp;omega) ?_
     simp -dsimp [g1,g5,g0,g6,w2]
     exact⟨i+1,by omega,⟨ws1++ZF (deep+1) l[i].body++ZF (deep+1) l[i].els,by simp,by simp,by rw [←hws,hw1];simp⟩,ZC (by omega),by omega⟩
    ·rw [if_neg hk] at hws
     simp -dsimp [g1,g5,g0,g6,w2,List.getElem?_eq_getElem,hlt]
     obtain⟨ws1,hw1⟩:∃ws1,ws1=ws:=⟨_,rfl⟩
     have hl1:ws1.length≤ws.length+1:=by rw [hw1];omega
     rw [←hw1]
     refine Za (c1 _) ?_
     simp -dsimp [g1,g5,g0,g6,w2,←hw1]
     refine ZD (es:=ws1.map fun s=>[St s]) (by simp) (by simp;omega) (by simp;omega) ?_
     simp -dsimp [g1,g5,g0,g6,w2,List.getElem?_eq_getElem,hlt]
     refine Za (c2 _) ?_
     simp -dsimp [g1,g5,g0,g6,w2]
     refine ZD (es:=(ws1.map fun s=>[St s])++(ZF (deep+1) l[i].body).map fun s=>[St s]) (by simp) (by simp;omega) (by simp;omega) ?_
     simp -dsimp [g1,g5,g0,g6,w2]
     exact⟨i+1,by omega,⟨ws1++ZF (deep+1) l[i].body++ZF (deep+1) l[i].els,by simp,by simp,by rw [←hws,hw1];simp⟩,ZC (by omega),by omega⟩
   ·rw [ZI hlt,ZF,List.append_nil] at hws
    subst hws
    simp -dsimp [g5]
  clear g g0 g1 g5
  rintro g _ ⟨L,rfl,g5⟩
  refine Zk (by kernel_rfl) ?_
  simp -dsimp [g5]
  exact done _ _ rfl
end Go.Proofs
namespace Go.Proofs
open Go.Mu
theorem ZpN (p:Pg) (k:Nat) (hp:p.Ok) (hk:k<p.funcs.length) (tv:List (ByteArray×Vr)) (ta:List (ByteArray×Bool)) (hN:Zel p k hk tv ta) (all:List ByteArray) (hall:all.length≤2^40) (s:Sm) (deep:Nat) (hs:s.count≤2^40) (hd:deep≤64) (H:List Ze):
 Zi Tryz.prog 224 [.agg p.cells,I k,.agg s.cells,I deep,St.sl all] H (fun x H'=>x=.ret (I (Zgs p k tv ta all s deep))∧H'=H):=by
 refine Zf (Z0 Tryz.func224 rfl (by kernel_rfl) ?_)
 have hsc:=Sm.count_eq s
 have hla:=Yy s.args
 have hpf:=hp.funcs
 obtain⟨M,hM⟩:∃M,M=H++[.box 25 p.cells,.box 82 s.cells]:=⟨_,rfl⟩
 have hMp:M[H.length]?=some (.box 25 p.cells):=by rw [hM];simp
 have hMs:M[H.length+1]?=some (.box 82 s.cells):=by rw [hM];simp
 obtain⟨E,hE⟩:∃E,E=Zgs p k tv ta all s deep:=⟨_,rfl⟩
 have fin:∀c,c=E→ZW H (fun x H'=>x=.ret (I E)∧H'=H) (.ret (I c)) M:=fun c hc=>by rw [hM,hc];exact Z2 rfl ⟨rfl,rfl⟩
 rw [←hE]
 unfold Zgs at hE
 replace hE:=hE.symm
 have ix:=ZkD (fun g=>decide (g.name=s.name)) p.funcs 0
 obtain⟨ii,hii⟩:∃ii,ii=JC (fun (g:Fc)=>decide (g.name=s.name)) p.funcs 0:=⟨_,rfl⟩
 simp only [←hii] at hE
 rw [show ((0:Nat):Int)=0 from rfl,←hii] at ix
 simp only [Pg.cells,Sm.cells_eq] at hM hMp hMs
 refine Zc (fun f H'=>M=H'∧f 5=.bp H.length 0∧f 7=.bp (H.length+1) 0∧f 1=I k∧f 3=I deep∧f 4=St.sl all) (by kernel_rfl) ?_ ?_
 ·simp -dsimp [hM]
 clear hM
 rintro g _ ⟨rfl,g5,g7,g1,g3,g4⟩
 refine Zc (fun f H'=>M=H'∧f 5=.bp H.length 0∧f 7=.bp (H.length+1) 0∧f 1=I k∧f 3=I deep∧f 4=St.sl all∧f 11=I (-1)) (by kernel_rfl) ?_ ?_
 ·simp -dsimp [g1,g3,g4,g5,g7]
 clear g g1 g3 g4 g5 g7
 rintro g _ ⟨rfl,g5,g7,g1,g3,g4,g11⟩
 refine Zc (fun f H'=>M=H'∧f 5=.bp H.length 0∧f 7=.bp (H.length+1) 0∧f 1=I k∧f 3=I deep∧f 4=St.sl all∧f 11=I ii) (by kernel_rfl) ?_ ?_
 ·simp -dsimp [g1,g3,g4,g5,g7,g11]
  refine Zv (fun (i:Nat) f H'=>M=H'∧f 5=.bp H.length 0∧f 7=.bp (H.length+1) 0∧f 1=I k∧f 3=I deep∧f 4=St.sl all∧f 12=I i∧i≤p.funcs.length∧
   ∃a,f 11=I a∧((a= -1∧JC (fun (g:Fc)=>decide (g.name=s.name)) (p.funcs.drop i) i=ii)∨(0≤a∧a=ii))) (fun i=>p.funcs.length-i) (by kernel_rfl) 0 (by simp [g1,g3,g4,g5,g7,g11,hii]) ?_
  clear g g1 g3 g4 g5 g7 g11
  rintro i g _ ⟨rfl,g5,g7,g1,g3,g4,g12,hi,a,g11,ha⟩
  simp -dsimp [g1,g3,g4,g5,g7,g11,g12,hMp]
  refine Zm (fun hlt=>?_) (fun hlt=>?_)
  ·simp -dsimp [g1,g3,g4,g5,g7,g11,g12,hMp,hlt]
   refine Zb (fun hneg=>?_) (fun hneg=>?_)
   ·obtain⟨rfl,hinv⟩:a= -1∧JC (fun (g:Fc)=>decide (g.name=s.name)) (p.funcs.drop i) i=ii:=by
     rcases ha with h|h
     ·exact h
     ·omega
    rw [Zo hlt,JC] at hinv
    simp -dsimp [g1,g3,g4,g5,g7,g11,g12,hMp,hMs,List.getElem?_eq_getElem,hlt]
    refine Zb (fun hp=>?_) (fun hp=>?_)
    ·rw [if_pos (by simpa using hp)] at hinv
     simp -dsimp [g1,g3,g4,g5,g7,g11,g12]
     exact⟨i+1,by omega,ZC (by omega),by omega,hinv⟩
    ·rw [if_neg (by simpa using hp)] at hinv
     simp -dsimp [g1,g3,g4,g5,g7,g11,g12]
     exact⟨i+1,by omega,ZC (by omega),by omega,by simpa using hinv⟩
   ·obtain⟨h0,rfl⟩:0≤a∧a=ii:=by
     rcases ha with h|h
     ·omega
     ·exact h
    simp -dsimp [g1,g3,g4,g5,g7,g11,g12]
  ·simp -dsimp [g1,g3,g4,g5,g7,g11,g12,hlt]
   rcases ha with ⟨rfl,h⟩|⟨_,rfl⟩
   ·rw [ZI hlt,JC] at h
    exact h
   ·rfl
 clear g g1 g3 g4 g5 g7 g11 hii
 rintro g _ ⟨rfl,g5,g7,g1,g3,g4,g11⟩
 --there is one
 refine Zc (fun f H'=>M=H'∧f 5=.bp H.length 0∧f 7=.bp (H.length+1) 0∧f 1=I k∧f 3=I deep∧f 4=St.sl all∧f 11=I ii∧0≤ii) (by kernel_rfl) ?_ ?_
 ·simp -dsimp [g1,g3,g4,g5,g7,g11]
  refine Zb (fun h=>?_) (fun h=>?_)
  ·simp -dsimp
   refine fin _ ?_
   rw [←hE]
   split
   ·rfl
   ·rw [decide_eq_false (by omega),Y2,Zu (by decide)]
  ·simp -dsimp [g1,g3,g4,g5,g7,g11]
   omega
 clear g g1 g3 g4 g5 g7 g11
 rintro g _ ⟨rfl,g5,g7,g1,g3,g4,g11,h0⟩
 obtain⟨j,hj,hji⟩:∃j,j<p.funcs.length∧ii=(j:Int):=by
  rcases ix with h|⟨j,hj,h⟩
  ·omega
  ·exact⟨j,hj,by omega⟩
 subst hji
 rw [show ((j:Int)).toNat=j from rfl,List.getElem?_eq_getElem hj] at hE
 simp only [decide_eq_true h0,Y0,Zj] at hE
 clear h0 ix
 --it stands ahead
 refine Zc (fun f H'=>M=H'∧f 5=.bp H.length 0∧f 7=.bp (H.length+1) 0∧f 1=I k∧f 3=I deep∧f 4=St.sl all∧f 11=I j∧(j:Int)<k) (by kernel_rfl) ?_ ?_
 ·simp -dsimp [g1,g3,g4,g5,g7,g11]
  refine Zb (fun h=>?_) (fun h=>?_)
  ·simp -dsimp
   rw [decide_eq_false (by omega),Y2,Zu (by decide)] at hE
   exact fin _ hE
  ·simp -dsimp [g1,g3,g4,g5,g7,g11]
   omega
 clear g g1 g3 g4 g5 g7 g11
 rintro g _ ⟨rfl,g5,g7,g1,g3,g4,g11,h1⟩
 rw [decide_eq_true h1,Y0,Zj] at hE
 obtain⟨F,hF⟩:∃F,F=p.funcs[j]:=⟨_,rfl⟩
 rw [←hF] at hE
 --names
 refine Zc (fun f H'=>M=H'∧f 5=.bp H.length 0∧f 7=.bp (H.length+1) 0∧f 1=I k∧f 3=I deep∧f 11=I j∧ZaZ tv ta all [] s.names=0) (by kernel_rfl) ?_ ?_
 ·simp -dsimp [g1,g3,g4,g5,g7,g11]
  refine Zv (fun (i:Nat) f H'=>M=H'∧f 5=.bp H.length 0∧f 7=.bp (H.length+1) 0∧f 1=I k∧f 3=I deep∧f 4=St.sl all∧f 11=I j∧f 13=I i∧i≤s.names.length∧ZaZ tv ta all (s.names.take i) (s.names.drop i)=ZaZ tv ta all [] s.names) (fun i=>s.names.length-i) (by kernel_rfl) 0 (by simp [g1,g3,g4,g5,g7,g11]) ?_
  clear g g1 g3 g4 g5 g7 g11
  rintro i g _ ⟨rfl,g5,g7,g1,g3,g4,g11,g13,hi,hinv⟩
  simp -dsimp [g1,g3,g4,g5,g7,g11,g13,hMs]
  refine Zb (fun hlt=>?_) (fun hlt=>?_)
  ·rw [Zo hlt,ZaZ] at hinv
   obtain⟨nm,hnm⟩:∃nm,nm=s.names[i]:=⟨_,rfl⟩
   rw [←hnm] at hinv
   have htk:(s.names.take i).length≤2^40:=by simp;omega
   have cc:=fun H=>Zcn (s.names.take i) nm htk H
   simp only [St.sl,List.map_take] at cc
   have cal:=fun H=>Zcn all nm hall H
   have cw:=fun H=>ZhR p k nm hp hk H
   rw [←hN.word] at cw
   simp only [Pg.cells] at cw
   obtain⟨b1,hb1⟩:∃b1,b1=all.any fun x=>decide (nm=x):=⟨_,rfl⟩
   obtain⟨b2,hb2⟩:∃b2,b2=(s.names.take i).any fun x=>decide (nm=x):=⟨_,rfl⟩
   rw [←hb1] at cal hinv
   rw [←hb2] at cc hinv
   have err:∀c,c≠0→ZaZ tv ta all [] s.names=c→c=E:=fun c hc h=>by rw [h,Zu hc] at hE;exact hE
   simp -dsimp [g1,g3,g4,g5,g7,g11,g13,hMs,hMp,List.getElem?_eq_getElem,hlt,←hnm]
   refine Zd (cw _) ?_
   simp -dsimp [g1,g3,g4,g5,g7,g11,g13]
   refine Zl (fun hz _ _=>?_) (fun hz=>?_)
   ·rw [Zu hz] at hinv
    simp -dsimp [g1,g3,g4,g5,g7,g11,g13]
    exact fin _ (err _ hz hinv.symm)
   rw [hz,Zj] at hinv
   have hile:i≤s.names.length:=hi
   simp -dsimp [g1,g3,g4,g5,g7,g11,g13,hMs,hMp,List.getElem?_eq_getElem,hlt,←hnm]
   refine Zd (cal _) ?_
   simp -dsimp
   clear hb1 hb2
   cases b1
   ·simp only [Bool.not_false,Y0,Zj] at hinv
    simp -dsimp [g1,g3,g4,g5,g7,g11,g13,hMs,hMp,List.getElem?_eq_getElem,hlt,←hnm,hile]
    refine Zd (cc _) ?_
    simp -dsimp
    cases b2
    ·simp only [Bool.not_false,Y0,Zj] at hinv
     simp -dsimp [g1,g3,g4,g5,g7,g11,g13]
     exact⟨i+1,by omega,ZC (by omega),by omega,by rw [Y1 hlt,←hnm];exact hinv⟩
    ·simp only [Bool.not_true,Y2] at hinv
     rw [Zu (by decide)] at hinv
     simp -dsimp
     exact fin _ (err _ (by decide) hinv.symm)
   ·simp only [Bool.not_true,Y2] at hinv
    rw [Zu (by decide)] at hinv
    simp -dsimp
    exact fin _ (err _ (by decide) hinv.symm)
  ·rw [ZI hlt,ZaZ] at hinv
   simp -dsimp [g1,g3,g5,g7,g11]
   exact hinv.symm
 clear g g1 g3 g4 g5 g7 g11
 rintro g _ ⟨rfl,g5,g7,g1,g3,g11,ht⟩
 rw [ht,Zj] at hE
 refine Zc (fun f H'=>M=H'∧f 5=.bp H.length 0∧f 7=.bp (H.length+1) 0∧f 1=I k∧f 3=I deep∧ZM ((s.args.length:Int)==F.params.length&&(s.names.length:Int)==F.rets.length) 2=0) (by kernel_rfl) ?_ ?_
 ·replace hE:=YE.mk hE
  replace fin:=YE.mk fin
  replace hN:=YE.mk hN
  simp -dsimp [g1,g3,g5,g7,g11,hMs,hMp,List.getElem?_eq_getElem,hj,←hF]
  replace hF:=YE.mk hF
  repeat' ((with_reducible first|refine And.intro ?_ ?_|refine Zm (fun _=>?_) (fun _=>?_)|refine Zn (fun _=>?_) (fun _=>?_)|refine Zb (fun _=>?_) (fun _=>?_)|refine Zr (fun _=>?_) (fun _ _ _=>?_)|refine Zt (fun _=>?_) (fun _ _ _=>?_)|refine Zq (fun _=>?_) (fun _ _ _=>?_)|refine Zs (fun _ _ _=>?_) (fun _=>?_)|refine Zp (fun _ _ _=>?_) (fun _=>?_)|refine Zl (fun _ _ _=>?_) (fun _=>?_)|refine Zz (fun _=>?_) (fun _=>?_)|refine Zy (fun _=>?_) (fun _=>?_)|refine Z6 (fun _=>?_) (fun _=>?_)|refine Zw (fun _=>?_) (fun _=>?_)|refine Zx (fun _=>?_) (fun _=>?_)|refine Z3 (fun _=>?_) (fun _=>?_))<;>simp -dsimp [g1,g3,g5,g7,g11,hMs,hMp,List.getElem?_eq_getElem,hj,←hF.out, *])
  all_goals first
   |(simp [ZM, *];done)
   |exact fin.out 2 (by have h:=hE.out;rw [Zu] at h<;>simp [ZM, *] at h ⊢;omega)
   |trace_state
 clear g g1 g3 g5 g7 g11
 rintro g _ ⟨rfl,g5,g7,g1,g3,hm⟩
 rw [hm,Zj] at hE
 refine Zk (by kernel_rfl) ?_
 simp -dsimp [g1,g3,g5,g7]
 refine Zv (fun (i:Nat) f H'=>M=H'∧f 5=.bp H.length 0∧f 7=.bp (H.length+1) 0∧f 1=I k∧f 3=I deep∧f 15=I i∧i≤s.args.length∧Xj tv ta deep (s.args.drop i)=E) (fun i=>s.args.length-i) (by kernel_rfl) 0 (by simp [g1,g3,g5,g7];exact hE) ?_
 clear g g1 g3 g5 g7
 rintro i g _ ⟨rfl,g5,g7,g1,g3,g15,hi,hinv⟩
 simp -dsimp [g1,g3,g5,g7,g15,hMs]
 refine Zb (fun hlt=>?_) (fun hlt=>?_)
 ·rw [Zo hlt,Xj] at hinv
  have hb3:=JN hlt
  have ce:=fun H=>Zif p k hp hk tv ta hN _ s.args[i] deep (Nat.le_refl _) (by omega) (by omega) H
  simp only [Pg.cells,Ex.cells_eq] at ce
  simp -dsimp [g1,g3,g5,g7,g15,hMs,hMp,List.getElem?_eq_getElem,hlt]
  refine Zd (ce _) ?_
  simp -dsimp [g1,g3,g5,g7,g15]
  refine Zl (fun hz _ _=>?_) (fun hz=>?_)
  ·rw [Zu hz] at hinv
   simp -dsimp [g1,g3,g5,g7,g15]
   exact fin _ hinv
  ·rw [hz,Zj] at hinv
   simp -dsimp [g1,g3,g5,g7,g15]
   exact⟨i+1,by omega,ZC (by omega),by omega,hinv⟩
 ·simp -dsimp
  rw [ZI hlt,Xj] at hinv
  exact fin _ hinv
end Go.Proofs
namespace Go.Proofs
open Go.Mu
def Zru (p:Pg) (k:Nat) (F:Fc) (tv:List (ByteArray×Vr)) (ta:List (ByteArray×Bool)) (all:List ByteArray) (m:Nat):Prop:=
 ∀ (l:List Sm) (deep:Nat) (around:List ByteArray),Zh l<m→Zh l≤2^40→deep≤65→around.length+Zh l≤2^38→∀ (H:List Ze),
   Zi Tryz.prog 101 [.agg p.cells,I k,Sm.sl l,I deep,St.sl around,St.sl all] H (fun x H'=>x=.ret (I (YB p k F tv ta all deep around l))∧H'=H)
theorem ZoS {p:Pg} {k:Nat} {l:List Sm} {d c:Int} {around all:List ByteArray} {H:List Ze} (r:Nat) (hr:H[r]?=some (Yn 9 1 (around.map fun s=>[St s]))) (h:Zi Tryz.prog 101 [.agg p.cells,I k,Sm.sl l,I d,St.sl around,St.sl all] [] (fun x H'=>x=.ret (I c)∧H'=[])):
 Zi Tryz.prog 101 [.agg p.cells,I k,Sm.sl l,I d,Yo r (around.map fun s=>[St s]),St.sl all] H (fun x H'=>x=.ret (I c)∧H'=H):=by
 by_cases ha:around=[]
 ·subst ha
  refine Zda (args':=[.agg p.cells,I k,Sm.sl l,I d,Yp,St.sl all]) (.refl _ _) rfl ?_
  exact XT (.cons (.refl _) (.cons (.refl _) (.cons (.refl _) (.cons (.refl _) (.cons (.nil _) (.cons (.refl _) .nil)))))) h
 ·have hne:around.map (fun s=>[St s])≠[]:=by simpa using ha
  rw [Yn,if_neg hne] at hr
  refine Zda (args':=[.agg p.cells,I k,Sm.sl l,I d,St.sl around,St.sl all]) ?_ rfl h
  refine .row r 1 9 _ hr (Zh4 _) ?_
  have e:Zam r 1 (around.map fun s=>[St s]) [.agg p.cells,I k,Sm.sl l,I d,Yo r (around.map fun s=>[St s]),St.sl all]=[.agg p.cells,I k,Sm.sl l,I d,St.sl around,St.sl all]:=by
   simp only [Zam,AV.frz,Pg.cells,JV _ _ _ hne]
  rw [e]
  exact .refl _ _
theorem Zqn {s:Sm} (h:Xr s=0) (hk:s.kind=2):s.body=[]∧s.els=[]:=by
 unfold Xr ZM at h
 split at h
 ·rename_i h1
  simp only [Bool.and_eq_true] at h1
  obtain⟨⟨_,h7⟩,h8⟩:=h1
  simp only [kd7,kd8,hk] at h7 h8
  constructor
  ·simpa [ZeE] using h7
  ·simpa [ZeE] using h8
 ·cases h
theorem ZqI (p:Pg) (k:Nat) (hp:p.Ok) (hk:k<p.funcs.length) (F:Fc) (hF:F=p.funcs[k]) (tv:List (ByteArray×Vr)) (ta:List (ByteArray×Bool)) (hN:Zel p k hk tv ta) (all:List ByteArray) (hall:all.length≤2^40) (m:Nat) (ih:Zru p k F tv ta all m)
 (s:Sm) (deep:Nat) (around:List ByteArray) (hm:s.count≤m) (hs:s.count≤2^40) (hd:deep≤65) (har:around.length+s.count≤2^38) (H:List Ze):
 Zi Tryz.prog 171 [.agg p.cells,I k,.agg s.cells,I deep,St.sl around,St.sl all] H (fun x H'=>x=.ret (I (s.chk p k F tv ta all deep around))∧H'=H):=by
 refine Zf (Yv 1 (Z0 Tryz.func171 rfl (by kernel_rfl) ?_))
 have hsc:=Sm.count_eq s
 have hce:=Ex.count_eq s.e
 have hca:=Ex.count_eq s.a
 have hpf:=hp.funcs
 have hpp:=hp.params _ (List.getElem_mem hk)
 have hprt:=hp.rets _ (List.getElem_mem hk)
 rw [←hF] at hpp hprt
 obtain⟨M,hM⟩:∃M:Ze→List Ze,M=fun b=>H++[b,.box 25 p.cells,.box 82 s.cells]:=⟨_,rfl⟩
 have hMr:∀b,(M b)[H.length]?=some b:=fun b=>by rw [hM];simp
 have hMp:∀b,(M b)[H.length+1]?=some (.box 25 p.cells):=fun b=>by rw [hM];simp
 have hMs:∀b,(M b)[H.length+2]?=some (.box 82 s.cells):=fun b=>by rw [hM];simp
 have hMset:∀b b',(M b).set H.length b'=M b':=fun b b'=>by rw [hM];simp
 obtain⟨E,hE⟩:∃E,E=s.chk p k F tv ta all deep around:=⟨_,rfl⟩
 have fin:∀c b,c=E→ZW H (fun x H'=>x=.ret (I E)∧H'=H) (.ret (I c)) (M b):=fun c b hc=>by rw [hM,hc];exact Z2 rfl ⟨rfl,rfl⟩
 rw [←hE]
 rw [Sm.chk_eq] at hE
 replace hE:=hE.symm
 have csh:=fun H=>Zrz s hs H
 simp only [Pg.cells,Sm.cells_eq] at hM hMp hMs csh
 refine Zc (fun f H'=>M .pend=H'∧f 6=.bp (H.length+1) 0∧f 8=.bp (H.length+2) 0∧f 1=I k∧f 3=I deep∧f 4=St.sl around∧f 5=St.sl all) (by kernel_rfl) ?_ ?_
 ·simp -dsimp [hM]
 clear hM
 rintro g _ ⟨rfl,g6,g8,g1,g3,g4,g5⟩
 --not too deep
 refine Zc (fun f H'=>M .pend=H'∧f 6=.bp (H.length+1) 0∧f 8=.bp (H.length+2) 0∧f 1=I k∧f 3=I deep∧f 4=St.sl around∧f 5=St.sl all∧deep≤64) (by kernel_rfl) ?_ ?_
 ·simp -dsimp [g1,g3,g4,g5,g6,g8]
  refine Zb (fun h=>?_) (fun h=>?_)
  ·simp -dsimp
   rw [decide_eq_false (by omega),Y2,Zu (by decide)] at hE
   exact fin _ _ hE
  ·simp -dsimp [g1,g3,g4,g5,g6,g8]
   omega
 clear g g1 g3 g4 g5 g6 g8
 rintro g _ ⟨rfl,g6,g8,g1,g3,g4,g5,hd64⟩
 rw [decide_eq_true (by omega),Y0,Zj] at hE
 --its shape
 refine Zc (fun f H'=>M .pend=H'∧f 6=.bp (H.length+1) 0∧f 8=.bp (H.length+2) 0∧f 1=I k∧f 3=I deep∧f 4=St.sl around∧f 5=St.sl all∧Xr s=0) (by kernel_rfl) ?_ ?_
 ·simp -dsimp [g1,g3,g4,g5,g6,g8,hMs]
  refine Za (csh _) ?_
  rw [Zsz] at hE ⊢
  simp -dsimp
  cases hb:ZeZ s
  ·rw [hb,Y2,Zu (by decide)] at hE
   simp -dsimp
   exact fin _ _ hE
  ·simp -dsimp [g1,g3,g4,g5,g6,g8]
 clear g g1 g3 g4 g5 g6 g8
 rintro g _ ⟨rfl,g6,g8,g1,g3,g4,g5,hkd⟩
 rw [hkd,Zj] at hE
 refine Zc (fun f H'=>M .pend=H'∧f 6=.bp (H.length+1) 0∧f 8=.bp (H.length+2) 0∧f 1=I k∧f 3=I deep∧f 4=St.sl around∧f 5=St.sl all∧f 13=I 0) (by kernel_rfl) ?_ ?_
 ·simp -dsimp [g1,g3,g4,g5,g6,g8]
 clear g g1 g3 g4 g5 g6 g8 csh
 rintro g _ ⟨rfl,g6,g8,g1,g3,g4,g5,g13⟩
 have w2:IntKind.i64.wrap ((deep:Int)+1)=(deep:Int)+1:=YG (by omega) (by omega)
 have cw:=fun H=>ZhR p k s.name hp hk H
 rw [←hN.word] at cw
 have car:=fun H=>ZjM p k s.name hp hk H
 rw [←hN.array] at car
 have ce:=fun H=>Zif p k hp hk tv ta hN _ s.e deep (Nat.le_refl _) (by omega) (by omega) H
 have ca:=fun H=>Zif p k hp hk tv ta hN _ s.a deep (Nat.le_refl _) (by omega) (by omega) H
 have cb:=fun H=>ih s.body (deep+1) around (by omega) (by omega) (by omega) (by omega) H
 have cel:=fun H=>ih s.els (deep+1) around (by omega) (by omega) (by omega) (by omega) H
 have cal:=fun H=>Zcn all s.name hall H
 simp only [Pg.cells,Ex.cells_eq,show ((deep+1:Nat):Int)=(deep:Int)+1 from rfl] at cw car ce ca cb cel
 rcases Zot hkd with hk1|hk1|hk1|hk1|hk1|hk1
 ·rw [if_pos hk1] at hE
  refine YH (fun d=>d==155||d==159) (fun i=>if i=31 then some [(0,[]),(1,[]),(2,[]),(3,[]),(4,[]),(5,[]),(6,[]),(8,[]),(9,[]),(10,[]),(12,[]),(7,[0,2,3,5,8,9,10]),(11,[0,2,3,5]),(13,[]),(14,[])] else none) (by kernel_rfl) ?_
  have hMs:=hMs
  rw [hk1] at hMs
  simp -dsimp [g1,g3,g4,g5,g6,g8,g13,hMs,hMp,w2]
  refine Za (cw _) ?_
  simp -dsimp [g1,g3,g4,g5,g6,g8,g13,hMs,hMp,w2]
  refine Zr (fun hz=>?_) (fun hz hzb _=>?_)
  rotate_left
  ·rw [Zu hz] at hE
   simp -dsimp [g1,g3,g4,g5,g6,g8,g13,hMs,hMp,w2,hzb]
   exact fin _ _ hE
  rw [hz,Zj] at hE
  simp -dsimp [g1,g3,g4,g5,g6,g8,g13,hMs,hMp,w2,hz]
  obtain⟨b,hb⟩:∃b,b=all.any fun x=>decide (s.name=x):=⟨_,rfl⟩
  rw [←hb] at cal hE
  refine Za (cal _) ?_
  simp -dsimp
  cases b
  ·simp only [Bool.not_false,Y0,Zj] at hE
   simp -dsimp [g1,g3,g4,g5,g6,g8,g13,hMs,hMp,w2,hz]
   refine Za (ce _) ?_
   simp -dsimp [g1,g3,g4,g5,g6,g8,g13,hMs,hMp,w2]
   exact fin _ _ hE
  ·simp only [Bool.not_true,Y2] at hE
   rw [Zu (by decide)] at hE
   simp -dsimp [g1,g3,g4,g5,g6,g8,g13,hMs,hMp,w2,hz]
   exact fin _ _ hE
 ·rw [if_neg (by omega),if_pos hk1] at hE
  refine YH (fun d=>d==155||d==159) (fun i=>if i=31 then some [(0,[]),(1,[]),(2,[]),(3,[]),(4,[]),(5,[]),(6,[]),(8,[]),(9,[]),(10,[]),(12,[]),(7,[0,2,3,5,8,9,10]),(11,[0,2,3,5]),(13,[]),(14,[])] else none) (by kernel_rfl) ?_
  have hMs:=hMs
  rw [hk1] at hMs
  simp -dsimp [g1,g3,g4,g5,g6,g8,g13,hMs,hMp,w2]
  refine Za (car _) ?_
  simp -dsimp [g1,g3,g4,g5,g6,g8,g13,hMs,hMp,w2]
  refine Zq (fun hz=>?_) (fun hz hzb _=>?_)
  rotate_left
  ·rw [Zu hz] at hE
   simp -dsimp [g1,g3,g4,g5,g6,g8,g13,hMs,hMp,w2,hzb]
   exact fin _ _ hE
  rw [hz,Zj] at hE
  simp -dsimp [g1,g3,g4,g5,g6,g8,g13,hMs,hMp,w2,hz]
  refine Za (ca _) ?_
  simp -dsimp [g1,g3,g4,g5,g6,g8,g13,hMs,hMp,w2]
  refine Zq (fun hz2=>?_) (fun hz2 hz2b _=>?_)
  rotate_left
  ·rw [Zu hz2] at hE
   simp -dsimp [g1,g3,g4,g5,g6,g8,g13,hMs,hMp,w2,hz2b]
   exact fin _ _ hE
  rw [hz2,Zj] at hE
  simp -dsimp [g1,g3,g4,g5,g6,g8,g13,hMs,hMp,w2,hz2]
  refine Za (ce _) ?_
  simp -dsimp [g1,g3,g4,g5,g6,g8,g13,hMs,hMp,w2]
  obtain⟨hbn,hen⟩:=Zqn hkd hk1
  rw [hbn,hen,YB,Zj] at hE
  refine fin _ _ ?_
  rw [←hE]
  unfold ZK
  split
  ·assumption
  ·rfl
 ·rw [if_neg (by omega),if_neg (by omega),if_pos (by omega)] at hE
  refine YH (fun d=>d==155||d==159) (fun i=>if i=31 then some [(0,[]),(1,[]),(2,[]),(3,[]),(4,[]),(5,[]),(6,[]),(8,[]),(9,[]),(10,[]),(12,[]),(7,[0,2,3,5,8,9,10]),(11,[0,2,3,5]),(13,[]),(14,[])] else none) (by kernel_rfl) ?_
  have hMs:=hMs
  rw [hk1] at hMs
  simp -dsimp [g1,g3,g4,g5,g6,g8,g13,hMs,hMp,w2]
  refine Za (ce _) ?_
  simp -dsimp [g1,g3,g4,g5,g6,g8,g13,hMs,hMp,w2]
  refine Zq (fun hz=>?_) (fun hz hzb _=>?_)
  rotate_left
  ·rw [Zu hz] at hE
   simp -dsimp [g1,g3,g4,g5,g6,g8,g13,hMs,hMp,w2,hzb]
   exact fin _ _ hE
  rw [hz,Zj] at hE
  simp -dsimp [g1,g3,g4,g5,g6,g8,g13,hMs,hMp,w2,hz]
  refine Za (cb _) ?_
  simp -dsimp [g1,g3,g4,g5,g6,g8,g13,hMs,hMp,w2]
  refine Zq (fun hz2=>?_) (fun hz2 hz2b _=>?_)
  rotate_left
  ·rw [Zu hz2] at hE
   simp -dsimp [g1,g3,g4,g5,g6,g8,g13,hMs,hMp,w2,hz2b]
   exact fin _ _ hE
  rw [hz2,Zj] at hE
  simp -dsimp [g1,g3,g4,g5,g6,g8,g13,hMs,hMp,w2,hz2]
  refine Za (cel _) ?_
  simp -dsimp [g1,g3,g4,g5,g6,g8,g13,hMs,hMp,w2]
  exact fin _ _ hE
 ·rw [if_neg (by omega),if_neg (by omega),if_pos (by omega)] at hE
  refine YH (fun d=>d==155||d==159) (fun i=>if i=31 then some [(0,[]),(1,[]),(2,[]),(3,[]),(4,[]),(5,[]),(6,[]),(8,[]),(9,[]),(10,[]),(12,[]),(7,[0,2,3,5,8,9,10]),(11,[0,2,3,5]),(13,[]),(14,[])] else none) (by kernel_rfl) ?_
  have hMs:=hMs
  rw [hk1] at hMs
  simp -dsimp [g1,g3,g4,g5,g6,g8,g13,hMs,hMp,w2]
  refine Za (ce _) ?_
  simp -dsimp [g1,g3,g4,g5,g6,g8,g13,hMs,hMp,w2]
  refine Zq (fun hz=>?_) (fun hz hzb _=>?_)
  rotate_left
  ·rw [Zu hz] at hE
   simp -dsimp [g1,g3,g4,g5,g6,g8,g13,hMs,hMp,w2,hzb]
   exact fin _ _ hE
  rw [hz,Zj] at hE
  simp -dsimp [g1,g3,g4,g5,g6,g8,g13,hMs,hMp,w2,hz]
  refine Za (cb _) ?_
  simp -dsimp [g1,g3,g4,g5,g6,g8,g13,hMs,hMp,w2]
  refine Zq (fun hz2=>?_) (fun hz2 hz2b _=>?_)
  rotate_left
  ·rw [Zu hz2] at hE
   simp -dsimp [g1,g3,g4,g5,g6,g8,g13,hMs,hMp,w2,hz2b]
   exact fin _ _ hE
  rw [hz2,Zj] at hE
  simp -dsimp [g1,g3,g4,g5,g6,g8,g13,hMs,hMp,w2,hz2]
  refine Za (cel _) ?_
  simp -dsimp [g1,g3,g4,g5,g6,g8,g13,hMs,hMp,w2]
  exact fin _ _ hE
 ·rw [if_neg (by omega),if_neg (by omega),if_neg (by omega),if_pos hk1] at hE
  refine YH (fun d=>d==155||d==159) (fun i=>if i=31 then some [(0,[]),(1,[]),(2,[]),(3,[]),(4,[]),(5,[]),(6,[]),(8,[]),(9,[]),(10,[]),(12,[]),(7,[0,2,3,5,8,9,10]),(11,[0,2,3,5]),(13,[]),(14,[])] else none) (by kernel_rfl) ?_
  have hMs:=hMs
  rw [hk1] at hMs
  simp -dsimp [g1,g3,g4,g5,g6,g8,g13,hMs,hMp,w2]
  refine Za (cw _) ?_
  simp -dsimp [g1,g3,g4,g5,g6,g8,g13,hMs,hMp,w2]
  refine Zr (fun hz=>?_) (fun hz hzb _=>?_)
  rotate_left
  ·rw [Zu hz] at hE
   simp -dsimp [g1,g3,g4,g5,g6,g8,g13,hMs,hMp,w2,hzb]
   exact fin _ _ hE
  rw [hz,Zj] at hE
  simp -dsimp [g1,g3,g4,g5,g6,g8,g13,hMs,hMp,w2,hz]
  have chs:=fun H=>Zcn around s.name (by omega) H
  obtain⟨b,hb⟩:∃b,b=around.any fun x=>decide (s.name=x):=⟨_,rfl⟩
  rw [←hb] at chs hE
  have chr:=fun H=>Zcn F.rets s.name hprt H
  obtain⟨b1,hb1⟩:∃b1,b1=F.rets.any fun x=>decide (s.name=x):=⟨_,rfl⟩
  rw [←hb1] at chr hE
  have cpm:=fun H=>Znd F s.name (by omega) H
  obtain⟨b2,hb2⟩:∃b2,b2=F.params.any fun v=>decide (v.name=s.name):=⟨_,rfl⟩
  rw [←hb2] at cpm hE
  simp only [Fc.cells] at cpm
  have hFe:p.funcs[k]=F:=hF.symm
  have hn0:∀ (l:List Sm) (a:List ByteArray),Zh l<m→Zh l≤2^40→a.length+Zh l≤2^38→∀H,Zi Tryz.prog 101 [.agg p.cells,I k,Sm.sl l,I ((deep:Int)+1),St.sl a,St.sl all] H (fun x H'=>x=.ret (I (YB p k F tv ta all (deep+1) a l))∧H'=H):=fun l a h1 h2 h3 H=>ih l (deep+1) a h1 h2 (by omega) h3 H
  clear hb hb1 hb2 cw car ce ca cb cel cal
  obtain⟨S,hS⟩:∃S,S=YB p k F tv ta all (deep+1) (around++[s.name]) s.body:=⟨_,rfl⟩
  rw [←hS] at hE
  replace hE:=YE.mk hE
  replace fin:=YE.mk fin
  replace hN:=YE.mk hN
  replace ih:=YE.mk ih
  replace hS:=YE.mk hS
  replace hF:=YE.mk hF
  replace hn0:=YE.mk hn0
  replace hk1:=YE.mk hk1
  replace hkd:=YE.mk hkd
  refine Zd (chs _) ?_
  simp -dsimp [g1,g3,g4,g5,g6,g8,g13,hMs,hMp,w2,hz]
  repeat' ((with_reducible first|refine And.intro ?_ ?_|refine Zm (fun _=>?_) (fun _=>?_)|refine Zn (fun _=>?_) (fun _=>?_)|refine Zb (fun _=>?_) (fun _=>?_)|refine Zr (fun _=>?_) (fun _ _ _=>?_)|refine Zt (fun _=>?_) (fun _ _ _=>?_)|refine Zq (fun _=>?_) (fun _ _ _=>?_)|refine Zs (fun _ _ _=>?_) (fun _=>?_)|refine Zp (fun _ _ _=>?_) (fun _=>?_)|refine Zl (fun _ _ _=>?_) (fun _=>?_)|refine Zz (fun _=>?_) (fun _=>?_)|refine Zy (fun _=>?_) (fun _=>?_)|refine Z6 (fun _=>?_) (fun _=>?_)|refine Zw (fun _=>?_) (fun _=>?_)|refine Zx (fun _=>?_) (fun _=>?_)|refine Z3 (fun _=>?_) (fun _=>?_)|refine Za (chr _) ?_|refine Zd (chr _) ?_|refine Za (cpm _) ?_|refine Zd (cpm _) ?_)<;>simp -dsimp [g1,g3,g4,g5,g6,g8,g13,hMs,hMp,w2,hz,List.getElem?_eq_getElem,hk,hFe, *])
  all_goals replace hE:=hE.out
  all_goals first
   |(refine fin.out 2 _ ?_
     rw [←hE]
     rename_i hh
     first
      |(rw [hh];rfl)
      |(simp only [*,Bool.not_false,Y0,Zj]
        first
         |(rw [decide_eq_false (by omega)];rfl)
         |(rw [decide_eq_false (show ¬(s.high≤65536) by omega),Bool.and_false];rfl)
         |(rw [decide_eq_true (by omega),decide_eq_true (by omega)];rfl)
         |trace_state))
   |skip
  have e1:b=false:=by assumption
  have e2:b1=false:=by assumption
  have e3:b2=false:=by assumption
  rw [e1,e2,e3,decide_eq_true (by omega),decide_eq_true (by omega)] at hE
  simp only [Bool.not_false,Bool.and_true,Y0,Zj] at hE
  have hal:around.length≤2^38:=by omega
  obtain⟨ar2,har2⟩:∃ar2,ar2=around++[s.name]:=⟨_,rfl⟩
  have hl2:ar2.length=around.length+1:=by rw [har2];simp
  have hm2:List.map (fun s=>[St s]) around++[[AV.v (Value.string s.name)]]=ar2.map fun s=>[St s]:=by rw [har2];simp
  have hS2:=hS.out
  rw [←har2] at hS2
  have ci:=fun H' (hr:H'[H.length]?=some (Yn 9 1 (ar2.map fun s=>[St s])))=>ZoS H.length hr (hn0.out s.body ar2 (by omega) (by omega) (by omega) [])
  simp only [←hS2,Pg.cells] at ci
  refine Zdl H.length (hMr _) (by simp;omega) (by simp;omega) ?_
  simp -dsimp [g1,g3,g4,g5,g6,g8,g13,hMs,hMp,w2,hz,hMset]
  refine ZD (es:=around.map fun s=>[St s]) (hMr _) (by simp;omega) (by simp;omega) ?_
  rw [hm2]
  simp -dsimp [g1,g3,g4,g5,g6,g8,g13,hMs,hMp,w2,hz,hMset]
  refine Zd (ci _ (hMr _)) ?_
  simp -dsimp [g1,g3,g4,g5,g6,g8,g13,hMs,hMp,w2,hz]
  exact fin.out _ _ hE
 ·rw [if_neg (by omega),if_neg (by omega),if_neg (by omega),if_neg (by omega)] at hE
  refine YH (fun d=>d==155||d==159) (fun i=>if i=31 then some [(0,[]),(1,[]),(2,[]),(3,[]),(4,[]),(5,[]),(6,[]),(8,[]),(9,[]),(10,[]),(12,[]),(7,[0,2,3,5,8,9,10]),(11,[0,2,3,5]),(13,[]),(14,[])] else none) (by kernel_rfl) ?_
  have cc:=fun H=>ZpN p k hp hk tv ta hN all hall s deep hs hd64 H
  have hMs:=hMs
  simp only [Sm.cells_eq,Pg.cells] at cc
  rw [hk1] at hMs cc
  simp -dsimp [g1,g3,g4,g5,g6,g8,g13,hMs,hMp,w2]
  refine Za (cc _) ?_
  simp -dsimp [g1,g3,g4,g5,g6,g8,g13,hMs,hMp,w2]
  exact fin _ _ hE
end Go.Proofs
namespace Go.Proofs
open Go.Mu
theorem ZoK (p:Pg) (k:Nat) (hp:p.Ok) (hk:k<p.funcs.length) (F:Fc) (hF:F=p.funcs[k]) (tv:List (ByteArray×Vr)) (ta:List (ByteArray×Bool)) (hN:Zel p k hk tv ta) (all:List ByteArray) (hall:all.length≤2^40) (m:Nat):Zru p k F tv ta all m:=by
 induction m with
 |zero=>intro l deep around h;omega
 |succ m ih=>
  intro l deep around hm hc hd har H
  refine Zf (Z0 Tryz.func101 rfl (by kernel_rfl) ?_)
  have hlen:=Yi l
  obtain⟨M,hM⟩:∃M,M=H++[.box 25 p.cells]:=⟨_,rfl⟩
  have hMp:M[H.length]?=some (.box 25 p.cells):=by rw [hM];simp
  obtain⟨E,hE⟩:∃E,E=YB p k F tv ta all deep around l:=⟨_,rfl⟩
  have fin:∀c,c=E→ZW H (fun x H'=>x=.ret (I E)∧H'=H) (.ret (I c)) M:=fun c hc=>by rw [hM,hc];exact Z2 rfl ⟨rfl,rfl⟩
  rw [←hE]
  simp only [Pg.cells] at hM hMp
  refine Zc (fun f H'=>M=H'∧f 6=.bp H.length 0∧f 1=I k∧f 2=Sm.sl l∧f 3=I deep∧f 4=St.sl around∧f 5=St.sl all) (by kernel_rfl) ?_ ?_
  ·simp -dsimp [hM]
  clear hM
  rintro g _ ⟨rfl,g6,g1,g2,g3,g4,g5⟩
  refine Zk (by kernel_rfl) ?_
  simp -dsimp [g1,g2,g3,g4,g5,g6]
  refine Zv (fun (i:Nat) f H'=>M=H'∧f 6=.bp H.length 0∧f 1=I k∧f 2=Sm.sl l∧f 3=I deep∧f 4=St.sl around∧f 5=St.sl all∧f 13=I i∧i≤l.length∧YB p k F tv ta all deep around (l.drop i)=E) (fun i=>l.length-i) (by kernel_rfl) 0 (by simp [g1,g2,g3,g4,g5,g6,hE]) ?_
  clear g g1 g2 g3 g4 g5 g6 hE
  rintro i g _ ⟨rfl,g6,g1,g2,g3,g4,g5,g13,hi,hinv⟩
  simp -dsimp [g1,g2,g3,g4,g5,g6,g13]
  refine Zb (fun hlt=>?_) (fun hlt=>?_)
  ·rw [Zo hlt,YB] at hinv
   have hg:=JY hlt
   have cs:=fun H=>ZqI p k hp hk F hF tv ta hN all hall m ih l[i] deep around (by omega) (by omega) hd (by omega) H
   simp only [Pg.cells,Sm.cells_eq] at cs
   simp -dsimp [g1,g2,g3,g4,g5,g6,g13,hMp,List.getElem?_eq_getElem,hlt]
   refine Zd (cs _) ?_
   simp -dsimp [g1,g2,g3,g4,g5,g6,g13]
   refine Zl (fun hz _ _=>?_) (fun hz=>?_)
   ·rw [Zu hz] at hinv
    simp -dsimp
    exact fin _ hinv
   ·rw [hz,Zj] at hinv
    simp -dsimp [g1,g2,g3,g4,g5,g6,g13]
    exact⟨i+1,by omega,ZC (by omega),by omega,hinv⟩
  ·rw [ZI hlt,YB] at hinv
   simp -dsimp
   exact fin _ hinv
theorem Zp0 (p:Pg) (k:Nat) (hp:p.Ok2) (hk:k<p.funcs.length) (F:Fc) (hF:F=p.funcs[k]) (tv:List (ByteArray×Vr)) (ta:List (ByteArray×Bool)) (hN:Zel p k hk tv ta) (l:List Sm) (deep:Nat) (around:List ByteArray) (hl:Zh l≤2^40) (hd:deep≤65) (har:around.length+Zh l≤2^38) (H:List Ze):
 Zi Tryz.prog 63 [.agg p.cells,I k,Sm.sl l,I deep,St.sl around] H (fun x H'=>x=.ret (I (YB p k F tv ta (ZF 1 F.body) deep around l))∧H'=H):=by
 refine Zf (Zg Tryz.func63 rfl (by kernel_rfl) ?_)
 have hb:=hp.body36 _ (List.getElem_mem hk)
 rw [←hF] at hb
 have cc:=fun H=>Znn _ F.body 1 (Nat.lt_succ_self _) hb (by omega) H
 have hw:=ZbJ _ F.body (Nat.le_refl _) 1
 have ci:=fun H=>ZoK p k hp.ok hk F hF tv ta hN (ZF 1 F.body) (by omega) _ l deep around (Nat.lt_succ_self _) hl hd har H
 simp only [Pg.cells] at ci
 simp -dsimp [List.getElem?_eq_getElem,hk,←hF]
 refine Zd (cc _) ?_
 simp -dsimp
 refine Zd (ci _) ?_
 simp -dsimp
 exact Z2 rfl ⟨rfl,rfl⟩
mutual
def Ex.num (deep:Nat):Ex→Nat
 | .mk _ _ _ args=>if 64<deep then 0 else 1+Zaw (deep+1) args
def Zaw (deep:Nat):List Ex→Nat
 |[]=>0
 |e::l=>e.num deep+Zaw deep l
end
theorem Ex.num_eq (deep:Nat) (e:Ex):e.num deep=if 64<deep then 0 else 1+Zaw (deep+1) e.args:=by cases e;rw [Ex.num];rfl
theorem ZjA (m:Nat):∀ (l:List Ex) (deep:Nat),ZE l≤m→Zaw deep l≤ZE l:=by
 induction m with
 |zero=>intro l deep hl;have:=Yy l;have:l=[]:=List.eq_nil_of_length_eq_zero (by omega);subst this;simp [Zaw]
 |succ m ih=>
  intro l deep
  induction l with
  |nil=>intro _;simp [Zaw]
  |cons e l ihl=>
   intro hl
   simp only [ZE,Zaw] at hl ⊢
   have he:=Ex.count_eq e
   have h1:e.num deep≤e.count:=by
    rw [Ex.num_eq]
    split
    ·omega
    ·have:=ih e.args (deep+1) (by omega);omega
   have:=ihl (by omega)
   omega
theorem Ex.num_le (deep:Nat) (e:Ex):e.num deep≤e.count:=by
 rw [Ex.num_eq,Ex.count_eq]
 split
 ·omega
 ·have:=ZjA _ e.args (deep+1) (Nat.le_refl _);omega
theorem ZfU (m:Nat):∀ (e:Ex) (deep:Nat),e.count≤m→e.count≤2^40→deep≤65→∀ (H:List Ze),
 Zi Tryz.prog 170 [.agg e.cells,I deep] H (fun x H'=>x=.ret (I (e.num deep))∧H'=H):=by
 induction m with
 |zero=>intro e deep h;have:=Ex.count_eq e;omega
 |succ m ih=>
  intro e deep hm hc hd H
  refine Zf (Z0 Tryz.func170 rfl (by kernel_rfl) ?_)
  have hce:=Ex.count_eq e
  have hla:=Yy e.args
  have hnl:=ZjA _ e.args (deep+1) (Nat.le_refl _)
  obtain⟨M,hM⟩:∃M,M=H++[.box 73 e.cells]:=⟨_,rfl⟩
  have hMe:M[H.length]?=some (.box 73 e.cells):=by rw [hM];simp
  obtain⟨E,hE⟩:∃E,E=e.num deep:=⟨_,rfl⟩
  have fin:∀c:Int,c=(E:Int)→ZW H (fun x H'=>x=.ret (I E)∧H'=H) (.ret (I c)) M:=fun c hc=>by rw [hM,hc];exact Z2 rfl ⟨rfl,rfl⟩
  rw [←hE]
  rw [Ex.num_eq] at hE
  simp only [Ex.cells_eq] at hM hMe
  refine Zc (fun f H'=>M=H'∧f 2=.bp H.length 0∧f 1=I deep) (by kernel_rfl) ?_ ?_
  ·simp -dsimp [hM]
  clear hM
  rintro g _ ⟨rfl,g2,g1⟩
  refine Zc (fun f H'=>M=H'∧f 2=.bp H.length 0∧f 1=I deep∧deep≤64) (by kernel_rfl) ?_ ?_
  ·simp -dsimp [g1,g2]
   refine Zb (fun h=>?_) (fun h=>?_)
   ·simp -dsimp
    rw [if_pos (by omega)] at hE
    exact fin 0 (by omega)
   ·simp -dsimp [g1,g2]
    omega
  clear g g1 g2
  rintro g _ ⟨rfl,g2,g1,hd64⟩
  rw [if_neg (by omega)] at hE
  have w2:IntKind.i64.wrap ((deep:Int)+1)=(deep:Int)+1:=YG (by omega) (by omega)
  refine Zk (by kernel_rfl) ?_
  simp -dsimp [g1,g2]
  refine Zv (fun (i:Nat) f H'=>M=H'∧f 2=.bp H.length 0∧f 1=I deep∧f 6=I i∧i≤e.args.length∧∃n:Nat,f 5=I n∧n+Zaw (deep+1) (e.args.drop i)=E) (fun i=>e.args.length-i) (by kernel_rfl) 0 (by simp [g1,g2];exact⟨1,rfl,by omega⟩) ?_
  clear g g1 g2
  rintro i g _ ⟨rfl,g2,g1,g6,hi,n,g5,hn⟩
  simp -dsimp [g1,g2,g5,g6,hMe]
  refine Zb (fun hlt=>?_) (fun hlt=>?_)
  ·rw [Zo hlt,Zaw] at hn
   have hg:=JN hlt
   have cr:=fun H=>ih e.args[i] (deep+1) (by omega) (by omega) (by omega) H
   simp only [Ex.cells_eq,show ((deep+1:Nat):Int)=(deep:Int)+1 from rfl] at cr
   have w3:IntKind.i64.wrap ((n:Int)+(e.args[i].num (deep+1):Nat))=((n+e.args[i].num (deep+1):Nat):Int):=by rw [YG (by omega) (by omega)];rfl
   simp -dsimp [g1,g2,g5,g6,hMe,w2,List.getElem?_eq_getElem,hlt]
   refine Za (cr _) ?_
   simp -dsimp [g1,g2,g5,g6,w2]
   exact⟨i+1,by omega,ZC (by omega),by omega,_,w3,by omega⟩
  ·rw [ZI hlt,Zaw] at hn
   simp -dsimp [g5]
   exact fin _ (by omega)
end Go.Proofs
namespace Go.Proofs
open Go.Mu
def Ex.nz (deep:Nat) (e:Ex):Nat:=if ZbS e then 0 else e.num deep
def Zbv (deep:Nat):List Ex→Nat
 |[]=>0
 |e::l=>e.nz deep+Zbv deep l
mutual
def Sm.num (deep:Nat):Sm→Nat
 | .mk _ _ _ e a args _ _ body els=>1+e.nz deep+a.nz deep+Zbv deep args+YU (deep+1) body+YU (deep+1) els
def YU (deep:Nat):List Sm→Nat
 |[]=>0
 |s::l=>if 64<deep then 0 else s.num deep+YU deep l
end
theorem Sm.num_eq (deep:Nat) (s:Sm):s.num deep=1+s.e.nz deep+s.a.nz deep+Zbv deep s.args+YU (deep+1) s.body+YU (deep+1) s.els:=by cases s;rw [Sm.num];rfl
theorem Zlk {deep:Nat} (h:64<deep) (l:List Sm):YU deep l=0:=by
 cases l with
 |nil=>rw [YU]
 |cons s l=>rw [YU,if_pos h]
theorem Ex.nz_le (deep:Nat) (e:Ex):e.nz deep≤e.count:=by
 unfold Ex.nz
 split
 ·omega
 ·exact e.num_le deep
theorem ZiI (deep:Nat):∀ (l:List Ex),Zbv deep l≤ZE l
 |[]=>by simp [Zbv]
 |e::l=>by
  simp only [Zbv,ZE]
  have:=e.nz_le deep
  have:=ZiI deep l
  omega
theorem ZjD (m:Nat):∀ (l:List Sm) (deep:Nat),Zh l≤m→YU deep l≤Zh l:=by
 induction m with
 |zero=>intro l deep hl;have:=Yi l;have:l=[]:=List.eq_nil_of_length_eq_zero (by omega);subst this;simp [YU]
 |succ m ih=>
  intro l deep
  induction l with
  |nil=>intro _;simp [YU]
  |cons s l ihl=>
   intro hl
   simp only [Zh] at hl
   have he:=Sm.count_eq s
   rw [YU,Zh]
   split
   ·omega
   ·rw [Sm.num_eq]
    have a:=ih s.body (deep+1) (by omega)
    have b:=ih s.els (deep+1) (by omega)
    have c:=ihl (by omega)
    have d:=s.e.nz_le deep
    have e:=s.a.nz_le deep
    have f:=ZiI deep s.args
    omega
theorem ZsV (m:Nat):∀ (l:List Sm) (deep:Nat),Zh l<m→Zh l≤2^40→deep≤65→∀ (H:List Ze),
 Zi Tryz.prog 99 [Sm.sl l,I deep] H (fun x H'=>x=.ret (I (YU deep l))∧H'=H):=by
 induction m with
 |zero=>intro l deep h;omega
 |succ m ih=>
  intro l deep hm hc hd H
  refine Z0 Tryz.func99 rfl (by kernel_rfl) ?_
  have hlen:=Yi l
  have hnl:=ZjD _ l deep (Nat.le_refl _)
  obtain⟨E,hE⟩:∃E,E=YU deep l:=⟨_,rfl⟩
  rw [←hE] at hnl ⊢
  refine Zc (fun f H'=>H=H'∧f 0=Sm.sl l∧f 1=I deep) (by kernel_rfl) ?_ ?_
  ·simp -dsimp
  rintro g _ ⟨rfl,g0,g1⟩
  refine Zc (fun f H'=>H=H'∧f 0=Sm.sl l∧f 1=I deep∧deep≤64) (by kernel_rfl) ?_ ?_
  ·simp -dsimp [g0,g1]
   refine Zb (fun h=>?_) (fun h=>?_)
   ·simp -dsimp
    rw [hE,Zlk (by omega)]
    rfl
   ·simp -dsimp [g0,g1]
    omega
  clear g g0 g1
  rintro g _ ⟨rfl,g0,g1,hd64⟩
  have w2:IntKind.i64.wrap ((deep:Int)+1)=(deep:Int)+1:=YG (by omega) (by omega)
  refine Zc (fun f H'=>H=H'∧f 0=Sm.sl l∧f 1=I deep∧f 5=I 0) (by kernel_rfl) ?_ ?_
  ·simp -dsimp [g0,g1]
  clear g g0 g1
  rintro g _ ⟨rfl,g0,g1,g5⟩
  refine Z4 (fun f H'=>H=H'∧f 5=I E) ?_ ?_
  rotate_left
  ·clear g g0 g1 g5
   rintro g _ ⟨rfl,g5⟩
   refine Zk (by kernel_rfl) ?_
   simp -dsimp [g5]
  refine Zc (fun f H'=>H=H'∧f 0=Sm.sl l∧f 1=I deep∧f 5=I 0∧f 6=I 0) (by kernel_rfl) ?_ ?_
  ·simp -dsimp [g0,g1,g5]
  clear g g0 g1 g5
  rintro g _ ⟨rfl,g0,g1,g5,g6⟩
  refine Z9 ?_
  refine Yd (fun (i:Nat) f H'=>H=H'∧f 0=Sm.sl l∧f 1=I deep∧f 6=I i∧i≤l.length∧∃n:Nat,f 5=I n∧n+YU deep (l.drop i)=E) (fun i=>l.length-i) 0 ⟨rfl,g0,g1,g6,by omega,0,g5,by rw [hE];simp⟩ ?_
  clear g g0 g1 g5 g6
  rintro i g _ ⟨rfl,g0,g1,g6,hi,n,g5,hn⟩
  refine Zc (fun f H'=>H=H'∧f 0=Sm.sl l∧f 1=I deep∧f 6=I i∧f 5=I n∧i<l.length) (by kernel_rfl) ?_ ?_
  ·simp -dsimp [g0,g1,g5,g6]
   refine Zb (fun hlt=>?_) (fun hlt=>?_)
   ·simp -dsimp [g0,g1,g5,g6]
    omega
   ·rw [ZI hlt,YU,Nat.add_zero] at hn
    simp -dsimp [g5]
    omega
  clear g g0 g1 g5 g6
  rintro g _ ⟨rfl,g0,g1,g6,g5,hlt⟩
  rw [Zo hlt,YU,if_neg (by omega)] at hn
  have hg:=JY hlt
  have hsc:=Sm.count_eq l[i]
  obtain⟨s,hs⟩:∃s,s=l[i]:=⟨_,rfl⟩
  rw [←hs] at hn hg hsc
  rw [Sm.num_eq] at hn
  obtain⟨N,hN⟩:∃N,N=n+(1+s.e.nz deep+s.a.nz deep+Zbv deep s.args+YU (deep+1) s.body+YU (deep+1) s.els):=⟨_,rfl⟩
  refine Z4 (fun f H'=>H=H'∧f 0=Sm.sl l∧f 1=I deep∧f 6=I i∧f 5=I N) ?_ ?_
  rotate_left
  ·clear g g0 g1 g5 g6
   rintro g _ ⟨rfl,g0,g1,g6,g5⟩
   refine Zk (by kernel_rfl) ?_
   simp -dsimp [g0,g1,g5,g6]
   first
    |exact⟨i+1,by omega,ZC (by omega),by omega,N,rfl,by omega⟩
    |exact⟨i+1,by omega,ZC (by omega),by omega,by omega⟩
  refine Z9 ?_
  refine Zc (fun f H'=>H=H'∧f 0=Sm.sl l∧f 1=I deep∧f 6=I i∧f 5=I (n+1:Nat)) (by kernel_rfl) ?_ ?_
  ·simp -dsimp [g0,g1,g5,g6]
   exact YG (by omega) (by omega)
  clear g g0 g1 g5 g6
  rintro g _ ⟨rfl,g0,g1,g6,g5⟩
  have d1:=fun H=>ZbR s.e H
  have d2:=fun H=>ZbR s.a H
  have x1:=fun H=>ZfU _ s.e deep (Nat.le_refl _) (by omega) (by omega) H
  have x2:=fun H=>ZfU _ s.a deep (Nat.le_refl _) (by omega) (by omega) H
  simp only [Ex.cells_eq] at d1 d2 x1 x2
  have m1:=s.e.num_le deep
  have m2:=s.a.num_le deep
  have m3:=ZiI deep s.args
  have hnz:=s.e.nz_le deep
  have hnz2:=s.a.nz_le deep
  refine Zc (fun f H'=>H=H'∧f 0=Sm.sl l∧f 1=I deep∧f 6=I i∧f 5=I (n+1+s.e.nz deep:Nat)) (by kernel_rfl) ?_ ?_
  ·simp -dsimp [g0,g1,g5,g6,List.getElem?_eq_getElem,hlt,←hs]
   refine Za (d1 _) ?_
   unfold Ex.nz
   cases hb:ZbS s.e
   ·simp -dsimp [g0,g1,g5,g6,List.getElem?_eq_getElem,hlt,←hs]
    refine Za (x1 _) ?_
    simp -dsimp [g0,g1,g5,g6]
    exact YG (by omega) (by omega)
   ·simp -dsimp [g0,g1,g5,g6]
  clear g g0 g1 g5 g6
  rintro g _ ⟨rfl,g0,g1,g6,g5⟩
  obtain⟨n1,hn1⟩:∃n1,n1=n+1+s.e.nz deep:=⟨_,rfl⟩
  rw [←hn1] at g5
  refine Zc (fun f H'=>H=H'∧f 0=Sm.sl l∧f 1=I deep∧f 6=I i∧f 5=I (n1+s.a.nz deep:Nat)) (by kernel_rfl) ?_ ?_
  ·simp -dsimp [g0,g1,g5,g6,List.getElem?_eq_getElem,hlt,←hs]
   refine Za (d2 _) ?_
   unfold Ex.nz
   cases hb:ZbS s.a
   ·simp -dsimp [g0,g1,g5,g6,List.getElem?_eq_getElem,hlt,←hs]
    refine Za (x2 _) ?_
    simp -dsimp [g0,g1,g5,g6]
    exact YG (by omega) (by omega)
   ·simp -dsimp [g0,g1,g5,g6]
  clear g g0 g1 g5 g6
  rintro g _ ⟨rfl,g0,g1,g6,g5⟩
  obtain⟨n2,hn2⟩:∃n2,n2=n1+s.a.nz deep:=⟨_,rfl⟩
  rw [←hn2] at g5
  have hla:=Yy s.args
  refine Zc (fun f H'=>H=H'∧f 0=Sm.sl l∧f 1=I deep∧f 6=I i∧f 5=I (n2+Zbv deep s.args:Nat)) (by kernel_rfl) ?_ ?_
  ·simp -dsimp [g0,g1,g5,g6]
   refine Zv (fun (j:Nat) f H'=>H=H'∧f 0=Sm.sl l∧f 1=I deep∧f 6=I i∧f 7=I j∧j≤s.args.length∧∃q:Nat,f 5=I q∧q+Zbv deep (s.args.drop j)=n2+Zbv deep s.args) (fun j=>s.args.length-j) (by kernel_rfl) 0 (by simp [g0,g1,g5,g6]) ?_
   clear g g0 g1 g5 g6
   rintro j g _ ⟨rfl,g0,g1,g6,g7,hj,q,g5,hq⟩
   simp -dsimp [g0,g1,g5,g6,g7,List.getElem?_eq_getElem,hlt,←hs]
   refine Zb (fun hjt=>?_) (fun hjt=>?_)
   ·rw [Zo hjt,Zbv] at hq
    have hxg:=JN hjt
    have d3:=fun H=>ZbR s.args[j] H
    have x3:=fun H=>ZfU _ s.args[j] deep (Nat.le_refl _) (by omega) (by omega) H
    simp only [Ex.cells_eq] at d3 x3
    have m5:=s.args[j].nz_le deep
    simp -dsimp [g0,g1,g5,g6,g7,List.getElem?_eq_getElem,hlt,hjt,←hs]
    refine Za (d3 _) ?_
    unfold Ex.nz at hq m5
    cases hb:ZbS s.args[j]
    ·rw [hb] at hq m5
     simp only [Bool.false_eq_true,if_false] at hq m5
     simp -dsimp [g0,g1,g5,g6,g7,List.getElem?_eq_getElem,hlt,hjt,←hs]
     refine Za (x3 _) ?_
     simp -dsimp [g0,g1,g5,g6,g7]
     exact⟨j+1,by omega,ZC (by omega),by omega,q+s.args[j].num deep,YG (by omega) (by omega),by omega⟩
    ·rw [hb] at hq
     simp only [if_true] at hq
     simp -dsimp [g0,g1,g5,g6,g7]
     first
      |exact⟨j+1,by omega,ZC (by omega),by omega,q,rfl,by omega⟩
      |exact⟨j+1,by omega,ZC (by omega),by omega,by omega⟩
      |trace_state
   ·rw [ZI hjt,Zbv] at hq
    simp -dsimp [g0,g1,g5,g6]
    omega
  clear g g0 g1 g5 g6
  rintro g _ ⟨rfl,g0,g1,g6,g5⟩
  obtain⟨n3,hn3⟩:∃n3,n3=n2+Zbv deep s.args:=⟨_,rfl⟩
  rw [←hn3] at g5
  have cb:=fun H=>ih s.body (deep+1) (by omega) (by omega) (by omega) H
  have ce:=fun H=>ih s.els (deep+1) (by omega) (by omega) (by omega) H
  simp only [show ((deep+1:Nat):Int)=(deep:Int)+1 from rfl] at cb ce
  have w3:IntKind.i64.wrap ((n3:Int)+(YU (deep+1) s.body:Nat))=((n3+YU (deep+1) s.body:Nat):Int):=by rw [YG (by omega) (by omega)];rfl
  have w4:IntKind.i64.wrap (((n3+YU (deep+1) s.body:Nat):Int)+(YU (deep+1) s.els:Nat))=((n3+YU (deep+1) s.body+YU (deep+1) s.els:Nat):Int):=by rw [YG (by omega) (by omega)];rfl
  refine Zk (by kernel_rfl) ?_
  simp -dsimp [g0,g1,g5,g6,w2,List.getElem?_eq_getElem,hlt,←hs]
  refine Zd (cb _) ?_
  simp -dsimp [g0,g1,g5,g6,w2,List.getElem?_eq_getElem,hlt,←hs]
  refine Zd (ce _) ?_
  simp -dsimp [g0,g1,g5,g6]
  rw [w3,w4]
  omega
end Go.Proofs
namespace Go.Proofs
open Go.Mu
theorem Znj (m:Nat):∀ (l:List Ex),ZE l≤m→∀ (deep:Nat) (n:Int),0≤n→n≤65537→XI deep n l=min (n+Zaw deep l) 65537:=by
 induction m with
 |zero=>intro l hl deep n h0 h1;have:=Yy l;have:l=[]:=List.eq_nil_of_length_eq_zero (by omega);subst this;simp only [XI,Zaw];omega
 |succ m ih=>
  intro l
  induction l with
  |nil=>intro _ deep n h0 h1;simp only [XI,Zaw];omega
  |cons e l ihl=>
   intro hl deep n h0 h1
   simp only [ZE] at hl
   have he:=Ex.count_eq e
   have h2:e.cnt deep n=min (n+e.num deep) 65537:=by
    rw [Ex.cnt_eq,Ex.num_eq]
    by_cases hd:64<deep
    ·rw [if_pos (by omega),if_pos hd];omega
    ·rw [if_neg (by omega),if_neg hd]
     by_cases hn:65536<n
     ·rw [if_pos hn];omega
     ·rw [if_neg hn]
      have:=ih e.args (by omega) (deep+1) (n+1) (by omega) (by omega)
      rw [show ((deep+1:Nat):Int)=(deep:Int)+1 from rfl] at this
      rw [this];omega
   rw [XI,Zaw,h2]
   have:=ihl (by omega) deep (min (n+e.num deep) 65537) (by omega) (by omega)
   rw [this];omega
theorem Ex.cnt_num (e:Ex) (deep:Nat) (n:Int) (h0:0≤n) (h1:n≤65537):e.cnt deep n=min (n+e.num deep) 65537:=by
 have h:=Znj _ [e] (Nat.le_refl _) deep n h0 h1
 simp only [XI,Zaw] at h
 rw [h];omega
theorem ZdK (deep:Nat):∀ (l:List Ex) (n:Int),0≤n→n≤65537→Xn deep n l=min (n+Zbv deep l) 65537
 |[],n,h0,h1=>by simp only [Xn,Zbv];omega
 |e::l,n,h0,h1=>by
  rw [Xn,Zbv,Ex.nz]
  split
  ·rw [ZdK deep l n h0 h1];omega
  ·rw [Ex.cnt_num e deep n h0 h1,ZdK deep l _ (by omega) (by omega)];omega
theorem Znz (m:Nat):∀ (l:List Sm),Zh l≤m→∀ (deep:Nat) (n:Int),0≤n→n≤65537→Jy deep n l=min (n+YU deep l) 65537:=by
 induction m with
 |zero=>intro l hl deep n h0 h1;have:=Yi l;have:l=[]:=List.eq_nil_of_length_eq_zero (by omega);subst this;simp only [Jy,YU];omega
 |succ m ih=>
  intro l
  induction l with
  |nil=>intro _ deep n h0 h1;simp only [Jy,YU];omega
  |cons s l ihl=>
   intro hl deep n h0 h1
   simp only [Zh] at hl
   have he:=Sm.count_eq s
   rw [Jy,YU]
   by_cases hd:64<deep
   ·rw [if_pos (by omega),if_pos hd];omega
   ·rw [if_neg (by omega),if_neg hd]
    by_cases hn:65536<n
    ·rw [if_pos hn];omega
    ·rw [if_neg hn,Sm.cnt_eq,Sm.num_eq]
     have q1:=ZdK deep (s.e::s.a::s.args) (n+1) (by omega) (by omega)
     simp only [Zbv] at q1
     have q2:=ih s.body (by omega) (deep+1) (Xn deep (n+1) (s.e::s.a::s.args)) (by omega) (by omega)
     have q3:=ih s.els (by omega) (deep+1) (Jy ((deep:Int)+1) (Xn deep (n+1) (s.e::s.a::s.args)) s.body) (by rw [show ((deep:Int)+1)=((deep+1:Nat):Int) from rfl];omega) (by rw [show ((deep:Int)+1)=((deep+1:Nat):Int) from rfl];omega)
     rw [show ((deep+1:Nat):Int)=(deep:Int)+1 from rfl] at q2 q3
     rw [q3,ihl (by omega) deep _ (by omega) (by omega)]
     omega
def JH:List Fc→Nat
 |[]=>0
 |f::l=>YU 1 f.body+JH l
theorem Zfo:∀ (l:List Fc) (n:Int),0≤n→n≤65537→X7 n l=min (n+JH l) 65537
 |[],n,h0,h1=>by simp only [X7,JH];omega
 |f::l,n,h0,h1=>by
  have q:=Znz _ f.body (Nat.le_refl _) 1 n h0 h1
  rw [show ((1:Nat):Int)=1 from rfl] at q
  rw [X7,JH,q,Zfo l _ (by omega) (by omega)];omega
theorem Zpa (p:Pg):ZaS p=min (JH p.funcs:Int) 65537:=by rw [ZaS,Zfo _ _ (by omega) (by omega)];omega
theorem ZiR {l:List Fc} {i:Nat} (h:i<l.length):JH (l.drop i)=YU 1 l[i].body+JH (l.drop (i+1)):=by rw [Zo h,JH]
theorem Zq2 (p:Pg) (hp:p.Ok2) (hn:JH p.funcs≤2^50) (H:List Ze):Zi Tryz.prog 59 [.agg p.cells] H (fun e H'=>e=.ret (I (ZaS p))∧H'=H):=by
 refine Zf (Zg Tryz.func59 rfl (by kernel_rfl) ?_)
 have hpf:=hp.ok.funcs
 obtain⟨M,hM⟩:∃M,M=H++[.box 25 p.cells]:=⟨_,rfl⟩
 have hMp:M[H.length]?=some (.box 25 p.cells):=by rw [hM];simp
 have fin:∀c,c=ZaS p→ZW H (fun x H'=>x=.ret (I (ZaS p))∧H'=H) (.ret (I c)) M:=fun c hc=>by rw [hM,hc];exact Z2 rfl ⟨rfl,rfl⟩
 have hsz:=Zpa p
 simp only [Pg.cells] at hM hMp
 simp -dsimp
 rw [←hM]
 refine Zv (fun (i:Nat) f H'=>M=H'∧f 1=.bp H.length 0∧f 4=I i∧i≤p.funcs.length∧∃n:Nat,f 3=I n∧n+JH (p.funcs.drop i)=JH p.funcs) (fun i=>p.funcs.length-i) (by kernel_rfl) 0 (by simp) ?_
 clear hM
 rintro i g _ ⟨rfl,g1,g4,hi,n,g3,hnn⟩
 simp -dsimp [g1,g3,g4,hMp]
 refine Zb (fun hlt=>?_) (fun hlt=>?_)
 ·rw [ZiR hlt] at hnn
  have hb:=hp.body36 _ (List.getElem_mem hlt)
  have cs:=fun H=>ZsV _ p.funcs[i].body 1 (Nat.lt_succ_self _) (by omega) (by omega) H
  have w3:IntKind.i64.wrap ((n:Int)+(YU 1 p.funcs[i].body:Nat))=((n+YU 1 p.funcs[i].body:Nat):Int):=by rw [YG (by omega) (by omega)];rfl
  simp -dsimp [g1,g3,g4,hMp,List.getElem?_eq_getElem,hlt]
  refine Za (cs _) ?_
  simp -dsimp [g1,g3,g4]
  exact⟨i+1,by omega,ZC (by omega),by omega,_,w3,by omega⟩
 ·rw [ZI hlt,JH,Nat.add_zero] at hnn
  simp -dsimp [g3]
  refine Zb (fun h=>?_) (fun h=>?_)
  ·simp -dsimp
   exact fin _ (by omega)
  ·simp -dsimp [g3]
   exact fin _ (by omega)
end Go.Proofs
