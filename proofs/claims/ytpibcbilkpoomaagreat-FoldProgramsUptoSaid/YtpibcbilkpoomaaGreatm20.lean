import Derived.Test.YtpibcbilkpoomaaGreatm18
import Derived.Test.YtpibcbilkpoomaaGreatm19
set_option linter.all false
set_option maxHeartbeats 4000000
set_option maxRecDepth 100000
namespace Go.Mu
open Go.RowKit (Below)
section
variable {P:Program} {n:Nat} {Q:AQ}
theorem YP {c:Operand} {x y:Code} {f:Fr} {H:List Ze} {ds:List ZO} (hc:Zk9 n c=true) (hv:ev f c=.v (.bool true)) (h:X6 P n x Q f H ds):X6 P n (.cond c x y) Q f H ds:=
 ZiC hc (by rw [hv];exact h)
theorem YM {c:Operand} {x y:Code} {f:Fr} {H:List Ze} {ds:List ZO} (hc:Zk9 n c=true) (hv:ev f c=.v (.bool false)) (h:X6 P n y Q f H ds):X6 P n (.cond c x y) Q f H ds:=
 ZiC hc (by rw [hv];exact h)
theorem Zay {H G L:List Ze} {R:AE→List Ze→Prop} {r:AV} (hu:YC G.length G=true) (j sz:Nat) (t:TypeId) (es:List (List AV)) (hj:L[j]?=some (.row t sz es)) (hz:es.flatten.all AV.frzB=true)
 (h:ZW H R (.ret (r.frz (G.length+j) sz es)) (G++(L.map (Ze.frz (G.length+j) sz es)).set j .gone)):ZW H R (.ret r) (G++L):=by
 obtain⟨H1,r1,g,rest⟩:=h
 rw [←Zfj j hu] at g
 exact⟨H1,r1,.step _ _ (G.length+j) sz t es _ _ (by rw [List.getElem?_append_right (by omega)];simpa using hj) hz g,rest⟩
theorem Zpj {H G L:List Ze} {R:AE→List Ze→Prop} (hg:G.length=H.length) (hu:YC G.length G=true) (t1 t2 s1 s2:Nat) (e1 e2:List (List AV)) (hz1:e1.flatten.all AV.frzB=true) (hz2:e2.flatten.all AV.frzB=true)
 (h:R (.ret (.tup [.vs s1 e1,.vs s2 e2])) G):Zao (ZW H R) (.ret (.tup [Yo H.length e1,Yo (H.length+1) e2])) (G++Yn t1 s1 e1::Yn t2 s2 e2::L):=by
 have hT:∀L r,r.under H.length=true→R (.ret r) G→ZW H R (.ret r) (G++L):=fun L r h1 h2=>Zer (by omega) (fun _=>hu) (by rw [hg];exact h1) h2
 have two:∀ (L:List Ze) (x:AV),XP x (.vs s1 e1)→(∀k z e,x.frz k z e=x)→L[1]?=some (Yn t2 s2 e2)→Zao (ZW H R) (.ret (.tup [x,Yo (H.length+1) e2])) (G++L):=by
  intro L x hx hfx hj
  by_cases he:e2=[]
  ·subst he
   rw [Xd]
   refine ZR (.tupL (.cons hx (.cons (.nil s2) .nil))) (hT _ _ rfl h)
  ·refine⟨.tup [.vs s1 e1,Yo (H.length+1) e2],.tupL (.cons hx (.cons (.refl _) .nil)),?_⟩
   rw [Yn,if_neg he] at hj
   refine Zay hu 1 s2 t2 e2 hj hz2 ?_
   have hf:(AV.tup [.vs s1 e1,Yo (H.length+1) e2]).frz (G.length+1) s2 e2=.tup [.vs s1 e1,.vs s2 e2]:=by
    rw [hg];simp only [AV.frz,Zam];rw [JV _ _ _ he]
   rw [hf]
   exact hT _ _ rfl h
 by_cases he:e1=[]
 ·subst he
  rw [Xd]
  exact two _ _ (.nil s1) (fun _ _ _=>rfl) rfl
 ·have hf:(AV.tup [Yo H.length e1,Yo (H.length+1) e2]).frz (G.length+0) s1 e1=.tup [.vs s1 e1,Yo (H.length+1) e2]:=by
   rw [hg];simp only [AV.frz,Zam,Nat.add_zero];rw [JV _ _ _ he,Zgv (by omega)]
  by_cases he2:e2=[]
  ·subst he2
   refine⟨.tup [Yo H.length e1,.vs s2 []],.tupL (.cons (.refl _) (.cons (by rw [Xd];exact .nil s2) .nil)),?_⟩
   refine Zay hu 0 s1 t1 e1 (by rw [Yn,if_neg he];rfl) hz1 ?_
   have hf:(AV.tup [Yo H.length e1,.vs s2 []]).frz (G.length+0) s1 e1=.tup [.vs s1 e1,.vs s2 []]:=by
    rw [hg];simp only [AV.frz,Zam,Nat.add_zero];rw [JV _ _ _ he]
   rw [hf]
   exact hT _ _ rfl h
  ·refine ZR (.refl _) ?_
   refine Zay hu 0 s1 t1 e1 (by rw [Yn,if_neg he];rfl) hz1 ?_
   rw [hf]
   refine Zay hu 1 s2 t2 e2 ?_ hz2 ?_
   ·have hid:=Zfd (k:=G.length+0) (sz:=s1) (es:=e1) (n:=G.length) (by omega) (Yn t2 s2 e2) (YR hz2)
    simp only [List.map_cons,List.set_cons_zero,List.getElem?_cons_succ,List.getElem?_cons_zero]
    rw [hid,Yn,if_neg he2]
   ·have hf2:(AV.tup [.vs s1 e1,Yo (H.length+1) e2]).frz (G.length+1) s2 e2=.tup [.vs s1 e1,.vs s2 e2]:=by
     rw [hg];simp only [AV.frz,Zam];rw [JV _ _ _ he2]
    rw [hf2]
    exact hT _ _ rfl h
theorem Zg7 {c:Code} {f:Fr} {N L:List Ze} (hu:YC N.length N=true) (j sz:Nat) (t:TypeId) (es:List (List AV)) (hj:L[j]?=some (Yn t sz es)) (hz:es.flatten.all AV.frzB=true)
 (b:Nat) (bt:TypeId) (cs cs':List AV) (hb:L[b]?=some (.box bt cs)) (hbj:b≠j) (hw:JZ (cs.map (AV.frzS (N.length+j) sz es)) cs')
 (h:∀L' f',(∀s,f' s=(f s).frzS (N.length+j) sz es)→L'.length=L.length→L'[b]?=some (.box bt cs')→(∀i x,i≠j→i≠b→L[i]?=some x→x.under N.length=true→L'[i]?=some x)→X6 P n c Q f' (N++L') []):X6 P n c Q f (N++L) []:=by
 refine ZjS hu j sz t es hj hz ?_
 have hb1:((L.map (Ze.frzS (N.length+j) sz es)).set j .gone)[b]?=some (.box bt (cs.map (AV.frzS (N.length+j) sz es))):=by
  rw [List.getElem?_set_ne (Ne.symm hbj),List.getElem?_map,hb]
  simp only [Option.map_some,Zr8]
 have hb2:(N++(L.map (Ze.frzS (N.length+j) sz es)).set j .gone)[N.length+b]?=some (.box bt (cs.map (AV.frzS (N.length+j) sz es))):=by
  rw [List.getElem?_append_right (by omega)];simpa using hb1
 refine Zgw (N.length+b) bt _ cs' hb2 hw ?_
 rw [List.set_append,if_neg (by omega),Nat.add_sub_cancel_left]
 refine h _ _ (fun _=>rfl) (by simp) ?_ ?_
 ·have hlt:=(List.getElem?_eq_some_iff.1 hb1).1
  rw [List.getElem?_set_self hlt]
 ·intro i x hij hib hx hux
  rw [List.getElem?_set_ne (Ne.symm hib),List.getElem?_set_ne (Ne.symm hij),List.getElem?_map,hx]
  simp only [Option.map_some]
  rw [ZnR (n:=N.length) (by omega) x hux]
def Cx.lessR (cx:Cx) (b:Nat) (t:TypeId) (sz:Nat) (es:List (List AV)):Cx:={cx with H:=cx.H.set b (.row t sz es)}
theorem Zd2 {es es':List (List AV)} (h:ZbC es es'):es.length=es'.length∧(∀sz,(∀e∈es,e.length=sz)→∀e∈es',e.length=sz)∧JZ es.flatten es'.flatten:=by
 induction h with
 |nil=>exact⟨rfl,fun sz h=>h,JZ.nil⟩
 |cons h hs ih=>
  refine⟨by simp [ih.1],fun sz hz e he=>?_,by simpa using h.append ih.2.2⟩
  rcases List.mem_cons.1 he with rfl|he
  ·rw [←h.len];exact hz _ (List.mem_cons_self ..)
  ·exact ih.2.1 sz (fun e he=>hz e (List.mem_cons_of_mem _ he)) e he
theorem Zib {cx:Cx} {b:Nat} {t:TypeId} {sz:Nat} {es es':List (List AV)} (hb:cx.H[b]?=some (.row t sz es)) (hl:es.length=es'.length):Le cx (cx.lessR b t sz es'):=by
 have hlt:=(List.getElem?_eq_some_iff.1 hb).1
 refine⟨fun _ _ _ _ h=>h,fun _ h=>h,fun k bl h hf=>?_,fun k t' sz' es0 h=>?_⟩
 ·have hk:b≠k:=fun e=>by subst e;rw [hb] at h;cases h;cases hf
  exact⟨bl,by simp only [Cx.lessR];rw [List.getElem?_set_ne hk];exact h,hf,rfl⟩
 ·by_cases hk:b=k
  ·subst hk
   rw [hb] at h
   cases h
   exact .inr ⟨es',by simp [Cx.lessR,hlt],by omega,fun _=>⟨rfl,rfl⟩⟩
  ·exact .inr ⟨es0,by simp only [Cx.lessR];rw [List.getElem?_set_ne hk];exact h,Nat.le_refl _,fun _=>⟨rfl,rfl⟩⟩
theorem Zm9 {B:Nat} {w0:World} {cx:Cx} (h:Yl B w0 cx) {b:Nat} {t:TypeId} {sz:Nat} {es es':List (List AV)} (hb:cx.H[b]?=some (.row t sz es)) (hw:ZbC es es'):Yl B w0 (cx.lessR b t sz es'):=by
 obtain⟨hl,hz,hwl⟩:=Zd2 hw
 have hle:=Zib hb hl
 have hlt:=(List.getElem?_eq_some_iff.1 hb).1
 have key:∀ (i:Nat) (bl:Ze),(cx.lessR b t sz es').H[i]?=some bl→(i=b∧bl=.row t sz es')∨(i≠b∧cx.H[i]?=some bl):=by
  intro i bl hi
  by_cases hk:b=i
  ·subst hk;simp [Cx.lessR,hlt] at hi;exact .inl ⟨rfl,hi.symm⟩
  ·simp only [Cx.lessR] at hi;rw [List.getElem?_set_ne hk] at hi;exact .inr ⟨Ne.symm hk,hi⟩
 have key2:∀ (i:Nat) (bl:Ze),(cx.lessR b t sz es').H[i]?=some bl→bl.live=true→∃bl',cx.H[i]?=some bl'∧bl'.live=true:=by
  intro i bl hi hl
  rcases key i bl hi with ⟨rfl,rfl⟩|⟨_,h2⟩
  ·exact⟨_,hb,rfl⟩
  ·exact⟨_,h2,hl⟩
 refine⟨h.below,h.base,h.frz,fun i bl hi=>?_,fun i j b1 b2 a1 a2 l1 l2 he=>?_⟩
 ·rcases key i bl hi with ⟨rfl,rfl⟩|⟨hne,hi'⟩
  ·obtain⟨h1,h2,h3,h4,h5,h6,vals,h7,h8,h9,h10⟩:=h.blk _ _ hb
   refine⟨h1,h2,h3,hz _ h4,?_,h6,vals,h7,h8,?_,h10⟩
   ·show es'.length≤_;rw [←hl];exact h5
   ·rw [←hl];exact (h9.mono hle).weakens hwl
  ·have hbr:=h.blk i bl hi'
   exact hbr.mono hle fun hl=>⟨rfl,rfl,rfl,(hbr.lt hl).2.2⟩
 ·obtain⟨b1',a1',l1'⟩:=key2 i b1 a1 l1
  obtain⟨b2',a2',l2'⟩:=key2 j b2 a2 l2
  exact h.inj i j b1' b2' a1' a2' l1' l2' he
theorem Zmm {c:Code} {f:Fr} {H:List Ze} (b:Nat) (t:TypeId) (sz:Nat) (es es':List (List AV)) (hb:H[b]?=some (.row t sz es)) (hw:ZbC es es') (h:X6 P n c Q f (H.set b (.row t sz es')) []):X6 P n c Q f H []:=by
 intro ro hro B w0 J1 cx a h1 h2 h3 h4 h5
 subst h3
 refine h ro hro B w0 J1 (cx.lessR b t sz es') a (Zm9 h1 hb hw) (h2.trans (Zib hb (Zd2 hw).1)) rfl (h4.mono' (Zib hb (Zd2 hw).1)) ?_
 cases hd:a.defers with
 |nil=>trivial
 |cons d l=>rw [hd] at h5;exact h5.elim
theorem ZcV:∀ (l:List (List AV)),ZbC l l
 |[]=>.nil
 |e::l=>.cons (.refl e) (ZcV l)
theorem ZfV {a a' b b':List (List AV)} (h:ZbC a a') (k:ZbC b b'):ZbC (a++b) (a'++b'):=by
 induction h with
 |nil=>exact k
 |cons h _ ih=>exact .cons h ih
theorem ZfY {c:Code} {f:Fr} {H:List Ze} (b:Nat) (t:TypeId) (sz:Nat) (es es':List (List AV)) (hb:H[b]?=some (Yn t sz es)) (hw:ZbC es es') (h:X6 P n c Q f (H.set b (Yn t sz es')) []):X6 P n c Q f H []:=by
 by_cases he:es=[]
 ·subst he
  cases hw
  rw [Zbm hb] at h
  exact h
 ·have he':es'≠[]:=fun e=>by subst e;cases hw;exact he rfl
  rw [Yn,if_neg he] at hb
  rw [Yn,if_neg he'] at h
  exact Zmm b t sz es es' hb hw h
def M2 (H:List Ze) (c:Nat) (X o t:Ze) (L:List Ze):List Ze:=H.set c X++o::t::L
variable {H:List Ze} {c:Nat}
theorem Zr3 (X o t:Ze) (L:List Ze):M2 H c X o t L=H.set c X++o::t::L:=rfl
theorem ZhK (X o t:Ze) (L R:List Ze):M2 H c X o t L++R=M2 H c X o t (L++R):=by simp [M2]
theorem Zku (X o t:Ze) (L:List Ze):(M2 H c X o t L).length=H.length+2+L.length:=by simp [M2];omega
theorem Zvo (hc:c<H.length) (X o t:Ze) (L:List Ze):(M2 H c X o t L)[c]?=some X:=by
 rw [M2,List.getElem?_append_left (by simpa using hc),List.getElem?_set_self hc]
theorem ZuR (hc:c<H.length) (X Y o t:Ze) (L:List Ze):(M2 H c X o t L).set c Y=M2 H c Y o t L:=by
 rw [M2,List.set_append,if_pos (by simpa using hc),List.set_set];rfl
theorem Zoh (X o t:Ze) (L:List Ze):(M2 H c X o t L)[H.length]?=some o:=by
 rw [M2,List.getElem?_append_right (by simp)];simp
theorem Zkr (X o t:Ze) (L:List Ze):(M2 H c X o t L)[H.length+1]?=some t:=by
 rw [M2,List.getElem?_append_right (by simp)];simp
theorem ZnZ (X o o' t:Ze) (L:List Ze):(M2 H c X o t L).set H.length o'=M2 H c X o' t L:=by
 rw [M2,List.set_append,if_neg (by simp)];simp [M2]
theorem ZkR (X o t t':Ze) (L:List Ze):(M2 H c X o t L).set (H.length+1) t'=M2 H c X o t' L:=by
 rw [M2,List.set_append,if_neg (by simp)];simp [M2]
theorem Zhb (X o t:Ze) (L:List Ze) (i:Nat):(M2 H c X o t L)[H.length+2+i]?=L[i]?:=by
 rw [M2,List.getElem?_append_right (by simp;omega)]
 have:H.length+2+i-(H.set c X).length=i+2:=by simp;omega
 rw [this];rfl
theorem Zkj (X o t:Ze) (L:List Ze) (i:Nat) (Y:Ze):(M2 H c X o t L).set (H.length+2+i) Y=M2 H c X o t (L.set i Y):=by
 rw [M2,List.set_append,if_neg (by simp;omega)]
 have:H.length+2+i-(H.set c X).length=i+2:=by simp;omega
 rw [this];rfl
end
end Go.Mu
namespace Go.Mu
open Go.RowKit (Below)
mutual
def AV.bfz (k:Nat) (cs:List AV):AV→AV
 | .bp k' off=>if k'=k then .vp (cs.drop off) else .bp k' off
 | .fn f a b=>.fn f (ZcA k cs a) (ZcA k cs b)
 | .ifc t x=>.ifc t (AV.bfz k cs x)
 | .agg a=>.agg (ZcA k cs a)
 | .tup a=>.tup (ZcA k cs a)
 |x=>x
def ZcA (k:Nat) (cs:List AV):List AV→List AV
 |[]=>[]
 |c::l=>AV.bfz k cs c::ZcA k cs l
end
theorem Zch (k:Nat) (cs:List AV) (l:List AV):ZcA k cs l=l.map (AV.bfz k cs):=by
 induction l with
 |nil=>simp [ZcA]
 |cons c l ih=>simp [ZcA,ih]
def Ze.bfz (k:Nat) (cs:List AV):Ze→Ze
 | .box t a=>.box t (ZcA k cs a)
 | .row t z rs=>.row t z (rs.map (ZcA k cs))
 | .map ms=>.map (ms.map fun p=>(p.1,AV.bfz k cs p.2))
 | .mapg ms=>.mapg (ms.map fun p=>(p.1,AV.bfz k cs p.2))
 |b=>b
def ZgK (k:Nat) (cs:List AV) (H:List Ze):List Ze:=(H.map (Ze.bfz k cs)).set k .gone
theorem ZpC {k:Nat} {cs:List AV} (b:Ze):(b.bfz k cs).fixed=b.fixed:=by cases b<;>rfl
theorem ZqY {k:Nat} {cs:List AV} (b:Ze):(b.bfz k cs).live=b.live:=by cases b<;>rfl
theorem ZhJ {k:Nat} {cs:List AV} {H:List Ze} {i:Nat} {bl:Ze} (h:(ZgK k cs H)[i]?=some bl):(i=k∧bl=.gone∧k<H.length)∨(i≠k∧∃b,H[i]?=some b∧bl=b.bfz k cs):=by
 unfold ZgK at h
 rw [List.getElem?_set] at h
 by_cases hi:k=i
 ·subst hi
  simp at h
  exact .inl ⟨rfl,h.2.symm,h.1⟩
 ·rw [if_neg hi,List.getElem?_map] at h
  cases hb:H[i]? with
  |none=>rw [hb] at h;cases h
  |some b=>rw [hb] at h;cases h;exact .inr ⟨fun e=>hi e.symm,b,rfl,rfl⟩
theorem ZhT {k:Nat} {cs:List AV} {H:List Ze} {i:Nat} {b:Ze} (hi:i≠k) (h:H[i]?=some b):(ZgK k cs H)[i]?=some (b.bfz k cs):=by
 unfold ZgK
 rw [List.getElem?_set,if_neg (fun e=>hi e.symm),List.getElem?_map,h];rfl
theorem Zj5 {k:Nat} {cs:List AV} {H:List Ze} {b:Ze} (h:H[k]?=some b):(ZgK k cs H)[k]?=some .gone:=by
 unfold ZgK
 simp [List.getElem?_set,(List.getElem?_eq_some_iff.1 h).1]
def Cx.bfz (cx:Cx) (k:Nat) (cs:List AV):Cx:={cx with Φ:=fun b=>cx.Φ b∨b=cx.κ k,H:=ZgK k cs cx.H}
theorem Zic {cx:Cx} {k:Nat} {cs:List AV} {b:Ze} (hk:cx.H[k]?=some b):Le cx (cx.bfz k cs):=by
 refine⟨fun b off x _ hc=>hc,fun _ h=>.inl h,fun i bl h hf=>?_,fun i t z rs h=>?_⟩
 ·by_cases hi:i=k
  ·subst hi;exact⟨.gone,Zj5 hk,rfl,rfl⟩
  ·exact⟨_,ZhT hi h,by rw [ZpC];exact hf,rfl⟩
 ·by_cases hi:i=k
  ·subst hi;exact .inl ⟨.gone,Zj5 hk,rfl⟩
  ·exact .inr ⟨_,ZhT hi h,by simp,fun _=>⟨rfl,rfl⟩⟩
def AV.frzF:AV→Bool
 | .fn _ fs cs=>fs.all AV.frzB&&cs.all AV.frzB
 |a=>a.frzB
theorem Yx.strongF {cx:Cx} {a:AV} {y:Value} (h:Yx cx false a y) (ha:a.frzF=true):Yx cx true a y:=by
 cases h with
 |fn f fs cs vf vc hnf hrf hnc hrc=>
  simp only [AV.frzF,Bool.and_eq_true,List.all_eq_true] at ha
  exact .fn f fs cs vf vc hnf (fun j c x h1 h2=>(hrf j c x h1 h2).strong (ha.1 c (List.mem_of_getElem? h1))) hnc (fun j c x h1 h2=>(hrc j c x h1 h2).strong (ha.2 c (List.mem_of_getElem? h1)))
 |v=>exact .v _
 |vs0 sz a cap=>exact .vs0 sz a cap
 |vs sz es b o cap vals hf hz hcap hl hn ho hc hr=>exact .vs sz es b o cap vals hf hz hcap hl hn ho hc hr
 |vx sz es b o vals hf hz hl hn ho hc hr=>exact .vx sz es b o vals hf hz hl hn ho hc hr
 |vp cs b o vals hf hn hc hr=>exact .vp cs b o vals hf hn hc hr
 |bp k off bl hk hf=>simp [AV.frzF,AV.frzB] at ha
 |rp k ver i off y ho bl hk hp=>simp [AV.frzF,AV.frzB] at ha
 |hs k off n ver y ho bl hk hp=>simp [AV.frzF,AV.frzB] at ha
 |hm k bl hk hf=>simp [AV.frzF,AV.frzB] at ha
 |hg k bl hk hf=>simp [AV.frzF,AV.frzB] at ha
 |hi k bl hk hf=>simp [AV.frzF,AV.frzB] at ha
 |yl k bl hk hf=>simp [AV.frzF,AV.frzB] at ha
 |ifc t x y h=>exact Yx.strong (.ifc t x y h) (by simpa [AV.frzF] using ha)
 |agg cs vals hn hr=>exact Yx.strong (.agg cs vals hn hr) (by simpa [AV.frzF] using ha)
 |tup cs vals hn hr=>simp [AV.frzF,AV.frzB] at ha
 |junk y=>exact .junk y
theorem ZN.strongF {cx:Cx} {cs:List AV} {vals:List Value} (h:ZN cx false cs vals) (ha:cs.all AV.frzF=true):ZN cx true cs vals:=
 ⟨h.len,fun j c x h1 h2=>(h.rep j c x h1 h2).strongF (List.all_eq_true.1 ha _ (List.mem_of_getElem? h1))⟩
theorem ZgQ {B:Nat} {w0:World} {cx:Cx} (h:Yl B w0 cx) {k:Nat} {t:TypeId} {es:List AV} (hk:cx.H[k]?=some (.box t es)) (hz:es.all AV.frzF=true) {z:Bool} {a:AV} {y:Value} (hr:Yx cx z a y):
 Yx (cx.bfz k es) z (a.bfz k es) y:=by
 have hle:Le cx (cx.bfz k es):=Zic hk
 induction hr with
 |v x=>exact .v x
 |vs0 s a cap=>exact .vs0 s a cap
 |vs s rs b o cap vals hf hz hcap hl hn ho hc hr ih=>exact Yx.mono hle (.vs s rs b o cap vals hf hz hcap hl hn ho hc hr)
 |vx s rs b o vals hf hz hl hn ho hc hr ih=>exact Yx.mono hle (.vx s rs b o vals hf hz hl hn ho hc hr)
 |vp cs b o vals hf hn hc hr ih=>exact Yx.mono hle (.vp cs b o vals hf hn hc hr)
 |bp k' off bl hk' hf=>
  simp only [AV.bfz]
  split
  ·rename_i he
   subst he
   obtain⟨b1,b2,vals,b3,b4⟩:=h.blk _ _ hk
   have b5:=(b4.strongF hz).mono hle
   refine .vp (es.drop off) (cx.κ k') off (vals.drop off) (.inr rfl) (by have:=b4.len;simp;omega) (fun j x hj=>?_) (fun j c x h1 h2=>?_)
   ·show cx.w.cell? _=_
    rw [List.getElem?_drop] at hj
    rw [cell_of_row _ _ _ _ _ _ b3];simpa using hj
   ·rw [List.getElem?_drop] at h1 h2
    exact b5.rep _ c x h1 h2
  ·exact Yx.mono hle (.bp k' off bl hk' hf)
 |rp k' ver i off y ho bl hk' hp=>exact Yx.mono hle (.rp k' ver i off y ho bl hk' hp)
 |hm k' bl hk' hf=>exact Yx.mono hle (.hm k' bl hk' hf)
 |hg k' bl hk' hf=>exact Yx.mono hle (.hg k' bl hk' hf)
 |hi k' bl hk' hf=>exact Yx.mono hle (.hi k' bl hk' hf)
 |yl k' bl hk' hf=>exact Yx.mono hle (.yl k' bl hk' hf)
 |hs k' off n ver y ho bl hk' hp=>exact Yx.mono hle (.hs k' off n ver y ho bl hk' hp)
 |fn f fs cs vf vc hnf hrf hnc hrc ihf ihc=>
  simp only [AV.bfz,Zch]
  refine .fn f _ _ vf vc (by simpa using hnf) (fun j c x h1 h2=>?_) (by simpa using hnc) (fun j c x h1 h2=>?_)
  ·rw [List.getElem?_map] at h1
   cases hc:fs[j]? with
   |none=>rw [hc] at h1;cases h1
   |some c'=>rw [hc] at h1;cases h1;exact ihf j c' x hc h2
  ·rw [List.getElem?_map] at h1
   cases hc:cs[j]? with
   |none=>rw [hc] at h1;cases h1
   |some c'=>rw [hc] at h1;cases h1;exact ihc j c' x hc h2
 |ifc t x y h ih=>simp only [AV.bfz];exact .ifc t _ y ih
 |agg cs vals hn hr ih=>
  simp only [AV.bfz,Zch]
  refine .agg _ vals (by simpa using hn) fun j c x h1 h2=>?_
  rw [List.getElem?_map] at h1
  cases hc:cs[j]? with
  |none=>rw [hc] at h1;cases h1
  |some c'=>rw [hc] at h1;cases h1;exact ih j c' x hc h2
 |tup cs vals hn hr ih=>
  simp only [AV.bfz,Zch]
  refine .tup _ vals (by simpa using hn) fun j c x h1 h2=>?_
  rw [List.getElem?_map] at h1
  cases hc:cs[j]? with
  |none=>rw [hc] at h1;cases h1
  |some c'=>rw [hc] at h1;cases h1;exact ih j c' x hc h2
 |junk y=>exact .junk y
theorem Zhy {B:Nat} {w0:World} {cx:Cx} (h:Yl B w0 cx) {k:Nat} {t:TypeId} {es:List AV} (hk:cx.H[k]?=some (.box t es)) (hz:es.all AV.frzF=true) {z:Bool} {cs:List AV} {vals:List Value} (hr:ZN cx z cs vals):
 ZN (cx.bfz k es) z (ZcA k es cs) vals:=by
 rw [Zch]
 refine⟨by simpa using hr.len,fun j c x h1 h2=>?_⟩
 rw [List.getElem?_map] at h1
 cases hc:cs[j]? with
 |none=>rw [hc] at h1;cases h1
 |some c'=>rw [hc] at h1;cases h1;exact ZgQ h hk hz (hr.rep j c' x hc h2)
theorem Zk1 (k:Nat) (es:List AV) (rs:List (List AV)):(rs.map (ZcA k es)).flatten=ZcA k es rs.flatten:=by
 rw [Zch,List.map_flatten]
 congr 1
 refine List.map_congr_left fun r _=>Zch k es r
theorem Zl3 {B:Nat} {w0:World} {cx:Cx} (h:Yl B w0 cx) {k:Nat} {t:TypeId} {es:List AV} (hk:cx.H[k]?=some (.box t es)) (hz:es.all AV.frzF=true):Yl B w0 (cx.bfz k es):=by
 have hle:Le cx (cx.bfz k es):=Zic hk
 refine⟨h.below,h.base,fun b hf=>?_,fun i bl hi=>?_,fun i j b1 b2 a1 a2 l1 l2 he=>?_⟩
 ·rcases hf with hf|rfl
  ·exact h.frz b hf
  ·exact ((h.blk k _ hk).lt rfl).2.1
 ·rcases ZhJ hi with ⟨rfl,rfl,_⟩|⟨hne,b,hb,rfl⟩
  ·trivial
  ·have hbi:=h.blk i b hb
   have hΦ:b.live=true→ ¬ (cx.bfz k es).Φ (cx.κ i):=by
    rintro hl (hf|he)
    ·exact (hbi.lt hl).2.2 hf
    ·exact hne (h.inj i k b _ hb hk hl rfl he)
   cases b with
   |box t' cs=>
    obtain⟨h1,h2,vals,h3,h4⟩:=hbi
    exact⟨h1,hΦ rfl,vals,h3,Zhy h hk hz h4⟩
   |row t' z rs=>
    obtain⟨h1,h2,h3,h4,h5,h6,vals,h7,h8,h9,h10⟩:=hbi
    refine⟨h1,hΦ rfl,h3,fun e he=>?_,by rw [List.length_map];exact h5,h6,vals,h7,h8,?_,h10⟩
    ·obtain⟨e',he',rfl⟩:=List.mem_map.1 he
     rw [Zch];simpa using h4 e' he'
    ·rw [Zk1];simpa using Zhy h hk hz h9
   |map ms=>
    obtain⟨h1,h2,ents,h3,h4,h5⟩:=hbi
    refine⟨h1,hΦ rfl,ents,h3,by simpa using h4,fun j p e a b=>?_⟩
    rw [List.getElem?_map] at a
    cases hc:ms[j]? with
    |none=>rw [hc] at a;cases a
    |some p'=>
     rw [hc] at a;cases a
     obtain⟨x1,x2,x3⟩:=h5 j p' e hc b
     exact⟨x1,ZgQ h hk hz x2,x3⟩
   |mapg ms=>
    obtain⟨h1,h2,ents,c,h3,h4,h5,h6⟩:=hbi
    refine⟨h1,hΦ rfl,ents,c,h3,by simpa using h4,fun j p e a b=>?_,h6⟩
    rw [List.getElem?_map] at a
    cases hc:ms[j]? with
    |none=>rw [hc] at a;cases a
    |some p'=>
     rw [hc] at a;cases a
     obtain⟨x1,x2⟩:=h5 j p' e hc b
     exact⟨x1,ZgQ h hk hz x2⟩
   |pend=>trivial
   |gone=>trivial
   |dfr o=>obtain⟨h1,h2,h3⟩:=hbi;exact⟨h1,hΦ rfl,h3⟩
   |lp st pend n f ps assign body=>obtain⟨h1,h2,fn,tmps,d,h3,h4,h5⟩:=hbi;exact⟨h1,hΦ rfl,fn,tmps,d,h3,h4,fun t ht=>(h5 t ht).mono hle⟩
   |it km n seen=>
    obtain⟨h1,h2,h3,h4⟩:=hbi
    refine⟨h1,hΦ rfl,h3,fun m hm=>?_⟩
    obtain⟨bl,a,b⟩:=h4 m hm
    obtain⟨bl',a',b',_⟩:=hle.fixed m bl a b
    exact⟨bl',a',b'⟩
 ·rcases ZhJ a1 with ⟨rfl,rfl,_⟩|⟨n1,c1,d1,rfl⟩
  ·simp [Ze.live] at l1
  ·rcases ZhJ a2 with ⟨rfl,rfl,_⟩|⟨n2,c2,d2,rfl⟩
   ·simp [Ze.live] at l2
   ·rw [ZqY] at l1 l2
    exact h.inj i j c1 c2 d1 d2 l1 l2 he
mutual
theorem ZdY {k n:Nat} (h:n≤k) (cs:List AV):∀ (a:AV),a.under n=true→a.bfz k cs=a
 | .v _,_=>rfl
 | .vs _ _,_=>rfl
 | .vx _ _,_=>rfl
 | .vp _,_=>rfl
 | .bp k' _,hu=>by simp only [AV.under,decide_eq_true_eq] at hu;simp only [AV.bfz];rw [if_neg (by omega)]
 | .rp _ _ _ _,_=>rfl
 | .hs _ _ _ _,_=>rfl
 | .hm _,_=>rfl
 | .hg _,_=>rfl
 | .hi _,_=>rfl
 | .yl _,_=>rfl
 | .fn _ a b,hu=>by simp only [AV.under,Bool.and_eq_true] at hu;simp only [AV.bfz];rw [Zau h cs a hu.1,Zau h cs b hu.2]
 | .ifc _ x,hu=>by simp only [AV.under] at hu;simp only [AV.bfz];rw [ZdY h cs x hu]
 | .agg a,hu=>by simp only [AV.under] at hu;simp only [AV.bfz];rw [Zau h cs a hu]
 | .tup a,hu=>by simp only [AV.under] at hu;simp only [AV.bfz];rw [Zau h cs a hu]
 | .junk,_=>rfl
theorem Zau {k n:Nat} (h:n≤k) (cs:List AV):∀ (l:List AV),YZ n l=true→ZcA k cs l=l
 |[],_=>rfl
 |a::l,hu=>by simp only [YZ,Bool.and_eq_true] at hu;simp only [ZcA];rw [ZdY h cs a hu.1,Zau h cs l hu.2]
end
theorem Ze2 {k n:Nat} (h:n≤k) (cs:List AV) (b:Ze) (hu:b.under n=true):b.bfz k cs=b:=by
 cases b with
 |box t a=>simp only [Ze.under] at hu;simp only [Ze.bfz];rw [Zau h cs a hu]
 |row t z rs=>
  simp only [Ze.under,List.all_eq_true] at hu
  simp only [Ze.bfz]
  rw [List.map_congr_left (g:=id) (fun r hr=>Zau h cs r (hu r hr)),List.map_id]
 |map ms=>
  simp only [Ze.under,List.all_eq_true] at hu
  simp only [Ze.bfz]
  rw [List.map_congr_left (g:=id) (fun p hp=>by rw [ZdY h cs p.2 (hu p hp)];rfl),List.map_id]
 |mapg ms=>
  simp only [Ze.under,List.all_eq_true] at hu
  simp only [Ze.bfz]
  rw [List.map_congr_left (g:=id) (fun p hp=>by rw [ZdY h cs p.2 (hu p hp)];rfl),List.map_id]
 |_=>rfl
theorem ZkM {P:Program} {fid:FuncId} {args:List AV} {H:List Ze} {a:AV} {t:TypeId} {cs:List AV} (hz:cs.all AV.frzF=true) (hu2:(a.bfz H.length cs).under H.length=true)
 (h:Zi P fid args H (fun e H'=>e=.ret a∧H'=H++[.box t cs])):Zi P fid args H (fun e H'=>e=.ret (a.bfz H.length cs)∧H'=H):=by
 intro B w0 cx vals h1 h2 h3
 have hu:=h1.under
 rw [h2] at hu
 refine (h B w0 cx vals h1 h2 h3).mono fun e w' he=>?_
 cases e with
 |returned y=>
  obtain⟨cx',r,rfl,b1,b2,b3,b4,b5⟩:=he
  cases b4
  have hk:cx'.H[H.length]?=some (.box t cs):=by rw [b5];simp
  have c1:=Zl3 b1 hk hz
  have c2:=Zic (cs:=cs) hk
  have c3:=ZgQ b1 hk hz b3
  have c4:(cx'.bfz H.length cs).H=H++[.gone]:=by
   show ZgK H.length cs cx'.H=_
   rw [b5,ZgK,List.map_append]
   have e1:H.map (Ze.bfz H.length cs)=H:=by
    rw [List.map_congr_left (g:=id) (fun b hb=>Ze2 (Nat.le_refl _) cs b (List.all_eq_true.1 hu b hb)),List.map_id]
   rw [e1];simp
  have hle:Le cx ((cx'.bfz H.length cs).cut H):=Zns (b2.trans c2) c4 (by rw [h2];exact Nat.le_refl _)
  exact⟨(cx'.bfz H.length cs).cut H,_,rfl,Zim c1 c4 hu,hle,ZcZ c4 c3 hu2,rfl,rfl⟩
 |panicked ch=>
  obtain⟨cx',x,y,rfl,b1,b2,hch,b3,b4,b5⟩:=he
  cases b4
 |outgrown=>exact he
theorem ZkX {P:Program} {fid:FuncId} {args:List AV} {H:List Ze} {R:AE→List Ze→Prop} (k:Nat) (t:TypeId) (cs:List AV) (hk:H[k]?=some (.box t cs)) (hz:cs.all AV.frzF=true)
 (h:Zi P fid (ZcA k cs args) (ZgK k cs H) R):Zi P fid args H R:=by
 intro B w0 cx vals h1 h2 h3
 subst h2
 refine (h B w0 (cx.bfz k cs) vals (Zl3 h1 hk hz) rfl (Zhy h1 hk hz h3)).mono fun e w' he=>?_
 cases e with
 |returned y=>obtain⟨cx',r,b0,b1,b2,b3,b4⟩:=he;exact⟨cx',r,b0,b1,(Zic hk).trans b2,b3,b4⟩
 |panicked ch=>obtain⟨cx',x,y,b0,b1,b2,b3,b4,b5⟩:=he;exact⟨cx',x,y,b0,b1,(Zic hk).trans b2,b3,b4,b5⟩
 |outgrown=>exact he
end Go.Mu
namespace Go.Mu
section
variable {P:Program} {n:Nat} {pu:Nat→Bool} {ops:Array Oper} {Q:AQ}
theorem ZnC {α:Type} {p:α→Bool} {a b:List α} (h:∀x,x∈a↔x∈b):a.all p=b.all p:=by
 rw [Bool.eq_iff_iff,List.all_eq_true,List.all_eq_true]
 exact⟨fun q x hx=>q x ((h x).2 hx),fun q x hx=>q x ((h x).1 hx)⟩
theorem Zf0 {a b:List Nat} (h:∀x,x∈a↔x∈b) (i:Nat):a.contains i=b.contains i:=by
 rw [Bool.eq_iff_iff,List.contains_iff_mem,List.contains_iff_mem];exact h i
theorem Zgp {hf:Oper→Bool} {tab:List (Nat×Oper×Nat)}:∀ (p:Y7) (d1 d2 r1 r2:List Nat),(∀x,x∈d1↔x∈d2)→(∀x,x∈r1↔x∈r2)→r1.Nodup→r2.Nodup→ZaT pu hf ops tab d1 r1 p=ZaT pu hf ops tab d2 r2 p
 |[],d1,d2,r1,r2,hd,hr,_,_=>by
  rw [ZaT,ZaT,Bool.eq_iff_iff,List.isEmpty_iff,List.isEmpty_iff]
  constructor
  ·intro h;refine List.eq_nil_iff_forall_not_mem.2 fun x hx=>?_;have:=(hr x).2 hx;rw [h] at this;cases this
  ·intro h;refine List.eq_nil_iff_forall_not_mem.2 fun x hx=>?_;have:=(hr x).1 hx;rw [h] at this;cases this
 |(i,late)::rest,d1,d2,r1,r2,hd,hr,n1,n2=>by
  have e1:JD ops r1 i=JD ops r2 i:=by
   unfold JD
   rw [Zf0 hr]
   cases ops[i]? with
   |none=>rfl
   |some o=>simp only [Zf0 hr]
  have e2:=Zgp (hf:=hf) (tab:=tab) rest (i::d1) (i::d2) (r1.erase i) (r2.erase i) (fun x=>by simp [hd x]) (fun x=>by rw [n1.mem_erase_iff,n2.mem_erase_iff,hr x]) (n1.erase i) (n2.erase i)
  rw [ZaT,ZaT,e1,e2]
  cases ops[i]? with
  |none=>rfl
  |some oi=>
   simp only
   congr 2
   split
   ·rfl
   ·rw [ZnC hr,ZnC hd]
def Zlm (pu:Nat→Bool) (hf:Oper→Bool) (ops:Array Oper) (tab:List (Nat×Oper×Nat)) (bag lt:List Nat) (post:Y7) (done rem:List Nat):Bool:=
 (bag.all fun i=>rem.contains i&& !pu i&&(match ops[i]? with
  |none=>false
  |some oi=>(oi.after.toList.all fun e=> !Region.binds .any e||(!rem.contains e.on&&decide (e.on<ops.size)))&&
   (done.all fun j=>(Xa tab i).testBit j|| !pu j||(match ops[j]? with|none=>false|some oj=>pu j&& !Zd9 ops oj oi&&(lt.contains j||hf oj)))))&&
 (rem.all fun x=>bag.contains x||bag.all fun b=>(Xa tab x).testBit b)&& !bag.isEmpty&&ZaT pu hf ops tab (bag++done) (rem.filter fun x=> !bag.contains x) post
structure Zsw (P:Program) (pu:Nat→Bool) (hf:Oper→Bool) (ops:Array Oper) (Q:AQ) (ds:List ZO) (bag lt:List Nat) (post:Y7) (I:List Nat→Fr→List Ze→Prop):Prop where
 step:∀S i f H o,i∈bag→i∉S→S ⊆ bag→ops[i]?=some o→I S f H→Zar P ops o f H ds Q (fun f' H'=>I (i::S) f' H')
 late:∀S f H,S ⊆ bag→I S f H→∀j∈lt,∀oj,ops[j]?=some oj→∃r,Xt P ops oj f H r∧∀d,oj.dst=some d→f d=r
 fin:∀S f H,(∀x,x∈S↔x∈bag)→I S f H→VX P pu hf ops Q ds post f H
theorem Zp3 {tab:List (Nat×Oper×Nat)} (htab:Zdm ops tab) {hf:Oper→Bool} (hsm:∀ (i:Nat) (o:Oper),ops[i]?=some o→YY n ops o=true)
 (hlt:∀ (j:Nat) (o:Oper),ops[j]?=some o→∀e∈o.after,Region.binds .any e=true→e.on<j) {ds:List ZO} {bag lt:List Nat} {post:Y7} {I:List Nat→Fr→List Ze→Prop} (hv:Zsw P pu hf ops Q ds bag lt post I) (done0 rem0:List Nat) (hok:Zlm pu hf ops tab bag lt post done0 rem0=true) (hrn:rem0.Nodup):
 ∀ (fuel:Nat) (done rem L:List Nat) (listed:Array Bool) (f fa:Fr) (H:List Ze) (S:List Nat),S ⊆ bag→(∀x,x∈done↔x∈S∨x∈done0)→(∀x,x∈rem↔x∈rem0∧x∉S)→Zdx P pu hf ops done rem L listed f fa H→rem.length+L.length≤fuel→I S f H→AA P pu ops Q ds fuel listed fa H:=by
 simp only [Zlm,Bool.and_eq_true,List.all_eq_true,Bool.not_eq_true',Bool.or_eq_true,List.contains_iff_mem] at hok
 obtain⟨⟨⟨h1,h2⟩,h3⟩,h4⟩:=hok
 intro fuel
 induction fuel with
 |zero=>
  intro done rem L listed f fa H S hS hd hr hi hfu hI
  have hrem:rem=[]:=List.eq_nil_of_length_eq_zero (by omega)
  have hall:∀x,x∈S↔x∈bag:=fun x=>⟨fun h=>hS h,fun h=>by
   by_cases hxs:x∈S
   ·exact hxs
   ·have:=(hr x).2 ⟨(h1 x h).1.1,hxs⟩
    rw [hrem] at this;cases this⟩
  refine Zdr htab hsm hlt post 0 done rem L listed f fa H ?_ hi hfu (hv.fin S f H hall hI)
  rw [Zgp post done (bag++done0) rem (rem0.filter fun x=> !bag.contains x) (fun x=>by rw [hd x,List.mem_append,hall x]) (fun x=>by rw [hr x,List.mem_filter,hall x];simp) hi.rnodup (hrn.filter _)]
  exact h4
 |succ fuel ih=>
  intro done rem L listed f fa H S hS hd hr hi hfu hI
  by_cases hall:∀x,x∈bag→x∈S
  ·have hall:∀x,x∈S↔x∈bag:=fun x=>⟨fun h=>hS h,hall x⟩
   refine Zdr htab hsm hlt post (fuel+1) done rem L listed f fa H ?_ hi hfu (hv.fin S f H hall hI)
   rw [Zgp post done (bag++done0) rem (rem0.filter fun x=> !bag.contains x) (fun x=>by rw [hd x,List.mem_append,hall x]) (fun x=>by rw [hr x,List.mem_filter,hall x];simp) hi.rnodup (hrn.filter _)]
   exact h4
  ·obtain⟨b,hb,hbS⟩:∃b,b∈bag∧b∉S:=by
    refine Classical.byContradiction fun hn=>hall fun x hx=>Classical.byContradiction fun hxs=>hn ⟨x,hx,hxs⟩
   have hbr:b∈rem:=(hr b).2 ⟨(h1 b hb).1.1,hbS⟩
   refine⟨fun hn=>?_,fun x hir=>?_⟩
   ·obtain⟨rfl,_⟩:=Zdb hsm hlt hi hn
    cases hbr
   ·obtain⟨m1,o,m2,m3⟩:=mem_ready.1 hir
    have hil:=(Array.getElem?_eq_some_iff.1 m2).1
    rw [ZbF (by rw [hi.size];exact hil)] at m1
    rcases (hi.un x hil).1 m1 with hm|hm
    ·have hx0:=(hr x).1 hm
     rcases h2 x hx0.1 with hxb|hxm
     ·obtain⟨⟨g1,g2⟩,g3⟩:=h1 x hxb
      rw [m2] at g3
      simp only [Bool.and_eq_true,List.all_eq_true] at g3
      obtain⟨g4,g5⟩:=g3
      refine⟨o,m2,?_⟩
      rw [if_neg (by simp [g2])]
      have hrd:JD ops rem x=true:=by
       unfold JD
       rw [m2,Bool.and_eq_true,List.contains_iff_mem,List.all_eq_true]
       refine⟨hm,fun e he=>?_⟩
       have:=g4 e he
       simp only [Bool.or_eq_true,Bool.not_eq_true',Bool.and_eq_true] at this ⊢
       rcases this with h|⟨h,h'⟩
       ·exact .inl h
       ·refine .inr ⟨?_,h'⟩
        rw [←Bool.not_eq_true,List.contains_iff_mem] at h ⊢
        exact fun q=>h ((hr _).1 q).1
      have hop2:(done.all fun j=>(Xa tab x).testBit j|| !pu j||(match ops[j]? with|none=>false|some oj=>pu j&& !Zd9 ops oj o&&(lt.contains j||hf oj)))=true:=by
       rw [List.all_eq_true]
       intro j hj
       rcases (hd j).1 hj with h|h
       ·have:=(h1 j (hS h)).1.2
        simp [this]
       ·exact g5 j h
      refine ZkU htab hsm hlt (K:=I (x::S)) hi hir m2 g2 hrd hop2 (fun L' listed' f' fa' H' hi' hl' hk'=>?_) hfu ?_
      ·refine ih _ _ L' listed' f' fa' H' (x::S) (fun y hy=>?_) (fun y=>?_) (fun y=>?_) hi' hl' hk'
       ·rcases List.mem_cons.1 hy with rfl|hy
        ·exact hxb
        ·exact hS hy
       ·simp only [List.mem_cons,hd y,or_assoc]
       ·rw [hi.rnodup.mem_erase_iff,hr y,List.mem_cons,not_or]
        exact⟨fun ⟨a,b,c⟩=>⟨b,a,c⟩,fun ⟨a,b,c⟩=>⟨b,a,c⟩⟩
      ·refine Zax (fun f' H' hk=>⟨hv.late (x::S) f' H' (fun y hy=>?_) hk,hk⟩) (hv.step S x f H o hxb hx0.2 hS m2 hI)
       rcases List.mem_cons.1 hy with rfl|hy
       ·exact hxb
       ·exact hS hy
     ·exfalso
      have:=YO hi.closed (Jp htab (hxm b hb)) fun o' ho' e he hb'=>m3 e (by rw [m2] at ho';cases ho';exact he) hb'
      have h5:=(hi.un b (hi.remlt b hbr)).2 (.inl hbr)
      rw [this] at h5;cases h5
    ·obtain⟨o',r,ho,hpu',hst,hinv⟩:=Zeb hsm hlt hi hir hm
     refine⟨o',ho,?_⟩
     rw [if_pos hpu']
     have hlen:=List.length_erase_of_mem hm
     have hpos:=List.length_pos_of_mem hm
     exact⟨r,hst,ih done rem (L.erase x) _ f _ H S hS hd hr hinv (by omega) hI⟩
def ZaO (pu:Nat→Bool) (hf:Oper→Bool) (ops:Array Oper) (tab:List (Nat×Oper×Nat)) (i0:Nat) (lt0 bag lt:List Nat) (post:Y7) (done rem:List Nat):Bool:=
 JD ops rem i0&& !pu i0&&(match ops[i0]? with
  |none=>false
  |some oi=>done.all fun j=>(Xa tab i0).testBit j|| !pu j||(match ops[j]? with|none=>false|some oj=>pu j&& !Zd9 ops oj oi&&(lt0.contains j||hf oj)))&&
 (rem.all fun x=>x==i0||(Xa tab x).testBit i0)&&Zlm pu hf ops tab bag lt post (i0::done) (rem.erase i0)
def Zeo (P:Program) (pu:Nat→Bool) (hf:Oper→Bool) (ops:Array Oper) (Q:AQ) (ds:List ZO) (i0:Nat) (lt0 bag lt:List Nat) (post:Y7) (f:Fr) (H:List Ze):Prop:=match ops[i0]? with
 |none=>False
 |some o=>Zar P ops o f H ds Q (fun f' H'=>(∀j∈lt0,∀oj,ops[j]?=some oj→∃r,Xt P ops oj f' H' r∧∀d,oj.dst=some d→f' d=r)∧∃I:List Nat→Fr→List Ze→Prop,I [] f' H'∧Zsw P pu hf ops Q ds bag lt post I)
theorem Zkh {tab:List (Nat×Oper×Nat)} (htab:Zdm ops tab) {hf:Oper→Bool} (hsm:∀ (i:Nat) (o:Oper),ops[i]?=some o→YY n ops o=true)
 (hlt:∀ (j:Nat) (o:Oper),ops[j]?=some o→∀e∈o.after,Region.binds .any e=true→e.on<j) {ds:List ZO} {i0:Nat} {lt0 bag lt:List Nat} {post:Y7}:∀ (fuel:Nat) (done rem L:List Nat) (listed:Array Bool) (f fa:Fr) (H:List Ze),ZaO pu hf ops tab i0 lt0 bag lt post done rem=true→Zdx P pu hf ops done rem L listed f fa H→rem.length+L.length≤fuel→
 Zeo P pu hf ops Q ds i0 lt0 bag lt post f H→AA P pu ops Q ds fuel listed fa H:=by
 intro fuel
 induction fuel with
 |zero=>
  intro done rem L listed f fa H hc hi hfu hv
  exfalso
  simp only [ZaO,JD,Bool.and_eq_true,List.contains_iff_mem] at hc
  have:=List.length_pos_of_mem hc.1.1.1.1.1
  omega
 |succ fuel ih=>
  intro done rem L listed f fa H hc hi hfu hv
  have hc0:=hc
  simp only [ZaO,Bool.and_eq_true,Bool.not_eq_true',List.all_eq_true,Bool.or_eq_true,beq_iff_eq] at hc
  obtain⟨⟨⟨⟨hrd,hpu⟩,hop⟩,hall⟩,hbag⟩:=hc
  have hi0r:i0∈rem:=by simp only [JD,Bool.and_eq_true,List.contains_iff_mem] at hrd;exact hrd.1
  refine⟨fun hn=>?_,fun x hir=>?_⟩
  ·obtain⟨rfl,_⟩:=Zdb hsm hlt hi hn
   cases hi0r
  ·obtain⟨m1,o,m2,m3⟩:=mem_ready.1 hir
   have hil:=(Array.getElem?_eq_some_iff.1 m2).1
   rw [ZbF (by rw [hi.size];exact hil)] at m1
   rcases (hi.un x hil).1 m1 with hm|hm
   ·rcases hall x hm with rfl|hx
    ·rw [m2] at hop
     unfold Zeo at hv
     rw [m2] at hv
     refine⟨o,m2,?_⟩
     rw [if_neg (by simp [hpu])]
     refine ZkU htab hsm hlt (K:=fun f' H'=>∃I:List Nat→Fr→List Ze→Prop,I [] f' H'∧Zsw P pu hf ops Q ds bag lt post I) hi hir m2 hpu hrd (by
      have h:=hc0
      simp only [ZaO,Bool.and_eq_true] at h
      have h:=h.1.1.2
      rw [m2] at h
      exact h) (fun L' listed' f' fa' H' hi' hl' ⟨I,hI,hV⟩=>?_) hfu hv
     exact Zp3 htab hsm hlt hV (x::done) (rem.erase x) hbag (hi.rnodup.erase x) fuel (x::done) (rem.erase x) L' listed' f' fa' H' [] (fun y hy=>(by cases hy)) (fun y=>by simp) (fun y=>by simp) hi' hl' hI
    ·exfalso
     have:=YO hi.closed (Jp htab hx) fun o' ho' e he hb=>m3 e (by rw [m2] at ho';cases ho';exact he) hb
     have h5:=(hi.un i0 (hi.remlt i0 hi0r)).2 (.inl hi0r)
     rw [this] at h5;cases h5
   ·obtain⟨o',r,ho,hpu',hst,hinv⟩:=Zeb hsm hlt hi hir hm
    refine⟨o',ho,?_⟩
    rw [if_pos hpu']
    have hlen:=List.length_erase_of_mem hm
    have hpos:=List.length_pos_of_mem hm
    exact⟨r,hst,ih done rem (L.erase x) _ f _ H hc0 hinv (by omega) hv⟩
variable {hn:Nat→Bool}
structure ZmZ (P:Program) (hn:Nat→Bool) (ops:Array Oper) (Q:AQ) (ds:List ZO) (bag lt:List Nat) (post:Y7) (I:List Nat→Fr→List Ze→Prop):Prop where
 step:∀S i f H,i∈bag→i∉S→S ⊆ bag→I S f H→vcL P hn true ops (YJ ops [i]) (JG (fun f' H' _=>I (i::S) f' H') Q) f H ds
 late:∀S f H,S ⊆ bag→I S f H→Zcl P hn ops f H (YJ ops lt)
 fin:∀S f H,(∀x,x∈S↔x∈bag)→I S f H→vcX P hn ops Q ds post f H
def Zqp (hn:Nat→Bool) (n:Nat) (ops:Array Oper) (pre:List Nat) (i0:Nat) (lt0 bag lt:List Nat) (post:Y7):Bool:=
 ops.toList.all (YY n ops)&&ZiN (JL (Ym hn) ops) ops (Zdi ops [] (List.range ops.size)) (ZaO (JL (Ym hn) ops) YD ops (Zdi ops [] (List.range ops.size)) i0 lt0 bag lt post) [] (List.range ops.size) pre&&Zcp (JL (Ym hn) ops) ops post&&Zcp (JL (Ym hn) ops) ops [(0,lt),(0,lt0)]&&
 ((List.range ops.size).all fun j=>match ops[j]? with
   |none=>true
   |some o=>o.after.toList.all fun e=> !Region.binds .any e||decide (e.on<j))&&ops.all Yk
theorem Zs9 {ops:Array Oper} {Q:AQ} {ds:List ZO} (hnd:ops.all Yk=true) {tab:List (Nat×Oper×Nat)} {bag lt:List Nat} {post:Y7} {done rem:List Nat} {I:List Nat→Fr→List Ze→Prop} (hok:Zlm (JL (Ym hn) ops) YD ops tab bag lt post done rem=true)
 (hl:∀j∈lt,∀o,ops[j]?=some o→JL (Ym hn) ops j=true) (hp:∀x∈post,∀j∈x.2,∀o,ops[j]?=some o→JL (Ym hn) ops j=true) (h:ZmZ P hn ops Q ds bag lt post I):Zsw P (JL (Ym hn) ops) YD ops Q ds bag lt post I:=by
 refine⟨fun S i f H o hi hiS hS ho hI=>?_,fun S f H hS hI j hj oj hoj=>?_,fun S f H hS hI=>?_⟩
 ·have hndo:Yk o=true:=Array.all_eq_true_iff_forall_mem.1 hnd _ (Array.mem_of_getElem? ho)
  have hone:YJ ops [i]=[o]:=by simp [YJ,ho]
  have v1:=h.step S i f H hi hiS hS hI
  rw [hone] at v1
  exact Zax (fun f' H' hk=>hk) (Zeh (Q:=Q) (Q':=JG (fun f' H' _=>I (i::S) f' H') Q) (fun _ _ _ _ h=>h) hndo v1)
 ·have hpj:=hl j hj oj hoj
  have hndj:Yk oj=true:=Array.all_eq_true_iff_forall_mem.1 hnd _ (Array.mem_of_getElem? hoj)
  have hv:=ZbO (h.late S f H hS hI) oj (by simp only [YJ,List.mem_filterMap];exact⟨j,hj,hoj⟩)
  obtain⟨r,h1,_,h3⟩:=ZbL hndj (Zac hoj hpj) hv
  refine⟨r,h1,fun d hd=>?_⟩
  simp only [Ze6,hd] at h3
  have:=h3.2
  simpa [ZS,upd] using this.symm
 ·simp only [Zlm,Bool.and_eq_true] at hok
  exact ZcF hnd post _ _ _ _ hok.2 hp (h.fin S f H hS hI)
theorem ZmO {ops:Array Oper} {Q:AQ} {ds:List ZO} (hnd:ops.all Yk=true) {tab:List (Nat×Oper×Nat)} {i0:Nat} {lt0 bag lt:List Nat} {post:Y7} {done rem:List Nat} {f:Fr} {H:List Ze} (hok:ZaO (JL (Ym hn) ops) YD ops tab i0 lt0 bag lt post done rem=true)
 (hl0:∀j∈lt0,∀o,ops[j]?=some o→JL (Ym hn) ops j=true) (hl:∀j∈lt,∀o,ops[j]?=some o→JL (Ym hn) ops j=true) (hp:∀x∈post,∀j∈x.2,∀o,ops[j]?=some o→JL (Ym hn) ops j=true)
 (h:vcL P hn true ops (YJ ops [i0]) (JG (fun f' H' _=>Zcl P hn ops f' H' (YJ ops lt0)∧∃I:List Nat→Fr→List Ze→Prop,I [] f' H'∧ZmZ P hn ops Q ds bag lt post I) Q) f H ds):Zeo P (JL (Ym hn) ops) YD ops Q ds i0 lt0 bag lt post f H:=by
 simp only [ZaO,Bool.and_eq_true] at hok
 unfold Zeo
 cases ho:ops[i0]? with
 |none=>have:=hok.1.1.2;rw [ho] at this;cases this
 |some o=>
  have hndo:Yk o=true:=Array.all_eq_true_iff_forall_mem.1 hnd _ (Array.mem_of_getElem? ho)
  have hone:YJ ops [i0]=[o]:=by simp [YJ,ho]
  rw [hone] at h
  refine Zax (fun f' H' hk=>⟨fun j hj oj hoj=>?_,?_⟩) (Zeh (Q:=Q) (Q':=JG (fun f' H' _=>Zcl P hn ops f' H' (YJ ops lt0)∧∃I:List Nat→Fr→List Ze→Prop,I [] f' H'∧ZmZ P hn ops Q ds bag lt post I) Q) (fun _ _ _ _ h=>h) hndo h)
  ·have hpj:=hl0 j hj oj hoj
   have hndj:Yk oj=true:=Array.all_eq_true_iff_forall_mem.1 hnd _ (Array.mem_of_getElem? hoj)
   have hv:=ZbO hk.1 oj (by simp only [YJ,List.mem_filterMap];exact⟨j,hj,hoj⟩)
   obtain⟨r,h1,_,h3⟩:=ZbL hndj (Zac hoj hpj) hv
   refine⟨r,h1,fun d hd=>?_⟩
   simp only [Ze6,hd] at h3
   have:=h3.2
   simpa [ZS,upd] using this.symm
  ·obtain⟨I,h1,h2⟩:=hk.2
   exact⟨I,h1,Zs9 hnd hok.2 hl hp h2⟩
def Zvb (P:Program) (hn:Nat→Bool) (ops:Array Oper) (Q:AQ) (ds:List ZO) (i0:Nat) (lt0 bag lt:List Nat) (post:Y7):AQ:=fun x f' H' ds'=>match x with
 | .normal=>vcL P hn true ops (YJ ops [i0]) (JG (fun f' H' _=>Zcl P hn ops f' H' (YJ ops lt0)∧∃I:List Nat→Fr→List Ze→Prop,I [] f' H'∧ZmZ P hn ops Q ds bag lt post I) Q) f' H' ds
 |x=>Q x f' H' ds'
theorem Zh7 (hn:Nat→Bool) (pre:List Nat) (i0:Nat) (lt0 bag lt:List Nat) (post:Y7) {id:Nat} {ops:Array Oper} {Q:AQ} {f:Fr} {H:List Ze} {ds:List ZO} (hs:(Zqp hn n ops pre i0 lt0 bag lt post&&P.follows .mixedOrders)=true)
 (h:ZfJ P hn (pre.map fun i=>(i,[])) ops (Zvb P hn ops Q ds i0 lt0 bag lt post) f H ds (Z5 _)):X6 P n (.region id ops true) Q f H ds:=by
 simp only [Zqp,Bool.and_eq_true,List.all_eq_true] at hs
 obtain⟨⟨⟨⟨⟨⟨hs1,hs2⟩,hs3⟩,hs4⟩,hs5⟩,hs6⟩,hm⟩:=hs
 have hsm:∀ (i:Nat) (o:Oper),ops[i]?=some o→YY n ops o=true:=fun i o ho=>hs1 o (by simpa using Array.mem_of_getElem? ho)
 have lt':∀j∈lt,∀o,ops[j]?=some o→JL (Ym hn) ops j=true:=fun j hj o ho=>by
  simp only [Zcp,List.all_eq_true] at hs4
  have:=hs4 (0,lt) (by simp) j hj
  rw [ho] at this;exact this
 have lt0':∀j∈lt0,∀o,ops[j]?=some o→JL (Ym hn) ops j=true:=fun j hj o ho=>by
  simp only [Zcp,List.all_eq_true] at hs4
  have:=hs4 (0,lt0) (by simp) j hj
  rw [ho] at this;exact this
 have hltE:∀ (j:Nat) (o:Oper),ops[j]?=some o→∀e∈o.after,Region.binds .any e=true→e.on<j:=fun j o ho e he hb=>by
  have:=hs5 j (List.mem_range.2 (Array.getElem?_eq_some_iff.1 ho).1)
  rw [ho] at this
  simp only [List.all_eq_true] at this
  have:=this e (by simpa using he)
  simpa [hb] using this
 have hv:=Zgd (P:=P) (hn:=hn) (Q:=Q) (ds:=ds) hs6 (kb:=ZaO (JL (Ym hn) ops) YD ops (Zdi ops [] (List.range ops.size)) i0 lt0 bag lt post) (kv:=fun f' H'=>Zeo P (JL (Ym hn) ops) YD ops Q ds i0 lt0 bag lt post f' H')
  (kv':=fun f' H'=>vcL P hn true ops (YJ ops [i0]) (JG (fun f' H' _=>Zcl P hn ops f' H' (YJ ops lt0)∧∃I:List Nat→Fr→List Ze→Prop,I [] f' H'∧ZmZ P hn ops Q ds bag lt post I) Q) f' H' ds) pre [] (List.range ops.size) f H hs2 (fun done rem f H hb h=>ZmO hs6 hb lt0' lt' (fun x hx j hj o ho=>by
   simp only [Zcp,List.all_eq_true] at hs3
   have:=hs3 x hx j hj
   rw [ho] at this;exact this) h) h
 intro ro hro B w0 J1 cx a h1 h2 h3 h4 h5
 subst h3
 refine wpIn_region_any hm ?_
 refine Zc7 (P:=P) (pu:=JL (Ym hn) ops) (Q:=Q) (B:=B) (w0:=w0) (J1:=J1) (ro:=ro) (fun i o ho hs=>by have:=hro hs;simp only [JU,List.all_eq_true] at this;exact this o (by simpa using Array.mem_of_getElem? ho)) hsm ops.size (Array.replicate ops.size false) f cx.drew a ?_ (Za2 h1) (h2.trans (JO cx)) (h4.mono (JO cx)) (h5.mono (JO cx))
 refine ZlQ (hf:=YD) (Zcb (List.range ops.size) [] (fun d hd=>(by cases hd))) hsm hltE (kb:=ZaO (JL (Ym hn) ops) YD ops (Zdi ops [] (List.range ops.size)) i0 lt0 bag lt post) (kv:=fun f' H'=>Zeo P (JL (Ym hn) ops) YD ops Q ds i0 lt0 bag lt post f' H')
  (fun fuel done rem L listed f fa H hb hi hfu hV=>Zkh (Zcb (List.range ops.size) [] (fun d hd=>(by cases hd))) hsm hltE fuel done rem L listed f fa H hb hi hfu hV)
  pre ops.size [] (List.range ops.size) [] _ f f cx.H hs2 ⟨by simp,fun i hi=>?_,fun i hi=>by simpa using hi,fun i o ho hl=>?_,fun i hi=>by simp [hi],fun i o ho hn=>?_,List.nodup_nil,List.nodup_range,fun j hj=>(by cases hj),fun t _=>rfl⟩ (by simp) hv
 ·simp [Array.getD_eq_getD_getElem?,Array.getElem?_replicate,hi]
 ·exfalso
  have hlt:i<ops.size:=(Array.getElem?_eq_some_iff.1 ho).1
  simp [Array.getD_eq_getD_getElem?,Array.getElem?_replicate,hlt] at hl
 ·exfalso
  exact hn (by simpa using (Array.getElem?_eq_some_iff.1 ho).1)
@[simp ↓] theorem Zye (l:List Oper) (Q:AQ) (ds0:List ZO) (i0:Nat) (lt0 bag lt:List Nat) (post:Y7) (f:Fr) (H:List Ze) (ds:List ZO) (w:ZQ (Zvb P hn l.toArray Q ds0 i0 lt0 bag lt post,AX.normal,f,H,ds)):QW (Zvb P hn l.toArray Q ds0 i0 lt0 bag lt post) .normal f H ds w=
   Zht P hn (ZdM l [i0]) l.toArray (JG (fun f' H' _=>ZdU P hn (ZdM l lt0) l.toArray f' H' (Z5 _)∧∃I:List Nat→Fr→List Ze→Prop,I [] f' H'∧ZmZ P hn l.toArray Q ds0 bag lt post I) Q) f H ds0 (Z5 _):=by
  show vcL P hn true l.toArray (YJ l.toArray [i0]) _ f H ds0=_
  simp only [Zht,ZdU,YJ,Zep,List.getElem?_toArray]
theorem ZrX {l:List Oper} {Q:AQ} {ds:List ZO} {bag lt:List Nat} {post:Y7} {I:List Nat→Fr→List Ze→Prop}
 (step:∀S i f H,i∈bag→i∉S→S ⊆ bag→I S f H→Zht P hn (ZdM l [i]) l.toArray (JG (fun f' H' _=>I (i::S) f' H') Q) f H ds (Z5 _))
 (late:∀S f H,S ⊆ bag→I S f H→ZdU P hn (ZdM l lt) l.toArray f H (Z5 _))
 (fin:∀S f H,(∀x,x∈S↔x∈bag)→I S f H→ZfJ P hn post l.toArray Q f H ds (Z5 _)):ZmZ P hn l.toArray Q ds bag lt post I:=by
 refine⟨fun S i f H h1 h2 h3 h4=>?_,fun S f H h1 h2=>?_,fin⟩
 ·have:=step S i f H h1 h2 h3 h4
  simpa only [Zht,YJ,Zep,List.getElem?_toArray] using this
 ·have:=late S f H h1 h2
  simpa only [ZdU,YJ,Zep,List.getElem?_toArray] using this
end
end Go.Mu
namespace Go.Proofs
open Go.Mu
def YX (b:Int):Nat:=(b % 64).toNat
theorem ZcK (b:Int):YX b<64:=by unfold YX;omega
theorem Zxz (x:Nat):x&&& 63=x % 64:=Nat.and_two_pow_sub_one_eq_mod (n:=6) x
theorem sh6 (b:Int):IntKind.u64.wrap ↑((b % 2^IntKind.u64.bits).toNat&&& 63 % 2^IntKind.u64.bits)=(YX b:Int):=by
 have h1:(63:Nat) % 2^IntKind.u64.bits=63:=by decide
 rw [h1,Zxz]
 have h2:(b % 2^IntKind.u64.bits).toNat % 64=YX b:=by
  unfold YX
  have:(2:Int)^IntKind.u64.bits=18446744073709551616:=by decide
  rw [this];omega
 rw [h2]
 have:=ZcK b
 rw [IntKind.wrap]
 have h3:IntKind.u64.signed=false:=rfl
 simp only [h3]
 have:(2:Int)^IntKind.u64.bits=18446744073709551616:=by decide
 simp [this]
 omega
theorem Zqt (b:Int): ¬ ((YX b:Int)<0):=by omega
theorem Zsy (b:Int):min (YX b) IntKind.u64.bits=YX b:=by have:=ZcK b;exact Nat.min_eq_left (by show YX b≤64;omega)
theorem Zx8 (b:Int):min (YX b) IntKind.i64.bits=YX b:=by have:=ZcK b;exact Nat.min_eq_left (by show YX b≤64;omega)
abbrev wU (n:Int):Int:=IntKind.u64.wrap n
def Ztg (a:Int):Int:=IntKind.u64.wrap ((BitVec.ofInt IntKind.u64.bits (if IntKind.u64.signed then -1 else IntKind.u64.max) ^^^ BitVec.ofInt IntKind.u64.bits a).toNat)
theorem unx (a:Int):unA .xor (U a)=some (U (Ztg a)):=rfl
def ZxL (a b:Int):Int:=IntKind.u64.wrap ↑((a % 2^IntKind.u64.bits).toNat&&& (b % 2^IntKind.u64.bits).toNat)
def orU (a b:Int):Int:=IntKind.u64.wrap ↑((a % 2^IntKind.u64.bits).toNat|||(b % 2^IntKind.u64.bits).toNat)
def Zxf (a b:Int):Int:=IntKind.u64.wrap ↑((a % 2^IntKind.u64.bits).toNat ^^^ (b % 2^IntKind.u64.bits).toNat)
def ZkS (a:Int) (n:Nat):Int:=IntKind.u64.wrap (a*2^n)
def ZhU (a:Int) (n:Nat):Int:=a.fdiv (2^n)
def Zx7 (a:Int) (n:Nat):Int:=IntKind.u64.wrap ((IntKind.i64.wrap a).fdiv (2^n))
def Zi7 (a k:Int):Int:=orU (ZkS a (YX (IntKind.u64.wrap k))) (ZhU a (64-YX (IntKind.u64.wrap k)))
def ev2 (op a b:Int):Int:=
 if op=6 then wU (a+b) else if op=7 then wU (a-b) else if op=8 then wU (a*b) else if op=9 then ZxL a b else if op=10 then orU a b else if op=11 then Zxf a b
 else if op=12 then ZkS a (YX b) else if op=13 then ZhU a (YX b) else if op=14 then Zx7 a (YX b) else if op=15 then Zi7 a (YX b) else if op=16 then Zi7 a (-(YX b:Int))
 else if op=17 then (if a=b then 1 else 0) else if op=18 then (if a=b then 0 else 1) else if op=19 then (if a<b then 1 else 0) else (if a≤b then 1 else 0)
def XB (op:Int):List Int→Int
 |[a]=>if op=4 then Ztg a else wU (0-a)
 |[a,b]=>ev2 op a b
 |[a,b,c]=>if a=0 then c else b
 |_=>0
theorem Zr2 (a k:Int) (H:List Ze):Zi Tryz.prog 162 [U a,I k] H (fun e H'=>e=.ret (U (Zi7 a k))∧H'=H):=by
 refine Zf (Zg Tryz.func162 rfl (by kernel_rfl) ?_)
 obtain⟨b,hb⟩:∃b,b=IntKind.u64.wrap k:=⟨_,rfl⟩
 have hm:=ZcK b
 have e1:IntKind.u64.wrap (64-(YX b:Int))=((64-YX b:Nat):Int):=by
  rw [IntKind.wrap]
  have h3:IntKind.u64.signed=false:=rfl
  have:(2:Int)^IntKind.u64.bits=18446744073709551616:=by decide
  simp only [h3,this]
  simp
  omega
 have e2: ¬ (((64-YX b:Nat):Int)<0):=by omega
 have e3:min (64-YX b) IntKind.u64.bits=64-YX b:=Nat.min_eq_left (by show 64-YX b≤64;omega)
 have e4:Zi7 a k=orU (ZkS a (YX b)) (ZhU a (64-YX b)):=by rw [Zi7,hb]
 rw [e4]
 clear e4
 simp -dsimp [←hb,sh6,Zqt,Zsy,e1,e2,e3]
 exact Z7 rfl ⟨rfl,rfl⟩
theorem Zv1 (a b:Int) (H:List Ze):Zi Tryz.prog 152 [U a,U b] H (fun e H'=>e=.ret (U (wU (a+b)))∧H'=H):=by
 refine Zf (Zg Tryz.func152 rfl (by kernel_rfl) ?_)
 simp -dsimp
 exact Z7 rfl ⟨rfl,rfl⟩
theorem ZuY (a b:Int) (H:List Ze):Zi Tryz.prog 153 [U a,U b] H (fun e H'=>e=.ret (U (wU (a-b)))∧H'=H):=by
 refine Zf (Zg Tryz.func153 rfl (by kernel_rfl) ?_)
 simp -dsimp
 exact Z7 rfl ⟨rfl,rfl⟩
theorem Zvz (a b:Int) (H:List Ze):Zi Tryz.prog 154 [U a,U b] H (fun e H'=>e=.ret (U (wU (a*b)))∧H'=H):=by
 refine Zf (Zg Tryz.func154 rfl (by kernel_rfl) ?_)
 simp -dsimp
 exact Z7 rfl ⟨rfl,rfl⟩
theorem Zvq (a b:Int) (H:List Ze):Zi Tryz.prog 155 [U a,U b] H (fun e H'=>e=.ret (U (ZxL a b))∧H'=H):=by
 refine Zf (Zg Tryz.func155 rfl (by kernel_rfl) ?_)
 simp -dsimp
 exact Z7 rfl ⟨rfl,rfl⟩
theorem Zv5 (a b:Int) (H:List Ze):Zi Tryz.prog 156 [U a,U b] H (fun e H'=>e=.ret (U (orU a b))∧H'=H):=by
 refine Zf (Zg Tryz.func156 rfl (by kernel_rfl) ?_)
 simp -dsimp
 exact Z7 rfl ⟨rfl,rfl⟩
theorem Zsj (a b:Int) (H:List Ze):Zi Tryz.prog 157 [U a,U b] H (fun e H'=>e=.ret (U (Zxf a b))∧H'=H):=by
 refine Zf (Zg Tryz.func157 rfl (by kernel_rfl) ?_)
 simp -dsimp
 exact Z7 rfl ⟨rfl,rfl⟩
theorem Zsr (a b:Int) (H:List Ze):Zi Tryz.prog 158 [U a,U b] H (fun e H'=>e=.ret (U (ZkS a (YX b)))∧H'=H):=by
 refine Zf (Zg Tryz.func158 rfl (by kernel_rfl) ?_)
 simp -dsimp [sh6,Zqt,Zsy]
 exact Z7 rfl ⟨rfl,rfl⟩
theorem Ztj (a b:Int) (H:List Ze):Zi Tryz.prog 159 [U a,U b] H (fun e H'=>e=.ret (U (ZhU a (YX b)))∧H'=H):=by
 refine Zf (Zg Tryz.func159 rfl (by kernel_rfl) ?_)
 simp -dsimp [sh6,Zqt,Zsy]
 exact Z7 rfl ⟨rfl,rfl⟩
theorem Zs0 (a b:Int) (H:List Ze):Zi Tryz.prog 160 [U a,U b] H (fun e H'=>e=.ret (U (Zx7 a (YX b)))∧H'=H):=by
 refine Zf (Zg Tryz.func160 rfl (by kernel_rfl) ?_)
 simp -dsimp [sh6,Zqt,Zx8]
 exact Z7 rfl ⟨rfl,rfl⟩
theorem Ztv (a b:Int) (H:List Ze):Zi Tryz.prog 161 [U a,U b] H (fun e H'=>e=.ret (U (Zi7 a (YX b:Int)))∧H'=H):=by
 refine Zf (Zg Tryz.func161 rfl (by kernel_rfl) ?_)
 have hm:=ZcK b
 have e1:IntKind.i64.wrap (YX b:Int)=(YX b:Int):=YG (by omega) (by omega)
 have e2:IntKind.i64.wrap (0-(YX b:Int))= -(YX b:Int):=by rw [YG (by omega) (by omega)];omega
 have e3:IntKind.i64.wrap (-(YX b:Int))= -(YX b:Int):=YG (by omega) (by omega)
 have c:=fun k H=>Zr2 a k H
 simp -dsimp [sh6,e1,e2,e3]
 refine Za (c _ _) ?_
 simp -dsimp
 exact Z7 rfl ⟨rfl,rfl⟩
theorem Zsb (a b:Int) (H:List Ze):Zi Tryz.prog 163 [U a,U b] H (fun e H'=>e=.ret (U (Zi7 a (-(YX b:Int))))∧H'=H):=by
 refine Zf (Zg Tryz.func163 rfl (by kernel_rfl) ?_)
 have hm:=ZcK b
 have e1:IntKind.i64.wrap (YX b:Int)=(YX b:Int):=YG (by omega) (by omega)
 have e2:IntKind.i64.wrap (0-(YX b:Int))= -(YX b:Int):=by rw [YG (by omega) (by omega)];omega
 have e3:IntKind.i64.wrap (-(YX b:Int))= -(YX b:Int):=YG (by omega) (by omega)
 have c:=fun k H=>Zr2 a k H
 simp -dsimp [sh6,e1,e2,e3]
 refine Za (c _ _) ?_
 simp -dsimp
 exact Z7 rfl ⟨rfl,rfl⟩
theorem Ztd (a b:Int) (H:List Ze):Zi Tryz.prog 164 [U a,U b] H (fun e H'=>e=.ret (Bo (a==b))∧H'=H):=by
 refine Zf (Zg Tryz.func164 rfl (by kernel_rfl) ?_)
 simp -dsimp
 exact Z7 rfl ⟨rfl,rfl⟩
theorem Zt1 (a b:Int) (H:List Ze):Zi Tryz.prog 165 [U a,U b] H (fun e H'=>e=.ret (Bo (a != b))∧H'=H):=by
 refine Zf (Zg Tryz.func165 rfl (by kernel_rfl) ?_)
 simp -dsimp
 exact Z7 rfl ⟨rfl,rfl⟩
theorem Ztl (a b:Int) (H:List Ze):Zi Tryz.prog 166 [U a,U b] H (fun e H'=>e=.ret (Bo (decide (a<b)))∧H'=H):=by
 refine Zf (Zg Tryz.func166 rfl (by kernel_rfl) ?_)
 simp -dsimp
 exact Z7 rfl ⟨rfl,rfl⟩
theorem ZsX (a b:Int) (H:List Ze):Zi Tryz.prog 167 [U a,U b] H (fun e H'=>e=.ret (Bo (decide (a≤b)))∧H'=H):=by
 refine Zf (Zg Tryz.func167 rfl (by kernel_rfl) ?_)
 simp -dsimp
 exact Z7 rfl ⟨rfl,rfl⟩
theorem Zv7 (a:Int) (l:List Int) (H:List Ze):Zi Tryz.prog 150 [.vs 1 ((a::l).map fun x=>[U x])] H (fun e H'=>e=.ret (U (Ztg a))∧H'=H):=by
 refine Zf (Zg Tryz.func150 rfl (by kernel_rfl) ?_)
 have hu:=unx a
 simp -dsimp [hu]
 exact Z7 rfl ⟨rfl,rfl⟩
theorem Zvt (a:Int) (l:List Int) (H:List Ze):Zi Tryz.prog 151 [.vs 1 ((a::l).map fun x=>[U x])] H (fun e H'=>e=.ret (U (wU (0-a)))∧H'=H):=by
 refine Zf (Zg Tryz.func151 rfl (by kernel_rfl) ?_)
 simp -dsimp
 exact Z7 rfl ⟨by simp [wU],rfl⟩
theorem ZsW (a b c:Int) (l:List Int) (H:List Ze):Zi Tryz.prog 168 [.vs 1 ((a::b::c::l).map fun x=>[U x])] H (fun e H'=>e=.ret (U (if a=0 then c else b))∧H'=H):=by
 refine Zf (Zg Tryz.func168 rfl (by kernel_rfl) ?_)
 simp -dsimp
 refine Zl (fun h h1 h2=>?_) (fun h=>?_)
 ·simp -dsimp
  exact Z7 rfl ⟨by rw [if_neg h],rfl⟩
 ·simp -dsimp
  exact Z7 rfl ⟨by rw [if_pos h],rfl⟩
theorem ZaF (g:FuncId) (hok:ZL Tryz.prog g=true) (a b r:Int) (l:List Int) (hg:∀H,Zi Tryz.prog g [U a,U b] H (fun e H'=>e=.ret (U r)∧H'=H)) (H:List Ze):
 Zi Tryz.prog 147 [.vs 1 ((a::b::l).map fun x=>[U x]),.vp [.fn (.func g) [] []]] H (fun e H'=>e=.ret (U r)∧H'=H):=by
 refine Zf (Zg Tryz.func147 rfl (by kernel_rfl) ?_)
 simp -dsimp [hok]
 refine Zd (hg _) ?_
 simp -dsimp
 exact Z7 rfl ⟨rfl,rfl⟩
theorem Zed (a b r:Int) (l:List Int) (v:AV) (hg:∀H,Zi Tryz.prog 149 [U a,U b,.vp [v]] H (fun e H'=>e=.ret (U r)∧H'=H)) (H:List Ze):
 Zi Tryz.prog 147 [.vs 1 ((a::b::l).map fun x=>[U x]),.vp [.fn (.func 149) [] [.vp [v]]]] H (fun e H'=>e=.ret (U r)∧H'=H):=by
 have hok:ZL Tryz.prog 149=true:=by kernel_rfl
 refine Zf (Zg Tryz.func147 rfl (by kernel_rfl) ?_)
 simp -dsimp [hok]
 refine Zd (hg _) ?_
 simp -dsimp
 exact Z7 rfl ⟨rfl,rfl⟩
theorem Zkc (g:FuncId) (hok:ZL Tryz.prog g=true) (a b:Int) (q:Bool) (hg:∀H,Zi Tryz.prog g [U a,U b] H (fun e H'=>e=.ret (Bo q)∧H'=H)) (H:List Ze):
 Zi Tryz.prog 149 [U a,U b,.vp [.fn (.func g) [] []]] H (fun e H'=>e=.ret (U (if q=true then 1 else 0))∧H'=H):=by
 refine Zf (Zg Tryz.func149 rfl (by kernel_rfl) ?_)
 simp -dsimp [hok]
 refine Za (hg _) ?_
 cases q
 ·simp -dsimp
  exact Z7 rfl ⟨rfl,rfl⟩
 ·simp -dsimp
  exact Z7 rfl ⟨rfl,rfl⟩
theorem Zq9 (g:FuncId) (cs:List AV) (hv:cs.all AV.frzB=true) (H:List Ze):Zi Tryz.prog 146 [.fn (.func g) [] cs] H (fun e H'=>e=.ret (.fn (.func 147) [] [.vp [.fn (.func g) [] cs]])∧H'=H):=by
 have h0:Zi Tryz.prog 146 [.fn (.func g) [] cs] H (fun e H'=>e=.ret (.fn (.func 147) [] [.bp H.length 0])∧H'=H++[.box 226 [.fn (.func g) [] cs]]):=by
  refine Zg Tryz.func146 rfl (by kernel_rfl) ?_
  simp -dsimp
 have h1:=ZkM (by simp [AV.frzF,hv]) (by simp [AV.bfz,ZcA,AV.under,YZ]) h0
 simpa [AV.bfz,ZcA] using h1
theorem Zun (g:FuncId) (b:Nat) (H:List Ze) (hb:H[b]?=some (.box 227 [.fn (.func 146) [] []])):
 Zi Tryz.prog 148 [.fn (.func g) [] [],.bp b 0] H (fun e H'=>e=.ret (.fn (.func 147) [] [.vp [.fn (.func 149) [] [.vp [.fn (.func g) [] []]]]])∧H'=H):=by
 have hok:ZL Tryz.prog 146=true:=by kernel_rfl
 refine Ya fun hu _=>Zf (Zg Tryz.func148 rfl (by kernel_rfl) ?_)
 have hbL:=fun L=>ZG hb L
 simp -dsimp [hbL,hok]
 have hz:[AV.fn (.func g) [] []].all AV.frzF=true:=by simp [AV.frzF]
 have hk:(H++[Ze.box 228 [.fn (.func g) [] []]])[H.length]?=some (.box 228 [.fn (.func g) [] []]):=by simp
 have hbf:ZcA H.length [AV.fn (.func g) [] []] [AV.fn (.func 149) [] [.bp H.length 0]]=[AV.fn (.func 149) [] [.vp [.fn (.func g) [] []]]]:=by simp [ZcA,AV.bfz]
 have ct:=fun H=>Zq9 149 [.vp [.fn (.func g) [] []]] (by simp [AV.frzB]) H
 rw [←hbf] at ct
 refine ZA (ZkX H.length _ _ hk hz (ct _)) ?_
 rintro r H' ⟨rfl,rfl⟩
 have e1:ZgK H.length [AV.fn (.func g) [] []] (H++[Ze.box 228 [.fn (.func g) [] []]])=H++[.gone]:=by
  rw [ZgK,List.map_append,List.map_congr_left (g:=id) (fun b hb=>Ze2 (Nat.le_refl _) _ b (List.all_eq_true.1 hu b hb)),List.map_id]
  simp
 rw [e1,hbf]
 simp -dsimp
 exact Z2 (by simp [AV.under,YZ]) ⟨rfl,rfl⟩
end Go.Proofs
namespace Go.Proofs
open Go.Mu
def ZbB (l:List (Int×AV)):List (Value×AV):=l.map fun x=>(.int .i64 x.1,x.2)
theorem Znf (n m:Int) (x v:AV) (rest:List (Value×AV)):ZcY (.int .i64) (.int .i64 n) x ((.int .i64 m,v)::rest)=if n=m then some ((.int .i64 n,x)::rest) else (ZcY (.int .i64) (.int .i64 n) x rest).map ((.int .i64 m,v):: ·):=by
 rw [ZcY]
 have:Instr.sameNow (.int .i64) (.int .i64 n) (.int .i64 m)=some (decide (n=m)):=by
  simp [Instr.sameNow,Instr.sameBits];rfl
 rw [this]
 by_cases h:n=m
 ·simp [h]
 ·simp [h]
theorem Zly (n m:Int) (v:AV) (rest:List (Value×AV)):Zbw (.int .i64) (.int .i64 n) ((.int .i64 m,v)::rest)=if n=m then some (some v) else Zbw (.int .i64) (.int .i64 n) rest:=by
 rw [Zbw]
 have:Instr.sameNow (.int .i64) (.int .i64 n) (.int .i64 m)=some (decide (n=m)):=by
  simp [Instr.sameNow,Instr.sameBits];rfl
 rw [this]
 by_cases h:n=m
 ·simp [h]
 ·simp [h]
theorem Zl9 (n:Int) (v:AV):∀l:List (Int×AV),n∉l.map Prod.fst→ZcY (.int .i64) (.int .i64 n) v (ZbB l)=some (ZbB (l++[(n,v)]))
 |[],_=>rfl
 |(m,x)::l,h=>by
  simp only [List.map_cons,List.mem_cons,not_or] at h
  show ZcY (.int .i64) (.int .i64 n) v ((.int .i64 m,x)::ZbB l)=_
  rw [Znf,if_neg h.1,Zl9 n v l h.2];rfl
theorem ZlO (n:Int) (v:AV):∀l:List (Int×AV),(l.map Prod.fst).Nodup→(n,v)∈l→Zbw (.int .i64) (.int .i64 n) (ZbB l)=some (some v)
 |[],_,h=>by cases h
 |(m,x)::l,hn,h=>by
  simp only [List.map_cons,List.nodup_cons] at hn
  show Zbw (.int .i64) (.int .i64 n) ((.int .i64 m,x)::ZbB l)=_
  rw [Zly]
  rcases List.mem_cons.1 h with h|h
  ·cases h;rw [if_pos rfl]
  ·have:n≠m:=fun e=>hn.1 (List.mem_map.2 ⟨(n,v),h,e⟩)
   rw [if_neg this]
   exact ZlO n v l hn.2 h
abbrev YW (g:FuncId):AV:=.fn (.func 147) [] [.vp [.fn (.func g) [] []]]
abbrev Zdk (g:FuncId):AV:=.fn (.func 147) [] [.vp [.fn (.func 149) [] [.vp [.fn (.func g) [] []]]]]
def kvO (i:Nat):Int×AV:=if i=1 then (4,.fn (.func 150) [] []) else if i=2 then (5,.fn (.func 151) [] []) else if i=5 then (6,YW 152) else if i=8 then (7,YW 153) else if i=11 then (8,YW 154) else if i=14 then (9,YW 155) else if i=17 then (10,YW 156) else if i=20 then (11,YW 157) else if i=23 then (12,YW 158) else if i=26 then (13,YW 159) else if i=29 then (14,YW 160) else if i=32 then (15,YW 161) else if i=35 then (16,YW 163) else if i=38 then (17,Zdk 164) else if i=41 then (18,Zdk 165) else if i=44 then (19,Zdk 166) else if i=47 then (20,Zdk 167) else (21,.fn (.func 168) [] [])
def XW:List (Int×AV):=[(4,.fn (.func 150) [] []),(5,.fn (.func 151) [] []),(6,YW 152),(7,YW 153),(8,YW 154),(9,YW 155),(10,YW 156),(11,YW 157),(12,YW 158),(13,YW 159),(14,YW 160),(15,YW 161),(16,YW 163),(17,Zdk 164),(18,Zdk 165),(19,Zdk 166),(20,Zdk 167),(21,.fn (.func 168) [] [])]
structure EvI (H N:List Ze) (S:List Nat) (f:Fr) (M:List Ze):Prop where
 fr:f 1=.bp H.length 0∧f 2=.fn (.func 148) [] [.bp H.length 0]∧f 4=.hm (H.length+1)∧f 5=.fn (.func 146) [] []∧f 6=YW 152∧f 7=.fn (.func 146) [] []∧f 8=YW 153∧f 9=.fn (.func 146) [] []∧f 10=YW 154∧f 11=.fn (.func 146) [] []∧f 12=YW 155∧f 13=.fn (.func 146) [] []∧f 14=YW 156∧f 15=.fn (.func 146) [] []∧f 16=YW 157∧f 17=.fn (.func 146) [] []∧f 18=YW 158∧f 19=.fn (.func 146) [] []∧f 20=YW 159∧f 21=.fn (.func 146) [] []∧f 22=YW 160∧f 23=.fn (.func 146) [] []∧f 24=YW 161∧f 25=.fn (.func 146) [] []∧f 26=YW 163∧f 27=.fn (.func 148) [] [.bp H.length 0]∧f 28=Zdk 164∧f 29=.fn (.func 148) [] [.bp H.length 0]∧f 30=Zdk 165∧f 31=.fn (.func 148) [] [.bp H.length 0]∧f 32=Zdk 166∧f 33=.fn (.func 148) [] [.bp H.length 0]∧f 34=Zdk 167
 mem:∃l,M=N++[.map (ZbB l)]∧(∀x,x∈l↔∃i∈S,kvO i=x)∧(l.map Prod.fst).Nodup
def Zry:List Nat:=[1,2,5,8,11,14,17,20,23,26,29,32,35,38,41,44,47,48]
theorem Zu7:∀i∈Zry,∀j∈Zry,(kvO i).1=(kvO j).1→i=j:=by decide
theorem ZqX (H:List Ze):Zi Tryz.prog 97 [] H (fun e M=>e=.ret (.hm (H.length+1))∧∃l,M=H++[.box 227 [.fn (.func 146) [] []],.map (ZbB l)]∧(l.map Prod.fst).Nodup∧∀x∈XW,x∈l):=by
 refine Z0 Tryz.func97 rfl (by kernel_rfl) ?_
 have hok1:ZL Tryz.prog 146=true:=by kernel_rfl
 have hok2:ZL Tryz.prog 148=true:=by kernel_rfl
 obtain⟨b1,hb1⟩:∃b1,b1=Ze.box 227 [.fn (.func 146) [] []]:=⟨_,rfl⟩
 refine Zc (fun f M=>M=H++[]∧True) (by kernel_rfl) ?_ ?_
 ·simp -dsimp
 rintro g _ ⟨rfl,_⟩
 refine Zc (fun f M'=>M'=H++[b1]∧f 1=.bp H.length 0) (by kernel_rfl) ?_ ?_
 ·rw [hb1]
  simp -dsimp
 clear g
 rintro g _ ⟨rfl,g1⟩
 refine Zc (fun f M'=>M'=H++[b1]∧f 1=.bp H.length 0∧f 2=.fn (.func 148) [] [.bp H.length 0]) (by kernel_rfl) ?_ ?_
 ·simp -dsimp [g1]
 clear g g1
 rintro g _ ⟨rfl,g1,g2⟩
 refine Z4 (fun f M'=>f 0=.hm (H.length+1)∧∃l,M'=H++[b1,.map (ZbB l)]∧(l.map Prod.fst).Nodup∧∀x∈XW,x∈l) ?_ ?_
 rotate_left
 ·clear g g1 g2
  rintro g _ ⟨g0,l,rfl,hl,hx⟩
  refine Zk (by kernel_rfl) ?_
  simp -dsimp [g0]
  exact⟨l,⟨by rw [hb1],rfl⟩,hl,fun a b h=>hx (a,b) h⟩
 refine Zh7 (fun _=>false) [3,4,6,7,9,10,12,13,15,16,18,19,21,22,24,25,27,28,30,31,33,34,36,37,39,40,42,43,45,46] 0 [3,4,6,7,9,10,12,13,15,16,18,19,21,22,24,25,27,28,30,31,33,34,36,37,39,40,42,43,45,46] [1,2,5,8,11,14,17,20,23,26,29,32,35,38,41,44,47,48] [3,4,6,7,9,10,12,13,15,16,18,19,21,22,24,25,27,28,30,31,33,34,36,37,39,40,42,43,45,46] [(49,[]),(50,[])] (by kernel_rfl) ?_
 obtain⟨N,hN⟩:∃N,N=H++[b1]:=⟨_,rfl⟩
 have hb0:N[H.length]?=some (.box 227 [.fn (.func 146) [] []]):=by rw [hN,hb1];simp
 have hbL:∀X,(N++[X])[H.length]?=some (.box 227 [.fn (.func 146) [] []]):=fun X=>ZG hb0 _
 have hNl:N.length=H.length+1:=by rw [hN];simp
 have hNa:∀X,N++[X]=H++[b1,X]:=fun X=>by rw [hN];simp
 rw [←hN]
 clear hN
 have ct:=fun g M=>Zq9 g [] rfl M
 have ci:=fun g=>Zun g H.length N hb0
 have ciL:=fun g X=>Zun g H.length (N++[X]) (hbL X)
 simp -dsimp [g1,g2,hb0,hok1,hok2]
 repeat (refine Zd (ct _ _) ?_;simp -dsimp [g1,g2,hb0,hok1,hok2])
 repeat (refine Zd (ci _) ?_;simp -dsimp [g1,g2,hb0,hok1,hok2])
 refine⟨?_,EvI H N,⟨?_,[],rfl,by simp,by simp⟩,ZrX ?_ ?_ ?_⟩
 ·simp -dsimp [g1,g2,hbL,hok1,hok2]
  repeat' first
   |with_reducible refine And.intro ?_ ?_
   |(refine Zd (ct _ _) ?_;simp -dsimp [g1,g2,hbL,hok1,hok2])
   |(refine Zd (ciL _ _) ?_;simp -dsimp [g1,g2,hbL,hok1,hok2])
 ·simp -dsimp [g1,g2,hNl]
 ·intro S i f M hi hiS hS hI
  obtain⟨hf,l,rfl,hl,hnd⟩:=hI
  have hfresh:∀j,(kvO j)=kvO i→i∈Zry→(kvO i).1∉l.map Prod.fst:=by
   intro j _ hi h
   obtain⟨x,hx,hxe⟩:=List.mem_map.1 h
   obtain⟨k,hk,rfl⟩:=(hl x).1 hx
   exact hiS (Zu7 k (hS hk) i hi hxe▸hk)
  have hget:(N++[Ze.map (ZbB l)])[H.length+1]?=some (.map (ZbB l)):=by rw [←hNl];simp
  have hset:∀X,(N++[Ze.map (ZbB l)]).set (H.length+1) X=N++[X]:=by intro X;rw [←hNl];simp
  have hms:∀n v,kvO i=(n,v)→ZcY (.int .i64) (.int .i64 n) v (ZbB l)=some (ZbB (l++[(n,v)])):=by
   intro n v e
   have:=hfresh i rfl hi
   rw [e] at this
   exact Zl9 n v l this
  have hfin:∀n v,kvO i=(n,v)→EvI H N (i::S) f (N++[.map (ZbB (l++[(n,v)]))]):=by
   intro n v e
   have:=hfresh i rfl hi
   rw [e] at this
   refine⟨hf,_,rfl,fun x=>?_,?_⟩
   ·rw [List.mem_append,hl x,List.mem_singleton]
    constructor
    ·rintro (⟨j,hj,hx⟩|rfl)
     ·exact⟨j,List.mem_cons_of_mem _ hj,hx⟩
     ·exact⟨i,List.mem_cons_self,e⟩
    ·rintro ⟨j,hj,hx⟩
     rcases List.mem_cons.1 hj with rfl|hj
     ·right;rw [←hx,e]
     ·left;exact⟨j,hj,hx⟩
   ·rw [List.map_append,List.nodup_append]
    refine⟨hnd,by simp,?_⟩
    intro a ha b hb hab
    simp only [List.map_cons,List.map_nil,List.mem_singleton] at hb
    subst hb;subst hab
    exact this ha
  simp only [Zry,List.mem_cons,List.not_mem_nil,or_false] at hi
  rcases hi with rfl|rfl|rfl|rfl|rfl|rfl|rfl|rfl|rfl|rfl|rfl|rfl|rfl|rfl|rfl|rfl|rfl|rfl
  all_goals
   have hms:=hms _ _ rfl
   have hfin:=hfin _ _ rfl
   simp -dsimp [hf,hget,hset,hms]
   exact hfin
 ·intro S f M hS hI
  obtain⟨hf,l,rfl,hl,hnd⟩:=hI
  simp -dsimp [hf,hbL,hok1,hok2]
  repeat' first
   |with_reducible refine And.intro ?_ ?_
   |(refine Zd (ct _ _) ?_;simp -dsimp [hf,hbL,hok1,hok2])
   |(refine Zd (ciL _ _) ?_;simp -dsimp [hf,hbL,hok1,hok2])
 ·intro S f M hS hI
  obtain⟨hf,l,rfl,hl,hnd⟩:=hI
  simp -dsimp [hf]
  refine⟨l,hNa _,hnd,fun a b h=>?_⟩
  have h2:∀x∈XW,∃i∈Zry,kvO i=x:=by
   intro x hx
   simp only [XW,List.mem_cons,List.not_mem_nil,or_false] at hx
   rcases hx with rfl|rfl|rfl|rfl|rfl|rfl|rfl|rfl|rfl|rfl|rfl|rfl|rfl|rfl|rfl|rfl|rfl|rfl
   ·exact⟨1,by decide,rfl⟩
   ·exact⟨2,by decide,rfl⟩
   ·exact⟨5,by decide,rfl⟩
   ·exact⟨8,by decide,rfl⟩
   ·exact⟨11,by decide,rfl⟩
   ·exact⟨14,by decide,rfl⟩
   ·exact⟨17,by decide,rfl⟩
   ·exact⟨20,by decide,rfl⟩
   ·exact⟨23,by decide,rfl⟩
   ·exact⟨26,by decide,rfl⟩
   ·exact⟨29,by decide,rfl⟩
   ·exact⟨32,by decide,rfl⟩
   ·exact⟨35,by decide,rfl⟩
   ·exact⟨38,by decide,rfl⟩
   ·exact⟨41,by decide,rfl⟩
   ·exact⟨44,by decide,rfl⟩
   ·exact⟨47,by decide,rfl⟩
   ·exact⟨48,by decide,rfl⟩
  obtain⟨i,hi,hx⟩:=h2 _ h
  exact (hl _).2 ⟨i,(hS i).2 hi,hx⟩
end Go.Proofs
namespace Go.Proofs
open Go.Mu
def Jt (op:Int):Int:=if op=4∨op=5 then 1 else if 6≤op∧op≤20 then 2 else if op=21 then 3 else -1
theorem Zm2 (op:Int) (H:List Ze):Zi Tryz.prog 54 [I op] H (fun e H'=>e=.ret (I (Jt op))∧H'=H):=by
 refine Zf (Zg Tryz.func54 rfl (by kernel_rfl) ?_)
 simp -dsimp
 repeat' first
  |exact Z7 rfl ⟨congrArg (fun n:Int=>AE.ret (I n)) (by unfold Jt;first|(subst_vars;rfl)|((repeat' split)<;>omega)),rfl⟩
  |(refine Zt (fun h=>?_) (fun h h1 h2=>?_)<;>simp -dsimp [*])
  |(refine Zm (fun h=>?_) (fun h=>?_)<;>simp -dsimp [*])
  |(refine Zq (fun h=>?_) (fun h h1 h2=>?_)<;>simp -dsimp [*])
  |(refine Zb (fun h=>?_) (fun h=>?_)<;>simp -dsimp [*])
theorem ZvF (op:Int) (l:List Int) (h:Jt op=l.length):∃g cs,(op,AV.fn (.func g) [] cs)∈XW∧ZL Tryz.prog g=true∧∀H,Zi Tryz.prog g (.vs 1 (l.map fun x=>[U x])::cs) H (fun e H'=>e=.ret (U (XB op l))∧H'=H):=by
 match l,h with
 |[],h=>exfalso;simp only [Jt] at h;split at h<;>(try split at h)<;>(try split at h)<;>simp at h
 |[a],h=>
  have:op=4∨op=5:=by
   simp only [Jt] at h
   split at h
   ·assumption
   ·split at h<;>(try split at h)<;>simp at h
  rcases this with rfl|rfl
  ·exact⟨150,[],by simp [XW],by kernel_rfl,fun H=>Zv7 a [] H⟩
  ·exact⟨151,[],by simp [XW],by kernel_rfl,fun H=>Zvt a [] H⟩
 |[a,b],h=>
  have:6≤op∧op≤20:=by
   simp only [Jt] at h
   split at h
   ·simp at h
   ·split at h
    ·assumption
    ·split at h<;>simp at h
  have:op=6∨op=7∨op=8∨op=9∨op=10∨op=11∨op=12∨op=13∨op=14∨op=15∨op=16∨op=17∨op=18∨op=19∨op=20:=by omega
  have hk1:ZL Tryz.prog 147=true:=by kernel_rfl
  rcases this with rfl|rfl|rfl|rfl|rfl|rfl|rfl|rfl|rfl|rfl|rfl|rfl|rfl|rfl|rfl
  ·exact⟨147,_,by simp [XW],hk1,fun H=>ZaF 152 (by kernel_rfl) a b _ [] (Zv1 a b) H⟩
  ·exact⟨147,_,by simp [XW],hk1,fun H=>ZaF 153 (by kernel_rfl) a b _ [] (ZuY a b) H⟩
  ·exact⟨147,_,by simp [XW],hk1,fun H=>ZaF 154 (by kernel_rfl) a b _ [] (Zvz a b) H⟩
  ·exact⟨147,_,by simp [XW],hk1,fun H=>ZaF 155 (by kernel_rfl) a b _ [] (Zvq a b) H⟩
  ·exact⟨147,_,by simp [XW],hk1,fun H=>ZaF 156 (by kernel_rfl) a b _ [] (Zv5 a b) H⟩
  ·exact⟨147,_,by simp [XW],hk1,fun H=>ZaF 157 (by kernel_rfl) a b _ [] (Zsj a b) H⟩
  ·exact⟨147,_,by simp [XW],hk1,fun H=>ZaF 158 (by kernel_rfl) a b _ [] (Zsr a b) H⟩
  ·exact⟨147,_,by simp [XW],hk1,fun H=>ZaF 159 (by kernel_rfl) a b _ [] (Ztj a b) H⟩
  ·exact⟨147,_,by simp [XW],hk1,fun H=>ZaF 160 (by kernel_rfl) a b _ [] (Zs0 a b) H⟩
  ·exact⟨147,_,by simp [XW],hk1,fun H=>ZaF 161 (by kernel_rfl) a b _ [] (Ztv a b) H⟩
  ·exact⟨147,_,by simp [XW],hk1,fun H=>ZaF 163 (by kernel_rfl) a b _ [] (Zsb a b) H⟩
  ·refine⟨147,_,by simp [XW];rfl,hk1,fun H=>Zed a b _ [] _ (fun H=>?_) H⟩
   have:=Zkc 164 (by kernel_rfl) a b _ (Ztd a b) H
   simpa [XB,ev2,bne] using this
  ·refine⟨147,_,by simp [XW];rfl,hk1,fun H=>Zed a b _ [] _ (fun H=>?_) H⟩
   have:=Zkc 165 (by kernel_rfl) a b _ (Zt1 a b) H
   simpa [XB,ev2,bne] using this
  ·refine⟨147,_,by simp [XW];rfl,hk1,fun H=>Zed a b _ [] _ (fun H=>?_) H⟩
   have:=Zkc 166 (by kernel_rfl) a b _ (Ztl a b) H
   simpa [XB,ev2,bne] using this
  ·refine⟨147,_,by simp [XW];rfl,hk1,fun H=>Zed a b _ [] _ (fun H=>?_) H⟩
   have:=Zkc 167 (by kernel_rfl) a b _ (ZsX a b) H
   simpa [XB,ev2,bne] using this
 |[a,b,c],h=>
  have:op=21:=by
   simp only [Jt] at h
   split at h
   ·simp at h
   ·split at h
    ·simp at h
    ·split at h
     ·assumption
     ·simp at h
  subst this
  exact⟨168,[],by simp [XW],by kernel_rfl,fun H=>ZsW a b c [] H⟩
 |a::b::c::d::l,h=>
  exfalso
  simp only [Jt,List.length_cons] at h
  split at h<;>(try split at h)<;>(try split at h)<;>omega
def ZlA (op:Int) (l:List Int):List AV:=if Jt op=l.length then [U (XB op l),I 0] else [U 0,I 2]
theorem ZpV (op:Int) (l:List Int) (x:AV) (hx:Gv 1 (l.map fun x=>[U x]) x) (H:List Ze):Zi Tryz.prog 55 [I op,x] H (fun e H'=>e=.ret (.tup (ZlA op l))∧H'=H):=by
 refine Zf (Zg Tryz.func55 rfl (by kernel_rfl) ?_)
 have ca:=fun H=>Zm2 op H
 by_cases h:Jt op=l.length
 ·have e:ZlA op l=[U (XB op l),I 0]:=if_pos h
  rw [e]
  have hne:l≠[]:=by
   rintro rfl
   simp only [Jt] at h;split at h<;>(try split at h)<;>(try split at h)<;>simp at h
  rcases hx with ⟨_,h0⟩|rfl
  ·exact absurd (List.map_eq_nil_iff.1 h0) hne
  have hn0: ¬ ((l.length:Int)<0):=by omega
  obtain⟨g,cs,hin,hok,hg⟩:=ZvF op l h
  simp -dsimp
  refine Za (ca _) ?_
  rw [h]
  simp -dsimp [hn0]
  refine ZA (ZqX _) ?_
  rintro r M ⟨rfl,m,rfl,hnd,hx⟩
  have hget:(H++[Ze.box 227 [.fn (.func 146) [] []],.map (ZbB m)])[H.length+1]?=some (.map (ZbB m)):=by rw [List.getElem?_append_right (by omega)];simp
  have hf:=ZlO op _ m hnd (hx _ hin)
  simp -dsimp [hget,hf,hok]
  refine Za (hg _) ?_
  simp -dsimp
  exact Z2 rfl ⟨rfl,rfl⟩
 ·have e:ZlA op l=[U 0,I 2]:=if_neg h
  rw [e]
  rcases hx with ⟨rfl,h0⟩|rfl
  ·have h0:=List.map_eq_nil_iff.1 h0
   subst h0
   have hb:(Jt op != 0)=true:=by rw [bne_iff_ne];exact h
   simp -dsimp
   refine Za (ca _) ?_
   simp -dsimp
   refine Zn (fun hn=>?_) (fun hn=>?_)
   ·simp -dsimp [hn]
    exact Z7 rfl ⟨rfl,rfl⟩
   ·simp -dsimp [hn,hb]
    exact Z7 rfl ⟨rfl,rfl⟩
  ·have hb:(Jt op != (l.length:Int))=true:=by rw [bne_iff_ne];exact h
   simp -dsimp
   refine Za (ca _) ?_
   simp -dsimp
   refine Zn (fun hn=>?_) (fun hn=>?_)
   ·simp -dsimp [hn]
    exact Z7 rfl ⟨rfl,rfl⟩
   ·simp -dsimp [hn,hb]
    exact Z7 rfl ⟨rfl,rfl⟩
end Go.Proofs
namespace Go.Proofs
open Go.Mu
mutual
def Ex.safe:Ex→Bool
 | .mk o _ _ a=>ZaH a&&o != 3
def ZaH:List Ex→Bool
 |[]=>true
 |e::l=>e.safe&&ZaH l
end
theorem Ex.safe_eq (e:Ex):e.safe=(ZaH e.args&&e.op != 3):=by cases e;rw [Ex.safe];rfl
theorem ZlR (l:List Ex):ZaH l=l.all Ex.safe:=by
 induction l with
 |nil=>simp [ZaH]
 |cons e l ih=>rw [ZaH,ih];rfl
abbrev YQ:=ByteArray→Option Int
def cEx (n:Int):Ex:=.mk 1 n ByteArray.empty []
def ZfG (os:List Ex) (r:Ex):Ex:=match os with
 |[c,a,b]=>if c.op=1 then (if c.word=0 then (if a.safe=true then b else r) else (if b.safe=true then a else r)) else r
 |_=>r
def ZaE (K:YQ) (o w:Int) (n:ByteArray) (os:List Ex):Ex:=
 match (if o=2 then K n else none) with
 |some x=>cEx x
 |none=>
  if Jt o=os.length then
   if (os.all fun x=>x.op==1)=true then cEx (XB o (os.map Ex.word))
   else if o=21 then ZfG os (.mk o w n os)
   else .mk o w n os
  else .mk o w n os
mutual
def Ex.fold (K:YQ):Ex→Ex
 | .mk o w n a=>ZaE K o w n (JA K a)
def JA (K:YQ):List Ex→List Ex
 |[]=>[]
 |e::l=>e.fold K::JA K l
end
theorem Ex.fold_eq (K:YQ) (e:Ex):e.fold K=ZaE K e.op e.word e.name (JA K e.args):=by cases e;rw [Ex.fold];rfl
theorem Zcs (K:YQ) (l:List Ex):JA K l=l.map (Ex.fold K):=by
 induction l with
 |nil=>simp [JA]
 |cons e l ih=>rw [JA,ih];rfl
theorem Zil (os:List Ex) (r:Ex):ZfG os r=r∨(ZfG os r∈os):=by
 unfold ZfG
 split
 ·split
  ·split<;>split<;>simp
  ·exact .inl rfl
 ·exact .inl rfl
theorem Zpb (K:YQ) (o w:Int) (n:ByteArray) (os:List Ex):(∃x,ZaE K o w n os=cEx x)∨ZaE K o w n os∈os∨ZaE K o w n os=.mk o w n os:=by
 unfold ZaE
 split
 ·exact .inl ⟨_,rfl⟩
 ·split
  ·split
   ·exact .inl ⟨_,rfl⟩
   ·split
    ·rcases Zil os (.mk o w n os) with h|h
     ·exact .inr (.inr h)
     ·exact .inr (.inl h)
    ·exact .inr (.inr rfl)
  ·exact .inr (.inr rfl)
theorem Zbj {l:List Ex} {e:Ex} (h:e∈l):e.count≤ZE l:=by
 induction l with
 |nil=>cases h
 |cons x l ih=>
  rw [ZE]
  rcases List.mem_cons.1 h with rfl|h
  ·omega
  ·have:=ih h;omega
theorem ZhD (K:YQ) (m:Nat):(∀e:Ex,e.count≤m→(e.fold K).count≤e.count)∧(∀l:List Ex,ZE l≤m→ZE (JA K l)≤ZE l):=by
 induction m with
 |zero=>
  refine⟨fun e h=>by rw [Ex.count_eq] at h;omega,fun l hl=>?_⟩
  have:=Yy l;obtain rfl:l=[]:=List.eq_nil_of_length_eq_zero (by omega);simp [JA]
 |succ m ih=>
  have he:∀e:Ex,e.count≤m+1→(e.fold K).count≤e.count:=fun e h=>by
   have hc:=Ex.count_eq e
   have:=ih.2 e.args (by omega)
   rw [Ex.fold_eq]
   rcases Zpb K e.op e.word e.name (JA K e.args) with ⟨x,h1⟩|h1|h1
   ·rw [h1,cEx,Ex.count_eq];simp [Ex.args,ZE];omega
   ·have:=Zbj h1;omega
   ·rw [h1,Ex.count];omega
  refine⟨he,fun l=>?_⟩
  induction l with
  |nil=>intro _;simp [JA]
  |cons e l ihl=>
   intro h
   simp only [ZE] at h
   rw [JA,ZE,ZE]
   have h1:=he e (by omega)
   have h2:=ihl (by rw [Ex.count_eq] at h;omega)
   omega
theorem Ze8 (K:YQ) (e:Ex):(e.fold K).count≤e.count:=(ZhD K e.count).1 e (Nat.le_refl _)
theorem ZdS (K:YQ) (l:List Ex):ZE (JA K l)≤ZE l:=(ZhD K (ZE l)).2 l (Nat.le_refl _)
mutual
def Sm.sets:Sm→List ByteArray
 | .mk k n ns _ _ _ _ _ b el=>(if k=1∨k=5 then [n] else if k=6 then ns else [])++ZP b++ZP el
def ZP:List Sm→List ByteArray
 |[]=>[]
 |s::l=>s.sets++ZP l
end
theorem Sm.sets_eq (s:Sm):s.sets=(if s.kind=1∨s.kind=5 then [s.name] else if s.kind=6 then s.names else [])++ZP s.body++ZP s.els:=by cases s;rw [Sm.sets];rfl
def ZaN:Tm:=.mk 1 [] false []
def Zg9 (K:YQ) (n:ByteArray) (e:Ex):YQ:=fun m=>if m=n then (if e.op=1 then some e.word else none) else K m
def ZfB (K:YQ) (n:ByteArray):YQ:=fun m=>if m=n then none else K m
def Zai (K:YQ) (l:List ByteArray):YQ:=l.foldl ZfB K
theorem Zhv (l:List ByteArray):∀ (K:YQ) (m:ByteArray),m∈l→Zai K l m=none:=by
 have h0:∀ (l:List ByteArray) (K:YQ) (m:ByteArray),K m=none→Zai K l m=none:=by
  intro l
  induction l with
  |nil=>intro K m h;exact h
  |cons x l ih=>intro K m h;exact ih (ZfB K x) m (by unfold ZfB;split<;>simp [h])
 induction l with
 |nil=>intro K m h;cases h
 |cons x l ih=>
  intro K m h
  rcases List.mem_cons.1 h with rfl|h
  ·exact h0 l _ _ (by simp [ZfB])
  ·exact ih (ZfB K x) m h
theorem ZfO (l:List ByteArray):∀ (K:YQ) (m:ByteArray),m∉l→Zai K l m=K m:=by
 induction l with
 |nil=>intro K m _;rfl
 |cons x l ih=>
  intro K m h
  simp only [List.mem_cons,not_or] at h
  have:=ih (ZfB K x) m h.2
  simp only [ZfB,if_neg h.1] at this
  exact this
theorem Zna {a b:List ByteArray} (K:YQ) (h:∀x,x∈a↔x∈b):Zai K a=Zai K b:=by
 funext m
 by_cases hm:m∈a
 ·rw [Zhv a K m hm,Zhv b K m ((h m).1 hm)]
 ·rw [ZfO a K m hm,ZfO b K m (fun q=>hm ((h m).2 q))]
def Ze9 (A B:YQ):YQ:=fun m=>if A m=B m then A m else none
abbrev FR:=List Sm×List Tm×YQ
mutual
def Sm.fold:Sm→YQ→List Sm×Tm×YQ
 | .mk k n ns e a l lo hi b el,K=>
   if k=1 then ([.mk k n ns (e.fold K) a l lo hi b el],ZaN,Zg9 K n (e.fold K))
   else if k=2 then ([.mk k n ns (e.fold K) (a.fold K) l lo hi b el],ZaN,K)
   else if k=3 then
    if (e.fold K).op=1 then
     if (e.fold K).word=0 then ((ZB el K).1,.mk 4 [] false [(ZB el K).2.1],(ZB el K).2.2)
     else ((ZB b K).1,.mk 4 [] true [(ZB b K).2.1],(ZB b K).2.2)
    else ([.mk k n ns (e.fold K) a l lo hi (ZB b K).1 (ZB el K).1],.mk 3 [] false [(ZB b K).2.1,(ZB el K).2.1],Ze9 (ZB b K).2.2 (ZB el K).2.2)
   else if k=4 then ([.mk k n ns (e.fold (Zai K (ZP b))) a l lo hi (ZB b (Zai K (ZP b))).1 el],.mk 5 [] false [(ZB b (Zai K (ZP b))).2.1],Zai K (ZP b))
   else ([.mk k n ns e a l lo hi b el],ZaN,K)
def ZB:List Sm→YQ→FR
 |[],K=>([],[],K)
 |s::l,K=>((s.fold K).1++(ZB l (s.fold K).2.2).1,(s.fold K).2.1::(ZB l (s.fold K).2.2).2.1,(ZB l (s.fold K).2.2).2.2)
end
def Sm.foldE (s:Sm) (K:YQ):List Sm×Tm×YQ:=
    if s.kind=1 then ([.mk s.kind s.name s.names (s.e.fold K) s.a s.args s.low s.high s.body s.els],ZaN,Zg9 K s.name (s.e.fold K))
    else if s.kind=2 then ([.mk s.kind s.name s.names (s.e.fold K) (s.a.fold K) s.args s.low s.high s.body s.els],ZaN,K)
    else if s.kind=3 then
     if (s.e.fold K).op=1 then
      if (s.e.fold K).word=0 then ((ZB s.els K).1,.mk 4 [] false [(ZB s.els K).2.1],(ZB s.els K).2.2)
      else ((ZB s.body K).1,.mk 4 [] true [(ZB s.body K).2.1],(ZB s.body K).2.2)
     else ([.mk s.kind s.name s.names (s.e.fold K) s.a s.args s.low s.high (ZB s.body K).1 (ZB s.els K).1],.mk 3 [] false [(ZB s.body K).2.1,(ZB s.els K).2.1],Ze9 (ZB s.body K).2.2 (ZB s.els K).2.2)
    else if s.kind=4 then ([.mk s.kind s.name s.names (s.e.fold (Zai K (ZP s.body))) s.a s.args s.low s.high (ZB s.body (Zai K (ZP s.body))).1 s.els],.mk 5 [] false [(ZB s.body (Zai K (ZP s.body))).2.1],Zai K (ZP s.body))
    else ([s],ZaN,K)
theorem Sm.fold_eq (s:Sm) (K:YQ):s.fold K=s.foldE K:=by cases s;rw [Sm.fold];rfl
theorem Zfk (a b:List Sm):Zh (a++b)=Zh a+Zh b:=by
 induction a with
 |nil=>simp [Zh]
 |cons s a ih=>rw [List.cons_append,Zh,ih,Zh];omega
theorem Zh2 (m:Nat):(∀ (s:Sm) (K:YQ),s.count≤m→Zh (s.fold K).1≤s.count)∧(∀ (l:List Sm) (K:YQ),Zh l≤m→Zh (ZB l K).1≤Zh l):=by
 induction m with
 |zero=>
  refine⟨fun s K h=>by rw [Sm.count_eq] at h;omega,fun l K hl=>?_⟩
  have:=Yi l;obtain rfl:l=[]:=List.eq_nil_of_length_eq_zero (by omega);simp [ZB]
 |succ m ih=>
  have hs:∀ (s:Sm) (K:YQ),s.count≤m+1→Zh (s.fold K).1≤s.count:=fun s K h=>by
   have hc:=Sm.count_eq s
   have hb:=fun K=>ih.2 s.body K (by omega)
   have he:=fun K=>ih.2 s.els K (by omega)
   have h1:=fun K=>Ze8 K s.e
   have h2:=fun K=>Ze8 K s.a
   have hb0:=hb K
   have he0:=he K
   have hb1:=hb (Zai K (ZP s.body))
   have h10:=h1 K
   have h11:=h1 (Zai K (ZP s.body))
   have h20:=h2 K
   rw [Sm.fold_eq,Sm.foldE]
   split
   ·simp only [Zh,Sm.count];omega
   ·split
    ·simp only [Zh,Sm.count];omega
    ·split
     ·split
      ·split
       ·simp only;omega
       ·simp only;omega
      ·simp only [Zh,Sm.count];omega
     ·split
      ·simp only [Zh,Sm.count];omega
      ·simp only [Zh];omega
  refine⟨hs,fun l=>?_⟩
  induction l with
  |nil=>intro K _;simp [ZB]
  |cons s l ihl=>
   intro K h
   simp only [Zh] at h
   rw [ZB,Zh]
   simp only [Zfk]
   have h1:=hs s K (by omega)
   have h2:=ihl (s.fold K).2.2 (by rw [Sm.count_eq] at h;omega)
   omega
theorem ZfH (l:List Sm) (K:YQ):Zh (ZB l K).1≤Zh l:=(Zh2 _).2 l K (Nat.le_refl _)
theorem Zcd (l:List Sm) (K:YQ):(ZB l K).2.1.length=l.length:=by
 induction l generalizing K with
 |nil=>simp [ZB]
 |cons s l ih=>rw [ZB];simp [ih]
end Go.Proofs
namespace Go.Proofs
open Go.Mu
theorem Zno (l:List Ex) (p:Ex→Bool) (g:FuncId) (cap:List AV) (hok:ZL Tryz.prog g=true) (hl:l.length≤2^40) (H:List Ze) (hg:∀x∈l,Zi Tryz.prog g (.agg [I x.op,U x.word,St x.name,Ex.sl x.args]::cap) H (fun e H'=>e=.ret (Bo (p x))∧H'=H)):
 Zi Tryz.prog 98 [.vs 4 (l.map fun x=>[I x.op,U x.word,St x.name,Ex.sl x.args]),.fn (.func g) [] cap] H (fun e H'=>e=.ret (I (JC p l 0))∧H'=H):=by
 refine Zf (Zg Tryz.func98 rfl (by kernel_rfl) ?_)
 simp -dsimp
 refine Zv (fun (i:Nat) f H'=>H'=H∧f 0=.vs 4 (l.map fun x=>[I x.op,U x.word,St x.name,Ex.sl x.args])∧f 1=.fn (.func g) [] cap∧f 7=I l.length∧f 8=I i∧i≤l.length∧JC p (l.drop i) i=JC p l 0) (fun i=>l.length-i) (by kernel_rfl) 0 (by simp) ?_
 rintro i f H' ⟨rfl,h0,h1,h7,h8,hi,hinv⟩
 simp -dsimp [h0,h1,h7,h8]
 refine Zb (fun hlt=>?_) (fun hlt=>?_)
 ·rw [Zo hlt,JC] at hinv
  have hx:=hg l[i] (List.getElem_mem hlt)
  try simp only [Vr.cells,Fc.cells] at hx
  simp -dsimp [h0,h1,h7,h8,List.getElem?_eq_getElem,hlt,hok]
  refine Za hx ?_
  simp -dsimp
  refine Z3 (fun hp=>?_) (fun hp=>?_)
  ·simp -dsimp
   rw [if_pos hp] at hinv
   exact Z7 rfl ⟨by rw [hinv],rfl⟩
  ·simp -dsimp [h0,h1,h7,h8]
   rw [if_neg (by simp [hp])] at hinv
   exact⟨i+1,by omega,ZC (by omega),by omega,by simpa using hinv⟩
 ·simp -dsimp
  rw [ZI hlt,JC] at hinv
  exact Z7 rfl ⟨by rw [hinv],rfl⟩
theorem Zjm (l:List Ex) (p:Ex→Bool) (g:FuncId) (cap:List AV) (hok:ZL Tryz.prog g=true) (hl:l.length≤2^40) (H:List Ze) (hg:∀x∈l,Zi Tryz.prog g (.agg [I x.op,U x.word,St x.name,Ex.sl x.args]::cap) H (fun e H'=>e=.ret (Bo (p x))∧H'=H)):
 Zi Tryz.prog 56 [.vs 4 (l.map fun x=>[I x.op,U x.word,St x.name,Ex.sl x.args]),.fn (.func g) [] cap] H (fun e H'=>e=.ret (Bo (l.any p))∧H'=H):=by
 refine Zf (Zg Tryz.func56 rfl (by kernel_rfl) ?_)
 simp -dsimp
 refine Za (Zno l p g cap hok hl _ hg) ?_
 simp -dsimp
 exact Z7 rfl ⟨by rw [ZbW _ _ _ (Int.le_refl 0)],rfl⟩
theorem Zqi (l:List Ex):Ex.sl l=.vs 4 (l.map fun x=>[I x.op,U x.word,St x.name,Ex.sl x.args]):=by
 show AV.vs 4 _=_
 rw [show (fun x:Ex=>[I x.op,U x.word,St x.name,Ex.sl x.args])=Ex.cells from funext fun x=>(Ex.cells_eq x).symm]
theorem Zlq (l:List Ex):(l.any fun x=> !x.safe)= !ZaH l:=by
 rw [ZlR]
 induction l with
 |nil=>rfl
 |cons e l ih=>rw [List.any_cons,List.all_cons,ih];cases e.safe<;>simp
theorem Zst (m:Nat):∀ (e:Ex),e.count<m→e.count≤2^36→∀H,Zi Tryz.prog 28 [.agg e.cells] H (fun x H'=>x=.ret (Bo e.safe)∧H'=H):=by
 induction m with
 |zero=>intro e h;omega
 |succ m ih=>
  intro e hm hc H
  have hcc:=Ex.count_eq e
  have hl:=Yy e.args
  have c1:∀x∈e.args,∀H,Zi Tryz.prog 57 [.agg x.cells] H (fun r H'=>r=.ret (Bo (!x.safe))∧H'=H):=by
   intro x hx H
   have hxc:=Zbj hx
   refine Zf (Zg Tryz.func57 rfl (by kernel_rfl) ?_)
   have ci:=fun H=>ih x (by omega) (by omega) H
   simp only [Ex.cells_eq] at ci
   simp -dsimp
   refine Za (ci _) ?_
   simp -dsimp
   exact Z2 rfl ⟨rfl,rfl⟩
  refine Zf (Zg Tryz.func28 rfl (by kernel_rfl) ?_)
  have cc:=fun H=>Zjm e.args (fun x=> !x.safe) 57 [] (by kernel_rfl) (by omega) H (fun x hx=>by have:=c1 x hx H;rwa [Ex.cells_eq] at this)
  rw [Zlq,←Zqi] at cc
  rw [Ex.safe_eq]
  obtain⟨b,hb⟩:∃b,b=ZaH e.args:=⟨_,rfl⟩
  rw [←hb] at cc ⊢
  simp -dsimp
  by_cases h3:e.op=3
  ·have h3b:(e.op != 3)=false:=by rw [h3];rfl
   simp -dsimp [h3b]
   exact Z2 rfl ⟨by simp,rfl⟩
  ·have h3b:(e.op != 3)=true:=by rw [bne_iff_ne];exact h3
   simp -dsimp [h3b]
   refine Za (cc _) ?_
   simp -dsimp [h3b]
   exact Z2 rfl ⟨by simp,rfl⟩
theorem Zr6 (n:Int) (H:List Ze):Zi Tryz.prog 53 [U n] H (fun x H'=>x=.ret (.agg (cEx n).cells)∧H'=H):=by
 refine Zf (ZU (Zg Tryz.func53 rfl (by kernel_rfl) ?_))
 simp -dsimp
 refine ZR (r':=.agg [I 1,U n,St ByteArray.empty,Ex.sl []]) (.aggL (.cons (.refl _) (.cons (.refl _) (.cons (.refl _) (.cons (.nil 4) .nil))))) ?_
 exact Z2 rfl ⟨rfl,rfl⟩
end Go.Proofs
namespace Go.Proofs
open Go.Mu
abbrev kA (n:Int):AV:=U n
def Zo5 (K:YQ) (H:List Ze) (kx:AV):Prop:=∃t:List (ByteArray×Int),(∀L,Y3 (H++L) kx=some (Yg kA t))∧∀n,Yq n t=K n
theorem Zo5.app {K:YQ} {H:List Ze} {kx:AV} (h:Zo5 K H kx) (L:List Ze):Zo5 K (H++L) kx:=by
 obtain⟨t,h1,h2⟩:=h
 exact⟨t,fun L'=>by rw [List.append_assoc];exact h1 _,h2⟩
def ZtA:FT:=.fork [0,1,2,3,4,5,6,7]
 (.alt 8 [0,1,2,3,4,5,6,7] (.lin [(9,[0,1,2,3,4,5,6,7]),(10,[4,5,6,7]),(11,[])])
 (.alt 9 [0,1,2,3,4,5,6,7] (.lin [(8,[0,1,2,3,4,5,6,7]),(10,[4,5,6,7]),(11,[])]) .none))
abbrev exB (l:List Ex):Ze:=Yn 73 4 (l.map Ex.cells)
abbrev exS (k:Nat) (l:List Ex):AV:=Yo k (l.map Ex.cells)
abbrev woB (l:List Int):Ze:=Yn 48 1 (l.map fun x=>[U x])
abbrev woS (k:Nat) (l:List Int):AV:=Yo k (l.map fun x=>[U x])
def XS (l:List Ex):List Int:=(l.filter fun x=>x.op==1).map Ex.word
theorem ZmV (l:List Ex):(XS l).length=l.length↔(l.all fun x=>x.op==1)=true:=by
 unfold XS
 rw [List.length_map]
 induction l with
 |nil=>simp
 |cons x l ih=>
  have hle:=List.length_filter_le (fun x:Ex=>x.op==1) l
  rw [List.filter_cons,List.all_cons]
  by_cases h:(x.op==1)=true
  ·rw [if_pos h,List.length_cons,List.length_cons,h,Bool.true_and,←ih];omega
  ·rw [if_neg h,List.length_cons,Bool.and_eq_true]
   constructor
   ·intro h2;omega
   ·intro h2;exact absurd h2.1 h
theorem ZmM {l:List Ex} (h:(l.all fun x=>x.op==1)=true):XS l=l.map Ex.word:=by
 unfold XS
 rw [List.filter_eq_self.2 (fun x hx=>List.all_eq_true.1 h x hx)]
theorem Zoo (l:List Int):(l.map fun x=>[U x]).flatten.all AV.frzB=true:=XQ _ (fun x=>by simp [AV.frzB]) l
theorem ZhS (K:YQ) (m:Nat):∀ (e:Ex),e.count<m→e.count≤2^36→∀ (H:List Ze) (kx:AV),Zo5 K H kx→Zi Tryz.prog 25 [.agg e.cells,kx] H (fun x H'=>x=.ret (.agg (e.fold K).cells)∧H'=H):=by
 induction m with
 |zero=>intro e h;omega
 |succ m ih=>
  intro e hm hc H kx hkn
  refine Ya fun hu _=>ZU (Zf (Yv 2 (Z0 Tryz.func25 rfl (by kernel_rfl) ?_)))
  have hcc:=Ex.count_eq e
  have hal:=Yy e.args
  obtain⟨E,hE⟩:∃E,E=e.fold K:=⟨_,rfl⟩
  rw [←hE]
  rw [Ex.fold_eq] at hE
  obtain⟨o,w,n,a,rfl⟩:∃o w n a,e=.mk o w n a:=⟨e.op,e.word,e.name,e.args,by cases e;rfl⟩
  simp only [Ex.cells_eq]
  simp only [Ex.op,Ex.word,Ex.name,Ex.args] at hE hal hcc ⊢
  obtain⟨bE,hbE⟩:∃bE,bE=Ze.box 73 [I o,U w,St n,Ex.sl a]:=⟨_,rfl⟩
  obtain⟨bZ,hbZ⟩:∃bZ,bZ=Ze.box 73 [I 0,U 0,St ByteArray.empty,Yp]:=⟨_,rfl⟩
  obtain⟨M,hM⟩:∃M:List Int→List Ex→List Ze→List Ze,∀ws os R,M ws os R=H++woB ws::exB os::bE::bZ::.box 73 [I o,U w,St n,exS (H.length+1) os]::R:=⟨_,fun _ _ _=>rfl⟩
  have hMa:∀ws os R X,M ws os R++X=M ws os (R++X):=fun ws os R X=>by rw [hM,hM];simp
  have hMl:∀ws os R,(M ws os R).length=H.length+5+R.length:=fun ws os R=>by rw [hM];simp;omega
  have m0:∀ws os R,(M ws os R)[H.length]?=some (woB ws):=fun ws os R=>by rw [hM];simp
  have m1:∀ws os R,(M ws os R)[H.length+1]?=some (exB os):=fun ws os R=>by rw [hM];simp
  have m2:∀ws os R,(M ws os R)[H.length+2]?=some (.box 73 [I o,U w,St n,Ex.sl a]):=fun ws os R=>by rw [hM,←hbE];simp
  have m4:∀ws os R,(M ws os R)[H.length+4]?=some (.box 73 [I o,U w,St n,exS (H.length+1) os]):=fun ws os R=>by rw [hM];simp
  have ms1:∀ws os R os',((M ws os R).set (H.length+1) (exB os')).set (H.length+4) (.box 73 [I o,U w,St n,exS (H.length+1) os'])=M ws os' R:=fun ws os R os'=>by rw [hM,hM];simp
  have mg1:∀ws os R os',((M ws os R).set (H.length+1) (exB os'))[H.length+4]?=some (.box 73 [I o,U w,St n,exS (H.length+1) os]):=fun ws os R os'=>by rw [List.getElem?_set_ne (by omega)];exact m4 _ _ _
  have ms0:∀ws os R ws',(M ws os R).set H.length (woB ws')=M ws' os R:=fun ws os R ws'=>by rw [hM,hM];simp
  refine Zc (fun f H'=>H'=H++[Ze.pend,Ze.pend,bE,bZ]∧f 1=kx∧f 2=.bp (H.length+2) 0∧f 4=.bp (H.length+3) 0) (by kernel_rfl) ?_ ?_
  ·rw [hbE,hbZ]
   simp -dsimp
  rintro g _ ⟨rfl,g1,g2,g4⟩
  have h2:(H++[Ze.pend,Ze.pend,bE,bZ])[H.length+2]?=some (.box 73 [I o,U w,St n,Ex.sl a]):=by rw [←hbE];simp
  obtain⟨V,hV⟩:∃V,V=H++[Ze.pend,Ze.pend,bE,bZ]:=⟨_,rfl⟩
  rw [←hV] at h2 ⊢
  refine Zc (fun f H'=>H'=V++[.box 73 [I o,U w,St n,Yp]]∧f 1=kx∧f 2=.bp (H.length+2) 0∧f 4=.bp (H.length+3) 0∧f 5=.bp V.length 0) (by kernel_rfl) ?_ ?_
  ·simp -dsimp [g1,g2,g4,h2]
  have hVl:V.length=H.length+4:=by rw [hV];simp
  have hVM:V++[.box 73 [I o,U w,St n,Yp]]=M [] [] []:=by rw [hV,hM];simp [Yn,Yo]
  rw [hVM,hVl]
  clear g g1 g2 g4 hV hVl hVM h2 V
  rintro g _ ⟨rfl,g1,g2,g4,g5⟩
  refine Zc (fun f H'=>H'=M [] [] []∧f 1=kx∧f 2=.bp (H.length+2) 0∧f 4=.bp (H.length+3) 0∧f 5=.bp (H.length+4) 0∧f 6=Yp) (by kernel_rfl) ?_ ?_
  ·simp -dsimp [g1,g2,g4,g5]
  clear g g1 g2 g4 g5
  rintro g _ ⟨rfl,g1,g2,g4,g5,g6⟩
  --the arguments
  obtain⟨os,hos⟩:∃os,os=JA K a:=⟨_,rfl⟩
  have hosl:os.length=a.length:=by rw [hos,Zcs];simp
  have hosc:ZE os≤ZE a:=by rw [hos];exact ZdS K a
  rw [←hos] at hE
  refine Z4 (fun f H'=>(∃R,H'=M (XS os) os R)∧f 1=kx∧f 2=.bp (H.length+2) 0∧f 4=.bp (H.length+3) 0∧f 5=.bp (H.length+4) 0∧f 6=woS H.length (XS os)) ?_ ?_
  ·refine Zc (fun f H'=>H'=M [] [] []∧f 1=kx∧f 2=.bp (H.length+2) 0∧f 4=.bp (H.length+3) 0∧f 5=.bp (H.length+4) 0∧f 6=Yp∧f 24=Ex.sl a∧f 25=I a.length∧f 26=I 0) (by kernel_rfl) ?_ ?_
   ·simp -dsimp [g1,g2,g4,g5,g6,m2]
   clear g g1 g2 g4 g5 g6
   rintro g _ ⟨rfl,g1,g2,g4,g5,g6,g24,g25,g26⟩
   refine Z9 ?_
   refine Yd (fun (i:Nat) f H'=>(∃R,H'=M (XS (os.take i)) (os.take i) R)∧f 1=kx∧f 2=.bp (H.length+2) 0∧f 4=.bp (H.length+3) 0∧f 5=.bp (H.length+4) 0∧f 6=woS H.length (XS (os.take i))∧f 24=Ex.sl a∧f 25=I a.length∧f 26=I i∧i≤a.length) (fun i=>a.length-i) 0
    ⟨⟨[],by simp [XS]⟩,g1,g2,g4,g5,by rw [g6];simp [XS,Yo],g24,g25,g26,by omega⟩ ?_
   clear g g1 g2 g4 g5 g6 g24 g25 g26
   rintro i g _ ⟨⟨R,rfl⟩,g1,g2,g4,g5,g6,g24,g25,g26,hi⟩
   obtain⟨pr,hpr⟩:∃pr,pr=os.take i:=⟨_,rfl⟩
   have hprl:pr.length=i:=by rw [hpr];simp;omega
   rw [←hpr] at g6 ⊢
   obtain⟨ws,hws⟩:∃ws,ws=XS pr:=⟨_,rfl⟩
   have hwsl:ws.length≤i:=by rw [hws,←hprl];unfold XS;rw [List.length_map];exact List.length_filter_le _ _
   rw [←hws] at g6 ⊢
   refine Zc (fun f H'=>H'=M ws pr R∧f 1=kx∧f 2=.bp (H.length+2) 0∧f 4=.bp (H.length+3) 0∧f 5=.bp (H.length+4) 0∧f 6=woS H.length ws∧f 24=Ex.sl a∧f 25=I a.length∧f 26=I i∧f 27=Bo (decide ((i:Int)<a.length))) (by kernel_rfl) ?_ ?_
   ·simp -dsimp [g1,g2,g4,g5,g6,g24,g25,g26]
   clear g g1 g2 g4 g5 g6 g24 g25 g26
   rintro g _ ⟨rfl,g1,g2,g4,g5,g6,g24,g25,g26,g27⟩
   refine Zc (fun f H'=>H'=M ws pr R∧f 1=kx∧f 2=.bp (H.length+2) 0∧f 4=.bp (H.length+3) 0∧f 5=.bp (H.length+4) 0∧f 6=woS H.length ws∧f 24=Ex.sl a∧f 25=I a.length∧f 26=I i∧i<a.length) (by kernel_rfl) ?_ ?_
   ·simp -dsimp [g27]
    refine Zb (fun hlt=>?_) (fun hlt=>?_)
    ·simp -dsimp [g1,g2,g4,g5,g6,g24,g25,g26]
     omega
    ·have hall:os.take i=os:=List.take_of_length_le (by omega)
     rw [hall] at hpr
     subst hpr
     simp -dsimp [g1,g2,g4,g5,g6]
     rw [hws]
     exact⟨⟨R,rfl⟩,rfl⟩
   clear g g1 g2 g4 g5 g6 g24 g25 g26 g27
   rintro g _ ⟨rfl,g1,g2,g4,g5,g6,g24,g25,g26,hlt⟩
   have hlx:a[i]?=some a[i]:=List.getElem?_eq_getElem hlt
   have hcx:=JN hlt
   have hosi:os[i]?=some (a[i].fold K):=by rw [hos,Zcs,List.getElem?_map,hlx];rfl
   have htk:os.take (i+1)=pr++[a[i].fold K]:=by rw [List.take_add_one,hosi,hpr];rfl
   obtain⟨x,hx⟩:∃x,x=a[i]:=⟨_,rfl⟩
   rw [←hx] at hlx hcx htk
   clear hx hosi
   have ci:=fun R=>ih x (by omega) (by omega) (M ws pr R) kx (by rw [hM];exact hkn.app _)
   obtain⟨y,hy⟩:∃y,y=x.fold K:=⟨_,rfl⟩
   rw [←hy] at ci htk
   simp only [Ex.cells_eq] at ci
   refine Z4 (fun f H'=>(∃R,H'=M (XS (os.take (i+1))) (os.take (i+1)) R)∧f 1=kx∧f 2=.bp (H.length+2) 0∧f 4=.bp (H.length+3) 0∧f 5=.bp (H.length+4) 0∧f 6=woS H.length (XS (os.take (i+1)))∧f 24=Ex.sl a∧f 25=I a.length∧f 26=I i) ?_ ?_
   rotate_left
   ·clear g g1 g2 g4 g5 g6 g24 g25 g26
    rintro g _ ⟨⟨R',rfl⟩,g1,g2,g4,g5,g6,g24,g25,g26⟩
    refine Zk (by kernel_rfl) ?_
    simp -dsimp [g1,g2,g4,g5,g6,g24,g25,g26]
    exact⟨i+1,by omega,⟨R',rfl⟩,rfl,ZC (by omega),by omega⟩
   rw [htk]
   have hwt:XS (pr++[y])=if y.op=1 then ws++[y.word] else ws:=by
    rw [hws];unfold XS
    by_cases h:y.op=1<;>simp [h]
   refine Z9 ?_
   obtain⟨V,hV⟩:∃V,V=M ws pr R:=⟨_,rfl⟩
   rw [←hV]
   refine Zc (fun f H'=>H'=V++[.box 73 [I x.op,U x.word,St x.name,Ex.sl x.args]]∧f 1=kx∧f 2=.bp (H.length+2) 0∧f 4=.bp (H.length+3) 0∧f 5=.bp (H.length+4) 0∧f 6=woS H.length ws∧f 24=Ex.sl a∧f 25=I a.length∧f 26=I i∧f 8=.bp V.length 0) (by kernel_rfl) ?_ ?_
   ·simp -dsimp [g1,g2,g4,g5,g6,g24,g25,g26,hlx]
   clear g g1 g2 g4 g5 g6 g24 g25 g26
   rw [hV,hMl,hMa,←Ex.cells_eq]
   clear hV V
   rintro g _ ⟨rfl,g1,g2,g4,g5,g6,g24,g25,g26,g8⟩
   obtain⟨bX,hbX⟩:∃bX,bX=Ze.box 73 x.cells:=⟨_,rfl⟩
   have gX:∀ws os T,(M ws os (R++bX::T))[H.length+5+R.length]?=some (.box 73 [I x.op,U x.word,St x.name,Ex.sl x.args]):=fun ws os T=>by
    rw [hM,hbX,List.getElem?_append_right (by omega),show H.length+5+R.length-H.length=R.length+1+1+1+1+1 from by omega];simp
   rw [←hbX]
   have gX0:=gX ws pr []
   have ci':=ci (R++[bX])
   obtain⟨V,hV⟩:∃V,V=M ws pr (R++[bX]):=⟨_,rfl⟩
   rw [←hV] at gX0 ci' ⊢
   refine Zc (fun f H'=>H'=V++[.box 73 [I y.op,U y.word,St y.name,Ex.sl y.args]]∧f 1=kx∧f 2=.bp (H.length+2) 0∧f 4=.bp (H.length+3) 0∧f 5=.bp (H.length+4) 0∧f 6=woS H.length ws∧f 24=Ex.sl a∧f 25=I a.length∧f 26=I i∧f 9=.bp V.length 0) (by kernel_rfl) ?_ ?_
   ·simp -dsimp [g1,g2,g4,g5,g6,g24,g25,g26,g8,gX0]
    refine ZA ci' ?_
    rintro r _ ⟨rfl,rfl⟩
    simp -dsimp [g1,g2,g4,g5,g6,g24,g25,g26]
   clear g g1 g2 g4 g5 g6 g24 g25 g26 g8
   have hVl:V.length=H.length+6+R.length:=by rw [hV,hMl];simp;omega
   have hVM:V++[.box 73 [I y.op,U y.word,St y.name,Ex.sl y.args]]=M ws pr (R++[bX,.box 73 y.cells]):=by rw [hV,hMa,Ex.cells_eq];simp
   rw [hVM,hVl]
   clear hV hVl hVM gX0 ci' V
   rintro g _ ⟨rfl,g1,g2,g4,g5,g6,g24,g25,g26,g9⟩
   obtain⟨R',hR'⟩:∃R',R'=R++[bX,.box 73 y.cells]:=⟨_,rfl⟩
   have gY:∀ws os,(M ws os R')[H.length+6+R.length]?=some (.box 73 [I y.op,U y.word,St y.name,Ex.sl y.args]):=fun ws os=>by
    rw [hM,hR',List.getElem?_append_right (by omega),show H.length+6+R.length-H.length=R.length+1+1+1+1+1+1 from by omega];simp
   rw [←hR']
   clear hR' gX hbX
   refine J2 (fun d=>d==37) (fun _=>none) (fun f H'=>H'=M ws (pr++[y]) R'∧f 1=kx∧f 2=.bp (H.length+2) 0∧f 4=.bp (H.length+3) 0∧f 5=.bp (H.length+4) 0∧f 6=woS H.length ws∧f 24=Ex.sl a∧f 25=I a.length∧f 26=I i∧f 9=.bp (H.length+6+R.length) 0) (by kernel_rfl) ?_ ?_
   ·have hmp:(pr++[y]).map Ex.cells=pr.map Ex.cells++[[I y.op,U y.word,St y.name,Ex.sl y.args]]:=by rw [List.map_append,←Ex.cells_eq];rfl
    simp -dsimp [g1,g2,g4,g5,g6,g24,g25,g26,g9,gY,m4]
    refine ZD (k:=H.length+1) (es:=pr.map Ex.cells) (m1 _ _ _) (by simp;omega) (by simp;omega) ?_
    rw [←hmp]
    have mg1':=mg1 ws pr R' (pr++[y])
    have ms1':=ms1 ws pr R' (pr++[y])
    obtain⟨V,hV⟩:∃V,V=(M ws pr R').set (H.length+1) (exB (pr++[y])):=⟨_,rfl⟩
    obtain⟨sx,hsx⟩:∃sx,sx=Yo (H.length+1) ((pr++[y]).map Ex.cells):=⟨_,rfl⟩
    have ms1':V.set (H.length+4) (.box 73 [I o,U w,St n,Yo (H.length+1) ((pr++[y]).map Ex.cells)])=M ws (pr++[y]) R':=by rw [hV];exact ms1'
    rw [←hsx] at ms1'
    rw [←hV,←hsx]
    rw [←hV] at mg1'
    have o1:AV.one sx=true:=by rw [hsx];exact ZdH _ _
    have o2:YA sx=some [sx]:=by rw [hsx];exact ZcI _ _
    simp -dsimp [g1,g2,g4,g5,g6,g24,g25,g26,g9,mg1',ms1',o1,o2]
   clear g g1 g2 g4 g5 g6 g24 g25 g26 g9
   rintro g _ ⟨rfl,g1,g2,g4,g5,g6,g24,g25,g26,g9⟩
   refine YH (fun d=>d==46) (fun _=>none) (by kernel_rfl) ?_
   simp -dsimp [g1,g2,g4,g5,g6,g24,g25,g26,g9,gY]
   refine Zq (fun h1=>?_) (fun h1 h1a h1b=>?_)
   ·rw [hwt,if_pos h1]
    simp -dsimp [g1,g2,g4,g5,g6,g24,g25,g26,g9,gY]
    refine ZD (k:=H.length) (es:=ws.map fun x=>[U x]) (m0 _ _ _) (by simp;omega) (by simp;omega) ?_
    have hmp:(ws.map fun x=>[U x])++[[U y.word]]=(ws++[y.word]).map fun x=>[U x]:=by simp
    rw [hmp]
    have ms0':=ms0 ws (pr++[y]) R' (ws++[y.word])
    obtain⟨V,hV⟩:∃V,V=(M ws (pr++[y]) R').set H.length (woB (ws++[y.word])):=⟨_,rfl⟩
    obtain⟨sx,hsx⟩:∃sx,sx=Yo H.length ((ws++[y.word]).map fun x=>[U x]):=⟨_,rfl⟩
    rw [←hV] at ms0'
    rw [←hV,←hsx]
    have o1:AV.one sx=true:=by rw [hsx];exact ZdH _ _
    simp -dsimp [g1,g2,g4,g5,g6,g24,g25,g26,g9,o1]
    exact⟨⟨R',ms0'⟩,hsx⟩
   ·rw [hwt,if_neg h1]
    simp -dsimp [g1,g2,g4,g5,g6,g24,g25,g26,g9]
    exact⟨R',rfl⟩
  clear g g1 g2 g4 g5 g6
  rintro g _ ⟨⟨R,rfl⟩,g1,g2,g4,g5,g6⟩
  have hac:ZE a≤2^36:=by omega
  clear ms1 mg1 ms0 hcc
  obtain⟨W,hW⟩:∃W,W=XS os:=⟨_,rfl⟩
  rw [←hW] at g6 ⊢
  obtain⟨N,hN⟩:∃N:List Ze→List Ze,∀L,N L=M W os L:=⟨_,fun _=>rfl⟩
  have hNH:∀L,N L=H++(woB W::exB os::bE::bZ::.box 73 [I o,U w,St n,exS (H.length+1) os]::L):=fun L=>by rw [hN,hM]
  have v2:∀L,(N L)[H.length+2]?=some (.box 73 [I o,U w,St n,Ex.sl a]):=fun L=>by rw [hN,m2]
  have v4:∀L,(N L)[H.length+4]?=some (.box 73 [I o,U w,St n,exS (H.length+1) os]):=fun L=>by rw [hN,m4]
  have v1:∀L,(N L)[H.length+1]?=some (exB os):=fun L=>by rw [hN,m1]
  have v3:∀L,(N L)[H.length+3]?=some (.box 73 [I 0,U 0,St ByteArray.empty,Yp]):=fun L=>by rw [hN,hM,hbZ];simp
  have vs3:∀L X,∃L',(N L).set (H.length+3) X=H++L'∧L'[1]?=some (exB os)∧L'[3]?=some X:=fun L X=>⟨woB W::exB os::bE::X::.box 73 [I o,U w,St n,exS (H.length+1) os]::L,by rw [hNH];simp,rfl,rfl⟩
  have vg3:∀L X,((N L).set (H.length+3) X)[H.length+3]?=some X:=fun L X=>by rw [List.getElem?_set_self];rw [hNH];simp
  have vN:∀L X,N L++X=N (L++X):=fun L X=>by rw [hN,hN,hMa]
  have vS:∀L i X,(N L).set (H.length+5+i) X=N (L.set i X):=fun L i X=>by
   rw [hNH,hNH,show H.length+5+i=H.length+(i+1+1+1+1+1) from by omega];simp
  have vI:∀L i,(N L)[H.length+5+i]?=L[i]?:=fun L i=>by
   rw [hNH,show H.length+5+i=H.length+(i+1+1+1+1+1) from by omega];simp
  have vL:∀L,(N L).length=H.length+5+L.length:=fun L=>by rw [hN,hMl]
  have hNR:M W os R=N R:=by rw [hN]
  rw [hNR]
  clear hN hNR
  obtain⟨t,ht1,ht2⟩:=hkn
  have hme:∀L,Y3 (N L) kx=some (Yg kA t):=fun L=>by rw [hNH];exact ht1 _
  have hfi:=Zaf kA n t
  rw [ht2 n] at hfi
  have finA:∀ (x:Ex) L,E=x→ZW H (Zao fun r H'=>r=AE.ret (.agg [I E.op,U E.word,St E.name,Ex.sl E.args])∧H'=H) (.ret (.agg [I x.op,U x.word,St x.name,Ex.sl x.args])) (H++L):=fun x L h=>by
   rw [h];exact Z2 rfl (ZR (.refl _) ⟨rfl,rfl⟩)
  have finO:∀L,E=.mk o w n os→L[1]?=some (exB os)→ZW H (Zao fun r H'=>r=AE.ret (.agg [I E.op,U E.word,St E.name,Ex.sl E.args])∧H'=H) (.ret (.agg [I o,U w,St n,exS (H.length+1) os])) (H++L):=fun L h hL=>by
   refine ZcN (f:=fun x=>.agg [I o,U w,St n,x]) hu 1 4 73 (os.map Ex.cells) hL (Zhk os) (fun x=>by simp [AV.frz,Zam]) ?_
   intro x L' hx _
   rw [h]
   refine Z2 ?_ (ZR (.aggL (.cons (.refl _) (.cons (.refl _) (.cons (.refl _) (.cons hx.weak .nil))))) ⟨rfl,rfl⟩)
   rcases hx with ⟨rfl,_⟩|rfl<;>rfl
  refine Zc (fun f H'=>H'=N R∧f 2=.bp (H.length+2) 0∧f 4=.bp (H.length+3) 0∧f 5=.bp (H.length+4) 0∧f 6=woS H.length W∧f 10=U ((K n).getD 0)∧f 11=Bo (K n).isSome) (by kernel_rfl) ?_ ?_
  ·cases hq:K n with
   |none=>
    rw [hq] at hfi
    simp -dsimp [g1,g2,g4,g5,g6,v2,hme,hfi]
    rfl
   |some v=>
    rw [hq] at hfi
    simp -dsimp [g1,g2,g4,g5,g6,v2,hme,hfi]
  clear g g1 g2 g4 g5 g6 hme
  rintro g _ ⟨rfl,g2,g4,g5,g6,g10,g11⟩
  refine Z4 (fun f H'=>(∃L,H'=N L)∧f 4=.bp (H.length+3) 0∧f 5=.bp (H.length+4) 0∧E=.mk o w n os) ?_ ?_
  rotate_left
  ·clear g g2 g4 g5 g6 g10 g11
   rintro g _ ⟨⟨L,rfl⟩,g4,g5,hEo⟩
   refine Zk (by kernel_rfl) ?_
   simp -dsimp [g4,g5,v4,v3,vg3]
   obtain⟨L',h1,h2,_⟩:=vs3 L (.box 73 [I o,U w,St n,exS (H.length+1) os])
   rw [h1]
   exact finO L' hEo h2
  --a number is stored,and it is over
  have cn:=fun x H=>Zr6 x H
  simp only [Ex.cells_eq] at cn
  refine Z9 ?_
  refine Zc (fun f H'=>H'=N R∧f 2=.bp (H.length+2) 0∧f 4=.bp (H.length+3) 0∧f 5=.bp (H.length+4) 0∧f 6=woS H.length W∧f 10=U ((K n).getD 0)∧f 55=Bo (o==2&&(K n).isSome)) (by kernel_rfl) ?_ ?_
  ·simp -dsimp [g2,g4,g5,g6,g10,g11,v2]
   refine Zr (fun h=>?_) (fun h h1 h2=>?_)
   ·simp -dsimp [h,g2,g4,g5,g6,g10,g11,v2]
   ·simp -dsimp [h,h1,g2,g4,g5,g6,g10,g11,v2]
  clear g g2 g4 g5 g6 g10 g11
  rintro g _ ⟨rfl,g2,g4,g5,g6,g10,g55⟩
  by_cases hb:o=2∧(K n).isSome=true
  ·obtain⟨ho,hs⟩:=hb
   obtain⟨v,hv⟩:=Option.isSome_iff_exists.1 hs
   have hEc:E=cEx v:=by rw [hE,ZaE,if_pos ho,hv]
   refine YP (by kernel_rfl) (by show g 55=_;rw [g55,ho,hs];rfl) ?_
   refine Zk (by kernel_rfl) ?_
   rw [hv] at g10
   simp only [Option.getD_some] at g10
   simp -dsimp [g4,g10]
   refine Za (cn v _) ?_
   simp -dsimp [g4,v3,vg3]
   obtain⟨L',h1,h2,_⟩:=vs3 R (.box 73 [I (cEx v).op,U (cEx v).word,St (cEx v).name,Ex.sl (cEx v).args])
   rw [h1]
   exact finA _ L' hEc
  have hE1:E=if Jt o=os.length then (if (os.all fun x=>x.op==1)=true then cEx (XB o (os.map Ex.word)) else if o=21 then ZfG os (.mk o w n os) else .mk o w n os) else .mk o w n os:=by
   rw [hE,ZaE]
   have:(if o=2 then K n else none)=none:=by
    split
    ·rename_i h
     cases hq:K n with
     |none=>rfl
     |some v=>exact absurd ⟨h,by rw [hq];rfl⟩ hb
    ·rfl
   rw [this]
  refine YM (by kernel_rfl) (by
   show g 55=_;rw [g55]
   by_cases h2:o=2
   ·have:(K n).isSome=false:=by cases hq:(K n).isSome;rfl;exact absurd ⟨h2,hq⟩ hb
    rw [this];simp
   ·simp [h2]) ?_
  clear hb g55 g10 hE
  have ca:=fun H=>Zm2 o H
  refine Zc (fun f H'=>H'=N R∧f 2=.bp (H.length+2) 0∧f 4=.bp (H.length+3) 0∧f 5=.bp (H.length+4) 0∧f 6=woS H.length W∧f 64=Bo (!decide (Jt o=a.length))) (by kernel_rfl) ?_ ?_
  ·simp -dsimp [g2,g4,g5,g6,v2]
   refine Zd (ca _) ?_
   by_cases hA:Jt o=a.length
   ·have hn: ¬ ((a.length:Int)<0):=by omega
    rw [hA] at ca ⊢
    simp -dsimp [g2,g4,g5,g6,v2,hn]
    refine Zd (ca _) ?_
    simp -dsimp [g2,g4,g5,g6,v2,hn]
   ·have hb:(Jt o != (a.length:Int))=true:=by rw [bne_iff_ne];exact hA
    simp -dsimp [g2,g4,g5,g6,v2]
    refine Zn (fun hn=>?_) (fun hn=>?_)
    ·simp -dsimp [g2,g4,g5,g6,v2,hn,hA]
    ·simp -dsimp [g2,g4,g5,g6,v2,hn]
     refine Zd (ca _) ?_
     simp -dsimp [g2,g4,g5,g6,v2,hn,hb,hA]
  clear g g2 g4 g5 g6
  rintro g _ ⟨rfl,g2,g4,g5,g6,g64⟩
  by_cases hA:Jt o=a.length
  rotate_left
  ·refine YP (by kernel_rfl) (by show g 64=_;rw [g64];simp [hA]) ?_
   rw [if_neg (by rw [hosl];exact hA)] at hE1
   refine Zk (by kernel_rfl) ?_
   simp -dsimp [g4,g5,v4,v3,vg3]
   obtain⟨L',h1,h2,_⟩:=vs3 R (.box 73 [I o,U w,St n,exS (H.length+1) os])
   rw [h1]
   exact finO L' hE1 h2
  refine YM (by kernel_rfl) (by show g 64=_;rw [g64];simp [hA]) ?_
  rw [if_pos (by rw [hosl];exact hA)] at hE1
  have hWl:(W.length=os.length)↔(os.all fun x=>x.op==1)=true:=by rw [hW];exact ZmV os
  refine Zc (fun f H'=>H'=N R∧f 2=.bp (H.length+2) 0∧f 4=.bp (H.length+3) 0∧f 5=.bp (H.length+4) 0∧f 6=woS H.length W∧f 79=Bo ((W.length:Int)==a.length)) (by kernel_rfl) ?_ ?_
  ·have v0:(N R)[H.length]?=some (woB W):=by rw [hNH];simp
   have hlv:Zev (N R) 1 (woS H.length W)=some W.length:=by
    have:=Zpm v0
    simpa using this
   simp -dsimp [g2,g4,g5,g6,v2,hlv]
  clear g g2 g4 g5 g6 g64
  rintro g _ ⟨rfl,g2,g4,g5,g6,g79⟩
  by_cases hall:(os.all fun x=>x.op==1)=true
  ·refine YP (by kernel_rfl) (by show g 79=_;rw [g79];simp;rw [hWl.2 hall,hosl]) ?_
   rw [if_pos hall] at hE1
   have hWw:=ZmM hall
   rw [←hW] at hWw
   rw [←hWw] at hE1
   have hlen:Jt o=W.length:=by rw [hA,←hosl,hWl.2 hall]
   have hev:ZlA o W=[U (XB o W),I 0]:=if_pos hlen
   have ce:Zi Tryz.prog 55 [I o,woS H.length W] (N R) (fun e M=>e=.ret (.tup (ZlA o W))∧∃L',M=H++L'∧L'[3]?=some bZ):=by
    rw [hNH]
    exact Zf7 (f:=fun x=>[I o,x]) hu 0 1 48 (W.map fun x=>[U x]) rfl (Zoo W) (fun x=>by simp [Zam,AV.frz]) (fun x L' hx hk=>(ZpV o W x hx _).mono (fun e M ⟨h1,h2⟩=>⟨h1,L',h2,hk 3 bZ (by omega) rfl (by rw [hbZ];rfl)⟩))
   rw [hev] at ce
   obtain⟨v,hv⟩:∃v,v=XB o W:=⟨_,rfl⟩
   rw [←hv] at ce hE1
   refine Zk (by kernel_rfl) ?_
   simp -dsimp [g2,g4,g6,v2]
   refine ZA ce ?_
   rintro e M' ⟨rfl,L',rfl,hL3⟩
   simp -dsimp [g4]
   refine Za (cn v _) ?_
   rw [hbZ] at hL3
   obtain⟨c1,hc1⟩:∃c1,c1=Ze.box 73 [I (cEx v).op,U (cEx v).word,St (cEx v).name,Ex.sl (cEx v).args]:=⟨_,rfl⟩
   have k4:(L'.set 3 c1)[3]?=some c1:=List.getElem?_set_self (ZT hL3)
   rw [hc1] at k4
   simp -dsimp [g4,hL3,k4]
   exact finA _ _ hE1
  refine YM (by kernel_rfl) (by show g 79=_;rw [g79];simp;intro h;exact hall (hWl.1 (by omega))) ?_
  rw [if_neg hall] at hE1
  clear hWl hall ca hW
  by_cases h21:o=21
  rotate_left
  ·rw [if_neg h21] at hE1
   have h21b:(o==21)=false:=by simpa using h21
   refine Zc (fun f H'=>H'=N R∧f 4=.bp (H.length+3) 0∧f 5=.bp (H.length+4) 0∧f 95=Bo false) (by kernel_rfl) ?_ ?_
   ·simp -dsimp [g2,g4,g5,g6,v2,h21b]
   clear g g2 g4 g5 g6 g79
   rintro g _ ⟨rfl,g4,g5,g95⟩
   refine YM (by kernel_rfl) (by show g 95=_;rw [g95]) ?_
   refine Zk (by kernel_rfl) ?_
   simp -dsimp [g4,g5]
   exact⟨⟨R,rfl⟩,hE1⟩
  rw [if_pos h21] at hE1
  subst h21
  have hl3:a.length=3:=by have:(3:Int)=a.length:=hA;omega
  obtain⟨x,y,z,rfl⟩:∃x y z,os=[x,y,z]:=by
   match os,hosl with
   |[x,y,z],_=>exact⟨x,y,z,rfl⟩
   |[],h=>simp at h;omega
   |[_],h=>simp at h;omega
   |[_,_],h=>simp at h;omega
   |_::_::_::_::_,h=>simp at h;omega
  have hrow:exB [x,y,z]=.row 73 4 [[I x.op,U x.word,St x.name,Ex.sl x.args],[I y.op,U y.word,St y.name,Ex.sl y.args],[I z.op,U z.word,St z.name,Ex.sl z.args]]:=by simp [Yn]
  have hhan:exS (H.length+1) [x,y,z]=.hs (H.length+1) 0 3 3:=by simp [Yo]
  rw [hhan] at v4
  rw [hrow] at v1
  refine Zc (fun f H'=>H'=N R∧f 4=.bp (H.length+3) 0∧f 5=.bp (H.length+4) 0∧f 95=Bo (x.op==1)) (by kernel_rfl) ?_ ?_
  ·simp -dsimp [g2,g4,g5,g6,v2,v4,v1]
  clear g g2 g4 g5 g6 g79
  rintro g _ ⟨rfl,g4,g5,g95⟩
  by_cases hx1:x.op=1
  rotate_left
  ·refine YM (by kernel_rfl) (by show g 95=_;rw [g95];simp [hx1]) ?_
   refine Zk (by kernel_rfl) ?_
   simp -dsimp [g4,g5]
   exact⟨⟨R,rfl⟩,by rw [hE1,ZfG,if_neg hx1]⟩
  refine YP (by kernel_rfl) (by show g 95=_;rw [g95];simp [hx1]) ?_
  rw [ZfG,if_pos hx1] at hE1
  --the way,and the other
  obtain⟨bx,hbx⟩:∃bx:Ex→Ze,∀e,bx e=.box 73 [I e.op,U e.word,St e.name,Ex.sl e.args]:=⟨_,fun _=>rfl⟩
  have hbx':∀e:Ex,Ze.box 73 [I e.op,U e.word,St e.name,Ex.sl e.args]=bx e:=fun e=>(hbx e).symm
  refine Z4 (fun f H'=>(∃L u v,H'=N L∧f 14=.bp u 0∧f 15=.bp v 0∧(N L)[u]?=some (bx y)∧(N L)[v]?=some (bx z)∧u≠v∧u≠H.length+3∧H.length+5≤u∧H.length+5≤v)∧f 4=.bp (H.length+3) 0∧f 5=.bp (H.length+4) 0) ?_ ?_
  ·obtain⟨V,hV⟩:∃V,V=N R:=⟨_,rfl⟩
   have q4:V[H.length+4]?=some (.box 73 [I 21,U w,St n,.hs (H.length+1) 0 3 3]):=by rw [hV];exact v4 _
   have q1:V[H.length+1]?=some (.row 73 4 [[I x.op,U x.word,St x.name,Ex.sl x.args],[I y.op,U y.word,St y.name,Ex.sl y.args],[I z.op,U z.word,St z.name,Ex.sl z.args]]):=by rw [hV];exact v1 _
   have q4L:=fun L=>ZG q4 L
   have q1L:=fun L=>ZG q1 L
   have hVl:V.length=H.length+5+R.length:=by rw [hV,vL]
   have hVN:∀L,V++L=N (R++L):=fun L=>by rw [hV,vN]
   rw [←hV]
   refine Xb (fun d=>false) ZtA (by kernel_rfl) ?_
   simp -dsimp [ZtA,g4,g5,q4,q1,q4L,q1L,hbx']
   exact⟨⟨R++[bx y,bx z],hVN _,by rw [←hVN];simp,by rw [←hVN];simp,by omega,by omega,by omega⟩,⟨R++[bx z,bx y],hVN _,by rw [←hVN];simp,by rw [←hVN];simp,by omega,by omega,by omega⟩⟩
  clear g g4 g5 g95
  rintro g _ ⟨⟨L,u,v,rfl,g14,g15,hu1,hv1,huv,hu3,hu5,hv5⟩,g4,g5⟩
  rw [hbx] at hu1 hv1
  clear hbx hbx' bx
  have cs:=fun (e:Ex) (he:e∈[x,y,z]) H=>Zst _ e (Nat.lt_succ_self _) (by have:=Zbj he;omega) H
  have csy:=fun H=>cs y (by simp) H
  have csz:=fun H=>cs z (by simp) H
  simp only [Ex.cells_eq] at csy csz
  clear cs
  --the way first
  obtain⟨A,B,hAB⟩:∃A B:Ex,(A,B)=if x.word=0 then (z,y) else (y,z):=⟨_,_,rfl⟩
  have hE2:E=if B.safe=true then A else .mk 21 w n [x,y,z]:=by
   rw [hE1]
   by_cases h:x.word=0
   ·rw [if_pos h] at hAB ⊢;cases hAB;rfl
   ·rw [if_neg h] at hAB ⊢;cases hAB;rfl
  have cB:∀H,Zi Tryz.prog 28 [.agg [I B.op,U B.word,St B.name,Ex.sl B.args]] H (fun r H'=>r=.ret (Bo B.safe)∧H'=H):=by
   by_cases h:x.word=0
   ·rw [if_pos h] at hAB;cases hAB;exact csy
   ·rw [if_neg h] at hAB;cases hAB;exact csz
  refine Z4 (fun f H'=>(∃L,H'=N L∧f 14=.bp u 0∧f 15=.bp v 0∧(N L)[u]?=some (.box 73 [I A.op,U A.word,St A.name,Ex.sl A.args])∧(N L)[v]?=some (.box 73 [I B.op,U B.word,St B.name,Ex.sl B.args]))∧f 4=.bp (H.length+3) 0∧f 5=.bp (H.length+4) 0) ?_ ?_
  ·refine Zc (fun f H'=>H'=N L∧f 14=.bp u 0∧f 15=.bp v 0∧f 4=.bp (H.length+3) 0∧f 5=.bp (H.length+4) 0∧f 120=Bo (x.word==0)) (by kernel_rfl) ?_ ?_
   ·simp -dsimp [g4,g5,g14,g15,v4,v1]
   clear g g4 g5 g14 g15
   rintro g _ ⟨rfl,g14,g15,g4,g5,g120⟩
   by_cases h:x.word=0
   ·rw [if_pos h] at hAB;cases hAB
    refine YP (by kernel_rfl) (by show g 120=_;rw [g120];simp [h]) ?_
    refine Zk (by kernel_rfl) ?_
    obtain⟨iu,rfl⟩:∃iu,u=H.length+5+iu:=⟨u-(H.length+5),by omega⟩
    obtain⟨iv,rfl⟩:∃iv,v=H.length+5+iv:=⟨v-(H.length+5),by omega⟩
    rw [vI] at hu1 hv1
    obtain⟨by1,hby1⟩:∃b,b=Ze.box 73 [I y.op,U y.word,St y.name,Ex.sl y.args]:=⟨_,rfl⟩
    obtain⟨bz1,hbz1⟩:∃b,b=Ze.box 73 [I z.op,U z.word,St z.name,Ex.sl z.args]:=⟨_,rfl⟩
    have e1:(L.set iu bz1)[iv]?=some bz1:=by rw [List.getElem?_set_ne (by omega),hbz1];exact hv1
    have e2:((L.set iu bz1).set iv by1)[iv]?=some by1:=List.getElem?_set_self (by rw [List.length_set];exact ZT hv1)
    have e3:((L.set iu bz1).set iv by1)[iu]?=some bz1:=by rw [List.getElem?_set_ne (by omega)];exact List.getElem?_set_self (ZT hu1)
    rw [hbz1] at e1
    rw [hby1,hbz1] at e2 e3
    simp -dsimp [g4,g5,g14,g15,vI,vS,hu1,hv1,e1]
    exact⟨_,rfl,e3,e2⟩
   ·rw [if_neg h] at hAB;cases hAB
    refine YM (by kernel_rfl) (by show g 120=_;rw [g120];simp [h]) ?_
    refine Zk (by kernel_rfl) ?_
    simp -dsimp [g4,g5,g14,g15]
    exact⟨L,rfl,hu1,hv1⟩
  clear g g4 g5 g14 g15
  rintro g _ ⟨⟨L,rfl,g14,g15,hA1,hB1⟩,g4,g5⟩
  obtain⟨b,hb⟩:∃b,b=B.safe:=⟨_,rfl⟩
  rw [←hb] at cB hE2
  refine Zk (by kernel_rfl) ?_
  simp -dsimp [g4,g5,g14,g15,hB1]
  refine Za (cB _) ?_
  cases b
  ·simp -dsimp [g4,g5]
   exact⟨⟨L,rfl⟩,hE2⟩
  ·simp -dsimp [g4,g5,g14,hA1,v3,vg3]
   obtain⟨L',h1,h2,_⟩:=vs3 L (.box 73 [I A.op,U A.word,St A.name,Ex.sl A.args])
   rw [h1]
   exact finA _ L' hE2
end Go.Proofs
