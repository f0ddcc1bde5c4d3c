import Derived.Test.YtpibcbilkpoomaaGreatm29
set_option linter.all false
set_option maxHeartbeats 4000000
set_option maxRecDepth 100000
namespace Go.Proofs
open Go.Mu
def Zbq (h:Option Nat) (n:Nat):AV:=match h with|none=>Yp|some k=>.hs k 0 n n
structure ZhO (t:TypeId) (sz:Nat) (M:List Ze) (h:Option Nat) (es:List (List AV)):Prop where
 row:∀k,h=some k→M[k]?=some (.row t sz es)
 nil:h=none→es=[]
structure Zbt (M M':List Ze) (h h':Option Nat):Prop where
 len:M.length≤M'.length
 get:∀i,i<M.length→h≠some i→M'[i]?=M[i]?
 new:h'=h∨∃i,h'=some i∧M.length≤i
theorem Zbt.refl (M:List Ze) (h:Option Nat):Zbt M M h h:=⟨Nat.le_refl _,fun _ _ _=>rfl,.inl rfl⟩
theorem Zbt.app (M L:List Ze) (h:Option Nat):Zbt M (M++L) h h:=⟨by simp,fun i hi _=>List.getElem?_append_left hi,.inl rfl⟩
theorem Zbt.trans {M1 M2 M3:List Ze} {h1 h2 h3:Option Nat} (a:Zbt M1 M2 h1 h2) (b:Zbt M2 M3 h2 h3):Zbt M1 M3 h1 h3:=by
 refine⟨Nat.le_trans a.len b.len,fun i hi hn=>?_,?_⟩
 ·rw [b.get i (Nat.lt_of_lt_of_le hi a.len) ?_,a.get i hi hn]
  rcases a.new with e|⟨j,e,hj⟩
  ·rw [e];exact hn
  ·rw [e];intro q;cases q;omega
 ·rcases b.new with e|⟨j,e,hj⟩
  ·rw [e]
   rcases a.new with e|⟨j,e,hj⟩
   ·exact .inl e
   ·exact .inr ⟨j,e,hj⟩
  ·exact .inr ⟨j,e,Nat.le_trans a.len hj⟩
theorem Zbt.old {M M':List Ze} {h h':Option Nat} (a:Zbt M M' h h') {i:Nat} {b:Ze} (hi:M[i]?=some b) (hn:h≠some i):M'[i]?=some b:=by rw [a.get i (ZT hi) hn];exact hi
theorem ZqM {t sz:Nat} {M:List Ze} {h:Option Nat} {es:List (List AV)} (hr:ZhO t sz M h es):Zev M 1 (Zbq h es.length)=some (es.length:Int):=by
 cases h with
 |none=>have:=hr.nil rfl;subst this;rfl
 |some k=>
  have q:=hr.row k rfl
  simp [Zbq,q]
theorem ZmB {t sz:Nat} {M:List Ze} {h:Option Nat} {es:List (List AV)} (hr:ZhO t sz M h es):ZaV M sz (Zbq h es.length)=some es:=by
 cases h with
 |none=>have:=hr.nil rfl;subst this;rfl
 |some k=>
  have q:=hr.row k rfl
  simp only [Zbq,ZaV,q,and_self,if_true,List.drop_zero]
  rw [List.take_of_length_le (by simp)]
@[simp] theorem ZrC (h:Option Nat) (n:Nat):(Zbq h n).one=true:=by cases h<;>rfl
theorem ZgW {t sz n:Nat} {H:List Ze} {h:Option Nat} {es ys:List (List AV)} {sl:TypeId×Nat×List Value×Nat} {K:AV→List Ze→Prop} {w:ZQ K} (hr:ZhO t sz H h es) (hn:n=es.length) (h1:sl.1=t) (h2:sl.2.1=sz) (hb:(es.length+ys.length)*sl.2.2.2≤140737488355328) (h63:es.length+ys.length≤9223372036854775807)
 (k:∀h' H' m,m=(es++ys).length→ZhO t sz H' h' (es++ys)→Zbt H H' h h'→K (Zbq h' m) H'):XA H sl (Zbq h n) ys K w:=by
 subst hn
 replace k:=fun h' H'=>k h' H' _ rfl
 obtain⟨s1,s2,s3,s4⟩:=sl
 simp only at h1 h2 hb
 subst h1 h2
 cases h with
 |none=>
  have:=hr.nil rfl
  subst this
  simp only [List.length_nil,Nat.zero_add] at hb
  simp only [Zbq]
  refine Zaa (by simpa using hb) (by simp at h63 ⊢;omega) (fun hy=>?_) (fun hy=>?_)
  ·subst hy
   exact k none H ⟨fun _ h=>(by cases h),fun _=>rfl⟩ (.refl _ _)
  ·have:=k (some H.length) (H++[.row s1 s2 ys]) ⟨fun k hk=>(by cases hk;simp),fun h=>(by cases h)⟩ ⟨by simp,fun i hi _=>List.getElem?_append_left hi,.inr ⟨_,rfl,Nat.le_refl _⟩⟩
   simpa [Zbq] using this
 |some i=>
  have q3:=hr.row i rfl
  have hil:=ZT q3
  simp only [Zbq]
  refine Jc (es:=es) q3 rfl rfl (by simpa using hb) h63 ?_
  have:=k (some i) (H.set i (.row s1 s2 (es++ys))) ⟨fun k hk=>(by cases hk;simp [hil]),fun h=>(by cases h)⟩ ⟨by simp,fun j hj hne=>by rw [List.getElem?_set_ne (fun e=>hne (by rw [e]))],.inl rfl⟩
  simpa [Zbq] using this
abbrev Zl2 (M:List Ze) (h:Option Nat) (l:List ByteArray):Prop:=ZhO 9 1 M h (l.map fun s=>[St s])
def ZeP (n:ByteArray):List ByteArray→List ByteArray
 |[]=>[n]
 |x::l=>if x=n then x::l else if bLt n x then n::x::l else x::ZeP n l
theorem ZiA (n:ByteArray):∀ (l:List ByteArray) (x:ByteArray),x∈ZeP n l↔x=n∨x∈l
 |[],x=>by simp [ZeP]
 |y::l,x=>by
  rw [ZeP]
  split
  ·rename_i h;subst h;simp
  ·split
   ·simp
   ·rw [List.mem_cons,List.mem_cons,ZiA n l x]
    constructor
    ·rintro (a|a|a)
     ·exact .inr (.inl a)
     ·exact .inl a
     ·exact .inr (.inr a)
    ·rintro (a|a|a)
     ·exact .inr (.inl a)
     ·exact .inl a
     ·exact .inr (.inr a)
theorem Zg0 (n:ByteArray):∀l:List ByteArray,l.Pairwise bLt→(ZeP n l).Pairwise bLt
 |[],_=>by simp [ZeP]
 |y::l,h=>by
  rw [List.pairwise_cons] at h
  rw [ZeP]
  split
  ·exact List.pairwise_cons.2 h
  ·rename_i hne
   split
   ·rename_i hlt
    refine List.pairwise_cons.2 ⟨fun x hx=>?_,List.pairwise_cons.2 h⟩
    rcases List.mem_cons.1 hx with rfl|hx
    ·exact hlt
    ·exact ZfP hlt (h.1 x hx)
   ·rename_i hnl
    refine List.pairwise_cons.2 ⟨fun x hx=>?_,Zg0 n l h.2⟩
    rcases (ZiA n l x).1 hx with rfl|hx
    ·exact Zrv hnl (fun e=>hne e.symm)
    ·exact h.1 x hx
def Zy1 (M:List Ze) (h:Option Nat) (E:List ByteArray) (e:AE) (M':List Ze):Prop:=∃h',e=.ret (Zbq h' E.length)∧Zl2 M' h' E∧Zbt M M' h h'
def Zd0 (d:Nat):Bool:=d==28||d==31||d==35||d==39
def Zfz (i:Nat):Option Y7:=if i=7 then some [(0,[]),(1,[]),(2,[]),(4,[]),(5,[]),(7,[]),(8,[]),(9,[]),(3,[5,9]),(6,[9]),(10,[]),(11,[])] else none
theorem Zsf (l:List ByteArray) (n:ByteArray) (h:Option Nat) (H:List Ze) (hr:Zl2 H h l) (hl:l.length≤2^38):Zi Tryz.prog 48 [Zbq h l.length,St n] H (Zy1 H h (ZeP n l)):=by
 refine J4 (hn:=Zd0) (od:=Zfz) Tryz.func48 rfl (by kernel_rfl) ?_
 obtain⟨E,hE⟩:∃E,E=ZeP n l:=⟨_,rfl⟩
 rw [←hE]
 cases h with
 |none=>
  have:=hr.nil rfl
  have:l=[]:=List.map_eq_nil_iff.1 this
  subst this
  simp -dsimp [Zbq]
  refine Ju (hn:=Zd0) (od:=Zfz) (fun (i:Nat) f H'=>H=H'∧f 0=Yp∧f 1=St n∧f 5=I 0) (fun i=>0) (by kernel_rfl) 0 (by simp) ?_
  rintro i f _ ⟨rfl,f0,f1,f5⟩
  simp -dsimp [f0,f1,f5,Zd0]
  refine Zaa (by simp) (by simp) (fun hy=>by cases hy) (fun _=>?_)
  simp -dsimp
  exact⟨some H.length,by rw [hE];rfl,⟨fun k hk=>by cases hk;rw [hE];simp [ZeP],fun h=>by cases h⟩,by simp,fun i hi _=>List.getElem?_append_left hi,.inr ⟨_,rfl,Nat.le_refl _⟩⟩
 |some k=>
  have q:=hr.row k rfl
  have hkl:=ZT q
  simp -dsimp [Zbq]
  refine Ju (hn:=Zd0) (od:=Zfz) (fun (i:Nat) f H'=>H=H'∧f 0=.hs k 0 l.length l.length∧f 1=St n∧f 5=I i∧i≤l.length∧l.take i++ZeP n (l.drop i)=E) (fun i=>l.length-i) (by kernel_rfl) 0 (by simp [hE]) ?_
  rintro i f _ ⟨rfl,f0,f1,f5,hi,hinv⟩
  simp -dsimp [f0,f1,f5,q]
  refine Zb (fun hlt=>?_) (fun hlt=>?_)
  ·have hlt':i<l.length:=by omega
   have hx:=List.getElem?_eq_getElem hlt'
   have htk:l.take (i+1)=l.take i++[l[i]]:=Y1 hlt'
   rw [Zo hlt'] at hinv
   have hdr:l.drop i=l[i]::l.drop (i+1):=Zo hlt'
   obtain⟨x,hxe⟩:∃x,x=l[i]:=⟨_,rfl⟩
   rw [←hxe] at hinv hx htk hdr
   clear hxe
   rw [ZeP] at hinv
   have hxc:(l.map fun s=>[St s])[i]?=some [St x]:=by rw [List.getElem?_map,hx];rfl
   simp -dsimp [f0,f1,f5,q,hxc]
   refine⟨hlt',?_⟩
   simp -dsimp [f0,f1,f5,q,hxc]
   refine Zb (fun he=>?_) (fun he=>?_)
   ·rw [if_pos he] at hinv
    have:E=l:=by rw [←hinv,←hdr,List.take_append_drop]
    simp -dsimp [f0]
    exact⟨some k,by rw [this];rfl,by rw [this];exact hr,.refl _ _⟩
   ·rw [if_neg he] at hinv
    have hb:Zlt .gtr x n=some (.bool (!decide (bLt x n))):=by
     show some (Value.bool (!(Op.bytesLess x.toList n.toList||x.toList==n.toList)))=_
     rw [ZrG,ZsM,decide_eq_false he,Bool.or_false]
    simp -dsimp [f0,f1,f5,q,hxc,hb]
    refine⟨hlt',?_⟩
    simp -dsimp [f0,f1,f5,q,hxc,hb]
    by_cases hlt2:bLt x n
    ·have hn2: ¬ bLt n x:=fun h2=>ZcT x (ZfP hlt2 h2)
     rw [if_neg hn2] at hinv
     simp -dsimp [f0,f1,f5,hlt2]
     exact⟨i+1,by omega,ZC (by omega),by omega,by rw [htk,List.append_assoc];exact hinv⟩
    ·have hn2:bLt n x:=Zrv hlt2 he
     rw [if_pos hn2] at hinv
     simp -dsimp [f0,f1,f5,hlt2,Zd0,Zfz,q]
     have s1:∀M:List Ze,M[k]?=some (.row 9 1 (l.map fun s=>[St s]))→ZaV M 1 (.hs k 0 i l.length)=some ((l.take i).map fun s=>[St s]):=fun M h=>by
      simp only [ZaV,h,List.length_map,and_self,if_true,List.drop_zero,List.map_take]
     have s2:∀M:List Ze,M[k]?=some (.row 9 1 (l.map fun s=>[St s]))→ZaV M 1 (.hs k i (l.length-i) l.length)=some ((l.drop i).map fun s=>[St s]):=fun M h=>by
      simp only [ZaV,h,List.length_map,and_self,if_true,List.map_drop]
      rw [List.take_of_length_le (by simp)]
     refine⟨hi,?_⟩
     simp -dsimp [f0,f1,f5,hlt2,Zd0,Zfz,q]
     refine⟨⟨hi,.inr hlt'⟩,?_⟩
     have s1':=s1 H q
     simp -dsimp [f0,f1,f5,hlt2,Zd0,Zfz,q,s1']
     refine ZgW (n:=0) (h:=none) (es:=[]) (t:=9) (sz:=1) ⟨fun _ h=>(by cases h),fun _=>rfl⟩ rfl rfl rfl (by simp;omega) (by simp;omega) ?_
     intro h1 H1 n1 hn1 hr1 st1
     rw [←List.map_take] at hn1 hr1
     have q1:=st1.old q (by simp)
     simp -dsimp [f0,f1,f5,hlt2,Zd0,Zfz,q1,hi,hlt']
     have el:((l.take i).map fun s=>[St s]).length=i:=by simp;omega
     refine ZgW (h:=h1) (es:=[]++(l.take i).map fun s=>[St s]) (t:=9) (sz:=1) hr1 hn1 rfl rfl (by simp;omega) (by simp;omega) ?_
     intro h2 H2 n2 hn2 hr2 st2
     have q2:H2[k]?=some (.row 9 1 (l.map fun s=>[St s])):=st2.old q1 (fun e=>by
      rcases st1.new with e1|⟨j,e1,hj⟩
      ·rw [e1] at e;cases e
      ·rw [e1] at e;cases e;omega)
     simp -dsimp [f0,f1,f5,hlt2,Zd0,Zfz,q2,hi,hlt']
     have s2':=s2 H2 q2
     simp -dsimp [f0,f1,f5,hlt2,Zd0,Zfz,q2,hi,hlt',s2']
     refine ZgW (h:=h2) (es:=([]++(l.take i).map fun s=>[St s])++[[St n]]) (t:=9) (sz:=1) hr2 hn2 rfl rfl (by simp;omega) (by simp;omega) ?_
     intro h3 H3 n3 hn3 hr3 st3
     have hEe:([]++(l.take i).map fun s=>[St s])++[[St n]]++((l.map fun s=>[St s]).drop i)=E.map fun s=>[St s]:=by
      rw [←hinv,←List.map_drop,hdr];simp
     rw [hEe] at hr3 hn3
     simp -dsimp
     refine⟨h3,by rw [hn3];simp,hr3,?_⟩
     have st:=(st1.trans st2).trans st3
     refine⟨st.len,fun j hj hne=>st.get j hj (by simp),?_⟩
     rcases st.new with e|e
     ·rw [e] at hr3
      have:=hr3.nil rfl
      rw [←hinv] at this
      simp at this
     ·exact .inr e
  ·have hnil:l.drop i=[]:=List.drop_of_length_le (by omega)
   have hall:l.take i=l:=List.take_of_length_le (by omega)
   rw [hnil,hall,ZeP] at hinv
   simp -dsimp [f0,f1,Zd0]
   refine Jc (es:=l.map fun s=>[St s]) q (by simp) (by simp) (by simp;omega) (by simp;omega) ?_
   simp -dsimp
   exact⟨some k,by rw [←hinv];simp [Zbq],⟨fun j hj=>by cases hj;rw [←hinv];simp [hkl],fun h=>by cases h⟩,⟨by simp,fun j hj hne=>by rw [List.getElem?_set_ne (fun e=>hne (by rw [e]))],.inl rfl⟩⟩
end Go.Proofs
namespace Go.Proofs
open Go.Mu
def SB (ns b:List ByteArray):Prop:=b.Pairwise bLt∧∀n,n∈b↔n∈ns
theorem SB.ins {ns b:List ByteArray} (h:SB ns b) (n:ByteArray):SB (ns++[n]) (ZeP n b):=⟨Zg0 n b h.1,fun x=>by rw [ZiA,h.2 x,List.mem_append,List.mem_singleton];exact Or.comm⟩
theorem SB.congr {ns ms b:List ByteArray} (h:SB ns b) (hm:∀n,n∈ns↔n∈ms):SB ms b:=⟨h.1,fun n=>by rw [h.2,hm]⟩
theorem SB.nil:SB [] []:=⟨List.Pairwise.nil,fun n=>Iff.rfl⟩
theorem Ze5:∀ (a b:List ByteArray),a.Nodup→(∀x∈a,x∈b)→a.length≤b.length
 |[],b,_,_=>by simp
 |x::a,b,hn,hs=>by
  rw [List.nodup_cons] at hn
  obtain⟨s,t,rfl⟩:=List.append_of_mem (hs x (List.mem_cons_self ..))
  have:=Ze5 a (s++t) hn.2 (fun y hy=>by
   have h1:=hs y (List.mem_cons_of_mem _ hy)
   have hne:y≠x:=fun e=>hn.1 (e▸hy)
   rw [List.mem_append,List.mem_cons] at h1
   rw [List.mem_append]
   rcases h1 with h1|h1|h1
   ·exact .inl h1
   ·exact absurd h1 hne
   ·exact .inr h1)
  simp only [List.length_append,List.length_cons] at this ⊢
  omega
theorem SB.len {ns b:List ByteArray} (h:SB ns b):b.length≤ns.length:=Ze5 b ns (List.Pairwise.imp (R:=bLt) (S:=(·≠ ·)) (fun {x y} h e=>ZcT y (by rw [e] at h;exact h)) h.1) fun x hx=>(h.2 x).1 hx
theorem Zmt (a b:List Sm):ZP (a++b)=ZP a++ZP b:=by
 induction a with
 |nil=>simp [ZP]
 |cons s a ih=>rw [List.cons_append,ZP,ih,ZP,List.append_assoc]
theorem Zez (l:List Sm) (i:Nat):(ZP (l.take i)).length≤Zh l:=by
 have h1:=ZeM _ (l.take i) (Nat.le_refl _)
 have h2:Zh (l.take i)+Zh (l.drop i)=Zh l:=by rw [←Zfk,List.take_append_drop]
 omega
def RSt (H M:List Ze) (ns:List ByteArray) (x:AV) (hO:Option Nat):Prop:=∃b,x=Zbq hO b.length∧Zl2 M hO b∧Zbt H M none hO∧SB ns b
theorem ZhO.ne {t sz:Nat} {M:List Ze} {h:Option Nat} {es:List (List AV)} (hr:ZhO t sz M h es) {u:Nat} {T:TypeId} {cs:List AV} (hu:M[u]?=some (.box T cs)):h≠some u:=fun e=>by
 have:=hr.row u e
 rw [hu] at this;cases this
theorem RSt.ne {H M:List Ze} {ns:List ByteArray} {x:AV} {hO:Option Nat} (hs:RSt H M ns x hO) {u:Nat} {T:TypeId} {cs:List AV} (hu:M[u]?=some (.box T cs)):hO≠some u:=by
 obtain⟨b,_,hr,_⟩:=hs;exact hr.ne hu
theorem RSt.one {H M:List Ze} {ns:List ByteArray} {x:AV} {hO:Option Nat} (hs:RSt H M ns x hO):x.one=true:=by
 obtain⟨b,e,_⟩:=hs;rw [e];exact ZrC _ _
theorem RSt.app {H M:List Ze} {ns:List ByteArray} {x:AV} {hO:Option Nat} (hs:RSt H M ns x hO) (L:List Ze):RSt H (M++L) ns x hO:=by
 obtain⟨b,e,hr,st,hb⟩:=hs
 exact⟨b,e,⟨fun k hk=>ZG (hr.row k hk) _,hr.nil⟩,st.trans (.app _ _ _),hb⟩
theorem RSt.other {H M M':List Ze} {ns:List ByteArray} {x:AV} {hO h h':Option Nat} (hs:RSt H M ns x hO) (st':Zbt M M' h h') (hne:∀k,hO=some k→h≠some k) (hnw:∀k,h=some k→H.length≤k):RSt H M' ns x hO:=by
 obtain⟨b,e,hr,st,hb⟩:=hs
 refine⟨b,e,⟨fun k hk=>st'.old (hr.row k hk) (hne k hk),hr.nil⟩,⟨Nat.le_trans st.len st'.len,fun i hi hn=>?_,st.new⟩,hb⟩
 rw [←st.get i hi hn]
 by_cases hh:h=some i
 ·have:=hnw i hh;omega
 ·exact st'.get i (Nat.lt_of_lt_of_le hi st.len) hh
theorem Zkb {H M:List Ze} {ns:List ByteArray} {x:AV} {hO:Option Nat} (hs:RSt H M ns x hO) (hl:ns.length≤2^38) (n:ByteArray):Zi Tryz.prog 48 [x,St n] M (fun e M'=>∃y hO',e=.ret y∧RSt H M' (ns++[n]) y hO'∧Zbt M M' hO hO'):=by
 obtain⟨b,rfl,hr,st,hb⟩:=hs
 have:=hb.len
 refine (Zsf b n hO M hr (by omega)).mono ?_
 rintro e M' ⟨h',rfl,hr',st'⟩
 exact⟨_,h',rfl,⟨ZeP n b,rfl,hr',st.trans st',hb.ins n⟩,st'⟩
abbrev Ze3 (x:Sm):Ze:=Ze.box 82 [I x.kind,St x.name,St.sl x.names,I x.e.op,U x.e.word,St x.e.name,Ex.sl x.e.args,I x.a.op,U x.a.word,St x.a.name,Ex.sl x.a.args,Ex.sl x.args,U x.low,U x.high,Sm.sl x.body,Sm.sl x.els]
def ZtO (H:List Ze) (E:List ByteArray) (e:AE) (M:List Ze):Prop:=∃h',e=.ret (Zbq h' E.length)∧Zl2 M h' E∧Zbt H M none h'
theorem ZqK (m:Nat):∀ (l:List Sm),Zh l<m→Zh l≤2^36→∀ (H:List Ze),Zi Tryz.prog 18 [Sm.sl l] H (ZtO H (Zah l)):=by
 induction m with
 |zero=>intro l h;omega
 |succ m ih=>
  intro l hm hcl H
  refine Z0 Tryz.func18 rfl (by kernel_rfl) ?_
  have hlen:=Yi l
  have fin:∀x M,(∃hO,RSt H M (ZP l) x hO)→ZtO H (Zah l) (.ret x) M:=by
   rintro x M ⟨hO,b,rfl,hr,st,hb⟩
   have:=ZpR hb.1 hb.2
   subst this
   exact⟨hO,rfl,hr,st⟩
  refine Zc (fun f H'=>H=H'∧f 0=Sm.sl l) (by kernel_rfl) ?_ ?_
  ·simp -dsimp
  rintro g _ ⟨rfl,g0⟩
  refine Zc (fun f H'=>H=H'∧f 0=Sm.sl l∧f 3=Yp) (by kernel_rfl) ?_ ?_
  ·simp -dsimp [g0]
  clear g g0
  rintro g _ ⟨rfl,g0,g3⟩
  refine Z4 (fun f H'=>∃hO,RSt H H' (ZP l) (f 3) hO) ?_ ?_
  rotate_left
  ·clear g g0 g3
   rintro g M ho
   have hf:=fin _ _ ho
   obtain⟨x,hx⟩:∃x,x=g 3:=⟨_,rfl⟩
   rw [←hx] at hf
   refine Zk (by kernel_rfl) ?_
   have hx':g 3=x:=hx.symm
   have hone:x.one=true:=by rw [hx];obtain⟨hO,ho⟩:=ho;exact ho.one
   simp -dsimp [hx',hone]
   exact hf
  refine Zc (fun f H'=>H=H'∧f 0=Sm.sl l∧f 3=Yp∧f 4=I 0) (by kernel_rfl) ?_ ?_
  ·simp -dsimp [g0,g3]
  clear g g0 g3
  rintro g _ ⟨rfl,g0,g3,g4⟩
  refine Z9 ?_
  refine Yd (fun (i:Nat) f M=>(∃hO,RSt H M (ZP (l.take i)) (f 3) hO)∧f 0=Sm.sl l∧f 4=I i∧i≤l.length) (fun i=>l.length-i) 0
   ⟨⟨none,[],g3,⟨fun k h=>(by cases h),fun _=>rfl⟩,.refl _ _,.nil⟩,g0,g4,by omega⟩ ?_
  clear g g0 g3 g4
  rintro i g M ⟨ho,g0,g4,hi⟩
  obtain⟨x3,hx3⟩:∃x,x=g 3:=⟨_,rfl⟩
  rw [←hx3] at ho
  have g3:=hx3.symm
  have hone:x3.one=true:=by obtain⟨hO,ho⟩:=ho;exact ho.one
  clear hx3
  replace ho:=YE.mk ho
  refine Zc (fun f H'=>M=H'∧f 0=Sm.sl l∧f 3=x3∧f 4=I i∧i<l.length) (by kernel_rfl) ?_ ?_
  ·simp -dsimp [g0,g3,g4]
   refine Zb (fun hlt=>?_) (fun hlt=>?_)
   ·simp -dsimp [g0,g3,g4]
    omega
   ·have hall:l.take i=l:=List.take_of_length_le (by omega)
    rw [hall] at ho
    simp -dsimp [g3]
    exact ho.out
  clear g g0 g3 g4
  rintro g _ ⟨rfl,g0,g3,g4,hlt⟩
  have hlx:=List.getElem?_eq_getElem hlt
  have hgx:=JY hlt
  have htk:l.take (i+1)=l.take i++[l[i]]:=Y1 hlt
  have htl:=Zez l i
  have htl1:=Zez l (i+1)
  obtain⟨x,hx⟩:∃x,x=l[i]:=⟨_,rfl⟩
  rw [←hx] at hlx hgx htk
  clear hx
  have hcx:=Sm.count_eq x
  have hxc:(l.map Sm.cells)[i]?=some [I x.kind,St x.name,St.sl x.names,I x.e.op,U x.e.word,St x.e.name,Ex.sl x.e.args,I x.a.op,U x.a.word,St x.a.name,Ex.sl x.a.args,Ex.sl x.args,U x.low,U x.high,Sm.sl x.body,Sm.sl x.els]:=by rw [List.getElem?_map,hlx,Option.map_some,Sm.cells_eq]
  have hns:ZP (l.take (i+1))=ZP (l.take i)++x.sets:=by rw [htk,Zmt,ZP,ZP,List.append_nil]
  obtain⟨ns,hnse⟩:∃ns,ns=ZP (l.take i):=⟨_,rfl⟩
  rw [←hnse] at hns ho htl
  rw [Sm.sets_eq] at hns
  obtain⟨ow,how⟩:∃ow,ow=if x.kind=1∨x.kind=5 then [x.name] else if x.kind=6 then x.names else []:=⟨_,rfl⟩
  rw [←how] at hns
  refine Z4 (fun f M=>(∃hO,RSt H M (ZP (l.take (i+1))) (f 3) hO)∧f 0=Sm.sl l∧f 4=I i) ?_ ?_
  rotate_left
  ·clear g g0 g3 g4
   rintro g M' ⟨ho',g0,g4⟩
   obtain⟨y3,hy3⟩:∃x,x=g 3:=⟨_,rfl⟩
   rw [←hy3] at ho'
   have g3:=hy3.symm
   replace ho':=YE.mk ho'
   refine Zk (by kernel_rfl) ?_
   simp -dsimp [g0,g3,g4]
   exact⟨i+1,by omega,ho'.out,ZC (by omega),by omega⟩
  rw [hns]
  refine Z9 ?_
  refine Zc (fun f H'=>H'=M++[Ze3 x]∧f 0=Sm.sl l∧f 3=x3∧f 4=I i∧f 5=.bp M.length 0) (by kernel_rfl) ?_ ?_
  ·simp -dsimp [g0,g3,g4,hxc]
  clear g g0 g3 g4
  rintro g _ ⟨rfl,g0,g3,g4,g5⟩
  obtain⟨u,hu⟩:∃u,u=M.length:=⟨_,rfl⟩
  obtain⟨hO,ho1⟩:=ho.out
  replace ho1:=ho1.app [Ze3 x]
  have hbu:(M++[Ze3 x])[u]?=some (Ze3 x):=by rw [hu];simp
  rw [←hu] at g5
  clear ho hu
  obtain⟨M1,hM1⟩:∃M1,M1=M++[Ze3 x]:=⟨_,rfl⟩
  rw [←hM1] at ho1 hbu ⊢
  clear hM1
  have hsl:ns.length≤2^37:=by omega
  have hxl:x.names.length≤2^36:=by omega
  have howl:ow.length≤2^36:=by have:=congrArg List.length hns;simp only [List.length_append] at this;omega
  --its own name
  refine Z4 (fun f M'=>(∃hO,RSt H M' (ns++(if x.kind=1∨x.kind=5 then [x.name] else [])) (f 3) hO)∧M'[u]?=some (Ze3 x)∧f 0=Sm.sl l∧f 4=I i∧f 5=.bp u 0) ?_ ?_
  ·have ca:=Zkb ho1 (by omega) x.name
   replace ho1:=YE.mk ho1
   by_cases h15:x.kind=1∨x.kind=5
   ·rw [if_pos h15]
    refine Zk (by kernel_rfl) ?_
    have go:∀ (e:AE) M',(∃y hO',e=.ret y∧RSt H M' (ns++[x.name]) y hO'∧Zbt M1 M' hO hO')→∃y,e=.ret y∧y.one=true∧(∃hO,RSt H M' (ns++[x.name]) y hO)∧M'[u]?=some (Ze3 x):=by
     rintro e M' ⟨y,hO',rfl,hs,st⟩
     exact⟨y,rfl,hs.one,⟨_,hs⟩,st.old hbu (ho1.out.ne hbu)⟩
    rcases h15 with h|h
    ·simp -dsimp [g0,g3,g4,g5,hbu,h]
     refine ZA ca ?_
     intro e M' hq
     obtain⟨y,rfl,hy1,hy2,hy3⟩:=go e M' hq
     replace hy2:=YE.mk hy2
     simp -dsimp [g0,g4,g5,hy1]
     exact⟨hy2.out,hy3⟩
    ·have h1b:(x.kind==1)=false:=by rw [h];rfl
     simp -dsimp [g0,g3,g4,g5,hbu,h]
     refine ZA ca ?_
     intro e M' hq
     obtain⟨y,rfl,hy1,hy2,hy3⟩:=go e M' hq
     replace hy2:=YE.mk hy2
     simp -dsimp [g0,g4,g5,hy1]
     exact⟨hy2.out,hy3⟩
   ·have h1b:(x.kind==1)=false:=by simp;exact fun h=>h15 (.inl h)
    have h5b:(x.kind==5)=false:=by simp;exact fun h=>h15 (.inr h)
    rw [if_neg h15,List.append_nil]
    refine Zk (by kernel_rfl) ?_
    simp -dsimp [g0,g3,g4,g5,hbu,h1b,h5b]
    exact⟨_,ho1.out⟩
  clear g g0 g3 g4 g5 ho1 hbu M1 hO hone x3
  rintro g M1 ⟨⟨hO,ho1⟩,hbu,g0,g4,g5⟩
  obtain⟨x3,hx3⟩:∃x,x=g 3:=⟨_,rfl⟩
  rw [←hx3] at ho1
  have g3:=hx3.symm
  clear hx3
  --the names of a call
  refine Z4 (fun f M'=>(∃hO,RSt H M' (ns++ow) (f 3) hO)∧M'[u]?=some (Ze3 x)∧f 0=Sm.sl l∧f 4=I i∧f 5=.bp u 0) ?_ ?_
  ·by_cases h6:x.kind=6
   ·have h15: ¬ (x.kind=1∨x.kind=5):=by omega
    rw [if_neg h15,if_pos h6] at how
    rw [if_neg h15,List.append_nil] at ho1
    replace ho1:=YE.mk ho1
    rw [how]
    refine Zk (by kernel_rfl) ?_
    simp -dsimp [g0,g3,g4,g5]
    refine Zv (fun (j:Nat) f M'=>(∃hO,RSt H M' (ns++x.names.take j) (f 3) hO)∧M'[u]?=some (Ze3 x)∧f 0=Sm.sl l∧f 4=I i∧f 5=.bp u 0∧f 6=I j∧j≤x.names.length) (fun j=>x.names.length-j) (by kernel_rfl) 0 (by
     refine⟨⟨hO,?_⟩,hbu,?_⟩
     ·simp [g3];exact ho1.out
     ·simp [g0,g4,g5]) ?_
    clear g g0 g3 g4 g5 ho1 hbu M1 hO x3
    rintro j g M1 ⟨⟨hO,ho1⟩,hbu,g0,g4,g5,g6,hj⟩
    obtain⟨x3,hx3⟩:∃x,x=g 3:=⟨_,rfl⟩
    rw [←hx3] at ho1
    have g3:=hx3.symm
    clear hx3
    simp -dsimp [g0,g3,g4,g5,g6,hbu]
    by_cases hlt2:j<x.names.length
    ·have hlt3:j<x.names.length:=by omega
     have htk2:x.names.take (j+1)=x.names.take j++[x.names[j]]:=Y1 hlt3
     have hn:=List.getElem?_eq_getElem hlt3
     obtain⟨n,hne⟩:∃n,n=x.names[j]:=⟨_,rfl⟩
     rw [←hne] at hn htk2
     have ca:=Zkb ho1 (by simp;omega) n
     have hne1:=ho1.ne hbu
     clear ho1
     have hnc:(x.names.map fun s=>[St s])[j]?=some [St n]:=by rw [List.getElem?_map,hn];rfl
     have hd:decide (j<x.names.length)=true:=decide_eq_true hlt2
     simp -dsimp [g0,g3,g4,g5,g6,hbu,hd,h6,hnc]
     refine ZA ca ?_
     rintro e M' ⟨y,hO',rfl,hs,st⟩
     have hy1:=hs.one
     have hbu':=st.old hbu hne1
     replace hs:=YE.mk hs
     simp -dsimp [g0,g4,g5,g6,hy1]
     exact⟨j+1,by omega,⟨hO',by rw [htk2,←List.append_assoc];exact hs.out⟩,hbu',ZC (by omega),by omega⟩
    ·have hd:decide (j<x.names.length)=false:=decide_eq_false hlt2
     have hall:x.names.take j=x.names:=List.take_of_length_le (by omega)
     rw [hall] at ho1
     replace ho1:=YE.mk ho1
     simp -dsimp [g0,g3,g4,g5,g6,hbu,hd]
     exact⟨_,ho1.out⟩
   ·have h6b:(x.kind==6)=false:=by simpa using h6
    have howe:(if x.kind=1∨x.kind=5 then [x.name] else [])=ow:=by rw [how,if_neg h6]
    rw [howe] at ho1
    replace ho1:=YE.mk ho1
    refine Zk (by kernel_rfl) ?_
    simp -dsimp [g0,g3,g4,g5]
    refine Zv (fun (j:Nat) f M'=>M1=M'∧f 0=Sm.sl l∧f 3=x3∧f 4=I i∧f 5=.bp u 0∧f 6=I 0) (fun j=>0) (by kernel_rfl) 0 (by simp [g0,g3,g4,g5]) ?_
    clear g g0 g3 g4 g5
    rintro j g _ ⟨rfl,g0,g3,g4,g5,g6⟩
    simp -dsimp [g0,g3,g4,g5,g6,hbu]
    by_cases hlt2:0<x.names.length
    ·have hd:decide ((0:Int)<x.names.length)=true:=decide_eq_true (by omega)
     simp -dsimp [g0,g3,g4,g5,g6,hbu,hlt2,h6b]
     exact⟨_,ho1.out⟩
    ·have hd:decide ((0:Int)<x.names.length)=false:=decide_eq_false (by omega)
     simp -dsimp [g0,g3,g4,g5,g6,hbu,hlt2,h6b]
     exact⟨_,ho1.out⟩
  clear g g0 g3 g4 g5 ho1 hbu M1 hO x3
  rintro g M1 ⟨⟨hO,ho1⟩,hbu,g0,g4,g5⟩
  obtain⟨x3,hx3⟩:∃x,x=g 3:=⟨_,rfl⟩
  rw [←hx3] at ho1
  have g3:=hx3.symm
  clear hx3
  have c1:=ih x.body (by omega) (by omega) M1
  have c2:=fun M=>ih x.els (by omega) (by omega) M
  have hlb:=ZdW x.body
  have hle:=ZdW x.els
  obtain⟨I0,hI0⟩:∃I0,I0=Zah x.body++Zah x.els:=⟨_,rfl⟩
  refine J2 (fun d=>d==52||d==55||d==56) (fun i=>if i=12 then some [(0,[]),(1,[]),(3,[]),(4,[]),(2,[3,4]),(5,[]),(6,[]),(7,[])] else none) (fun f M'=>(∃hO hI n,RSt H M' (ns++ow) x3 hO∧Zl2 M' hI I0∧f 7=Zbq hI n∧n=I0.length∧(∀k,hI=some k→hO≠some k))∧M'[u]?=some (Ze3 x)∧f 0=Sm.sl l∧f 3=x3∧f 4=I i∧f 5=.bp u 0) (by kernel_rfl) ?_ ?_
  ·have hone:=ho1.one
   replace ho1:=YE.mk ho1
   simp -dsimp [g0,g3,g4,g5,hbu]
   refine ZA c1 ?_
   rintro e M2 ⟨h1,rfl,hr1,st1⟩
   have hbu2:=st1.old hbu (by simp)
   simp -dsimp [g0,g3,g4,g5,hbu2]
   refine ZA (c2 M2) ?_
   rintro e M3 ⟨h2,rfl,hr2,st2⟩
   have hbu3:=st2.old hbu2 (by simp)
   have q1:Zl2 M3 h1 (Zah x.body):=⟨fun k hk=>st2.old (hr1.row k hk) (by simp),hr1.nil⟩
   have hs2:ZaV M3 1 (Zbq h2 (Zah x.els).length)=some ((Zah x.els).map fun s=>[St s]):=by
    have:=ZmB hr2
    rwa [List.length_map] at this
   have hn1:∀k,h1=some k→M1.length≤k:=fun k hk=>by
    rcases st1.new with e|⟨j,e,hj⟩
    ·rw [e] at hk;cases hk
    ·rw [e] at hk;cases hk;exact hj
   have hn0:∀k,hO=some k→k<M1.length:=fun k hk=>by
    obtain⟨b,_,hr,_⟩:=ho1.out
    exact ZT (hr.row k hk)
   simp -dsimp [g0,g3,g4,g5,hs2]
   refine ZgW (h:=h1) (es:=(Zah x.body).map fun s=>[St s]) (t:=9) (sz:=1) q1 (by simp) rfl rfl (by simp;omega) (by simp;omega) ?_
   intro h3 M4 n3 hn3 hr3 st3
   rw [←List.map_append,←hI0] at hr3 hn3
   have hst:RSt H M4 (ns++ow) x3 hO:=by
    refine ((ho1.out.other st1 (fun k hk=>by simp) (fun k hk=>by cases hk)).other st2 (fun k hk=>by simp) (fun k hk=>by cases hk)).other st3 (fun k hk e=>?_) (fun k hk=>?_)
    ·have:=hn1 k e;have:=hn0 k hk;omega
    ·have:=hn1 k hk
     obtain⟨_,_,_,st,_⟩:=ho1.out
     have:=st.len;omega
   have hbu4:=st3.old hbu3 (q1.ne hbu3)
   have hon:∀k,h3=some k→hO≠some k:=fun k hk e=>by
    have a:=hn0 k e
    rcases st3.new with e3|⟨j,e3,hj⟩
    ·rw [e3] at hk;have:=hn1 k hk;omega
    ·rw [e3] at hk;cases hk;have:=st1.len;have:=st2.len;omega
   replace hst:=YE.mk hst
   simp -dsimp [g0,g3,g4,g5]
   exact⟨⟨hO,hst.out,h3,hr3,n3,rfl,by rw [hn3];simp,hon⟩,hbu4⟩
  clear g g0 g3 g4 g5 ho1 hbu M1 hO c1 c2
  rintro g M1 ⟨⟨hO,hI,n,ho1,hrI,g7,rfl,hne⟩,hbu,g0,g3,g4,g5⟩
  clear hbu
  have hIl:I0.length≤2^37:=by rw [hI0];simp;omega
  have fin2:∀M' y hO',RSt H M' (ns++ow++I0) y hO'→RSt H M' (ns++(ow++ZP x.body++ZP x.els)) y hO':=by
   rintro M' y hO' ⟨b,e,hr,st,hb⟩
   refine⟨b,e,hr,st,hb.congr fun z=>?_⟩
   rw [hI0]
   simp only [List.mem_append,ZfM,or_assoc]
  replace ho1:=YE.mk ho1
  refine Zk (by kernel_rfl) ?_
  simp -dsimp [g0,g3,g4,g7]
  refine Zv (fun (j:Nat) f M'=>(∃hO,RSt H M' (ns++ow++I0.take j) (f 3) hO∧(∀k,hI=some k→hO≠some k))∧Zl2 M' hI I0∧f 0=Sm.sl l∧f 4=I i∧f 7=Zbq hI I0.length∧f 8=I j∧j≤I0.length) (fun j=>I0.length-j) (by kernel_rfl) 0 (by
   refine⟨⟨hO,?_,hne⟩,hrI,?_⟩
   ·simp [g3];have:=ho1.out;simpa using this
   ·simp [g0,g4,g7]) ?_
  clear g g0 g3 g4 g5 g7 ho1 hrI M1 hO hne x3
  rintro j g M1 ⟨⟨hO,ho1,hne⟩,hrI,g0,g4,g7,g8,hj⟩
  obtain⟨x3,hx3⟩:∃x,x=g 3:=⟨_,rfl⟩
  rw [←hx3] at ho1
  have g3:=hx3.symm
  clear hx3
  have hlv:Zev M1 1 (Zbq hI I0.length)=some (I0.length:Int):=by
   have:=ZqM hrI
   simpa using this
  simp -dsimp [g0,g3,g4,g7,g8,hlv]
  refine Zb (fun hlt2=>?_) (fun hlt2=>?_)
  ·have hlt3:j<I0.length:=by omega
   have htk2:I0.take (j+1)=I0.take j++[I0[j]]:=Y1 hlt3
   have hn:=List.getElem?_eq_getElem hlt3
   obtain⟨n,hne2⟩:∃n,n=I0[j]:=⟨_,rfl⟩
   rw [←hne2] at hn htk2
   have ca:=Zkb ho1 (by simp;omega) n
   clear ho1
   have hnc:(I0.map fun s=>[St s])[j]?=some [St n]:=by rw [List.getElem?_map,hn];rfl
   cases hI with
   |none=>exact absurd (List.map_eq_nil_iff.1 (hrI.nil rfl)) (fun h=>by rw [h] at hlt3;simp at hlt3)
   |some kI=>
    have hk:=hrI.row kI rfl
    simp -dsimp [g0,g3,g4,g7,g8,Zbq,hk]
    refine⟨hlt3,?_⟩
    simp -dsimp [g0,g3,g4,g7,g8,hk,hnc]
    refine ZA ca ?_
    rintro e M' ⟨y,hO',rfl,hs,st⟩
    have hy1:=hs.one
    have hkl:=ZT hk
    have hrI':Zl2 M' (some kI) I0:=⟨fun k h=>by cases h;exact st.old hk (hne kI rfl),fun h=>by cases h⟩
    have hne':∀k,some kI=some k→hO'≠some k:=fun k h e=>by
     cases h
     rcases st.new with e2|⟨q,e2,hq⟩
     ·rw [e2] at e;exact hne kI rfl e
     ·rw [e2] at e;cases e;omega
    replace hs:=YE.mk hs
    simp -dsimp [g0,g4,g7,g8,Zbq,hy1]
    exact⟨j+1,by omega,⟨hO',by have:=hs.out;rw [htk2];simpa only [List.append_assoc] using this,hne' kI rfl⟩,hrI',ZC (by omega),by omega⟩
  ·have hall:I0.take j=I0:=List.take_of_length_le (by omega)
   rw [hall] at ho1
   replace ho1:=YE.mk ho1
   simp -dsimp [g0,g3,g4,g7,g8]
   exact⟨hO,by have:=fin2 _ _ _ ho1.out;simpa only [List.append_assoc] using this⟩
end Go.Proofs
