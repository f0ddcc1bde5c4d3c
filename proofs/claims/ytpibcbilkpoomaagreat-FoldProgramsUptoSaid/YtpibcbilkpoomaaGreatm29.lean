import Derived.Sort.Walk0
import Derived.Test.YtpibcbilkpoomaaGreatm24
import Derived.Test.YtpibcbilkpoomaaGreatm28
set_option linter.all false
set_option maxHeartbeats 4000000
set_option maxRecDepth 100000
namespace Go.Proofs
open Go.Mu
def bLe (a b:ByteArray):Prop:=a.data.toList≤b.data.toList
def bLt (a b:ByteArray):Prop:=a.data.toList<b.data.toList
instance (a b:ByteArray):Decidable (bLt a b):=by unfold bLt;infer_instance
theorem Zvh {a b:ByteArray} (h:a.data.toList=b.data.toList):a=b:=by
 cases a;cases b
 simp only [Array.toList_inj] at h
 rw [h]
theorem Zf9 {a b:ByteArray} (h1:bLe a b) (h2:bLe b a):a=b:=Zvh (List.le_antisymm h1 h2)
theorem ZfP {a b c:ByteArray} (h1:bLt a b) (h2:bLt b c):bLt a c:=List.lt_trans h1 h2
theorem ZcT (a:ByteArray): ¬ bLt a a:=List.lt_irrefl _
theorem ZvG {a b:ByteArray} (h:bLt a b):bLe a b:=List.not_lt.1 fun h2=>ZcT a (ZfP h h2)
theorem Zrv {a b:ByteArray} (h1: ¬ bLt a b) (h2:a≠b):bLt b a:=by
 rcases Classical.em (bLt b a) with h|h
 ·exact h
 ·exact absurd (Zf9 (List.not_lt.1 h) (List.not_lt.1 h1)) h2
theorem ZcM (l:List ByteArray):(Zaz l).Pairwise bLe:=by
 unfold Zaz
 rw [List.pairwise_map]
 have:=List.pairwise_mergeSort (le:=fun x y:List UInt8=>decide (x≤y)) (fun a b c h1 h2=>by simp only [decide_eq_true_eq] at *;exact List.le_trans h1 h2) (fun a b=>by simp only [Bool.or_eq_true,decide_eq_true_eq];exact List.le_total a b) (l.map fun n=>n.data.toList)
 exact this.imp fun {a b} h=>by simpa [bLe] using h
theorem Ze1 {a b:List ByteArray} (ha:a.Pairwise bLe) (hb:b.Pairwise bLe) (hp:a.Perm b):a=b:=
 List.Perm.eq_of_pairwise (fun x y _ _ h1 h2=>Zf9 h1 h2) ha hb hp
theorem ZqG {a b:List ByteArray} (h:a.Perm b):Zaz a=Zaz b:=
 Ze1 (ZcM a) (ZcM b) ((Zat a).trans (h.trans (Zat b).symm))
def Zah (l:List Sm):List ByteArray:=Zaz ((ZbX (ZP l) []).map (·.1))
theorem ZfM (l:List Sm) (n:ByteArray):n∈Zah l↔n∈ZP l:=by
 unfold Zah
 rw [(Zat _).mem_iff,ZqC];simp
theorem Zlb (l:List Sm):(Zah l).Nodup:=(Zat _).nodup_iff.2 (ZmW _ [] List.nodup_nil)
theorem ZdW (l:List Sm):(Zah l).length≤Zh l:=by
 unfold Zah
 rw [(Zat _).length_eq,List.length_map]
 have h1:=Zms (ZP l) []
 have h2:=ZeM _ l (Nat.le_refl _)
 simp only [List.length_nil] at h1
 omega
theorem ZpR {l:List Sm} {b:List ByteArray} (hb:b.Pairwise bLt) (hm:∀n,n∈b↔n∈ZP l):b=Zah l:=by
 refine Ze1 (hb.imp fun h=>ZvG h) (ZcM _) ((List.perm_ext_iff_of_nodup (List.Pairwise.imp (R:=bLt) (S:=(·≠ ·)) (fun {x y} h e=>ZcT y (by rw [e] at h;exact h)) hb) (Zlb l)).2 fun n=>?_)
 rw [hm,ZfM]
theorem ZrG (a b:ByteArray):Op.bytesLess a.toList b.toList=decide (bLt a b):=by
 rw [bytesLess_eq,ByteArray.toList_eq,ByteArray.toList_eq]
 rfl
theorem Zqd (l:List Sm) (hc:Zh l≤2^36) (H:List Ze):Zi Tryz.prog 17 [Sm.sl l] H (fun e H'=>e=.ret (St.sl (Zah l))∧H'=H):=by
 refine Ya fun hu _=>ZU (Zf (Z0 Tryz.func17 rfl (by kernel_rfl) ?_))
 obtain⟨t,ht⟩:∃t,t=ZbX (ZP l) []:=⟨_,rfl⟩
 have htl:t.length≤2^40:=by
  have h1:=Zms (ZP l) []
  have h2:=ZeM _ l (Nat.le_refl _)
  rw [ht];simp only [List.length_nil] at h1;omega
 have hN:Zah l=Zaz (t.map (·.1)):=by rw [Zah,ht]
 rw [hN]
 refine Zc (fun f H'=>H'=H++[]∧f 0=Sm.sl l) (by kernel_rfl) ?_ ?_
 ·simp -dsimp
 rintro g _ ⟨rfl,g0⟩
 rw [List.append_nil]
 refine Zc (fun f H'=>H'=H++[.map (Yg Xo []),.box 107 [.hm H.length]]∧f 0=Sm.sl l∧f 3=.bp (H.length+1) 0) (by kernel_rfl) ?_ ?_
 ·simp -dsimp [g0,Yg]
 clear g g0
 rintro g _ ⟨rfl,g0,g3⟩
 refine Zc (fun f H'=>H'=H++[.map (Yg Xo []),.box 107 [.hm H.length],.box 108 [.v .nilFunc]]∧f 0=Sm.sl l∧f 3=.bp (H.length+1) 0∧f 4=.bp (H.length+2) 0) (by kernel_rfl) ?_ ?_
 ·simp -dsimp [g0,g3]
 clear g g0 g3
 rintro g _ ⟨rfl,g0,g3,g4⟩
 refine Zc (fun f H'=>H'=H++[.map (Yg Xo []),.box 107 [.hm H.length],ZjJ (H.length+1) (H.length+2)]∧f 0=Sm.sl l∧f 3=.bp (H.length+1) 0∧f 4=.bp (H.length+2) 0) (by kernel_rfl) ?_ ?_
 ·simp -dsimp [g0,g3,g4]
 clear g g0 g3 g4
 rintro g _ ⟨rfl,g0,g3,g4⟩
 obtain⟨G,hG⟩:∃G:ZcD→List Ze,∀t,G t=H++[.map (Yg Xo t),.box 107 [.hm H.length],ZjJ (H.length+1) (H.length+2)]:=⟨_,fun _=>rfl⟩
 have g00:∀t,(G t)[H.length]?=some (.map (Yg Xo t)):=fun t=>by rw [hG];simp
 have g01:∀t,(G t)[H.length+1]?=some (.box 107 [.hm H.length]):=fun t=>by rw [hG];simp
 have g02:∀t,(G t)[H.length+2]?=some (ZjJ (H.length+1) (H.length+2)):=fun t=>by rw [hG];simp
 have gs:∀t t',(G t).set H.length (.map (Yg Xo t'))=G t':=fun t t'=>by rw [hG,hG];simp
 rw [←hG]
 refine Zc (fun f H'=>H'=G t∧f 3=.bp (H.length+1) 0) (by kernel_rfl) ?_ ?_
 ·have c1:=ZrF _ l [] (Nat.lt_succ_self _) hc (G []) (H.length+1) (H.length+2) H.length (by omega) (by omega) (g01 _) (g02 _) (g00 _)
  rw [gs,←ht] at c1
  simp -dsimp [g0,g3,g4,g02]
  refine ZA c1 ?_
  rintro e _ ⟨rfl,rfl⟩
  simp -dsimp [g3]
 clear g g0 g3 g4
 rintro g _ ⟨rfl,g3⟩
 have ck:=ZpI H.length (G t)
 have cs:=ZoJ t H.length (G t).length htl (G t++[.box 107 [.hm H.length]]) (by simp) (ZG (g00 t) _)
 refine Zk (by kernel_rfl) ?_
 simp -dsimp [g3,g01]
 refine ZA ck ?_
 rintro e _ ⟨rfl,rfl⟩
 simp -dsimp
 refine ZA cs ?_
 rintro e _ ⟨ns,hp,rfl,rfl⟩
 rw [ZqG hp]
 obtain⟨S,hS⟩:∃S,S=Zaz (t.map (·.1)):=⟨_,rfl⟩
 rw [←hS]
 obtain⟨j,hj⟩:∃j,j=4:=⟨_,rfl⟩
 have hlen:(G t++[Ze.box 107 [.hm H.length]]).length=H.length+j:=by rw [hG,hj];simp
 rw [hlen]
 simp -dsimp
 have hM:G t++[Ze.box 107 [.hm H.length],ZeD S]=H++[.map (Yg Xo t),.box 107 [.hm H.length],ZjJ (H.length+1) (H.length+2),.box 107 [.hm H.length],ZeD S]:=by rw [hG];simp
 rw [hM]
 refine ZcN (f:=fun x=>x) hu j 1 9 _ (by rw [hj];rfl) (Zhu _) (fun x=>rfl) (fun x L' hx _=>?_)
 refine Z2 ?_ (ZR hx.weak ⟨rfl,rfl⟩)
 rcases hx with ⟨rfl,_⟩|rfl<;>rfl
end Go.Proofs
namespace Go.Proofs
open Go.Mu
def Zdq (n:ByteArray):KL→KL
 |[]=>[]
 |(m,x)::t=>if n=m then t else (m,x)::Zdq n t
theorem ZhF (n:ByteArray):∀t:KL,ZkG .string (.string n) (Yg kA t)=some (Yg kA (Zdq n t))
 |[]=>rfl
 |(m,x)::t=>by
  have e:Yg kA ((m,x)::t)=(.string m,kA x)::Yg kA t:=rfl
  rw [e,ZkG,Zd5,Zdq]
  by_cases h:n=m
  ·subst h;simp
  ·have h':decide (n=m)=false:=by simp [h]
   simp only [h',if_neg h]
   rw [ZhF n t];rfl
theorem ZfA (n:ByteArray):∀t:KL,(Zdq n t).Sublist t
 |[]=>.slnil
 |(m,x)::t=>by
  rw [Zdq]
  split
  ·exact List.sublist_cons_self _ _
  ·exact (ZfA n t).cons_cons _
theorem Zjp (n:ByteArray):∀ {t:KL},(t.map (·.1)).Nodup→∀m,Yq m (Zdq n t)=if m=n then none else Yq m t
 |[],_,m=>by simp [Zdq,Yq]
 |(a,x)::t,hn,m=>by
  simp only [List.map_cons,List.nodup_cons] at hn
  rw [Zdq]
  by_cases h:n=a
  ·subst h
   rw [if_pos rfl,Yq]
   by_cases h2:m=n
   ·subst h2
    rw [if_pos rfl]
    cases hl:Yq m t with
    |none=>rfl
    |some y=>exact absurd (List.mem_map.2 ⟨_,(Zeg hn.2).1 hl,rfl⟩) hn.1
   ·rw [if_neg h2,if_neg h2]
  ·rw [if_neg h,Yq,Yq,Zjp n hn.2]
   by_cases h2:m=a
   ·subst h2;rw [if_pos rfl,if_neg (Ne.symm h),if_pos rfl]
   ·rw [if_neg h2,if_neg h2]
theorem KG.del {K:YQ} {t:KL} (h:KG K t) (n:ByteArray):KG (ZfB K n) (Zdq n t):=by
 refine⟨h.nd.sublist ((ZfA n t).map _),fun m=>?_,fun x hx=>h.size x ((ZfA n t).mem hx)⟩
 rw [Zjp n h.nd,h.look];rfl
theorem Zmh (n:ByteArray) (t:KL):(Zdq n t).length≤t.length:=(ZfA n t).length_le
theorem ZeI (n:ByteArray) (v:Int) (t:KL):(n∈t.map (·.1)∧(Jw n v t).map (·.1)=t.map (·.1))∨(n∉t.map (·.1)∧(Jw n v t).map (·.1)=t.map (·.1)++[n]):=by
 induction t with
 |nil=>right;simp [Jw]
 |cons x t ih=>
  obtain⟨m,y⟩:=x
  rw [Jw]
  by_cases h:n=m
  ·left;subst h;simp
  ·rw [if_neg h]
   rcases ih with ⟨h2,e⟩|⟨h2,e⟩
   ·left;exact⟨by simp only [List.map_cons,List.mem_cons];exact .inr h2,by rw [List.map_cons,e];rfl⟩
   ·right;exact⟨by simp only [List.map_cons,List.mem_cons,not_or];exact⟨h,h2⟩,by rw [List.map_cons,e];rfl⟩
theorem Zjo (n:ByteArray) (v:Int) (t:KL):(Jw n v t).length≤t.length+1:=by
 rcases ZeI n v t with ⟨_,e⟩|⟨_,e⟩<;>
 ·have:=congrArg List.length e
  simp at this
  omega
theorem KG.put {K:YQ} {t:KL} (h:KG K t) (n:ByteArray) (v:Int) (hs:n.size≤maxLen):KG (fun m=>if m=n then some v else K m) (Jw n v t):=by
 have hnd:((Jw n v t).map (·.1)).Nodup:=by
  rcases ZeI n v t with ⟨_,e⟩|⟨hn,e⟩
  ·rw [e];exact h.nd
  ·rw [e,List.nodup_append]
   exact⟨h.nd,by simp,fun a ha b hb e=>hn (by rw [List.mem_singleton] at hb;rw [←hb,←e];exact ha)⟩
 refine⟨hnd,fun m=>?_,fun x hx=>?_⟩
 ·rw [ZbP,h.look]
 ·have hm:x.1∈(Jw n v t).map (·.1):=List.mem_map_of_mem hx
  have:x.1=n∨x.1∈t.map (·.1):=by
   rcases ZeI n v t with ⟨_,e⟩|⟨_,e⟩
   ·rw [e] at hm;exact .inr hm
   ·rw [e,List.mem_append,List.mem_singleton] at hm;exact hm.symm
  rcases this with e|hm
  ·rw [e];exact hs
  ·obtain⟨y,hy,e⟩:=List.mem_map.1 hm
   rw [←e];exact h.size y hy
theorem Zhc (K:YQ) (n:ByteArray) (e:Ex):Zg9 K n e=if e.op=1 then (fun m=>if m=n then some e.word else ZfB K n m) else ZfB K n:=by
 funext m
 unfold Zg9 ZfB
 by_cases h:e.op=1<;>by_cases h2:m=n<;>simp [h,h2]
theorem KG.kset1 {K:YQ} {t:KL} (h:KG K t) (n:ByteArray) (e:Ex) (he:e.op=1) (hs:n.size≤maxLen):KG (Zg9 K n e) (Jw n e.word (Zdq n t)):=by
 rw [Zhc,if_pos he];exact (h.del n).put n e.word hs
theorem KG.kset0 {K:YQ} {t:KL} (h:KG K t) (n:ByteArray) (e:Ex) (he: ¬ e.op=1):KG (Zg9 K n e) (Zdq n t):=by
 rw [Zhc,if_neg he];exact h.del n
theorem Zos {K:YQ} {t:KL} {H:List Ze} {k:Nat} (hk:H[k]?=some (.mapg (Yg kA t))) (h:KG K t):Zo5 K H (.hg k):=by
 refine⟨t,fun L=>?_,h.look⟩
 simp only [Y3]
 rw [ZG hk L]
def Ze7 (l:List ByteArray) (t:KL):KL:=l.foldl (fun t n=>Zdq n t) t
theorem ZmS {l:List ByteArray} {i:Nat} (h:i<l.length) (t:KL):Ze7 (l.take (i+1)) t=Zdq l[i] (Ze7 (l.take i) t):=by rw [Y1 h,Ze7,List.foldl_append];rfl
theorem KG.dels (l:List ByteArray):∀ {K:YQ} {t:KL},KG K t→KG (Zai K l) (Ze7 l t):=by
 induction l with
 |nil=>intro K t h;exact h
 |cons n l ih=>intro K t h;exact ih (h.del n)
theorem ZoB (l:List ByteArray):∀t,(Ze7 l t).length≤t.length:=by
 induction l with
 |nil=>intro t;exact Nat.le_refl _
 |cons n l ih=>intro t;exact Nat.le_trans (ih (Zdq n t)) (Zmh n t)
theorem Zis (K:YQ) (l:List Sm):Zai K (Zah l)=Zai K (ZP l):=Zna K (ZfM l)
abbrev J8 (l:List Sm):Ze:=Yn 82 16 (l.map Sm.cells)
abbrev X5 (k:Nat) (l:List Sm):AV:=Yo k (l.map Sm.cells)
abbrev JF (l:List Tm):Ze:=Yn 90 4 (l.map Tm.cells)
abbrev X9 (k:Nat) (l:List Tm):AV:=Yo k (l.map Tm.cells)
theorem ZdL (l:List Tm):(l.map Tm.cells).flatten.all AV.frzB=true:=XQ _ (fun x=>by simp [AV.frzB]) l
theorem Zi8 (k:Nat) {es es':List (List AV)} (h:es.length=es'.length):Yo k es=Yo k es':=by
 unfold Yo
 cases es<;>cases es'<;>simp at h ⊢
 omega
abbrev X4 (t:KL):Ze:=.mapg (Yg kA t)
def ZuB (H:List Ze) (k N:Nat) (E:FR) (rest:List Sm) (i:Nat) (f4 f5:AV) (H':List Ze):Prop:=
 ∃out ts t K L,H'=M2 H k (X4 t) (J8 out) (JF ts) L∧f4=X5 H.length out∧f5=X9 (H.length+1) ts∧KG K t∧t.length+Zh rest≤N∧ts.length=i∧(out++(ZB rest K).1,ts++(ZB rest K).2.1,(ZB rest K).2.2)=E
def Zy6 (H:List Ze) (k N:Nat) (E:FR) (f4 f5:AV) (H':List Ze):Prop:=
 ∃out ts t K L,H'=M2 H k (X4 t) (J8 out) (JF ts) L∧f4=X5 H.length out∧f5=X9 (H.length+1) ts∧KG K t∧t.length≤N∧(out,ts,K)=E
def Zu9 (k N:Nat) (H:List Ze) (E:FR) (e:AE) (H':List Ze):Prop:=e=.ret (.tup [Sm.sl E.1,Tm.sl E.2.1])∧∃t,KG E.2.2 t∧t.length≤N∧H'=H.set k (X4 t)
end Go.Proofs
namespace Go.Proofs
open Go.Mu
theorem ZkH {l:List Sm} {x:Sm} (h:x∈l):∀n∈x.sets,n∈ZP l:=by
 induction l with
 |nil=>cases h
 |cons s l ih=>
  intro n hn
  rw [ZP,List.mem_append]
  rcases List.mem_cons.1 h with rfl|h
  ·exact .inl hn
  ·exact .inr (ih h n hn)
def Zxv (H:List Ze) (k n:Nat) (out:List Sm) (ts:List Tm) (L:List Ze) (R:List Sm×Tm×YQ) (H':List Ze):Prop:=
 ∃y tm t' cs L',H'=M2 H k (X4 t') (J8 out) (JF ts) (L++.box 82 y.cells::.box 90 cs::L')∧JZ cs tm.cells∧R.1=[y]∧R.2.1=tm∧KG R.2.2 t'∧t'.length≤n
def KnS (F:KL→List Ze) (K:YQ) (n:Nat) (H':List Ze):Prop:=∃t',H'=F t'∧KG K t'∧t'.length≤n
def Ztf (a b:List Tm):Tm:=.mk 3 [] false [a,b]
def ZkY (a:List Tm):Tm:=.mk 5 [] false [a]
def Zcz (b:Bool) (a:List Tm):Tm:=.mk 4 [] b [a]
theorem ZoM (m:Nat):∀ (l:List Sm) (K0:YQ) (t0:KL),Zh l<m→Zh l≤2^36→(∀n∈ZP l,n.size≤maxLen)→KG K0 t0→t0.length+Zh l≤2^38→∀ (H:List Ze) (k:Nat),H[k]?=some (X4 t0)→
 Zi Tryz.prog 71 [Sm.sl l,.hg k] H (Zu9 k (t0.length+Zh l) H (ZB l K0)):=by
 induction m with
 |zero=>intro l K0 t0 h;omega
 |succ m ih=>
  intro l K0 t0 hm hcl hnm hKG ht0 H k hk
  refine Ya fun hu _=>Zf (ZU (Yv 2 (Z0 Tryz.func71 rfl (by kernel_rfl) ?_)))
  have hlen:=Yi l
  have hkH:=ZT hk
  obtain⟨E,hE⟩:∃E,E=ZB l K0:=⟨_,rfl⟩
  obtain⟨N,hN⟩:∃N,N=t0.length+Zh l:=⟨_,rfl⟩
  have hE1:E.1.length≤Zh l:=by rw [hE];exact Nat.le_trans (Yi _) (ZfH l K0)
  have hE2:E.2.1.length=l.length:=by rw [hE];exact Zcd l K0
  rw [←hE,←hN]
  have hGu:∀t,YC (H.set k (X4 t)).length (H.set k (X4 t))=true:=fun t=>by rw [List.length_set];exact ZcS hu (by simp [X4,Ze.under,Yg,AV.under])
  have fin:∀out ts t K L,(out,ts,K)=E→KG K t→t.length≤N→Zao (ZW H (Zu9 k N H E)) (.ret (.tup [X5 H.length out,X9 (H.length+1) ts])) (M2 H k (X4 t) (J8 out) (JF ts) L):=fun out ts t K L h h1 h2=>
   Zpj (by simp) (hGu t) _ _ 16 4 _ _ (ZdD out) (ZdL ts) (by rw [←h];exact⟨rfl,t,h1,h2,rfl⟩)
  have hM0:H++List.replicate 2 Ze.pend=M2 H k (X4 t0) (J8 []) (JF []) []:=by rw [Zr3,Zbm hk];simp [Yn]
  rw [hM0]
  have gC:=fun X o t L=>Zvo (H:=H) (o:=o) (t:=t) (L:=L) hkH X
  have sC:=fun X Y o t L=>ZuR (H:=H) (o:=o) (t:=t) (L:=L) hkH X Y
  refine Zc (fun f H'=>H'=M2 H k (X4 t0) (J8 []) (JF []) []∧f 0=Sm.sl l∧f 1=.hg k∧f 4=Yp∧f 5=Yp) (by kernel_rfl) ?_ ?_
  ·simp -dsimp
  clear hM0
  rintro g _ ⟨rfl,g0,g1,g4,g5⟩
  refine Z4 (fun f H'=>Zy6 H k N E (f 4) (f 5) H') ?_ ?_
  rotate_left
  ·clear g g0 g1 g4 g5
   rintro g _ ⟨out,ts,t,K,L,rfl,g4,g5,h1,h2,h⟩
   refine Zk (by kernel_rfl) ?_
   simp -dsimp [g4,g5]
   exact fin _ _ _ _ _ h h1 h2
  refine Zc (fun f H'=>H'=M2 H k (X4 t0) (J8 []) (JF []) []∧f 1=.hg k∧f 18=Sm.sl l∧f 19=I l.length∧f 20=I 0∧f 4=Yp∧f 5=Yp) (by kernel_rfl) ?_ ?_
  ·simp -dsimp [g0,g1,g4,g5]
  clear g g0 g1 g4 g5
  rintro g _ ⟨rfl,g1,g18,g19,g20,g4,g5⟩
  refine Z9 ?_
  refine Yd (fun (i:Nat) f H'=>ZuB H k N E (l.drop i) i (f 4) (f 5) H'∧f 1=.hg k∧f 18=Sm.sl l∧f 19=I l.length∧f 20=I i∧i≤l.length) (fun i=>l.length-i) 0
   ⟨⟨[],[],t0,K0,[],rfl,by rw [g4];exact (Xd _).symm,by rw [g5];exact (Xd _).symm,hKG,by rw [hN];exact Nat.le_refl _,rfl,by rw [hE];rfl⟩,g1,g18,g19,g20,by omega⟩ ?_
  clear g g1 g18 g19 g20 g4 g5 hE hKG
  rintro i g _ ⟨⟨out,ts,t,K,L,rfl,g4,g5,hKG,htN,htl,hinv⟩,g1,g18,g19,g20,hi⟩
  obtain⟨V,hV⟩:∃V,V=M2 H k (X4 t) (J8 out) (JF ts) L:=⟨_,rfl⟩
  rw [←hV]
  refine Zc (fun f H'=>V=H'∧f 1=.hg k∧f 4=X5 H.length out∧f 5=X9 (H.length+1) ts∧f 18=Sm.sl l∧f 19=I l.length∧f 20=I i∧f 21=Bo (decide ((i:Int)<l.length))) (by kernel_rfl) ?_ ?_
  ·simp -dsimp [g1,g18,g19,g20,g4,g5]
  clear g g1 g18 g19 g20 g4 g5
  rintro g _ ⟨rfl,g1,g4,g5,g18,g19,g20,g21⟩
  refine Zc (fun f H'=>V=H'∧f 1=.hg k∧f 4=X5 H.length out∧f 5=X9 (H.length+1) ts∧f 18=Sm.sl l∧f 19=I l.length∧f 20=I i∧i<l.length) (by kernel_rfl) ?_ ?_
  ·simp -dsimp [g21]
   refine Zb (fun hlt=>?_) (fun hlt=>?_)
   ·simp -dsimp [g1,g18,g19,g20,g4,g5]
    omega
   ·rw [ZI hlt] at hinv htN
    simp -dsimp [g4,g5]
    exact⟨out,ts,t,K,L,hV,rfl,rfl,hKG,by omega,by rw [←hinv];simp [ZB]⟩
  clear g g1 g18 g19 g20 g4 g5 g21
  rintro g _ ⟨rfl,g1,g4,g5,g18,g19,g20,hlt⟩
  have hlx:l[i]?=some l[i]:=List.getElem?_eq_getElem hlt
  have hgx:=JY hlt
  have hsx:=ZkH (List.getElem_mem hlt)
  rw [Zo hlt] at hinv htN
  obtain⟨x,hx⟩:∃x,x=l[i]:=⟨_,rfl⟩
  rw [←hx] at hlx hgx hsx hinv htN
  clear hx
  have hcx:=Sm.count_eq x
  have hnx:∀n∈x.sets,n.size≤maxLen:=fun n hn=>hnm n (hsx n hn)
  rw [ZB] at hinv
  rw [Zh] at htN
  obtain⟨rest,hrest⟩:∃rest,rest=l.drop (i+1):=⟨_,rfl⟩
  rw [←hrest] at hinv htN
  have hol:out.length≤Zh l:=by rw [←hinv] at hE1;simp only [List.length_append] at hE1;omega
  refine Z4 (fun f H'=>ZuB H k N E rest (i+1) (f 4) (f 5) H'∧f 1=.hg k∧f 18=Sm.sl l∧f 19=I l.length∧f 20=I i) ?_ ?_
  rotate_left
  ·clear g g1 g18 g19 g20 g4 g5
   rintro g H' ⟨ho,g1,g18,g19,g20⟩
   rw [hrest] at ho
   replace ho:=YE.mk ho
   refine Zk (by kernel_rfl) ?_
   simp -dsimp [g1,g18,g19,g20]
   exact⟨i+1,by omega,ho.out,ZC (by omega),by omega⟩
  clear hrest
  refine Z9 ?_
  obtain⟨bX,hbX⟩:∃bX,bX=Ze.box 82 x.cells:=⟨_,rfl⟩
  simp only [Sm.cells_eq] at hbX
  refine Zc (fun f H'=>H'=V++[bX]∧f 1=.hg k∧f 4=X5 H.length out∧f 5=X9 (H.length+1) ts∧f 18=Sm.sl l∧f 19=I l.length∧f 20=I i∧f 7=.bp V.length 0) (by kernel_rfl) ?_ ?_
  ·simp -dsimp [g1,g18,g19,g20,g4,g5,hlx,hbX]
  clear g g1 g18 g19 g20 g4 g5
  obtain⟨k1,hk1⟩:∃k1,k1=H.length+2+L.length:=⟨_,rfl⟩
  rw [hV,Zku,←hk1,ZhK]
  clear hV V
  rintro g _ ⟨rfl,g1,g4,g5,g18,g19,g20,g7⟩
  obtain⟨V,hV⟩:∃V,V=M2 H k (X4 t) (J8 out) (JF ts) (L++[bX]):=⟨_,rfl⟩
  obtain⟨kt,hkt⟩:∃kt,kt=k1+1:=⟨_,rfl⟩
  have hVl:V.length=kt:=by rw [hV,Zku,hkt,hk1];simp;omega
  rw [←hV]
  refine Zc (fun f H'=>H'=V++[.box 90 [I 1,Yp,Bo false,Yp]]∧f 1=.hg k∧f 4=X5 H.length out∧f 5=X9 (H.length+1) ts∧f 7=.bp k1 0∧f 18=Sm.sl l∧f 19=I l.length∧f 20=I i∧f 8=.bp V.length 0) (by kernel_rfl) ?_ ?_
  ·simp -dsimp [g1,g18,g19,g20,g4,g5,g7]
  clear g g1 g18 g19 g20 g4 g5 g7
  rw [hVl,hV,ZhK]
  clear hV hVl V
  rintro g _ ⟨rfl,g1,g4,g5,g7,g18,g19,g20,g8⟩
  rw [List.append_assoc]
  show X6 _ _ _ _ _ (M2 H k (X4 t) (J8 out) (JF ts) (L++[bX,.box 90 [I 1,Yp,Bo false,Yp]])) _
  obtain⟨bT,hbT⟩:∃bT,bT=Ze.box 90 [I 1,Yp,Bo false,Yp]:=⟨_,rfl⟩
  rw [←hbT]
  have gX:∀X o u b R,(M2 H k X o u (L++b::R))[k1]?=some b:=fun X o u b R=>by rw [hk1,Zhb];simp
  have sX:∀X o u b R Y,(M2 H k X o u (L++b::R)).set k1 Y=M2 H k X o u (L++Y::R):=fun X o u b R Y=>by rw [hk1,Zkj];simp
  have gT:∀X o u b y R,(M2 H k X o u (L++b::y::R))[kt]?=some y:=fun X o u b y R=>by rw [hkt,hk1,show H.length+2+L.length+1=H.length+2+(L.length+1) from by omega,Zhb];simp
  have sT:∀X o u b y R Y,(M2 H k X o u (L++b::y::R)).set kt Y=M2 H k X o u (L++b::Y::R):=fun X o u b y R Y=>by rw [hkt,hk1,show H.length+2+L.length+1=H.length+2+(L.length+1) from by omega,Zkj];simp
  have gA:∀X o u b y z R,(M2 H k X o u (L++b::y::z::R))[kt+1]?=some z:=fun X o u b y z R=>by rw [hkt,hk1,show H.length+2+L.length+1+1=H.length+2+(L.length+2) from by omega,Zhb];simp
  have sA:∀X o u b y z R Y,(M2 H k X o u (L++b::y::z::R)).set (kt+1) Y=M2 H k X o u (L++b::y::Y::R):=fun X o u b y z R Y=>by rw [hkt,hk1,show H.length+2+L.length+1+1=H.length+2+(L.length+2) from by omega,Zkj];simp
  have gB:∀X o u b y z a R,(M2 H k X o u (L++b::y::z::a::R))[kt+2]?=some a:=fun X o u b y z a R=>by rw [hkt,hk1,show H.length+2+L.length+1+2=H.length+2+(L.length+3) from by omega,Zhb];simp
  have lenA:∀X o u b y,(M2 H k X o u (L++[b,y])).length=kt+1:=fun X o u b y=>by rw [Zku,hkt,hk1];simp;omega
  have kmA:∀t L',Y3 (M2 H k (X4 t) (J8 out) (JF ts) L') (.hg k)=some (Yg kA t):=fun t L'=>by simp only [Y3];rw [gC]
  have hkk1:k≠k1:=by omega
  have hkk2:k≠kt:=by omega
  --what the statement becomes
  refine Z4 (fun f H'=>Zxv H k (t.length+x.count) out ts L (x.fold K) H'∧f 1=.hg k∧f 4=X5 H.length out∧f 5=X9 (H.length+1) ts∧f 7=.bp k1 0∧f 8=.bp kt 0∧f 18=Sm.sl l∧f 19=I l.length∧f 20=I i) ?_ ?_
  rotate_left
  ·clear g g1 g4 g5 g7 g8 g18 g19 g20
   rintro g _ ⟨⟨y,tm,t',cs,L',rfl,hw,h1,h2,hKG',ht'⟩,g1,g4,g5,g7,g8,g18,g19,g20⟩
   rw [h1,h2] at hinv
   obtain⟨K',hK'⟩:∃K',K'=(x.fold K).2.2:=⟨_,rfl⟩
   rw [←hK'] at hinv hKG'
   clear hK' h1 h2
   refine Zgw kt 90 cs _ (gT _ _ _ _ _ _) hw ?_
   rw [sT]
   clear hw cs
   have hyc:=Sm.cells_eq y
   have htc:=Tm.cells_eq tm
   have gX':=gX (X4 t') (J8 out) (JF ts) (.box 82 y.cells) (.box 90 tm.cells::L')
   have gT':=gT (X4 t') (J8 out) (JF ts) (.box 82 y.cells) (.box 90 tm.cells) L'
   have gX2:∀o u,(M2 H k (X4 t') o u (L++.box 82 y.cells::.box 90 tm.cells::L'))[k1]?=some (.box 82 y.cells):=fun o u=>gX _ _ _ _ _
   have gT2:∀o u,(M2 H k (X4 t') o u (L++.box 82 y.cells::.box 90 tm.cells::L'))[kt]?=some (.box 90 tm.cells):=fun o u=>gT _ _ _ _ _ _
   rw [hyc,htc] at gX2 gT2
   rw [hyc,htc]
   refine YH (fun d=>d==155||d==159) (fun i=>if i=38 then some [(0,[]),(1,[]),(2,[]),(4,[]),(5,[]),(6,[]),(3,[5,6]),(7,[]),(8,[]),(9,[])] else none) (by kernel_rfl) ?_
   simp -dsimp [g1,g4,g5,g7,g8,g18,g19,g20,gX2,gT2]
   refine ZD (k:=H.length) (es:=out.map Sm.cells) (by rw [Zoh]) (by simp;omega) (by simp;omega) ?_
   rw [ZnZ]
   simp -dsimp [g1,g4,g5,g7,g8,g18,g19,g20,gX2,gT2]
   refine ZD (k:=H.length+1) (es:=ts.map Tm.cells) (by rw [Zkr]) (by simp;omega) (by simp;omega) ?_
   rw [ZkR]
   simp -dsimp [g1,g4,g5,g7,g8,g18,g19,g20]
   have ho1:out.map Sm.cells++[[I y.kind,St y.name,St.sl y.names,I y.e.op,U y.e.word,St y.e.name,Ex.sl y.e.args,I y.a.op,U y.a.word,St y.a.name,Ex.sl y.a.args,Ex.sl y.args,U y.low,U y.high,Sm.sl y.body,Sm.sl y.els]]=(out++[y]).map Sm.cells:=by rw [List.map_append,List.map_cons,hyc];rfl
   have ht1:ts.map Tm.cells++[[I tm.kind,Pk.sls tm.lines,Bo tm.taken,Tm.sls tm.subs]]=(ts++[tm]).map Tm.cells:=by rw [List.map_append,List.map_cons,htc];rfl
   exact⟨out++[y],ts++[tm],t',K',_,by rw [J8,JF,←ho1,←ht1],by rw [X5,←ho1],by rw [X9,←ht1],hKG',by omega,by simp [htl],by rw [←hinv];simp⟩
  refine Zc (fun f H'=>H'=M2 H k (X4 t) (J8 out) (JF ts) (L++[bX,bT])∧f 1=.hg k∧f 4=X5 H.length out∧f 5=X9 (H.length+1) ts∧f 7=.bp k1 0∧f 8=.bp kt 0∧f 18=Sm.sl l∧f 19=I l.length∧f 20=I i∧f 26=I x.kind) (by kernel_rfl) ?_ ?_
  ·simp -dsimp [g1,g4,g5,g7,g8,g18,g19,g20,gX,hbX]
  clear g g1 g4 g5 g7 g8 g18 g19 g20
  rintro g _ ⟨rfl,g1,g4,g5,g7,g8,g18,g19,g20,g26⟩
  refine Z9 ?_
  refine Zc (fun f H'=>H'=M2 H k (X4 t) (J8 out) (JF ts) (L++[bX,bT])∧f 1=.hg k∧f 4=X5 H.length out∧f 5=X9 (H.length+1) ts∧f 7=.bp k1 0∧f 8=.bp kt 0∧f 18=Sm.sl l∧f 19=I l.length∧f 20=I i∧f 26=I x.kind∧f 27=Bo (x.kind==1)) (by kernel_rfl) ?_ ?_
  ·simp -dsimp [g1,g4,g5,g7,g8,g18,g19,g20,g26]
  clear g g1 g4 g5 g7 g8 g18 g19 g20 g26
  rintro g _ ⟨rfl,g1,g4,g5,g7,g8,g18,g19,g20,g26,g27⟩
  have hfe:=Sm.fold_eq x K
  unfold Sm.foldE at hfe
  have ce:=fun (K:YQ) (t:KL) (hKG:KG K t) L'=>ZhS K _ x.e (Nat.lt_succ_self _) (by omega) (M2 H k (X4 t) (J8 out) (JF ts) L') (.hg k) (Zos (gC _ _ _ _) hKG)
  have ca:=fun L'=>ZhS K _ x.a (Nat.lt_succ_self _) (by omega) (M2 H k (X4 t) (J8 out) (JF ts) L') (.hg k) (Zos (gC _ _ _ _) hKG)
  simp only [Ex.cells_eq] at ce ca
  have hset:=fun (n:ByteArray) (v:Int) t=>ZaK kA n v t
  have hsub:∀n∈ZP x.body,n.size≤maxLen:=fun n hn=>hnx n (by rw [Sm.sets_eq];simp [hn])
  have hsue:∀n∈ZP x.els,n.size≤maxLen:=fun n hn=>hnx n (by rw [Sm.sets_eq];simp [hn])
  by_cases h1:x.kind=1
  ·rw [if_pos h1] at hfe
   have cE:=ce K t hKG
   have hxn:=hnx x.name (by rw [Sm.sets_eq];simp [h1])
   obtain⟨e,he⟩:∃e,e=x.e.fold K:=⟨_,rfl⟩
   rw [←he] at hfe cE
   clear ce ca he
   refine YP (by kernel_rfl) (by show g 27=_;rw [g27];simp [h1]) ?_
   obtain⟨bY,hbY⟩:∃bY,bY=Ze.box 82 [I x.kind,St x.name,St.sl x.names,I e.op,U e.word,St e.name,Ex.sl e.args,I x.a.op,U x.a.word,St x.a.name,Ex.sl x.a.args,Ex.sl x.args,U x.low,U x.high,Sm.sl x.body,Sm.sl x.els]:=⟨_,rfl⟩
   refine Zc (fun f H'=>H'=M2 H k (X4 t) (J8 out) (JF ts) (L++[bY,bT])∧f 1=.hg k∧f 4=X5 H.length out∧f 5=X9 (H.length+1) ts∧f 7=.bp k1 0∧f 8=.bp kt 0∧f 18=Sm.sl l∧f 19=I l.length∧f 20=I i) (by kernel_rfl) ?_ ?_
   ·simp -dsimp [g1,g4,g5,g7,g8,g18,g19,g20,gX,sX,hbX,hbY]
    refine Za (cE _) ?_
    simp -dsimp [g1,g4,g5,g7,g8,g18,g19,g20,gX,sX,hbX,hbY]
   clear g g1 g4 g5 g7 g8 g18 g19 g20 g26 g27
   rintro g _ ⟨rfl,g1,g4,g5,g7,g8,g18,g19,g20⟩
   refine Zc (fun f H'=>H'=M2 H k (X4 (Zdq x.name t)) (J8 out) (JF ts) (L++[bY,bT])∧f 1=.hg k∧f 4=X5 H.length out∧f 5=X9 (H.length+1) ts∧f 7=.bp k1 0∧f 8=.bp kt 0∧f 18=Sm.sl l∧f 19=I l.length∧f 20=I i) (by kernel_rfl) ?_ ?_
   ·simp -dsimp [g1,g4,g5,g7,g8,g18,g19,g20,gX,sX,gC,sC,ZhF,hbY]
   clear g g1 g4 g5 g7 g8 g18 g19 g20
   rintro g _ ⟨rfl,g1,g4,g5,g7,g8,g18,g19,g20⟩
   refine Zc (fun f H'=>H'=M2 H k (X4 (Zdq x.name t)) (J8 out) (JF ts) (L++[bY,bT])∧f 1=.hg k∧f 4=X5 H.length out∧f 5=X9 (H.length+1) ts∧f 7=.bp k1 0∧f 8=.bp kt 0∧f 18=Sm.sl l∧f 19=I l.length∧f 20=I i∧f 40=Bo (e.op==1)) (by kernel_rfl) ?_ ?_
   ·simp -dsimp [g1,g4,g5,g7,g8,g18,g19,g20,gX,hbY]
   clear g g1 g4 g5 g7 g8 g18 g19 g20
   rintro g _ ⟨rfl,g1,g4,g5,g7,g8,g18,g19,g20,g40⟩
   have fin1:∀t',KG (Zg9 K x.name e) t'→t'.length≤t.length+x.count→Zxv H k (t.length+x.count) out ts L (x.fold K) (M2 H k (X4 t') (J8 out) (JF ts) (L++[bY,bT])):=fun t' a b=>
    ⟨Sm.mk x.kind x.name x.names e x.a x.args x.low x.high x.body x.els,ZaN,t',[I 1,Yp,Bo false,Yp],[],by rw [hbY,hbT,Sm.cells_eq];rfl,by rw [Tm.cells_eq];exact .cons (.refl _) (.cons (.nil 1) (.cons (.refl _) (.cons (.nil 1) .nil))),by rw [hfe],by rw [hfe],by rw [hfe];exact a,b⟩
   have hdl:=Zmh x.name t
   have hcp:1≤x.count:=by omega
   by_cases h4:e.op=1
   ·have hsl:=Zjo x.name e.word (Zdq x.name t)
    have q:=hKG.kset1 x.name e h4 hxn
    refine YP (by kernel_rfl) (by show g 40=_;rw [g40];simp [h4]) ?_
    refine Zk (by kernel_rfl) ?_
    simp -dsimp [g1,g4,g5,g7,g8,g18,g19,g20,gX,gC,sC,hset,hbY]
    rw [←hbY]
    exact fin1 _ q (by omega)
   ·have q:=hKG.kset0 x.name e h4
    refine YM (by kernel_rfl) (by show g 40=_;rw [g40];simp [h4]) ?_
    refine Zk (by kernel_rfl) ?_
    simp -dsimp [g1,g4,g5,g7,g8,g18,g19,g20]
    exact fin1 _ q (by omega)
  rw [if_neg h1] at hfe
  refine YM (by kernel_rfl) (by show g 27=_;rw [g27];simp [h1]) ?_
  refine Zc (fun f H'=>H'=M2 H k (X4 t) (J8 out) (JF ts) (L++[bX,bT])∧f 1=.hg k∧f 4=X5 H.length out∧f 5=X9 (H.length+1) ts∧f 7=.bp k1 0∧f 8=.bp kt 0∧f 18=Sm.sl l∧f 19=I l.length∧f 20=I i∧f 26=I x.kind∧f 47=Bo (x.kind==2)) (by kernel_rfl) ?_ ?_
  ·simp -dsimp [g1,g4,g5,g7,g8,g18,g19,g20,g26]
  clear g g1 g4 g5 g7 g8 g18 g19 g20 g26 g27
  rintro g _ ⟨rfl,g1,g4,g5,g7,g8,g18,g19,g20,g26,g47⟩
  by_cases h2:x.kind=2
  ·rw [if_pos h2] at hfe
   have cE:=ce K t hKG
   obtain⟨e,he⟩:∃e,e=x.e.fold K:=⟨_,rfl⟩
   obtain⟨a,ha⟩:∃a,a=x.a.fold K:=⟨_,rfl⟩
   rw [←he,←ha] at hfe
   rw [←he] at cE
   rw [←ha] at ca
   clear ce he ha
   refine YP (by kernel_rfl) (by show g 47=_;rw [g47];simp [h2]) ?_
   obtain⟨bY,hbY⟩:∃bY,bY=Ze.box 82 [I x.kind,St x.name,St.sl x.names,I e.op,U e.word,St e.name,Ex.sl e.args,I a.op,U a.word,St a.name,Ex.sl a.args,Ex.sl x.args,U x.low,U x.high,Sm.sl x.body,Sm.sl x.els]:=⟨_,rfl⟩
   refine Zk (by kernel_rfl) ?_
   simp -dsimp [g1,g4,g5,g7,g8,g18,g19,g20,gX,sX,hbX]
   refine Zd (ca _) ?_
   simp -dsimp [g1,g4,g5,g7,g8,g18,g19,g20,gX,sX,hbX]
   refine Zd (cE _) ?_
   simp -dsimp [g1,g4,g5,g7,g8,g18,g19,g20,gX,sX,hbX]
   exact⟨Sm.mk x.kind x.name x.names e a x.args x.low x.high x.body x.els,ZaN,t,[I 1,Yp,Bo false,Yp],[],by rw [hbT,Sm.cells_eq];rfl,by rw [Tm.cells_eq];exact .cons (.refl _) (.cons (.nil 1) (.cons (.refl _) (.cons (.nil 1) .nil))),by rw [hfe],by rw [hfe],by rw [hfe];exact hKG,by omega⟩
  rw [if_neg h2] at hfe
  clear ca
  refine YM (by kernel_rfl) (by show g 47=_;rw [g47];simp [h2]) ?_
  refine Zc (fun f H'=>H'=M2 H k (X4 t) (J8 out) (JF ts) (L++[bX,bT])∧f 1=.hg k∧f 4=X5 H.length out∧f 5=X9 (H.length+1) ts∧f 7=.bp k1 0∧f 8=.bp kt 0∧f 18=Sm.sl l∧f 19=I l.length∧f 20=I i∧f 26=I x.kind∧f 59=Bo (x.kind==3)) (by kernel_rfl) ?_ ?_
  ·simp -dsimp [g1,g4,g5,g7,g8,g18,g19,g20,g26]
  clear g g1 g4 g5 g7 g8 g18 g19 g20 g26 g47
  rintro g _ ⟨rfl,g1,g4,g5,g7,g8,g18,g19,g20,g26,g59⟩
  by_cases h3:x.kind=3
  ·rw [if_pos h3] at hfe
   have cE:=ce K t hKG
   obtain⟨e,he⟩:∃e,e=x.e.fold K:=⟨_,rfl⟩
   rw [←he] at hfe cE
   clear ce he
   refine YP (by kernel_rfl) (by show g 59=_;rw [g59];simp [h3]) ?_
   obtain⟨bY,hbY⟩:∃bY,bY=Ze.box 82 [I x.kind,St x.name,St.sl x.names,I e.op,U e.word,St e.name,Ex.sl e.args,I x.a.op,U x.a.word,St x.a.name,Ex.sl x.a.args,Ex.sl x.args,U x.low,U x.high,Sm.sl x.body,Sm.sl x.els]:=⟨_,rfl⟩
   refine Zc (fun f H'=>H'=M2 H k (X4 t) (J8 out) (JF ts) (L++[bY,bT])∧f 1=.hg k∧f 4=X5 H.length out∧f 5=X9 (H.length+1) ts∧f 7=.bp k1 0∧f 8=.bp kt 0∧f 18=Sm.sl l∧f 19=I l.length∧f 20=I i) (by kernel_rfl) ?_ ?_
   ·simp -dsimp [g1,g4,g5,g7,g8,g18,g19,g20,gX,sX,hbX,hbY]
    refine Za (cE _) ?_
    simp -dsimp [g1,g4,g5,g7,g8,g18,g19,g20,gX,sX,hbX,hbY]
   clear g g1 g4 g5 g7 g8 g18 g19 g20 g26 g59
   rintro g _ ⟨rfl,g1,g4,g5,g7,g8,g18,g19,g20⟩
   refine Z4 (fun f H'=>H'=M2 H k (X4 t) (J8 out) (JF ts) (L++[bY,bT])∧f 1=.hg k∧f 4=X5 H.length out∧f 5=X9 (H.length+1) ts∧f 7=.bp k1 0∧f 8=.bp kt 0∧f 18=Sm.sl l∧f 19=I l.length∧f 20=I i∧ ¬ e.op=1) ?_ ?_
   ·refine Zc (fun f H'=>H'=M2 H k (X4 t) (J8 out) (JF ts) (L++[bY,bT])∧f 1=.hg k∧f 4=X5 H.length out∧f 5=X9 (H.length+1) ts∧f 7=.bp k1 0∧f 8=.bp kt 0∧f 18=Sm.sl l∧f 19=I l.length∧f 20=I i∧f 69=Bo (e.op==1)) (by kernel_rfl) ?_ ?_
    ·simp -dsimp [g1,g4,g5,g7,g8,g18,g19,g20,gX,hbY]
    clear g g1 g4 g5 g7 g8 g18 g19 g20
    rintro g _ ⟨rfl,g1,g4,g5,g7,g8,g18,g19,g20,g69⟩
    by_cases h4:e.op=1
    ·rw [if_pos h4] at hfe
     refine YP (by kernel_rfl) (by show g 69=_;rw [g69];simp [h4]) ?_
     obtain⟨way,hway⟩:∃way,way=if e.word=0 then x.els else x.body:=⟨_,rfl⟩
     have hwc:Zh way≤x.count-1:=by rw [hway];split<;>omega
     have hwn:∀n∈ZP way,n.size≤maxLen:=by
      rw [hway];split
      ·exact hsue
      ·exact hsub
     have hfw:x.fold K=((ZB way K).1,Zcz (!decide (e.word=0)) (ZB way K).2.1,(ZB way K).2.2):=by
      rw [hfe,hway]
      by_cases hw:e.word=0
      ·rw [if_pos hw,if_pos hw];simp [Zcz,hw]
      ·rw [if_neg hw,if_neg hw];simp [Zcz,hw]
     refine Zc (fun f H'=>H'=M2 H k (X4 t) (J8 out) (JF ts) (L++[bY,bT])∧f 1=.hg k∧f 4=X5 H.length out∧f 5=X9 (H.length+1) ts∧f 7=.bp k1 0∧f 8=.bp kt 0∧f 18=Sm.sl l∧f 19=I l.length∧f 20=I i∧f 9=Sm.sl x.els) (by kernel_rfl) ?_ ?_
     ·simp -dsimp [g1,g4,g5,g7,g8,g18,g19,g20,gX,hbY]
     clear g g1 g4 g5 g7 g8 g18 g19 g20 g69
     rintro g _ ⟨rfl,g1,g4,g5,g7,g8,g18,g19,g20,g9⟩
     refine Z4 (fun f H'=>H'=M2 H k (X4 t) (J8 out) (JF ts) (L++[bY,bT])∧f 1=.hg k∧f 4=X5 H.length out∧f 5=X9 (H.length+1) ts∧f 7=.bp k1 0∧f 8=.bp kt 0∧f 18=Sm.sl l∧f 19=I l.length∧f 20=I i∧f 9=Sm.sl way) ?_ ?_
     ·refine Zc (fun f H'=>H'=M2 H k (X4 t) (J8 out) (JF ts) (L++[bY,bT])∧f 1=.hg k∧f 4=X5 H.length out∧f 5=X9 (H.length+1) ts∧f 7=.bp k1 0∧f 8=.bp kt 0∧f 18=Sm.sl l∧f 19=I l.length∧f 20=I i∧f 9=Sm.sl x.els∧f 75=Bo (e.word != 0)) (by kernel_rfl) ?_ ?_
      ·simp -dsimp [g1,g4,g5,g7,g8,g18,g19,g20,g9,gX,hbY]
      clear g g1 g4 g5 g7 g8 g18 g19 g20 g9
      rintro g _ ⟨rfl,g1,g4,g5,g7,g8,g18,g19,g20,g9,g75⟩
      by_cases hw:e.word=0
      ·refine YM (by kernel_rfl) (by show g 75=_;rw [g75];simp [hw]) ?_
       refine Zk (by kernel_rfl) ?_
       rw [if_pos hw] at hway
       simp -dsimp [g1,g4,g5,g7,g8,g18,g19,g20,g9,hway]
      ·refine YP (by kernel_rfl) (by show g 75=_;rw [g75];simp [hw]) ?_
       refine Zk (by kernel_rfl) ?_
       rw [if_neg hw] at hway
       simp -dsimp [g1,g4,g5,g7,g8,g18,g19,g20,g9,hway,gX,hbY]
     clear g g1 g4 g5 g7 g8 g18 g19 g20 g9
     rintro g _ ⟨rfl,g1,g4,g5,g7,g8,g18,g19,g20,g9⟩
     have hE5:=hE1
     rw [←hinv,hfw] at hE5
     simp only [List.length_append] at hE5
     have cw:=fun L'=>ih way K t (by omega) (by omega) hwn hKG (by omega) (M2 H k (X4 t) (J8 out) (JF ts) L') k (gC _ _ _ _)
     rw [hfw] at hinv
     obtain⟨b,tb,K',hR⟩:∃b tb K',(b,tb,K')=ZB way K:=⟨_,_,_,rfl⟩
     rw [←hR] at hinv cw hE5
     simp only [Zu9] at hinv hE5 cw
     refine Zc (fun f H'=>KnS (fun t'=>M2 H k (X4 t') (J8 out) (JF ts) (L++[bY,bT])) K' (t.length+Zh way) H'∧f 1=.hg k∧f 4=X5 H.length out∧f 5=X9 (H.length+1) ts∧f 7=.bp k1 0∧f 8=.bp kt 0∧f 18=Sm.sl l∧f 19=I l.length∧f 20=I i∧f 10=Sm.sl b∧f 11=Tm.sl tb) (by kernel_rfl) ?_ ?_
     ·simp -dsimp [g1,g4,g5,g7,g8,g18,g19,g20,g9]
      refine ZA (cw _) ?_
      rintro r M' ⟨rfl,t',hK',ht',rfl⟩
      rw [sC]
      simp -dsimp [g1,g4,g5,g7,g8,g18,g19,g20,g9]
      exact⟨t',rfl,hK',ht'⟩
     clear g g1 g4 g5 g7 g8 g18 g19 g20 g9
     rintro g _ ⟨⟨t',rfl,hK',ht'⟩,g1,g4,g5,g7,g8,g18,g19,g20,g10,g11⟩
     refine J2 (fun d=>d==86) (fun _=>none) (fun f H'=>H'=M2 H k (X4 t') (J8 (out++b)) (JF ts) (L++[bY,bT])∧f 1=.hg k∧f 4=X5 H.length (out++b)∧f 5=X9 (H.length+1) ts∧f 7=.bp k1 0∧f 18=Sm.sl l∧f 19=I l.length∧f 20=I i∧f 11=Tm.sl tb) (by kernel_rfl) ?_ ?_
     ·simp -dsimp [g1,g4,g5,g7,g8,g18,g19,g20,g10,g11]
      refine ZD (k:=H.length) (es:=out.map Sm.cells) (by rw [Zoh]) (by simp;omega) (by simp;omega) ?_
      rw [ZnZ,←List.map_append]
      simp -dsimp [g1,g4,g5,g7,g8,g18,g19,g20,g10,g11]
      exact⟨by rw [J8,List.map_append],by rw [X5,List.map_append]⟩
     clear g g1 g4 g5 g7 g8 g18 g19 g20 g10 g11
     rintro g _ ⟨rfl,g1,g4,g5,g7,g18,g19,g20,g11⟩
     obtain⟨raw,hraw⟩:∃raw,raw=[I 4,Yp,Bo (e.word != 0),.vs 1 [[Tm.sl tb]]]:=⟨_,rfl⟩
     refine J2 (fun d=>d==96) (fun _=>none) (fun f H'=>H'=M2 H k (X4 t') (J8 (out++b)) (Yn 90 4 (ts.map Tm.cells++[raw])) (L++[bY,bT])∧f 1=.hg k∧f 4=X5 H.length (out++b)∧f 5=Yo (H.length+1) (ts.map Tm.cells++[raw])∧f 18=Sm.sl l∧f 19=I l.length∧f 20=I i) (by kernel_rfl) ?_ ?_
     ·simp -dsimp [g1,g4,g5,g7,g18,g19,g20,g11,gX,hbY]
      rw [←hbY]
      refine ZD (k:=H.length+1) (es:=ts.map Tm.cells) (by rw [Zkr]) (by simp;omega) (by simp;omega) ?_
      rw [ZkR]
      simp -dsimp [g1,g4,g5,g7,g18,g19,g20,hraw]
     clear g g1 g4 g5 g7 g18 g19 g20 g11
     rintro g _ ⟨rfl,g1,g4,g5,g18,g19,g20⟩
     obtain⟨tm,htm⟩:∃tm,tm=Zcz (!decide (e.word=0)) tb:=⟨_,rfl⟩
     rw [←htm] at hinv
     refine ZfY (H.length+1) 90 4 (ts.map Tm.cells++[raw]) ((ts++[tm]).map Tm.cells) (by rw [Zkr]) (by
      rw [List.map_append]
      refine ZfV (ZcV _) (.cons ?_ .nil)
      rw [hraw,htm,Zcz,Tm.cells_eq]
      have hb:(e.word != 0)= !decide (e.word=0):=by by_cases h:e.word=0<;>simp [h]
      rw [hb]
      exact .cons (.refl _) (.cons (.nil 1) (.cons (.refl _) (.cons (.refl _) .nil)))) ?_
     rw [ZkR]
     have g5':g 5=X9 (H.length+1) (ts++[tm]):=by rw [g5];exact Zi8 _ (by simp)
     have hfinal:ZuB H k N E rest (i+1) (g 4) (g 5) (M2 H k (X4 t') (J8 (out++b)) (JF (ts++[tm])) (L++[bY,bT])):=⟨out++b,ts++[tm],t',K',_,rfl,g4,g5',hK',by omega,by simp [htl],by rw [←hinv];simp⟩
     obtain⟨MM,hMM⟩:∃MM,MM=M2 H k (X4 t') (J8 (out++b)) (JF (ts++[tm])) (L++[bY,bT]):=⟨_,rfl⟩
     rw [←hMM] at hfinal ⊢
     rw [g4] at hfinal
     replace hfinal:=YE.mk hfinal
     refine Zk (by kernel_rfl) ?_
     simp -dsimp [g1,g4,g18,g19,g20]
     exact hfinal.out
    ·rw [if_neg h4] at hfe
     refine YM (by kernel_rfl) (by show g 69=_;rw [g69];simp [h4]) ?_
     refine Zk (by kernel_rfl) ?_
     simp -dsimp [g1,g4,g5,g7,g8,g18,g19,g20]
     exact h4
   clear g g1 g4 g5 g7 g8 g18 g19 g20
   rintro g _ ⟨rfl,g1,g4,g5,g7,g8,g18,g19,g20,h4⟩
   rw [if_neg h4] at hfe
   obtain⟨b,tb,Kb,hRb⟩:∃b tb Kb,(b,tb,Kb)=ZB x.body K:=⟨_,_,_,rfl⟩
   obtain⟨el,te,Ke,hRe⟩:∃b tb Kb,(b,tb,Kb)=ZB x.els K:=⟨_,_,_,rfl⟩
   have c1:=fun L'=>ih x.body K t (by omega) (by omega) hsub hKG (by omega) (M2 H k (X4 t) (J8 out) (JF ts) L') k (gC _ _ _ _)
   have c2:=fun X b y R=>ih x.els K t (by omega) (by omega) hsue hKG (by omega) (M2 H k X (J8 out) (JF ts) (L++b::y::X4 t::R)) (kt+1) (gA _ _ _ _ _ _ _)
   rw [←hRb] at hfe c1
   rw [←hRe] at hfe c2
   clear hRb hRe
   obtain⟨V,hV⟩:∃V,V=M2 H k (X4 t) (J8 out) (JF ts) (L++[bY,bT,X4 t]):=⟨_,rfl⟩
   have hVl:V.length=kt+2:=by rw [hV,Zku,hkt,hk1];simp;omega
   have ck:Zi Tryz.prog 113 [.hg k] (M2 H k (X4 t) (J8 out) (JF ts) (L++[bY,bT])) (fun e H'=>e=.ret (.hg (kt+1))∧H'=V):=by
    have:=Zjw (Yg kA t) k _ (gC (X4 t) (J8 out) (JF ts) (L++[bY,bT]))
    rw [lenA,ZhK,List.append_assoc] at this
    rw [hV];exact this
   refine Zc (fun f H'=>H'=V++[.box 129 [.hg (kt+1)]]∧f 1=.hg k∧f 4=X5 H.length out∧f 5=X9 (H.length+1) ts∧f 7=.bp k1 0∧f 8=.bp kt 0∧f 18=Sm.sl l∧f 19=I l.length∧f 20=I i∧f 12=.bp V.length 0) (by kernel_rfl) ?_ ?_
   ·simp -dsimp [g1,g4,g5,g7,g8,g18,g19,g20]
    refine ZA ck ?_
    rintro r M' ⟨rfl,rfl⟩
    simp -dsimp [g1,g4,g5,g7,g8,g18,g19,g20]
   clear g g1 g4 g5 g7 g8 g18 g19 g20
   rw [hVl,hV,ZhK,List.append_assoc]
   show ∀ (g:Fr) (M':List Ze),_→_
   clear hV hVl V ck
   rintro g _ ⟨rfl,g1,g4,g5,g7,g8,g18,g19,g20,g12⟩
   obtain⟨bO,hbO⟩:∃bO,bO=Ze.box 129 [.hg (kt+1)]:=⟨_,rfl⟩
   rw [←hbO]
   show X6 _ _ _ _ _ (M2 H k (X4 t) (J8 out) (JF ts) (L++[bY,bT,X4 t,bO])) _
   refine Zc (fun f H'=>H'=M2 H k (X4 t) (J8 out) (JF ts) (L++[bY,bT,X4 t,bO])∧f 1=.hg k∧f 4=X5 H.length out∧f 5=X9 (H.length+1) ts∧f 7=.bp k1 0∧f 8=.bp kt 0∧f 18=Sm.sl l∧f 19=I l.length∧f 20=I i∧f 12=.bp (kt+2) 0) (by kernel_rfl) ?_ ?_
   ·simp -dsimp [g1,g4,g5,g7,g8,g18,g19,g20,g12]
   clear g g1 g4 g5 g7 g8 g18 g19 g20 g12
   rintro g _ ⟨rfl,g1,g4,g5,g7,g8,g18,g19,g20,g12⟩
   obtain⟨bW,hbW⟩:∃bW,bW=Ze.box 82 [I x.kind,St x.name,St.sl x.names,I e.op,U e.word,St e.name,Ex.sl e.args,I x.a.op,U x.a.word,St x.a.name,Ex.sl x.a.args,Ex.sl x.args,U x.low,U x.high,Sm.sl b,Sm.sl x.els]:=⟨_,rfl⟩
   refine Zc (fun f H'=>KnS (fun t'=>M2 H k (X4 t') (J8 out) (JF ts) (L++[bW,bT,X4 t,bO])) Kb (t.length+Zh x.body) H'∧f 1=.hg k∧f 4=X5 H.length out∧f 5=X9 (H.length+1) ts∧f 7=.bp k1 0∧f 8=.bp kt 0∧f 18=Sm.sl l∧f 19=I l.length∧f 20=I i∧f 12=.bp (kt+2) 0∧f 13=Tm.sl tb) (by kernel_rfl) ?_ ?_
   ·simp -dsimp [g1,g4,g5,g7,g8,g18,g19,g20,g12,gX,hbY]
    rw [←hbY]
    refine ZA (c1 _) ?_
    rintro r M' ⟨rfl,t',hK',ht',rfl⟩
    rw [sC]
    simp -dsimp [g1,g4,g5,g7,g8,g18,g19,g20,g12,gX,sX,hbY]
    rw [←hbW]
    exact⟨t',rfl,hK',ht'⟩
   clear g g1 g4 g5 g7 g8 g18 g19 g20 g12 hKG
   rintro g _ ⟨⟨t1,rfl,hKb,ht1⟩,g1,g4,g5,g7,g8,g18,g19,g20,g12,g13⟩
   obtain⟨bZ,hbZ⟩:∃bZ,bZ=Ze.box 82 [I x.kind,St x.name,St.sl x.names,I e.op,U e.word,St e.name,Ex.sl e.args,I x.a.op,U x.a.word,St x.a.name,Ex.sl x.a.args,Ex.sl x.args,U x.low,U x.high,Sm.sl b,Sm.sl el]:=⟨_,rfl⟩
   refine Zc (fun f H'=>KnS (fun u=>M2 H k (X4 t1) (J8 out) (JF ts) (L++[bZ,bT,X4 u,bO])) Ke (t.length+Zh x.els) H'∧f 1=.hg k∧f 4=X5 H.length out∧f 5=X9 (H.length+1) ts∧f 7=.bp k1 0∧f 8=.bp kt 0∧f 18=Sm.sl l∧f 19=I l.length∧f 20=I i∧f 12=.bp (kt+2) 0∧f 13=Tm.sl tb∧f 14=Tm.sl te) (by kernel_rfl) ?_ ?_
   ·have gBO:=gB (X4 t1) (J8 out) (JF ts) bW bT (X4 t) bO []
    rw [hbO] at gBO
    simp -dsimp [g1,g4,g5,g7,g8,g18,g19,g20,g12,g13,gX,gB,hbW,hbO]
    rw [←hbW,←hbO]
    refine ZA (c2 _ _ _ _) ?_
    rintro r M' ⟨rfl,u,hK',hu',rfl⟩
    rw [sA]
    simp -dsimp [g1,g4,g5,g7,g8,g18,g19,g20,g12,g13,gX,sX,hbW]
    rw [←hbZ]
    exact⟨u,rfl,hK',hu'⟩
   clear g g1 g4 g5 g7 g8 g18 g19 g20 g12 g13
   rintro g _ ⟨⟨u,rfl,hKe,hu1⟩,g1,g4,g5,g7,g8,g18,g19,g20,g12,g13,g14⟩
   have cd:=Zto (H:=M2 H k (X4 t1) (J8 out) (JF ts) (L++[bZ,bT,X4 u,bO])) (ka:=k) (jb:=kt+2) (kb:=kt+1) (by omega) (by omega) (gC _ _ _ _) (by rw [gB,hbO]) (gA _ _ _ _ _ _ _) hKb hKe (by omega)
   refine Zc (fun f H'=>KnS (fun t'=>M2 H k (X4 t') (J8 out) (JF ts) (L++[bZ,bT,X4 u,bO])) (Ze9 Kb Ke) t1.length H'∧f 1=.hg k∧f 4=X5 H.length out∧f 5=X9 (H.length+1) ts∧f 7=.bp k1 0∧f 8=.bp kt 0∧f 18=Sm.sl l∧f 19=I l.length∧f 20=I i∧f 13=Tm.sl tb∧f 14=Tm.sl te) (by kernel_rfl) ?_ ?_
   ·simp -dsimp [g1,g4,g5,g7,g8,g18,g19,g20,g12,g13,g14]
    refine ZA cd ?_
    rintro r M' ⟨rfl,t3,rfl,hK3,ht3⟩
    rw [sC]
    simp -dsimp [g1,g4,g5,g7,g8,g18,g19,g20,g13,g14]
    exact⟨t3,rfl,hK3,ht3⟩
   clear g g1 g4 g5 g7 g8 g18 g19 g20 g12 g13 g14 cd
   rintro g _ ⟨⟨t3,rfl,hK3,ht3⟩,g1,g4,g5,g7,g8,g18,g19,g20,g13,g14⟩
   refine Zk (by kernel_rfl) ?_
   simp -dsimp [g1,g4,g5,g7,g8,g18,g19,g20,g13,g14,gT,sT,hbT]
   refine⟨Sm.mk x.kind x.name x.names e x.a x.args x.low x.high b el,Ztf tb te,t3,_,[X4 u,bO],by rw [hbZ,Sm.cells_eq];rfl,?_,by rw [hfe],by rw [hfe];rfl,by rw [hfe];exact hK3,by omega⟩
   rw [Ztf,Tm.cells_eq]
   exact .cons (.refl _) (.cons (.nil 1) (.cons (.refl _) (.cons (.refl _) .nil)))
  rw [if_neg h3] at hfe
  refine YM (by kernel_rfl) (by show g 59=_;rw [g59];simp [h3]) ?_
  refine Zc (fun f H'=>H'=M2 H k (X4 t) (J8 out) (JF ts) (L++[bX,bT])∧f 1=.hg k∧f 4=X5 H.length out∧f 5=X9 (H.length+1) ts∧f 7=.bp k1 0∧f 8=.bp kt 0∧f 18=Sm.sl l∧f 19=I l.length∧f 20=I i∧f 122=Bo (x.kind==4)) (by kernel_rfl) ?_ ?_
  ·simp -dsimp [g1,g4,g5,g7,g8,g18,g19,g20,g26]
  clear g g1 g4 g5 g7 g8 g18 g19 g20 g26 g59
  rintro g _ ⟨rfl,g1,g4,g5,g7,g8,g18,g19,g20,g122⟩
  by_cases h4:x.kind=4
  ·rw [if_pos h4] at hfe
   refine YP (by kernel_rfl) (by show g 122=_;rw [g122];simp [h4]) ?_
   obtain⟨S,hS⟩:∃S,S=Zah x.body:=⟨_,rfl⟩
   have hSl:S.length≤Zh x.body:=by rw [hS];exact ZdW x.body
   have hK2:=hKG.dels S
   have ht2:=ZoB S t
   have cs:=fun M=>Zqd x.body (by omega) M
   rw [←hS] at cs
   rw [hS,Zis,←hS] at hK2
   obtain⟨K2,hK2e⟩:∃K2,K2=Zai K (ZP x.body):=⟨_,rfl⟩
   rw [←hK2e] at hK2 hfe
   have gS:=fun j=>gC (X4 (Ze7 (S.take j) t)) (J8 out) (JF ts) (L++[bX,bT])
   refine Z4 (fun f H'=>H'=M2 H k (X4 (Ze7 S t)) (J8 out) (JF ts) (L++[bX,bT])∧f 1=.hg k∧f 4=X5 H.length out∧f 5=X9 (H.length+1) ts∧f 7=.bp k1 0∧f 8=.bp kt 0∧f 18=Sm.sl l∧f 19=I l.length∧f 20=I i) ?_ ?_
   ·refine Zc (fun f H'=>H'=M2 H k (X4 t) (J8 out) (JF ts) (L++[bX,bT])∧f 1=.hg k∧f 4=X5 H.length out∧f 5=X9 (H.length+1) ts∧f 7=.bp k1 0∧f 8=.bp kt 0∧f 18=Sm.sl l∧f 19=I l.length∧f 20=I i∧f 126=St.sl S∧f 127=I S.length∧f 128=I 0) (by kernel_rfl) ?_ ?_
    ·simp -dsimp [g1,g4,g5,g7,g8,g18,g19,g20,gX,hbX]
     refine Za (cs _) ?_
     simp -dsimp [g1,g4,g5,g7,g8,g18,g19,g20]
    clear g g1 g4 g5 g7 g8 g18 g19 g20 g122
    rintro g _ ⟨rfl,g1,g4,g5,g7,g8,g18,g19,g20,g126,g127,g128⟩
    refine Zk (by kernel_rfl) ?_
    simp -dsimp [g1,g4,g5,g7,g8,g18,g19,g20,g126,g127,g128]
    refine Zv (fun (j:Nat) f H'=>H'=M2 H k (X4 (Ze7 (S.take j) t)) (J8 out) (JF ts) (L++[bX,bT])∧f 1=.hg k∧f 4=X5 H.length out∧f 5=X9 (H.length+1) ts∧f 7=.bp k1 0∧f 8=.bp kt 0∧f 18=Sm.sl l∧f 19=I l.length∧f 20=I i∧f 126=St.sl S∧f 127=I S.length∧f 128=I j∧j≤S.length) (fun j=>S.length-j) (by kernel_rfl) 0 (by simp [g1,g4,g5,g7,g8,g18,g19,g20,g126,g127,g128,Ze7]) ?_
    clear g g1 g4 g5 g7 g8 g18 g19 g20 g126 g127 g128
    rintro j g _ ⟨rfl,g1,g4,g5,g7,g8,g18,g19,g20,g126,g127,g128,hj⟩
    simp -dsimp [g1,g4,g5,g7,g8,g18,g19,g20,g126,g127,g128]
    refine Zb (fun hlt2=>?_) (fun hlt2=>?_)
    ·have hlt3:j<S.length:=by omega
     have hT:=ZmS hlt3 t
     have hn:=List.getElem?_eq_getElem hlt3
     obtain⟨n,hne⟩:∃n,n=S[j]:=⟨_,rfl⟩
     rw [←hne] at hn hT
     simp -dsimp [g1,g4,g5,g7,g8,g18,g19,g20,g126,g127,g128,hn,gS,sC,ZhF]
     exact⟨j+1,by omega,by rw [hT],ZC (by omega),by omega⟩
    ·have hall:S.take j=S:=List.take_of_length_le (by omega)
     rw [hall]
     simp -dsimp [g1,g4,g5,g7,g8,g18,g19,g20]
   clear g g1 g4 g5 g7 g8 g18 g19 g20 g122 gS
   rintro g _ ⟨rfl,g1,g4,g5,g7,g8,g18,g19,g20⟩
   obtain⟨t2,ht2e⟩:∃t2,t2=Ze7 S t:=⟨_,rfl⟩
   rw [←ht2e] at hK2 ht2 ⊢
   clear ht2e hK2e cs hS
   have cE:=ce K2 t2 hK2
   obtain⟨e,he⟩:∃e,e=x.e.fold K2:=⟨_,rfl⟩
   rw [←he] at hfe cE
   clear ce he
   obtain⟨bY,hbY⟩:∃bY,bY=Ze.box 82 [I x.kind,St x.name,St.sl x.names,I e.op,U e.word,St e.name,Ex.sl e.args,I x.a.op,U x.a.word,St x.a.name,Ex.sl x.a.args,Ex.sl x.args,U x.low,U x.high,Sm.sl x.body,Sm.sl x.els]:=⟨_,rfl⟩
   refine Zc (fun f H'=>H'=M2 H k (X4 t2) (J8 out) (JF ts) (L++[bY,bT])∧f 1=.hg k∧f 4=X5 H.length out∧f 5=X9 (H.length+1) ts∧f 7=.bp k1 0∧f 8=.bp kt 0∧f 18=Sm.sl l∧f 19=I l.length∧f 20=I i) (by kernel_rfl) ?_ ?_
   ·simp -dsimp [g1,g4,g5,g7,g8,g18,g19,g20,gX,sX,hbX,hbY]
    refine Za (cE _) ?_
    simp -dsimp [g1,g4,g5,g7,g8,g18,g19,g20,gX,sX,hbX,hbY]
   clear g g1 g4 g5 g7 g8 g18 g19 g20
   rintro g _ ⟨rfl,g1,g4,g5,g7,g8,g18,g19,g20⟩
   obtain⟨b,tb,Kb,hRb⟩:∃b tb Kb,(b,tb,Kb)=ZB x.body K2:=⟨_,_,_,rfl⟩
   have c1:=fun X b y R=>ih x.body K2 t2 (by omega) (by omega) hsub hK2 (by omega) (M2 H k X (J8 out) (JF ts) (L++b::y::X4 t2::R)) (kt+1) (gA _ _ _ _ _ _ _)
   rw [←hRb] at hfe c1
   clear hRb
   have ck:Zi Tryz.prog 113 [.hg k] (M2 H k (X4 t2) (J8 out) (JF ts) (L++[bY,bT])) (fun e H'=>e=.ret (.hg (kt+1))∧H'=M2 H k (X4 t2) (J8 out) (JF ts) (L++[bY,bT,X4 t2])):=by
    have:=Zjw (Yg kA t2) k _ (gC (X4 t2) (J8 out) (JF ts) (L++[bY,bT]))
    rw [lenA,ZhK,List.append_assoc] at this
    exact this
   refine Zc (fun f H'=>H'=M2 H k (X4 t2) (J8 out) (JF ts) (L++[bY,bT])∧f 1=.hg k∧f 4=X5 H.length out∧f 5=X9 (H.length+1) ts∧f 7=.bp k1 0∧f 8=.bp kt 0∧f 18=Sm.sl l∧f 19=I l.length∧f 20=I i∧f 17=Yp) (by kernel_rfl) ?_ ?_
   ·simp -dsimp [g1,g4,g5,g7,g8,g18,g19,g20]
   clear g g1 g4 g5 g7 g8 g18 g19 g20
   rintro g _ ⟨rfl,g1,g4,g5,g7,g8,g18,g19,g20,g17⟩
   obtain⟨bW,hbW⟩:∃bW,bW=Ze.box 82 [I x.kind,St x.name,St.sl x.names,I e.op,U e.word,St e.name,Ex.sl e.args,I x.a.op,U x.a.word,St x.a.name,Ex.sl x.a.args,Ex.sl x.args,U x.low,U x.high,Sm.sl b,Sm.sl x.els]:=⟨_,rfl⟩
   refine J2 (fun d=>d==144||d==145) (fun i=>if i=36 then some [(0,[]),(1,[]),(2,[]),(3,[0,1]),(4,[]),(5,[]),(6,[]),(7,[]),(8,[]),(9,[]),(10,[])] else none) (fun f H'=>KnS (fun u=>M2 H k (X4 t2) (J8 out) (JF ts) (L++[bW,bT,X4 u])) Kb (t2.length+Zh x.body) H'∧f 1=.hg k∧f 4=X5 H.length out∧f 5=X9 (H.length+1) ts∧f 7=.bp k1 0∧f 8=.bp kt 0∧f 18=Sm.sl l∧f 19=I l.length∧f 20=I i∧f 17=Tm.sl tb) (by kernel_rfl) ?_ ?_
   ·simp -dsimp [g1,g4,g5,g7,g8,g18,g19,g20,g17,gX,hbY]
    rw [←hbY]
    refine ZA ck ?_
    rintro r M' ⟨rfl,rfl⟩
    simp -dsimp [g1,g4,g5,g7,g8,g18,g19,g20,gX,hbY]
    rw [←hbY]
    refine ZA (c1 _ _ _ _) ?_
    rintro r M' ⟨rfl,u,hK',hu',rfl⟩
    rw [sA]
    simp -dsimp [g1,g4,g5,g7,g8,g18,g19,g20,gX,sX,hbY]
    rw [←hbW]
    exact⟨u,rfl,hK',hu'⟩
   clear g g1 g4 g5 g7 g8 g18 g19 g20 g17
   rintro g _ ⟨⟨u,rfl,hKb,hu1⟩,g1,g4,g5,g7,g8,g18,g19,g20,g17⟩
   refine Zk (by kernel_rfl) ?_
   simp -dsimp [g1,g4,g5,g7,g8,g18,g19,g20,g17,gT,sT,hbT]
   refine⟨Sm.mk x.kind x.name x.names e x.a x.args x.low x.high b x.els,ZkY tb,t2,_,[X4 u],by rw [hbW,Sm.cells_eq];rfl,?_,by rw [hfe],by rw [hfe];rfl,by rw [hfe];exact hK2,by omega⟩
   rw [ZkY,Tm.cells_eq]
   exact .cons (.refl _) (.cons (.nil 1) (.cons (.refl _) (.cons (.refl _) .nil)))
  rw [if_neg h4] at hfe
  refine YM (by kernel_rfl) (by show g 122=_;rw [g122];simp [h4]) ?_
  refine Zk (by kernel_rfl) ?_
  simp -dsimp [g1,g4,g5,g7,g8,g18,g19,g20]
  exact⟨x,ZaN,t,[I 1,Yp,Bo false,Yp],[],by rw [hbT,hbX,Sm.cells_eq],by rw [Tm.cells_eq];exact .cons (.refl _) (.cons (.nil 1) (.cons (.refl _) (.cons (.nil 1) .nil))),by rw [hfe],by rw [hfe],by rw [hfe];exact hKG,by omega⟩
end Go.Proofs
