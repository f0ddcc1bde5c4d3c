import Derived.Shelf.SlMaps.Clone
import Derived.Test.YtpibcbilkpoomaaGreatm21
import Derived.Test.YtpibcbilkpoomaaGreatm23
set_option linter.all false
set_option maxHeartbeats 4000000
set_option maxRecDepth 100000
namespace Go.Proofs
open Go.Mu
theorem ZkK (b:Nat) (es:Array MapEntry) (clock:Nat) (w:World) (hb:w.heap[b]?=some (.map es clock)):
 Calls Tryz.prog 113 #[.map (some b)] w fun e w'=>e=.returned (.map (some w.heap.size))∧w'=w.alloc (.map es clock):=by
 have hq:=fun w=>run_eql_map_nil_sl (P:=Tryz.prog) w 129 _ _ (some b) Tryz.underlying129
 go_enter Tryz.func113,Tryz.ntmps113
 go_wp2
 rw [run_callFunc_extern Tryz.func187 (by kernel_rfl) (by kernel_rfl) (by kernel_rfl) (e:=Extern.MapsClone.clone) (by kernel_rfl),run_maps_clone_sl w 129 hb]
 simp only [Result.andThen]
 rw [Oper.upon_value]
 go_wp2
 rw [run_typeAssert_map_sl _ 129 _ _ _ _ Tryz.underlying129]
 simp only [Result.andThen]
 rw [Oper.upon_value]
 go_wp2
 go_ret
 exact⟨rfl,rfl⟩
theorem Zjw (es:List (Value×AV)) (k:Nat) (H:List Ze) (hk:H[k]?=some (.mapg es)):Zi Tryz.prog 113 [.hg k] H (fun e H'=>e=.ret (.hg H.length)∧H'=H++[.mapg es]):=by
 intro B w0 cx vals hR hH hA
 subst hH
 obtain⟨v1,vs1,rfl,r1,hA1⟩:=hA.cons_inv
 obtain rfl:=hA1.nil_inv
 obtain⟨b1,b2,ents,c,b3,b4,b5,b6⟩:=hR.blk k _ hk
 cases r1 with
 |hg _ bl hk' hf=>
  refine (ZkK (cx.κ k) ents.toArray c cx.w b3).mono ?_
  rintro e w' ⟨rfl,rfl⟩
  have hle:=X0 cx (.map ents.toArray c) (.mapg es) 0
  have hp:Yl B w0 (cx.push (.map ents.toArray c) (.mapg es) 0):=by
   refine Zbi hR _ _ _ ⟨?_,?_,ents,c,?_,b4,fun j p e a b=>?_,b6⟩
   ·show B≤Zaj _ _ _ _;simp;exact hR.base
   ·show ¬ cx.Φ (Zaj _ _ _ _);simp;exact fun hf=>Nat.lt_irrefl _ (hR.frz _ hf)
   ·show (cx.w.alloc _).heap[Zaj _ _ _ _]?=_;simp only [Yu];exact heap_alloc_new _ _
   ·obtain⟨c1,c2⟩:=b5 j p e a b;exact⟨c1,c2.mono hle⟩
  refine⟨_,.hg cx.H.length,rfl,hp,hle,?_,rfl,rfl⟩
  have e:(cx.push (.map ents.toArray c) (.mapg es) 0).κ cx.H.length=cx.w.heap.size:=Yu _ _ _
  rw [←e]
  exact .hg _ (.mapg es) (by simp [Cx.push]) rfl
theorem Zx2 {u:ByteArray→Option Int} {W:World} {bk:Nat} {ents:List MapEntry} {c:Nat} (h2:W.heap[bk]?=some (.map ents.toArray c)) (hf:ZnU u ents) (n:ByteArray):
 (Instr.lookup 129 (.map (some bk)) (.string n) true).run Tryz.prog W=.ok (.tuple #[.int .u64 ((u n).getD 0),.bool (u n).isSome]) W:=by
 have hu:Tryz.prog.underlying 129=some (.map 9 48):=Tryz.underlying129
 have hk:Tryz.prog.underlying 9=some .string:=Tryz.underlying9
 have hz:Jq Tryz.prog 48=some (.int .u64 0):=by simp
 have hck:=JJ (P:=Tryz.prog) hk (.inr (.inl rfl)) ents.toArray.isEmpty (.string n) W
 rcases hf n with ⟨e1,e2⟩|⟨a,i,e1,e2⟩
 ·have hfk:(Instr.findKey 9 (.string n) ents).run Tryz.prog W=.ok none W:=by simp [Instr.findKey,run_underlying hk,e2]
  simp only [Instr.lookup,Sem.run_bind,run_underlying hu,Result.andThen_ok,Mu.run_getObj_map Tryz.prog h2,Sem.run_pure,hck,hfk,List.toList_toArray,XU hz,e1]
  rfl
 ·have hfk:(Instr.findKey 9 (.string n) ents).run Tryz.prog W=.ok (some (i,.int .u64 a)) W:=by simp [Instr.findKey,run_underlying hk,e2]
  simp only [Instr.lookup,Sem.run_bind,run_underlying hu,Result.andThen_ok,Mu.run_getObj_map Tryz.prog h2,Sem.run_pure,hck,hfk,List.toList_toArray,e1]
  rfl
theorem Zrr (u:ByteArray→Option Int):Zug Tryz.prog 115 129 u:=by
 intro W n x bj bk ents c h1 h2 hf
 have hx:W.cell? ⟨bj,0,none⟩=some (.map (some bk)):=cell_of_row _ _ _ _ _ _ h1
 have hl:=Zx2 h2 hf n
 cases hun:u n with
 |none=>
  rw [hun] at hl
  simp only [Option.getD_none,Option.isSome_none] at hl
  go_enter Tryz.func115,Tryz.ntmps115
  go_wp2
  go_ret
  exact⟨rfl,rfl,rfl,rfl,Nat.le_refl _,fun _ _ _=>rfl⟩
 |some a=>
  rw [hun] at hl
  simp only [Option.getD_some,Option.isSome_some] at hl
  go_enter Tryz.func115,Tryz.ntmps115
  go_wp2
  go_ret
  refine⟨?_,rfl,rfl,rfl,Nat.le_refl _,fun _ _ _=>rfl⟩
  show Ending.returned (.bool (a != x))=_
  congr 2
  by_cases h:a=x
  ·subst h;simp
  ·simp [h]
structure KG (K:YQ) (t:KL):Prop where
 nd:(t.map (·.1)).Nodup
 look:∀n,Yq n t=K n
 size:∀x∈t,x.1.size≤maxLen
theorem Zeg:∀ {t:KL} {n:ByteArray} {x:Int},(t.map (·.1)).Nodup→(Yq n t=some x↔(n,x)∈t)
 |[],n,x,_=>by simp [Yq]
 |(m,y)::t,n,x,hn=>by
  simp only [List.map_cons,List.nodup_cons] at hn
  rw [Yq]
  by_cases h:n=m
  ·subst h
   rw [if_pos rfl,List.mem_cons,Option.some.injEq,Prod.mk.injEq]
   constructor
   ·rintro rfl;exact .inl ⟨rfl,rfl⟩
   ·rintro (⟨_,rfl⟩|h)
    ·rfl
    ·exact absurd (List.mem_map.2 ⟨_,h,rfl⟩) hn.1
  ·rw [if_neg h,Zeg hn.2,List.mem_cons,Prod.mk.injEq]
   constructor
   ·exact .inr
   ·rintro (⟨rfl,_⟩|h2)
    ·exact absurd rfl h
    ·exact h2
theorem ZjN {t:KL} (h:(t.map (·.1)).Nodup):t.Nodup:=by
 rw [List.Nodup,List.pairwise_map] at h
 exact h.imp fun h e=>h (by rw [e])
theorem KG.both {K U:YQ} {t ut t':KL} (hk:KG K t) (hu:KG U ut) (hn:(t'.map (·.1)).Nodup) (hm:∀x,x∈t'↔x∈t∧U x.1=some x.2):KG (Ze9 K U) t'∧t'.length≤t.length:=by
 refine⟨⟨hn,fun n=>?_,fun x hx=>hk.size x ((hm x).1 hx).1⟩,?_⟩
 ·unfold Ze9
  have key:∀x,Yq n t'=some x↔K n=some x∧U n=some x:=fun x=>by
   rw [Zeg hn,hm,←Zeg hk.nd,hk.look]
  split
  ·rename_i e
   cases hK:K n with
   |none=>
    cases ha:Yq n t' with
    |none=>rfl
    |some x=>have:=((key x).1 ha).1;rw [hK] at this;cases this
   |some x=>exact (key x).2 ⟨hK,by rw [←e];exact hK⟩
  ·rename_i e
   cases ha:Yq n t' with
   |none=>rfl
   |some x=>have:=(key x).1 ha;exact absurd (this.1.trans this.2.symm) e
 ·have:t'.Perm (t.filter fun x=>decide (U x.1=some x.2)):=by
   refine (List.perm_ext_iff_of_nodup (ZjN hn) ((ZjN hk.nd).filter _)).2 fun x=>?_
   rw [hm,List.mem_filter,decide_eq_true_eq]
  rw [this.length_eq]
  exact List.length_filter_le _ _
theorem Zto {K U:YQ} {t ut:KL} {H:List Ze} {ka jb kb:Nat} (h1:ka≠jb) (h2:ka≠kb) (hka:H[ka]?=some (.mapg (Yg kA t))) (hjb:H[jb]?=some (.box 129 [.hg kb])) (hkb:H[kb]?=some (.mapg (Yg kA ut)))
 (hk:KG K t) (hu:KG U ut) (hl:t.length≤2^40):Zi Tryz.prog 114 [.hg ka,.fn (.func 115) [] [.bp jb 0]] H (fun e H'=>e=.ret (.tup [])∧∃t',H'=H.set ka (.mapg (Yg kA t'))∧KG (Ze9 K U) t'∧t'.length≤t.length):=by
 refine (Zf2 Tryz.delU Tryz.underlying9 (enters_of Tryz.func115 (by kernel_rfl) rfl) (Zrr U) h1 h2 hka hjb hkb (fun n=>?_) hk.nd hk.size (by unfold maxLen;omega)).mono ?_
 ·have:=Zaf kA n ut
  rw [hu.look] at this
  exact this
 ·rintro e H' ⟨rfl,t',rfl,hn,hm⟩
  obtain⟨a,b⟩:=hk.both hu hn hm
  exact⟨rfl,t',rfl,a,b⟩
end Go.Proofs
