import Derived.Test.YtpibcbilkpoomaaGreatm12
set_option linter.all false
set_option maxHeartbeats 4000000
set_option maxRecDepth 100000
namespace Go.Proofs
open Go.Mu
theorem Zng (l:List Vr) (p:Vr→Bool) (g:FuncId) (cap:List AV) (hok:ZL Tryz.prog g=true) (hl:l.length≤2^40) (H:List Ze) (hg:∀x∈l,Zi Tryz.prog g (.agg x.cells::cap) H (fun e H'=>e=.ret (Bo (p x))∧H'=H)):
 Zi Tryz.prog 234 [.vs 4 (l.map fun x=>x.cells),.fn (.func g) [] cap] H (fun e H'=>e=.ret (I (JC p l 0))∧H'=H):=by
 refine Zf (Zg Tryz.func234 rfl (by kernel_rfl) ?_)
 simp -dsimp
 refine Zv (fun (i:Nat) f H'=>H'=H∧f 0=.vs 4 (l.map fun x=>x.cells)∧f 1=.fn (.func g) [] cap∧f 7=I l.length∧f 8=I i∧i≤l.length∧JC p (l.drop i) i=JC p l 0) (fun i=>l.length-i) (by kernel_rfl) 0 (by simp) ?_
 rintro i f H' ⟨rfl,h0,h1,h7,h8,hi,hinv⟩
 simp -dsimp [h0,h1,h7,h8]
 refine Zb (fun hlt=>?_) (fun hlt=>?_)
 ·rw [Zo hlt,JC] at hinv
  have hx:=hg l[i] (List.getElem_mem hlt)
  try simp only [Vr.cells,Fc.cells] at hx
  simp -dsimp [h0,h1,h7,h8,List.getElem?_eq_getElem,hlt,hok]
  refine Za hx ?_
  simp -dsimp
  refine Z3 (fun hp=>?_) (fun hp=>?_)
  ·simp -dsimp
   rw [if_pos hp] at hinv
   exact Z7 rfl ⟨by rw [hinv],rfl⟩
  ·simp -dsimp [h0,h1,h7,h8]
   rw [if_neg (by simp [hp])] at hinv
   exact⟨i+1,by omega,ZC (by omega),by omega,by simpa using hinv⟩
 ·simp -dsimp
  rw [ZI hlt,JC] at hinv
  exact Z7 rfl ⟨by rw [hinv],rfl⟩
theorem Zja (l:List Vr) (p:Vr→Bool) (g:FuncId) (cap:List AV) (hok:ZL Tryz.prog g=true) (hl:l.length≤2^40) (H:List Ze) (hg:∀x∈l,Zi Tryz.prog g (.agg x.cells::cap) H (fun e H'=>e=.ret (Bo (p x))∧H'=H)):
 Zi Tryz.prog 184 [.vs 4 (l.map fun x=>x.cells),.fn (.func g) [] cap] H (fun e H'=>e=.ret (Bo (l.any p))∧H'=H):=by
 refine Zf (Zg Tryz.func184 rfl (by kernel_rfl) ?_)
 simp -dsimp
 refine Za (Zng l p g cap hok hl _ hg) ?_
 simp -dsimp
 exact Z7 rfl ⟨by rw [ZbW _ _ _ (Int.le_refl 0)],rfl⟩
theorem Zm3 (l:List Fc) (p:Fc→Bool) (g:FuncId) (cap:List AV) (hok:ZL Tryz.prog g=true) (hl:l.length≤2^40) (H:List Ze) (hg:∀x∈l,Zi Tryz.prog g (.agg x.cells::cap) H (fun e H'=>e=.ret (Bo (p x))∧H'=H)):
 Zi Tryz.prog 193 [.vs 5 (l.map fun x=>x.cells),.fn (.func g) [] cap] H (fun e H'=>e=.ret (I (JC p l 0))∧H'=H):=by
 refine Zf (Zg Tryz.func193 rfl (by kernel_rfl) ?_)
 simp -dsimp
 refine Zv (fun (i:Nat) f H'=>H'=H∧f 0=.vs 5 (l.map fun x=>x.cells)∧f 1=.fn (.func g) [] cap∧f 7=I l.length∧f 8=I i∧i≤l.length∧JC p (l.drop i) i=JC p l 0) (fun i=>l.length-i) (by kernel_rfl) 0 (by simp) ?_
 rintro i f H' ⟨rfl,h0,h1,h7,h8,hi,hinv⟩
 simp -dsimp [h0,h1,h7,h8]
 refine Zb (fun hlt=>?_) (fun hlt=>?_)
 ·rw [Zo hlt,JC] at hinv
  have hx:=hg l[i] (List.getElem_mem hlt)
  try simp only [Vr.cells,Fc.cells] at hx
  simp -dsimp [h0,h1,h7,h8,List.getElem?_eq_getElem,hlt,hok]
  refine Za hx ?_
  simp -dsimp
  refine Z3 (fun hp=>?_) (fun hp=>?_)
  ·simp -dsimp
   rw [if_pos hp] at hinv
   exact Z7 rfl ⟨by rw [hinv],rfl⟩
  ·simp -dsimp [h0,h1,h7,h8]
   rw [if_neg (by simp [hp])] at hinv
   exact⟨i+1,by omega,ZC (by omega),by omega,by simpa using hinv⟩
 ·simp -dsimp
  rw [ZI hlt,JC] at hinv
  exact Z7 rfl ⟨by rw [hinv],rfl⟩
theorem ZmR (l:List Int) (s:Int) (hl:l.length≤2^40) (H:List Ze):Zi Tryz.prog 251 [.vs 1 (l.map fun x=>[I x]),I s] H (fun e H'=>e=.ret (I (JC (fun x=>decide (s=x)) l 0))∧H'=H):=by
 refine Zf (Zg Tryz.func251 rfl (by kernel_rfl) ?_)
 simp -dsimp
 refine Zv (fun (i:Nat) f H'=>H'=H∧f 0=.vs 1 (l.map fun x=>[I x])∧f 1=I s∧f 7=I l.length∧f 8=I i∧i≤l.length∧JC (fun x=>decide (s=x)) (l.drop i) i=JC (fun x=>decide (s=x)) l 0) (fun i=>l.length-i) (by kernel_rfl) 0 (by simp) ?_
 rintro i f H' ⟨rfl,h0,h1,h7,h8,hi,hinv⟩
 simp -dsimp [h0,h1,h7,h8]
 refine Zb (fun hlt=>?_) (fun hlt=>?_)
 ·rw [Zo hlt,JC] at hinv
  simp -dsimp [h0,h1,h7,h8,List.getElem?_eq_getElem,hlt]
  refine ZiH (fun hp=>?_) (fun hp=>?_)
  ·simp -dsimp
   rw [if_pos (by simpa using hp)] at hinv
   exact Z7 rfl ⟨by rw [hinv],rfl⟩
  ·simp -dsimp [h0,h1,h7,h8]
   rw [if_neg (by simpa using hp)] at hinv
   exact⟨i+1,by omega,ZC (by omega),by omega,by simpa using hinv⟩
 ·simp -dsimp
  rw [ZI hlt,JC] at hinv
  exact Z7 rfl ⟨by rw [hinv],rfl⟩
theorem ZiT (l:List Int) (s:Int) (hl:l.length≤2^40) (H:List Ze):Zi Tryz.prog 230 [.vs 1 (l.map fun x=>[I x]),I s] H (fun e H'=>e=.ret (Bo (l.any fun x=>decide (s=x)))∧H'=H):=by
 refine Zf (Zg Tryz.func230 rfl (by kernel_rfl) ?_)
 simp -dsimp
 refine Za (ZmR l s hl _) ?_
 simp -dsimp
 exact Z7 rfl ⟨by rw [ZbW _ _ _ (Int.le_refl 0)],rfl⟩
abbrev Zyy (t:TypeId) (e:Int):AV:=.ifc t (.agg [I e])
abbrev Zal (e:Int):AV:=Zyy 233 e
def Zr5 (e:Int):AE:=if e=0 then .ret (.tup []) else .pan (Zal e)
def XO (e:Int) (H:List Ze):AE→List Ze→Prop:=fun x H'=>x=Zr5 e∧H'=H
theorem Zsn (b:Bool) (e:Int) (he:e≠0) (H:List Ze):Zi Tryz.prog 173 [Bo b,I e] H (XO (ZM b e) H):=by
 refine Zf (Zg Tryz.func173 rfl (by kernel_rfl) ?_)
 cases b
 ·simp -dsimp
  exact Zj0 rfl ⟨by simp [Zr5,he],rfl⟩
 ·simp -dsimp
  exact Z7 rfl ⟨rfl,rfl⟩
end Go.Proofs
namespace Go.Proofs
open Go.Mu
theorem Zb6 {g:FuncId} {args:List AV} {H:List Ze} {R:AE→List Ze→Prop} {w:ZQ R} {e:Int} (h:Zi Tryz.prog g args H (XO e H)) (hz:e=0→R (.ret (.tup [])) H) (hn:e≠0→R (.pan (Zal e)) H):X2 Tryz.prog g args H R w:=by
 refine ZA h ?_
 rintro x H' ⟨rfl,rfl⟩
 unfold Zr5
 split
 ·rename_i h;exact hz h
 ·rename_i h;exact hn h
theorem Zh3 {b:Bool} {e:Int} {H:List Ze} {R:AE→List Ze→Prop} {w:ZQ R} (he:e≠0) (hz:b=true→R (.ret (.tup [])) H) (hn:b=false→R (.pan (Zal e)) H):X2 Tryz.prog 173 [Bo b,I e] H R w:=by
 refine Zb6 (Zsn b e he H) (fun h=>hz ?_) (fun h=>?_)
 ·cases b
  ·exact absurd h he
  ·rfl
 ·cases b
  ·exact hn rfl
  ·exact absurd rfl h
theorem Jl {e:Int} {H:List Ze} {R:AE→List Ze→Prop} {w:ZQ R} (h:R (.ret (.tup [])) H) (he:e≠0:=by decide):X2 Tryz.prog 173 [Bo true,I e] H R w:=Zh3 he (fun _=>h) (fun h=>by cases h)
theorem Jg {e:Int} {H:List Ze} {R:AE→List Ze→Prop} {w:ZQ R} (h:R (.pan (Zal e)) H) (he:e≠0:=by decide):X2 Tryz.prog 173 [Bo false,I e] H R w:=Zh3 he (fun h=>by cases h) (fun _=>h)
theorem Jf {p:Prop} [Decidable p] {e:Int} {H:List Ze} {R:AE→List Ze→Prop} {w:ZQ R} (hz:p→R (.ret (.tup [])) H) (hn: ¬p→R (.pan (Zal e)) H) (he:e≠0:=by decide):X2 Tryz.prog 173 [Bo (decide p),I e] H R w:=Zh3 he (fun h=>hz (of_decide_eq_true h)) (fun h=>hn (of_decide_eq_false h))
theorem Jr {a b:Int} {e:Int} {H:List Ze} {R:AE→List Ze→Prop} {w:ZQ R} (hz:a=b→R (.ret (.tup [])) H) (hn:a≠b→(a==b)=false→(a != b)=true→R (.pan (Zal e)) H) (he:e≠0:=by decide):X2 Tryz.prog 173 [Bo (a==b),I e] H R w:=Zh3 he (fun h=>hz (by simpa using h)) (fun h=>hn (ZbK h).1 (ZbK h).2.1 (ZbK h).2.2)
theorem YT {a b:Int} {e:Int} {H:List Ze} {R:AE→List Ze→Prop} {w:ZQ R} (hz:a≠b→(a==b)=false→(a != b)=true→R (.ret (.tup [])) H) (hn:a=b→R (.pan (Zal e)) H) (he:e≠0:=by decide):X2 Tryz.prog 173 [Bo (a != b),I e] H R w:=Zh3 he (fun h=>(fun h=>hz (ZbK h).1 (ZbK h).2.1 (ZbK h).2.2) (by simpa using h)) (fun h=>hn (by simpa using h))
theorem Jb {b:Bool} {e:Int} {H:List Ze} {R:AE→List Ze→Prop} {w:ZQ R} (hz:b=false→R (.ret (.tup [])) H) (hn:b=true→R (.pan (Zal e)) H) (he:e≠0:=by decide):X2 Tryz.prog 173 [Bo (!b),I e] H R w:=Zh3 he (fun h=>hz (by simpa using h)) (fun h=>hn (by simpa using h))
theorem Jj {b:Bool} {e:Int} {H:List Ze} {R:AE→List Ze→Prop} {w:ZQ R} (hz:b=true→R (.ret (.tup [])) H) (hn:b=false→R (.pan (Zal e)) H) (he:e≠0:=by decide):X2 Tryz.prog 173 [Bo b,I e] H R w:=Zh3 he hz hn
theorem Zow {e:Int} (h:e≠0):Zr5 e=.pan (Zal e):=if_neg h
theorem Ji {H L:List Ze} {e:Int} (he:e=0):ZW H (XO e H) (.ret (.tup [])) (H++L):=by
 subst he;exact Z2 rfl ⟨rfl,rfl⟩
theorem YL {H L:List Ze} {e e':Int} (he:e'=e) (h0:e'≠0):ZW H (XO e H) (.pan (Zal e')) (H++L):=by
 subst he;exact ZmP rfl ⟨(Zow h0).symm,rfl⟩
theorem ZhQ {H:List Ze} {e:Int} (he:e=0):ZW H (XO e H) (.ret (.tup [])) H:=by
 subst he;exact Z7 rfl ⟨rfl,rfl⟩
theorem ZeN {H:List Ze} {e e':Int} (he:e'=e) (h0:e'≠0):ZW H (XO e H) (.pan (Zal e')) H:=by
 subst he;exact Zj0 rfl ⟨(Zow h0).symm,rfl⟩
def Zk5:List ByteArray:=[⟨#[114,101,103,105,111,110]⟩,⟨#[115,101,99,114,101,116]⟩,⟨#[102,110]⟩,⟨#[118,97,114]⟩,⟨#[97,114,114,97,121]⟩,⟨#[115,116,97,99,107]⟩,⟨#[105,102]⟩,⟨#[101,108,115,101]⟩,⟨#[119,104,105,108,101]⟩,⟨#[102,111,114]⟩,⟨#[112,105,99,107]⟩]
theorem ZqR (H:List Ze):Zi Tryz.prog 226 [] H (fun e H'=>e=.ret (St.sl Zk5)∧H'=H):=by
 refine Zf (Zg Tryz.func226 rfl (by kernel_rfl) ?_)
 simp -dsimp
 exact Z7 rfl ⟨rfl,rfl⟩
abbrev B8 (b:UInt8):AV:=.v (.int .u8 b.toNat)
theorem Zl0 (l:List UInt8) (p:UInt8→Bool) (g:FuncId) (cap:List AV) (hok:ZL Tryz.prog g=true) (hl:l.length≤2^40) (H:List Ze) (hg:∀x∈l,Zi Tryz.prog g (B8 x::cap) H (fun e H'=>e=.ret (Bo (p x))∧H'=H)):
 Zi Tryz.prog 250 [.vs 1 (l.map fun x=>[B8 x]),.fn (.func g) [] cap] H (fun e H'=>e=.ret (I (JC p l 0))∧H'=H):=by
 refine Zf (Zg Tryz.func250 rfl (by kernel_rfl) ?_)
 simp -dsimp
 refine Zv (fun (i:Nat) f H'=>H'=H∧f 0=.vs 1 (l.map fun x=>[B8 x])∧f 1=.fn (.func g) [] cap∧f 7=I l.length∧f 8=I i∧i≤l.length∧JC p (l.drop i) i=JC p l 0) (fun i=>l.length-i) (by kernel_rfl) 0 (by simp) ?_
 rintro i f H' ⟨rfl,h0,h1,h7,h8,hi,hinv⟩
 simp -dsimp [h0,h1,h7,h8]
 refine Zb (fun hlt=>?_) (fun hlt=>?_)
 ·rw [Zo hlt,JC] at hinv
  have hx:=hg l[i] (List.getElem_mem hlt)
  try simp only [Vr.cells,Fc.cells] at hx
  simp -dsimp [h0,h1,h7,h8,List.getElem?_eq_getElem,hlt,hok]
  refine Za hx ?_
  simp -dsimp
  refine Z3 (fun hp=>?_) (fun hp=>?_)
  ·simp -dsimp
   rw [if_pos hp] at hinv
   exact Z7 rfl ⟨by rw [hinv],rfl⟩
  ·simp -dsimp [h0,h1,h7,h8]
   rw [if_neg (by simp [hp])] at hinv
   exact⟨i+1,by omega,ZC (by omega),by omega,by simpa using hinv⟩
 ·simp -dsimp
  rw [ZI hlt,JC] at hinv
  exact Z7 rfl ⟨by rw [hinv],rfl⟩
theorem Zho (l:List UInt8) (p:UInt8→Bool) (g:FuncId) (cap:List AV) (hok:ZL Tryz.prog g=true) (hl:l.length≤2^40) (H:List Ze) (hg:∀x∈l,Zi Tryz.prog g (B8 x::cap) H (fun e H'=>e=.ret (Bo (p x))∧H'=H)):
 Zi Tryz.prog 227 [.vs 1 (l.map fun x=>[B8 x]),.fn (.func g) [] cap] H (fun e H'=>e=.ret (Bo (l.any p))∧H'=H):=by
 refine Zf (Zg Tryz.func227 rfl (by kernel_rfl) ?_)
 simp -dsimp
 refine Za (Zl0 l p g cap hok hl _ hg) ?_
 simp -dsimp
 exact Z7 rfl ⟨by rw [ZbW _ _ _ (Int.le_refl 0)],rfl⟩
@[simp] theorem Zww (l:List UInt8):ZdN ⟨⟨l⟩⟩=l.map fun b=>[B8 b]:=rfl
@[simp] theorem Zsu (l:List UInt8):(ByteArray.mk ⟨l⟩).size=l.length:=rfl
def ZiB (b:UInt8):Bool:=(decide ((b.toNat:Int)<97)||decide (122<(b.toNat:Int)))&&(decide ((b.toNat:Int)<48)||decide (57<(b.toNat:Int)))&&(b.toNat:Int) != 95
theorem Zu3 (b:UInt8) (H:List Ze):Zi Tryz.prog 228 [B8 b] H (fun e H'=>e=.ret (Bo (ZiB b))∧H'=H):=by
 refine Zf (Zg Tryz.func228 rfl (by kernel_rfl) ?_)
 simp -dsimp
 repeat' ((with_reducible first|refine And.intro ?_ ?_|refine Zm (fun _=>?_) (fun _=>?_)|refine Zn (fun _=>?_) (fun _=>?_)|refine Zb (fun _=>?_) (fun _=>?_)|refine Zr (fun _=>?_) (fun _ _ _=>?_)|refine Zt (fun _=>?_) (fun _ _ _=>?_)|refine Zq (fun _=>?_) (fun _ _ _=>?_)|refine Zs (fun _ _ _=>?_) (fun _=>?_)|refine Zp (fun _ _ _=>?_) (fun _=>?_)|refine Zl (fun _ _ _=>?_) (fun _=>?_)|refine Zz (fun _=>?_) (fun _=>?_)|refine Zy (fun _=>?_) (fun _=>?_)|refine Z6 (fun _=>?_) (fun _=>?_)|refine Zw (fun _=>?_) (fun _=>?_)|refine Zx (fun _=>?_) (fun _=>?_)|refine Z3 (fun _=>?_) (fun _=>?_))<;>simp -dsimp [*])
 all_goals refine Z7 rfl ⟨?_,rfl⟩
 all_goals first|(simp [ZiB, *];done)|trace_state
def ZqD (b:UInt8):Bool:= !(decide ((b.toNat:Int)<97)||decide (122<(b.toNat:Int)))
def XV (s:ByteArray):Bool:=match s.data.toList with
 |[]=>false
 |b::l=>decide (l.length<16)&&ZqD b&& !(Zk5.any fun x=>decide (s=x))&& !((b::l).any ZiB)
theorem ZpW (s:ByteArray) (hs:s.size≤2^40) (H:List Ze):Zi Tryz.prog 177 [St s] H (fun e H'=>e=.ret (Bo (XV s))∧H'=H):=by
 refine Zf (Zg Tryz.func177 rfl (by kernel_rfl) ?_)
 have c:=ZqR
 have d:=fun s H=>ZaI Zk5 s (by decide) H
 obtain⟨⟨l⟩⟩:=s
 have f:=fun H=>Zho l ZiB 228 [] (by simp) (by simp only [Zsu] at hs;omega) H (fun x _=>Zu3 x H)
 cases l with
 |nil=>
  simp -dsimp
  exact Z7 rfl ⟨rfl,rfl⟩
 |cons b l=>
  simp only [List.map_cons] at f
  simp -dsimp
  repeat' ((with_reducible first|refine And.intro ?_ ?_|refine Zm (fun _=>?_) (fun _=>?_)|refine Zn (fun _=>?_) (fun _=>?_)|refine Zb (fun _=>?_) (fun _=>?_)|refine Zr (fun _=>?_) (fun _ _ _=>?_)|refine Zt (fun _=>?_) (fun _ _ _=>?_)|refine Zq (fun _=>?_) (fun _ _ _=>?_)|refine Zs (fun _ _ _=>?_) (fun _=>?_)|refine Zp (fun _ _ _=>?_) (fun _=>?_)|refine Zl (fun _ _ _=>?_) (fun _=>?_)|refine Zz (fun _=>?_) (fun _=>?_)|refine Zy (fun _=>?_) (fun _=>?_)|refine Z6 (fun _=>?_) (fun _=>?_)|refine Zw (fun _=>?_) (fun _=>?_)|refine Zx (fun _=>?_) (fun _=>?_)|refine Z3 (fun _=>?_) (fun _=>?_)|refine Za (c _) ?_|refine Zd (c _) ?_|refine Za (d _ _) ?_|refine Zd (d _ _) ?_|refine Za (f _) ?_|refine Zd (f _) ?_)<;>simp -dsimp [*])
  all_goals first
   |(exfalso;omega)
   |(refine Z7 rfl ⟨?_,rfl⟩;simp [XV,ZqD, *];done)
   |(refine Z7 rfl ⟨?_,rfl⟩;simp [XV,ZqD, *];intros;omega)
   |trace_state
end Go.Proofs
namespace Go.Proofs
open Go.Mu
def Jw {β:Type} (k:ByteArray) (v:β):List (ByteArray×β)→List (ByteArray×β)
 |[]=>[(k,v)]
 |(k',v')::r=>if k=k' then (k,v)::r else (k',v')::Jw k v r
def Yq {β:Type} (k:ByteArray):List (ByteArray×β)→Option β
 |[]=>none
 |(k',v')::r=>if k=k' then some v' else Yq k r
def Yg {β:Type} (g:β→AV) (l:List (ByteArray×β)):List (Value×AV):=l.map fun p=>(.string p.1,g p.2)
theorem ZaK {β:Type} (g:β→AV) (k:ByteArray) (v:β):∀l,ZcY .string (.string k) (g v) (Yg g l)=some (Yg g (Jw k v l))
 |[]=>rfl
 |(k',v')::r=>by
  have e:Yg g ((k',v')::r)=(.string k',g v')::Yg g r:=rfl
  rw [e,ZcY,Zd5,Jw]
  by_cases h:k=k'
  ·subst h;simp [Yg]
  ·have h':decide (k=k')=false:=by simp [h]
   simp only [h',if_neg h]
   rw [ZaK g k v r];rfl
theorem Zaf {β:Type} (g:β→AV) (k:ByteArray):∀l,Zbw .string (.string k) (Yg g l)=some ((Yq k l).map g)
 |[]=>rfl
 |(k',v')::r=>by
  have e:Yg g ((k',v')::r)=(.string k',g v')::Yg g r:=rfl
  rw [e,Zbw,Zd5,Yq]
  by_cases h:k=k'
  ·subst h;simp
  ·have h':decide (k=k')=false:=by simp [h]
   simp only [h',if_neg h]
   rw [Zaf g k r]
abbrev Xo (b:Bool):AV:=.agg [Bo b]
theorem ZbP {β:Type} (k k':ByteArray) (v:β):∀l,Yq k (Jw k' v l)=if k=k' then some v else Yq k l
 |[]=>by simp [Jw,Yq]
 |(a,b)::r=>by
  rw [Jw]
  by_cases h:k'=a
  ·subst h
   rw [if_pos rfl,Yq,Yq]
   split<;>rfl
  ·rw [if_neg h,Yq,Yq,ZbP k k' v r]
   by_cases h1:k=a
   ·subst h1;rw [if_pos rfl,if_pos rfl,if_neg (fun e=>h e.symm)]
   ·rw [if_neg h1,if_neg h1]
def Xc (s:ByteArray) (l:List (ByteArray×Bool)):Bool:=(Yq s l).getD false
def oneE (s:ByteArray) (l:List (ByteArray×Bool)):Int:=ZM (XV s&& !(Xc s l)) 8
theorem Za9 {β γ:Type} (o:Option β) (g:β→γ) (d:β):(o.map g).getD (g d)=g (o.getD d):=by cases o<;>rfl
theorem ZuX (s:ByteArray) (hs:s.size≤2^40) (l:List (ByteArray×Bool)) (k:Nat) (H:List Ze) (hk:H[k]?=some (.map (Yg Xo l))):
 Zi Tryz.prog 176 [St s,.hm k] H (fun x H'=>x=Zr5 (oneE s l)∧H'=if oneE s l=0 then H.set k (.map (Yg Xo (Jw s true l))) else H):=by
 refine Zg Tryz.func176 rfl (by kernel_rfl) ?_
 have c:=fun H=>ZpW s hs H
 have hm:Y3 H (.hm k)=some (Yg Xo l):=by simp only [Y3];rw [hk]
 have hf:=Zaf Xo s l
 have hs:=ZaK Xo s true l
 have hd:((Yq s l).map Xo).getD (Je.avZ (.agg #[.bool false]))=Xo ((Yq s l).getD false):=Za9 _ Xo false
 obtain⟨b,hb⟩:∃b,(Yq s l).getD false=b:=⟨_,rfl⟩
 rw [hb] at hd
 simp -dsimp [hm,hf,hs]
 refine Za (c _) ?_
 cases hn:XV s
 ·simp -dsimp
  repeat' ((with_reducible first|refine And.intro ?_ ?_|refine Zm (fun _=>?_) (fun _=>?_)|refine Zn (fun _=>?_) (fun _=>?_)|refine Zb (fun _=>?_) (fun _=>?_)|refine Zr (fun _=>?_) (fun _ _ _=>?_)|refine Zt (fun _=>?_) (fun _ _ _=>?_)|refine Zq (fun _=>?_) (fun _ _ _=>?_)|refine Zs (fun _ _ _=>?_) (fun _=>?_)|refine Zp (fun _ _ _=>?_) (fun _=>?_)|refine Zl (fun _ _ _=>?_) (fun _=>?_)|refine Zz (fun _=>?_) (fun _=>?_)|refine Zy (fun _=>?_) (fun _=>?_)|refine Z6 (fun _=>?_) (fun _=>?_)|refine Zw (fun _=>?_) (fun _=>?_)|refine Zx (fun _=>?_) (fun _=>?_)|refine Z3 (fun _=>?_) (fun _=>?_)|refine Jl ?_|refine Jg ?_|refine Jf (fun _=>?_) (fun _=>?_)|refine Jr (fun _=>?_) (fun _ _ _=>?_)|refine YT (fun _ _ _=>?_) (fun _=>?_)|refine Jb (fun _=>?_) (fun _=>?_)|refine Jj (fun _=>?_) (fun _=>?_))<;>simp -dsimp [*])
  exact⟨by simp [oneE,hn];rfl,by simp [oneE,hn]⟩
 ·cases b
  ·simp -dsimp [hm,hf,hs,hd]
   refine Jl ?_
   simp -dsimp [hm,hf,hs,hd]
   have e:oneE s l=0:=by simp [oneE,hn,Xc,hb]
   exact⟨by rw [e];rfl,by simp [e]⟩
  ·simp -dsimp [hm,hf,hs,hd]
   refine Jg ?_
   simp -dsimp
   have e:oneE s l=8:=by simp [oneE,hn,Xc,hb]
   exact⟨by rw [e];rfl,by simp [e]⟩
end Go.Proofs
namespace Go.Proofs
open Go.Mu
def Za4 (op:Int):Int:=if op=1∨op=2 then 0 else if op=3∨op=4∨op=5 then 1 else if op=21 then 3 else if 6≤op∧op≤20 then 2 else -1
theorem Zs6 (op:Int) (H:List Ze):Zi Tryz.prog 232 [I op] H (fun e H'=>e=.ret (I (Za4 op))∧H'=H):=by
 refine Zf (Zg Tryz.func232 rfl (by kernel_rfl) ?_)
 simp -dsimp
 repeat' ((with_reducible first|refine And.intro ?_ ?_|refine Zm (fun _=>?_) (fun _=>?_)|refine Zn (fun _=>?_) (fun _=>?_)|refine Zb (fun _=>?_) (fun _=>?_)|refine Zr (fun _=>?_) (fun _ _ _=>?_)|refine Zt (fun _=>?_) (fun _ _ _=>?_)|refine Zq (fun _=>?_) (fun _ _ _=>?_)|refine Zs (fun _ _ _=>?_) (fun _=>?_)|refine Zp (fun _ _ _=>?_) (fun _=>?_)|refine Zl (fun _ _ _=>?_) (fun _=>?_)|refine Zz (fun _=>?_) (fun _=>?_)|refine Zy (fun _=>?_) (fun _=>?_)|refine Z6 (fun _=>?_) (fun _=>?_)|refine Zw (fun _=>?_) (fun _=>?_)|refine Zx (fun _=>?_) (fun _=>?_)|refine Z3 (fun _=>?_) (fun _=>?_))<;>simp -dsimp [*])
 all_goals refine Z7 rfl ⟨?_,rfl⟩
 all_goals unfold Za4
 all_goals first|(subst_vars;rfl)|(simp [*];done)|(rw [if_neg (by omega),if_neg (by omega),if_neg (by omega)];first|rw [if_pos (by omega)]|rw [if_neg (by omega)])
def ZbS (e:Ex):Bool:=e.op==0&&e.word==0&&e.name.toList.isEmpty&&((e.args.length:Int)==0)
theorem ZiG (e:Ex) (H:List Ze):Zi Tryz.prog 231 [.agg e.cells] H (fun x H'=>x=.ret (Bo (ZbS e))∧H'=H):=by
 refine Zf (Zg Tryz.func231 rfl (by kernel_rfl) ?_)
 simp -dsimp
 repeat' ((with_reducible first|refine And.intro ?_ ?_|refine Zm (fun _=>?_) (fun _=>?_)|refine Zn (fun _=>?_) (fun _=>?_)|refine Zb (fun _=>?_) (fun _=>?_)|refine Zr (fun _=>?_) (fun _ _ _=>?_)|refine Zt (fun _=>?_) (fun _ _ _=>?_)|refine Zq (fun _=>?_) (fun _ _ _=>?_)|refine Zs (fun _ _ _=>?_) (fun _=>?_)|refine Zp (fun _ _ _=>?_) (fun _=>?_)|refine Zl (fun _ _ _=>?_) (fun _=>?_)|refine Zz (fun _=>?_) (fun _=>?_)|refine Zy (fun _=>?_) (fun _=>?_)|refine Z6 (fun _=>?_) (fun _=>?_)|refine Zw (fun _=>?_) (fun _=>?_)|refine Zx (fun _=>?_) (fun _=>?_)|refine Z3 (fun _=>?_) (fun _=>?_))<;>simp -dsimp [*])
 all_goals exact Z2 rfl ⟨by simp [ZbS, *],rfl⟩
def Xq (p:Pg) (f:Int) (kv ka:Nat) (keep:AV) (all:List ByteArray):Ze:=.box 192 [Rg.sl p.regions,Fc.sl p.funcs,I f,.hm kv,.hm ka,keep,St.sl all]
abbrev Vr.av (v:Vr):AV:=.agg v.cells
structure Za0 (H:List Ze) (a:Nat) (p:Pg) (f:Int) (kv ka:Nat) (keep:AV) (all:List ByteArray) (tv:List (ByteArray×Vr)) (ta:List (ByteArray×Bool)):Prop where
 box:H[a]?=some (Xq p f kv ka keep all)
 vars:H[kv]?=some (.map (Yg Vr.av tv))
 arr:H[ka]?=some (.map (Yg Xo ta))
def isV (n:ByteArray) (tv:List (ByteArray×Vr)):Bool:=(Yq n tv).isSome
abbrev vr0:Vr:=⟨ByteArray.empty,0,0,false⟩
def Ze4 (n:ByteArray) (tv:List (ByteArray×Vr)):Int:=((Yq n tv).getD vr0).kind
def ZaL (tv:List (ByteArray×Vr)) (ta:List (ByteArray×Bool)) (n:ByteArray):Int:=
 ZK (ZM (isV n tv||Xc n ta) 8) (ZM (isV n tv&&Ze4 n tv==1) 9)
def Zbb (tv:List (ByteArray×Vr)) (ta:List (ByteArray×Bool)) (n:ByteArray):Int:=
 ZK (ZM (isV n tv||Xc n ta) 8) (ZM (!isV n tv||Ze4 n tv != 1) 9)
theorem ZgS (n:ByteArray) {H:List Ze} {a:Nat} {p:Pg} {f:Int} {kv ka:Nat} {keep:AV} {all:List ByteArray} {tv:List (ByteArray×Vr)} {ta:List (ByteArray×Bool)} (h:Za0 H a p f kv ka keep all tv ta):
 Zi Tryz.prog 179 [.bp a 0,St n] H (XO (ZaL tv ta n) H):=by
 refine Zf (Zg Tryz.func179 rfl (by kernel_rfl) ?_)
 obtain⟨hb,hv,ha⟩:=h
 simp only [Xq] at hb
 have gb:∀x,(H++[x])[a]?=H[a]?:=fun x=>by rw [ZG hb [x],hb]
 have hma:∀L,Y3 (H++L) (.hm ka)=some (Yg Xo ta):=fun L=>by simp only [Y3];rw [ZG ha L]
 have hmv0:Y3 H (.hm kv)=some (Yg Vr.av tv):=by simp only [Y3];rw [hv]
 have hfv:=Zaf Vr.av n tv
 have hfa:=Zaf Xo n ta
 have hd:((Yq n ta).map Xo).getD (Je.avZ (.agg #[.bool false]))=Xo (Xc n ta):=Za9 _ Xo false
 have hd2:((Yq n tv).map Vr.av).getD (Je.avZ (.agg #[.string ByteArray.empty,.int .i64 0,.int .i64 0,.bool false]))=Vr.av ((Yq n tv).getD vr0):=Za9 _ Vr.av vr0
 obtain⟨v,hvv⟩:∃v,(Yq n tv).getD vr0=v:=⟨_,rfl⟩
 have hki:Ze4 n tv=v.kind:=by rw [Ze4,hvv]
 have hiv:(Yq n tv).isSome=isV n tv:=rfl
 rw [hvv] at hd2
 simp -dsimp [hb,hmv0,hfv,hd2,hiv]
 cases hi:isV n tv<;>cases hs:Xc n ta
 all_goals try simp -dsimp [gb,hb,hma,hfa,hd,hs]
 all_goals repeat' ((with_reducible first|refine And.intro ?_ ?_|refine Zm (fun _=>?_) (fun _=>?_)|refine Zn (fun _=>?_) (fun _=>?_)|refine Zb (fun _=>?_) (fun _=>?_)|refine Zr (fun _=>?_) (fun _ _ _=>?_)|refine Zt (fun _=>?_) (fun _ _ _=>?_)|refine Zq (fun _=>?_) (fun _ _ _=>?_)|refine Zs (fun _ _ _=>?_) (fun _=>?_)|refine Zp (fun _ _ _=>?_) (fun _=>?_)|refine Zl (fun _ _ _=>?_) (fun _=>?_)|refine Zz (fun _=>?_) (fun _=>?_)|refine Zy (fun _=>?_) (fun _=>?_)|refine Z6 (fun _=>?_) (fun _=>?_)|refine Zw (fun _=>?_) (fun _=>?_)|refine Zx (fun _=>?_) (fun _=>?_)|refine Z3 (fun _=>?_) (fun _=>?_)|refine Jl ?_|refine Jg ?_|refine Jf (fun _=>?_) (fun _=>?_)|refine Jr (fun _=>?_) (fun _ _ _=>?_)|refine YT (fun _ _ _=>?_) (fun _=>?_)|refine Jb (fun _=>?_) (fun _=>?_)|refine Jj (fun _=>?_) (fun _=>?_))<;>simp -dsimp [*])
 all_goals first|exact Ji (by simp [ZaL,Zbb,hi,hs,hki,ZM, *])|exact YL (by simp [ZaL,Zbb,hi,hs,hki,ZM,ZK, *]) (by decide)
theorem ZlW (n:ByteArray) {H:List Ze} {a:Nat} {p:Pg} {f:Int} {kv ka:Nat} {keep:AV} {all:List ByteArray} {tv:List (ByteArray×Vr)} {ta:List (ByteArray×Bool)} (h:Za0 H a p f kv ka keep all tv ta):
 Zi Tryz.prog 182 [.bp a 0,St n] H (XO (Zbb tv ta n) H):=by
 refine Zf (Zg Tryz.func182 rfl (by kernel_rfl) ?_)
 obtain⟨hb,hv,ha⟩:=h
 simp only [Xq] at hb
 have gb:∀x,(H++[x])[a]?=H[a]?:=fun x=>by rw [ZG hb [x],hb]
 have hma:∀L,Y3 (H++L) (.hm ka)=some (Yg Xo ta):=fun L=>by simp only [Y3];rw [ZG ha L]
 have hmv0:Y3 H (.hm kv)=some (Yg Vr.av tv):=by simp only [Y3];rw [hv]
 have hfv:=Zaf Vr.av n tv
 have hfa:=Zaf Xo n ta
 have hd:((Yq n ta).map Xo).getD (Je.avZ (.agg #[.bool false]))=Xo (Xc n ta):=Za9 _ Xo false
 have hd2:((Yq n tv).map Vr.av).getD (Je.avZ (.agg #[.string ByteArray.empty,.int .i64 0,.int .i64 0,.bool false]))=Vr.av ((Yq n tv).getD vr0):=Za9 _ Vr.av vr0
 obtain⟨v,hvv⟩:∃v,(Yq n tv).getD vr0=v:=⟨_,rfl⟩
 have hki:Ze4 n tv=v.kind:=by rw [Ze4,hvv]
 have hiv:(Yq n tv).isSome=isV n tv:=rfl
 rw [hvv] at hd2
 simp -dsimp [hb,hmv0,hfv,hd2,hiv]
 cases hi:isV n tv<;>cases hs:Xc n ta
 all_goals try simp -dsimp [gb,hb,hma,hfa,hd,hs]
 all_goals repeat' ((with_reducible first|refine And.intro ?_ ?_|refine Zm (fun _=>?_) (fun _=>?_)|refine Zn (fun _=>?_) (fun _=>?_)|refine Zb (fun _=>?_) (fun _=>?_)|refine Zr (fun _=>?_) (fun _ _ _=>?_)|refine Zt (fun _=>?_) (fun _ _ _=>?_)|refine Zq (fun _=>?_) (fun _ _ _=>?_)|refine Zs (fun _ _ _=>?_) (fun _=>?_)|refine Zp (fun _ _ _=>?_) (fun _=>?_)|refine Zl (fun _ _ _=>?_) (fun _=>?_)|refine Zz (fun _=>?_) (fun _=>?_)|refine Zy (fun _=>?_) (fun _=>?_)|refine Z6 (fun _=>?_) (fun _=>?_)|refine Zw (fun _=>?_) (fun _=>?_)|refine Zx (fun _=>?_) (fun _=>?_)|refine Z3 (fun _=>?_) (fun _=>?_)|refine Jl ?_|refine Jg ?_|refine Jf (fun _=>?_) (fun _=>?_)|refine Jr (fun _=>?_) (fun _ _ _=>?_)|refine YT (fun _ _ _=>?_) (fun _=>?_)|refine Jb (fun _=>?_) (fun _=>?_)|refine Jj (fun _=>?_) (fun _=>?_))<;>simp -dsimp [*])
 all_goals first|exact Ji (by simp [ZaL,Zbb,hi,hs,hki,ZM, *])|exact YL (by simp [ZaL,Zbb,hi,hs,hki,ZM,ZK, *]) (by decide)
theorem Zn7 (n:ByteArray) {H:List Ze} {a:Nat} {p:Pg} {f:Int} {kv ka:Nat} {keep:AV} {all:List ByteArray} {tv:List (ByteArray×Vr)} {ta:List (ByteArray×Bool)} (h:Za0 H a p f kv ka keep all tv ta) (hall:all.length≤2^40):
 Zi Tryz.prog 180 [.bp a 0,St n] H (XO (ZM (!(all.any fun x=>decide (n=x))) 2) H):=by
 refine Zf (Zg Tryz.func180 rfl (by kernel_rfl) ?_)
 obtain⟨hb,hv,ha⟩:=h
 simp only [Xq] at hb
 have c:=fun H=>ZaI all n hall H
 simp -dsimp [hb]
 refine Za (c _) ?_
 cases hc:all.any fun x=>decide (n=x)
 all_goals try simp -dsimp
 all_goals repeat' ((with_reducible first|refine And.intro ?_ ?_|refine Zm (fun _=>?_) (fun _=>?_)|refine Zn (fun _=>?_) (fun _=>?_)|refine Zb (fun _=>?_) (fun _=>?_)|refine Zr (fun _=>?_) (fun _ _ _=>?_)|refine Zt (fun _=>?_) (fun _ _ _=>?_)|refine Zq (fun _=>?_) (fun _ _ _=>?_)|refine Zs (fun _ _ _=>?_) (fun _=>?_)|refine Zp (fun _ _ _=>?_) (fun _=>?_)|refine Zl (fun _ _ _=>?_) (fun _=>?_)|refine Zz (fun _=>?_) (fun _=>?_)|refine Zy (fun _=>?_) (fun _=>?_)|refine Z6 (fun _=>?_) (fun _=>?_)|refine Zw (fun _=>?_) (fun _=>?_)|refine Zx (fun _=>?_) (fun _=>?_)|refine Z3 (fun _=>?_) (fun _=>?_)|refine Jl ?_|refine Jg ?_|refine Jf (fun _=>?_) (fun _=>?_)|refine Jr (fun _=>?_) (fun _ _ _=>?_)|refine YT (fun _ _ _=>?_) (fun _=>?_)|refine Jb (fun _=>?_) (fun _=>?_)|refine Jj (fun _=>?_) (fun _=>?_))<;>simp -dsimp [*])
 ·exact ZhQ (by simp)
 ·exact ZeN (by simp) (by decide)
mutual
def Ex.chk (tv:List (ByteArray×Vr)) (ta:List (ByteArray×Bool)) (deep:Nat):Ex→Int
 | .mk op word name args=>ZK (ZM (decide ((deep:Int)≤64)) 12) <| ZK (ZM (decide (0≤Za4 op)&&(args.length:Int)==Za4 op) 9) <|
  ZK (ZM (op==1||word==0) 9) <| ZK (if op=2 then ZaL tv ta name else if op=3 then Zbb tv ta name else ZM name.toList.isEmpty 9) <| Xj tv ta (deep+1) args
def Xj (tv:List (ByteArray×Vr)) (ta:List (ByteArray×Bool)) (deep:Nat):List Ex→Int
 |[]=>0
 |e::l=>ZK (e.chk tv ta deep) (Xj tv ta deep l)
end
theorem Ex.chk_eq (tv:List (ByteArray×Vr)) (ta:List (ByteArray×Bool)) (deep:Nat) (e:Ex):e.chk tv ta deep=ZK (ZM (decide ((deep:Int)≤64)) 12) (ZK (ZM (decide (0≤Za4 e.op)&&(e.args.length:Int)==Za4 e.op) 9) (
 ZK (ZM (e.op==1||e.word==0) 9) (ZK (if e.op=2 then ZaL tv ta e.name else if e.op=3 then Zbb tv ta e.name else ZM e.name.toList.isEmpty 9) (Xj tv ta (deep+1) e.args)))):=by
 cases e;rw [Ex.chk];rfl
end Go.Proofs
namespace Go.Proofs
open Go.Mu
theorem Za0.app {H:List Ze} {a:Nat} {p:Pg} {f:Int} {kv ka:Nat} {keep:AV} {all:List ByteArray} {tv:List (ByteArray×Vr)} {ta:List (ByteArray×Bool)} (h:Za0 H a p f kv ka keep all tv ta) (L:List Ze):Za0 (H++L) a p f kv ka keep all tv ta:=
 ⟨ZG h.box L,ZG h.vars L,ZG h.arr L⟩
theorem Zjy (e:Ex) {i:Nat} (h:i<e.args.length):e.args[i].count<e.count:=by
 have:=JN h
 rw [Ex.count_eq e];omega
theorem Zem (tv:List (ByteArray×Vr)) (ta:List (ByteArray×Bool)) (n:Nat):∀ (e:Ex) (deep:Nat),e.count≤n→e.count≤2^40→deep≤2^40+n→∀ {H:List Ze} {a:Nat} {p:Pg} {f:Int} {kv ka:Nat} {keep:AV} {all:List ByteArray},Za0 H a p f kv ka keep all tv ta→
 Zi Tryz.prog 181 [.bp a 0,.agg e.cells,I deep] H (XO (e.chk tv ta deep) H):=by
 induction n with
 |zero=>intro e deep h;rw [Ex.count_eq] at h;omega
 |succ n ih=>
  intro e deep hn hb hdeep H a p f kv ka keep all h
  refine Zf (Zg Tryz.func181 rfl (by kernel_rfl) ?_)
  rw [Ex.chk_eq]
  have hlen:=Yy e.args
  have hec:=Ex.count_eq e
  have ca:=fun H=>Zs6 e.op H
  obtain⟨E,hE⟩:∃E,E=ZK (ZM (decide ((deep:Int)≤64)) 12) (ZK (ZM (decide (0≤Za4 e.op)&&(e.args.length:Int)==Za4 e.op) 9) (
   ZK (ZM (e.op==1||e.word==0) 9) (ZK (if e.op=2 then ZaL tv ta e.name else if e.op=3 then Zbb tv ta e.name else ZM e.name.toList.isEmpty 9) (Xj tv ta (deep+1) e.args)))):=⟨_,rfl⟩
  rw [←hE]
  replace hE:=YE.mk hE
  replace hec:=YE.mk hec
  simp -dsimp
  repeat' ((with_reducible first|refine And.intro ?_ ?_|refine Zm (fun _=>?_) (fun _=>?_)|refine Zn (fun _=>?_) (fun _=>?_)|refine Zb (fun _=>?_) (fun _=>?_)|refine Zr (fun _=>?_) (fun _ _ _=>?_)|refine Zt (fun _=>?_) (fun _ _ _=>?_)|refine Zq (fun _=>?_) (fun _ _ _=>?_)|refine Zs (fun _ _ _=>?_) (fun _=>?_)|refine Zp (fun _ _ _=>?_) (fun _=>?_)|refine Zl (fun _ _ _=>?_) (fun _=>?_)|refine Zz (fun _=>?_) (fun _=>?_)|refine Zy (fun _=>?_) (fun _=>?_)|refine Z6 (fun _=>?_) (fun _=>?_)|refine Zw (fun _=>?_) (fun _=>?_)|refine Zx (fun _=>?_) (fun _=>?_)|refine Z3 (fun _=>?_) (fun _=>?_)|refine Jl ?_|refine Jg ?_|refine Jf (fun _=>?_) (fun _=>?_)|refine Jr (fun _=>?_) (fun _ _ _=>?_)|refine YT (fun _ _ _=>?_) (fun _=>?_)|refine Jb (fun _=>?_) (fun _=>?_)|refine Jj (fun _=>?_) (fun _=>?_)|refine Za (ca _) ?_|refine Zd (ca _) ?_|refine Zb6 (ZgS _ (h.app _)) (fun _=>?_) (fun _=>?_)|refine Zb6 (ZlW _ (h.app _)) (fun _=>?_) (fun _=>?_))<;>simp -dsimp [*])
  all_goals replace hE:=hE.out
  all_goals try (refine YL ?_ (by first|decide|assumption);rw [hE];clear ih ca h hE;first|(simp [ZK,ZM, *];done)|(simp_all [ZK,ZM];done))
  all_goals
   have hE2:E=Xj tv ta (deep+1) e.args:=by rw [hE];clear ih ca h hE;simp_all [ZK,ZM]
   clear hE
   subst hE2
   have hec:=hec.out
   have hb2:∀i (hi:i<e.args.length),e.args[i].count<e.count:=fun i hi=>Zjy e hi
   refine Zv (fun (i:Nat) f H'=>(∃L,H'=H++L)∧f 0=.bp a 0∧f 2=I deep∧f 53=Ex.sl e.args∧f 54=I e.args.length∧f 55=I i∧i≤e.args.length∧Xj tv ta (deep+1) (e.args.drop i)=Xj tv ta (deep+1) e.args) (fun i=>e.args.length-i) (by kernel_rfl) 0 (by simp;try (clear ih ca h hb2;simp_all)) ?_
   rintro i f H' ⟨⟨L,rfl⟩,f0,f2,f53,f54,f55,hi,hinv⟩
   simp -dsimp [f0,f2,f53,f54,f55]
   refine Zb (fun hlt=>?_) (fun hlt=>?_)
   ·rw [Zo hlt,Xj] at hinv
    have hb3:=hb2 i hlt
    have ih:=ih e.args[i] (deep+1) (by omega) (by omega) (by omega) (h.app (L++[.box 73 e.args[i].cells]))
    simp only [Ex.cells_eq,show ((deep+1:Nat):Int)=(deep:Int)+1 from rfl] at ih
    have ew:IntKind.i64.wrap ((deep:Int)+1)=(deep:Int)+1:=YG (by omega) (by omega)
    simp -dsimp [f0,f2,f53,f54,f55,List.getElem?_eq_getElem,hlt,ew]
    refine Zb6 ih (fun hz=>?_) (fun hz=>?_)
    ·rw [hz,Zj] at hinv
     simp -dsimp [f0,f2,f53,f54,f55]
     exact⟨i+1,by omega,ZC (by omega),by omega,by simpa using hinv⟩
    ·simp -dsimp
     rw [Zu hz] at hinv
     exact YL hinv hz
   ·simp -dsimp
    rw [ZI hlt,Xj] at hinv
    exact Ji hinv.symm
end Go.Proofs
namespace Go.Proofs
open Go.Mu
def ZeE (k:Int) (l:List Int):Bool:=l.any fun x=>decide (k=x)
theorem ZvI (l:List Int) (hl:l.length≤2^40) (s:Sm) (b:Nat) (H:List Ze) (hb:H[b]?=some (.box 82 s.cells)):Zi Tryz.prog 229 [.vs 1 (l.map fun x=>[I x]),.bp b 0] H (fun e H'=>e=.ret (Bo (ZeE s.kind l))∧H'=H):=by
 refine Zf (Zg Tryz.func229 rfl (by kernel_rfl) ?_)
 have c:=fun H=>ZiT l s.kind hl H
 simp only [Sm.cells_eq] at hb
 simp -dsimp [hb]
 refine Za (c _) ?_
 simp -dsimp
 exact Z7 rfl ⟨rfl,rfl⟩
def kd1 (s:Sm):Bool:=decide (1≤s.kind)&&decide (s.kind≤6)
def kd2 (s:Sm):Bool:=s.name.toList.isEmpty||ZeE s.kind [1,2,5,6]
def kd3 (s:Sm):Bool:=ZbS s.e||ZeE s.kind [1,2,3,4]
def kd4 (s:Sm):Bool:=ZbS s.a||ZeE s.kind [2]
def kd5 (s:Sm):Bool:=(s.args.length:Int)==0&&(s.names.length:Int)==0||ZeE s.kind [6]
def kd6 (s:Sm):Bool:=s.low==0&&s.high==0||ZeE s.kind [5]
def kd7 (s:Sm):Bool:=(s.body.length:Int)==0||ZeE s.kind [3,4,5]
def kd8 (s:Sm):Bool:=(s.els.length:Int)==0||ZeE s.kind [3]
def Xr (s:Sm):Int:=ZM (kd1 s&&kd2 s&&kd3 s&&kd4 s&&kd5 s&&kd6 s&&kd7 s&&kd8 s) 9
theorem Zt3 (s:Sm) (H:List Ze):Zi Tryz.prog 178 [.agg s.cells] H (XO (Xr s) H):=by
 refine Zf (Z0 Tryz.func178 rfl (by kernel_rfl) ?_)
 obtain⟨M,hM⟩:∃M,M=H++[.box 82 s.cells]:=⟨_,rfl⟩
 have hMk:M[H.length]?=some (.box 82 s.cells):=by rw [hM];simp
 have c:=fun l hl=>ZvI l hl s H.length M hMk
 have c1:=c [1,2,5,6] (by decide)
 have c2:=c [1,2,3,4] (by decide)
 have c3:=c [2] (by decide)
 have c4:=c [6] (by decide)
 have c5:=c [5] (by decide)
 have c6:=c [3,4,5] (by decide)
 have c7:=c [3] (by decide)
 clear c
 have d1:=fun H=>ZiG s.e H
 have d2:=fun H=>ZiG s.a H
 simp only [Sm.cells_eq,Ex.cells_eq,List.map_cons,List.map_nil] at hMk c1 c2 c3 c4 c5 c6 c7 d1 d2
 refine Zc (fun f H'=>M=H'∧f 1=.bp H.length 0) (by kernel_rfl) ?_ ?_
 ·simp -dsimp [hM]
 replace hM:=YE.mk hM
 rintro f _ ⟨rfl,f1⟩
 refine Zc (fun f H'=>M=H'∧f 1=.bp H.length 0∧kd1 s=true) (by kernel_rfl) ?_ ?_
 ·simp -dsimp [f1,hMk]
  repeat' ((with_reducible first|refine And.intro ?_ ?_|refine Zm (fun _=>?_) (fun _=>?_)|refine Zn (fun _=>?_) (fun _=>?_)|refine Zb (fun _=>?_) (fun _=>?_)|refine Zr (fun _=>?_) (fun _ _ _=>?_)|refine Zt (fun _=>?_) (fun _ _ _=>?_)|refine Zq (fun _=>?_) (fun _ _ _=>?_)|refine Zs (fun _ _ _=>?_) (fun _=>?_)|refine Zp (fun _ _ _=>?_) (fun _=>?_)|refine Zl (fun _ _ _=>?_) (fun _=>?_)|refine Zz (fun _=>?_) (fun _=>?_)|refine Zy (fun _=>?_) (fun _=>?_)|refine Z6 (fun _=>?_) (fun _=>?_)|refine Zw (fun _=>?_) (fun _=>?_)|refine Zx (fun _=>?_) (fun _=>?_)|refine Z3 (fun _=>?_) (fun _=>?_)|refine Jl ?_|refine Jg ?_|refine Jf (fun _=>?_) (fun _=>?_)|refine Jr (fun _=>?_) (fun _ _ _=>?_)|refine YT (fun _ _ _=>?_) (fun _=>?_)|refine Jb (fun _=>?_) (fun _=>?_)|refine Jj (fun _=>?_) (fun _=>?_)|refine Za (d1 _) ?_|refine Zd (d1 _) ?_|refine Za (d2 _) ?_|refine Zd (d2 _) ?_|refine Za (c1) ?_|refine Zd (c1) ?_|refine Za (c2) ?_|refine Zd (c2) ?_|refine Za (c3) ?_|refine Zd (c3) ?_|refine Za (c4) ?_|refine Zd (c4) ?_|refine Za (c5) ?_|refine Zd (c5) ?_|refine Za (c6) ?_|refine Zd (c6) ?_|refine Za (c7) ?_|refine Zd (c7) ?_)<;>simp -dsimp [*])
  all_goals first
   |(simp [kd1, *];done)
   |(rw [hM.out];exact Ji (by simp [Xr,kd1, *]))
   |(rw [hM.out];exact YL (by simp [Xr,kd1, *]) (by decide))
   |trace_state
 clear f f1
 rintro f _ ⟨rfl,f1,k1⟩
 refine Zc (fun f H'=>M=H'∧f 1=.bp H.length 0∧f 2=.fn (.func 229) [] [.bp H.length 0]) (by kernel_rfl) ?_ ?_
 ·simp -dsimp [f1]
 clear f f1
 rintro f _ ⟨rfl,f1,f2⟩
 refine Zc (fun f H'=>M=H'∧f 1=.bp H.length 0∧f 2=.fn (.func 229) [] [.bp H.length 0]∧kd2 s=true) (by kernel_rfl) ?_ ?_
 ·simp -dsimp [f1,hMk,f2]
  repeat' ((with_reducible first|refine And.intro ?_ ?_|refine Zm (fun _=>?_) (fun _=>?_)|refine Zn (fun _=>?_) (fun _=>?_)|refine Zb (fun _=>?_) (fun _=>?_)|refine Zr (fun _=>?_) (fun _ _ _=>?_)|refine Zt (fun _=>?_) (fun _ _ _=>?_)|refine Zq (fun _=>?_) (fun _ _ _=>?_)|refine Zs (fun _ _ _=>?_) (fun _=>?_)|refine Zp (fun _ _ _=>?_) (fun _=>?_)|refine Zl (fun _ _ _=>?_) (fun _=>?_)|refine Zz (fun _=>?_) (fun _=>?_)|refine Zy (fun _=>?_) (fun _=>?_)|refine Z6 (fun _=>?_) (fun _=>?_)|refine Zw (fun _=>?_) (fun _=>?_)|refine Zx (fun _=>?_) (fun _=>?_)|refine Z3 (fun _=>?_) (fun _=>?_)|refine Jl ?_|refine Jg ?_|refine Jf (fun _=>?_) (fun _=>?_)|refine Jr (fun _=>?_) (fun _ _ _=>?_)|refine YT (fun _ _ _=>?_) (fun _=>?_)|refine Jb (fun _=>?_) (fun _=>?_)|refine Jj (fun _=>?_) (fun _=>?_)|refine Za (d1 _) ?_|refine Zd (d1 _) ?_|refine Za (d2 _) ?_|refine Zd (d2 _) ?_|refine Za (c1) ?_|refine Zd (c1) ?_|refine Za (c2) ?_|refine Zd (c2) ?_|refine Za (c3) ?_|refine Zd (c3) ?_|refine Za (c4) ?_|refine Zd (c4) ?_|refine Za (c5) ?_|refine Zd (c5) ?_|refine Za (c6) ?_|refine Zd (c6) ?_|refine Za (c7) ?_|refine Zd (c7) ?_)<;>simp -dsimp [*])
  all_goals first
   |(simp [kd2, *];done)
   |(rw [hM.out];exact Ji (by simp [Xr,kd2, *]))
   |(rw [hM.out];exact YL (by simp [Xr,kd2, *]) (by decide))
   |trace_state
 clear f f1 f2
 rintro f _ ⟨rfl,f1,f2,k2⟩
 refine Zc (fun f H'=>M=H'∧f 1=.bp H.length 0∧f 2=.fn (.func 229) [] [.bp H.length 0]∧kd3 s=true) (by kernel_rfl) ?_ ?_
 ·simp -dsimp [f1,hMk,f2]
  repeat' ((with_reducible first|refine And.intro ?_ ?_|refine Zm (fun _=>?_) (fun _=>?_)|refine Zn (fun _=>?_) (fun _=>?_)|refine Zb (fun _=>?_) (fun _=>?_)|refine Zr (fun _=>?_) (fun _ _ _=>?_)|refine Zt (fun _=>?_) (fun _ _ _=>?_)|refine Zq (fun _=>?_) (fun _ _ _=>?_)|refine Zs (fun _ _ _=>?_) (fun _=>?_)|refine Zp (fun _ _ _=>?_) (fun _=>?_)|refine Zl (fun _ _ _=>?_) (fun _=>?_)|refine Zz (fun _=>?_) (fun _=>?_)|refine Zy (fun _=>?_) (fun _=>?_)|refine Z6 (fun _=>?_) (fun _=>?_)|refine Zw (fun _=>?_) (fun _=>?_)|refine Zx (fun _=>?_) (fun _=>?_)|refine Z3 (fun _=>?_) (fun _=>?_)|refine Jl ?_|refine Jg ?_|refine Jf (fun _=>?_) (fun _=>?_)|refine Jr (fun _=>?_) (fun _ _ _=>?_)|refine YT (fun _ _ _=>?_) (fun _=>?_)|refine Jb (fun _=>?_) (fun _=>?_)|refine Jj (fun _=>?_) (fun _=>?_)|refine Za (d1 _) ?_|refine Zd (d1 _) ?_|refine Za (d2 _) ?_|refine Zd (d2 _) ?_|refine Za (c1) ?_|refine Zd (c1) ?_|refine Za (c2) ?_|refine Zd (c2) ?_|refine Za (c3) ?_|refine Zd (c3) ?_|refine Za (c4) ?_|refine Zd (c4) ?_|refine Za (c5) ?_|refine Zd (c5) ?_|refine Za (c6) ?_|refine Zd (c6) ?_|refine Za (c7) ?_|refine Zd (c7) ?_)<;>simp -dsimp [*])
  all_goals first
   |(simp [kd3, *];done)
   |(rw [hM.out];exact Ji (by simp [Xr,kd3, *]))
   |(rw [hM.out];exact YL (by simp [Xr,kd3, *]) (by decide))
   |trace_state
 clear f f1 f2
 rintro f _ ⟨rfl,f1,f2,k3⟩
 refine Zc (fun f H'=>M=H'∧f 1=.bp H.length 0∧f 2=.fn (.func 229) [] [.bp H.length 0]∧kd4 s=true) (by kernel_rfl) ?_ ?_
 ·simp -dsimp [f1,hMk,f2]
  repeat' ((with_reducible first|refine And.intro ?_ ?_|refine Zm (fun _=>?_) (fun _=>?_)|refine Zn (fun _=>?_) (fun _=>?_)|refine Zb (fun _=>?_) (fun _=>?_)|refine Zr (fun _=>?_) (fun _ _ _=>?_)|refine Zt (fun _=>?_) (fun _ _ _=>?_)|refine Zq (fun _=>?_) (fun _ _ _=>?_)|refine Zs (fun _ _ _=>?_) (fun _=>?_)|refine Zp (fun _ _ _=>?_) (fun _=>?_)|refine Zl (fun _ _ _=>?_) (fun _=>?_)|refine Zz (fun _=>?_) (fun _=>?_)|refine Zy (fun _=>?_) (fun _=>?_)|refine Z6 (fun _=>?_) (fun _=>?_)|refine Zw (fun _=>?_) (fun _=>?_)|refine Zx (fun _=>?_) (fun _=>?_)|refine Z3 (fun _=>?_) (fun _=>?_)|refine Jl ?_|refine Jg ?_|refine Jf (fun _=>?_) (fun _=>?_)|refine Jr (fun _=>?_) (fun _ _ _=>?_)|refine YT (fun _ _ _=>?_) (fun _=>?_)|refine Jb (fun _=>?_) (fun _=>?_)|refine Jj (fun _=>?_) (fun _=>?_)|refine Za (d1 _) ?_|refine Zd (d1 _) ?_|refine Za (d2 _) ?_|refine Zd (d2 _) ?_|refine Za (c1) ?_|refine Zd (c1) ?_|refine Za (c2) ?_|refine Zd (c2) ?_|refine Za (c3) ?_|refine Zd (c3) ?_|refine Za (c4) ?_|refine Zd (c4) ?_|refine Za (c5) ?_|refine Zd (c5) ?_|refine Za (c6) ?_|refine Zd (c6) ?_|refine Za (c7) ?_|refine Zd (c7) ?_)<;>simp -dsimp [*])
  all_goals first
   |(simp [kd4, *];done)
   |(rw [hM.out];exact Ji (by simp [Xr,kd4, *]))
   |(rw [hM.out];exact YL (by simp [Xr,kd4, *]) (by decide))
   |trace_state
 clear f f1 f2
 rintro f _ ⟨rfl,f1,f2,k4⟩
 refine Zc (fun f H'=>M=H'∧f 1=.bp H.length 0∧f 2=.fn (.func 229) [] [.bp H.length 0]∧kd5 s=true) (by kernel_rfl) ?_ ?_
 ·simp -dsimp [f1,hMk,f2]
  repeat' ((with_reducible first|refine And.intro ?_ ?_|refine Zm (fun _=>?_) (fun _=>?_)|refine Zn (fun _=>?_) (fun _=>?_)|refine Zb (fun _=>?_) (fun _=>?_)|refine Zr (fun _=>?_) (fun _ _ _=>?_)|refine Zt (fun _=>?_) (fun _ _ _=>?_)|refine Zq (fun _=>?_) (fun _ _ _=>?_)|refine Zs (fun _ _ _=>?_) (fun _=>?_)|refine Zp (fun _ _ _=>?_) (fun _=>?_)|refine Zl (fun _ _ _=>?_) (fun _=>?_)|refine Zz (fun _=>?_) (fun _=>?_)|refine Zy (fun _=>?_) (fun _=>?_)|refine Z6 (fun _=>?_) (fun _=>?_)|refine Zw (fun _=>?_) (fun _=>?_)|refine Zx (fun _=>?_) (fun _=>?_)|refine Z3 (fun _=>?_) (fun _=>?_)|refine Jl ?_|refine Jg ?_|refine Jf (fun _=>?_) (fun _=>?_)|refine Jr (fun _=>?_) (fun _ _ _=>?_)|refine YT (fun _ _ _=>?_) (fun _=>?_)|refine Jb (fun _=>?_) (fun _=>?_)|refine Jj (fun _=>?_) (fun _=>?_)|refine Za (d1 _) ?_|refine Zd (d1 _) ?_|refine Za (d2 _) ?_|refine Zd (d2 _) ?_|refine Za (c1) ?_|refine Zd (c1) ?_|refine Za (c2) ?_|refine Zd (c2) ?_|refine Za (c3) ?_|refine Zd (c3) ?_|refine Za (c4) ?_|refine Zd (c4) ?_|refine Za (c5) ?_|refine Zd (c5) ?_|refine Za (c6) ?_|refine Zd (c6) ?_|refine Za (c7) ?_|refine Zd (c7) ?_)<;>simp -dsimp [*])
  all_goals first
   |(simp [kd5, *];done)
   |(rw [hM.out];exact Ji (by simp [Xr,kd5, *]))
   |(rw [hM.out];exact YL (by simp [Xr,kd5, *]) (by decide))
   |trace_state
 clear f f1 f2
 rintro f _ ⟨rfl,f1,f2,k5⟩
 refine Zc (fun f H'=>M=H'∧f 1=.bp H.length 0∧f 2=.fn (.func 229) [] [.bp H.length 0]∧kd6 s=true) (by kernel_rfl) ?_ ?_
 ·simp -dsimp [f1,hMk,f2]
  repeat' ((with_reducible first|refine And.intro ?_ ?_|refine Zm (fun _=>?_) (fun _=>?_)|refine Zn (fun _=>?_) (fun _=>?_)|refine Zb (fun _=>?_) (fun _=>?_)|refine Zr (fun _=>?_) (fun _ _ _=>?_)|refine Zt (fun _=>?_) (fun _ _ _=>?_)|refine Zq (fun _=>?_) (fun _ _ _=>?_)|refine Zs (fun _ _ _=>?_) (fun _=>?_)|refine Zp (fun _ _ _=>?_) (fun _=>?_)|refine Zl (fun _ _ _=>?_) (fun _=>?_)|refine Zz (fun _=>?_) (fun _=>?_)|refine Zy (fun _=>?_) (fun _=>?_)|refine Z6 (fun _=>?_) (fun _=>?_)|refine Zw (fun _=>?_) (fun _=>?_)|refine Zx (fun _=>?_) (fun _=>?_)|refine Z3 (fun _=>?_) (fun _=>?_)|refine Jl ?_|refine Jg ?_|refine Jf (fun _=>?_) (fun _=>?_)|refine Jr (fun _=>?_) (fun _ _ _=>?_)|refine YT (fun _ _ _=>?_) (fun _=>?_)|refine Jb (fun _=>?_) (fun _=>?_)|refine Jj (fun _=>?_) (fun _=>?_)|refine Za (d1 _) ?_|refine Zd (d1 _) ?_|refine Za (d2 _) ?_|refine Zd (d2 _) ?_|refine Za (c1) ?_|refine Zd (c1) ?_|refine Za (c2) ?_|refine Zd (c2) ?_|refine Za (c3) ?_|refine Zd (c3) ?_|refine Za (c4) ?_|refine Zd (c4) ?_|refine Za (c5) ?_|refine Zd (c5) ?_|refine Za (c6) ?_|refine Zd (c6) ?_|refine Za (c7) ?_|refine Zd (c7) ?_)<;>simp -dsimp [*])
  all_goals first
   |(simp [kd6, *];done)
   |(rw [hM.out];exact Ji (by simp [Xr,kd6, *]))
   |(rw [hM.out];exact YL (by simp [Xr,kd6, *]) (by decide))
   |trace_state
 clear f f1 f2
 rintro f _ ⟨rfl,f1,f2,k6⟩
 refine Zc (fun f H'=>M=H'∧f 1=.bp H.length 0∧f 2=.fn (.func 229) [] [.bp H.length 0]∧kd7 s=true) (by kernel_rfl) ?_ ?_
 ·simp -dsimp [f1,hMk,f2]
  repeat' ((with_reducible first|refine And.intro ?_ ?_|refine Zm (fun _=>?_) (fun _=>?_)|refine Zn (fun _=>?_) (fun _=>?_)|refine Zb (fun _=>?_) (fun _=>?_)|refine Zr (fun _=>?_) (fun _ _ _=>?_)|refine Zt (fun _=>?_) (fun _ _ _=>?_)|refine Zq (fun _=>?_) (fun _ _ _=>?_)|refine Zs (fun _ _ _=>?_) (fun _=>?_)|refine Zp (fun _ _ _=>?_) (fun _=>?_)|refine Zl (fun _ _ _=>?_) (fun _=>?_)|refine Zz (fun _=>?_) (fun _=>?_)|refine Zy (fun _=>?_) (fun _=>?_)|refine Z6 (fun _=>?_) (fun _=>?_)|refine Zw (fun _=>?_) (fun _=>?_)|refine Zx (fun _=>?_) (fun _=>?_)|refine Z3 (fun _=>?_) (fun _=>?_)|refine Jl ?_|refine Jg ?_|refine Jf (fun _=>?_) (fun _=>?_)|refine Jr (fun _=>?_) (fun _ _ _=>?_)|refine YT (fun _ _ _=>?_) (fun _=>?_)|refine Jb (fun _=>?_) (fun _=>?_)|refine Jj (fun _=>?_) (fun _=>?_)|refine Za (d1 _) ?_|refine Zd (d1 _) ?_|refine Za (d2 _) ?_|refine Zd (d2 _) ?_|refine Za (c1) ?_|refine Zd (c1) ?_|refine Za (c2) ?_|refine Zd (c2) ?_|refine Za (c3) ?_|refine Zd (c3) ?_|refine Za (c4) ?_|refine Zd (c4) ?_|refine Za (c5) ?_|refine Zd (c5) ?_|refine Za (c6) ?_|refine Zd (c6) ?_|refine Za (c7) ?_|refine Zd (c7) ?_)<;>simp -dsimp [*])
  all_goals first
   |(simp [kd7, *];done)
   |(rw [hM.out];exact Ji (by simp [Xr,kd7, *]))
   |(rw [hM.out];exact YL (by simp [Xr,kd7, *]) (by decide))
   |trace_state
 clear f f1 f2
 rintro f _ ⟨rfl,f1,f2,k7⟩
 refine Zk (by kernel_rfl) ?_
 simp -dsimp [f1,hMk,f2]
 repeat' ((with_reducible first|refine And.intro ?_ ?_|refine Zm (fun _=>?_) (fun _=>?_)|refine Zn (fun _=>?_) (fun _=>?_)|refine Zb (fun _=>?_) (fun _=>?_)|refine Zr (fun _=>?_) (fun _ _ _=>?_)|refine Zt (fun _=>?_) (fun _ _ _=>?_)|refine Zq (fun _=>?_) (fun _ _ _=>?_)|refine Zs (fun _ _ _=>?_) (fun _=>?_)|refine Zp (fun _ _ _=>?_) (fun _=>?_)|refine Zl (fun _ _ _=>?_) (fun _=>?_)|refine Zz (fun _=>?_) (fun _=>?_)|refine Zy (fun _=>?_) (fun _=>?_)|refine Z6 (fun _=>?_) (fun _=>?_)|refine Zw (fun _=>?_) (fun _=>?_)|refine Zx (fun _=>?_) (fun _=>?_)|refine Z3 (fun _=>?_) (fun _=>?_)|refine Jl ?_|refine Jg ?_|refine Jf (fun _=>?_) (fun _=>?_)|refine Jr (fun _=>?_) (fun _ _ _=>?_)|refine YT (fun _ _ _=>?_) (fun _=>?_)|refine Jb (fun _=>?_) (fun _=>?_)|refine Jj (fun _=>?_) (fun _=>?_)|refine Za (d1 _) ?_|refine Zd (d1 _) ?_|refine Za (d2 _) ?_|refine Zd (d2 _) ?_|refine Za (c1) ?_|refine Zd (c1) ?_|refine Za (c2) ?_|refine Zd (c2) ?_|refine Za (c3) ?_|refine Zd (c3) ?_|refine Za (c4) ?_|refine Zd (c4) ?_|refine Za (c5) ?_|refine Zd (c5) ?_|refine Za (c6) ?_|refine Zd (c6) ?_|refine Za (c7) ?_|refine Zd (c7) ?_)<;>simp -dsimp [*])
 all_goals first
  |(simp [kd8, *];done)
  |(rw [hM.out];exact Ji (by simp [Xr,kd8, *]))
  |(rw [hM.out];exact YL (by simp [Xr,kd8, *]) (by decide))
  |trace_state
end Go.Proofs
namespace Go.Proofs
open Go.Mu
def YI {α:Type} (p:α→Int):List α→Int
 |[]=>0
 |a::l=>ZK (p a) (YI p l)
theorem Jn {α:Type} (p:α→Int) {l:List α} {i:Nat} (h:i<l.length):YI p (l.drop i)=ZK (p l[i]) (YI p (l.drop (i+1))):=by rw [Zo h,YI]
theorem JI {α:Type} (p:α→Int) {l:List α} {i:Nat} (h: ¬ i<l.length):YI p (l.drop i)=0:=by rw [ZI h];rfl
def ZbD (v:Vr):Int:=ZM (v.kind==1&&v.size==0) 9
def ZaU (v:Vr):Int:=ZM (decide (1≤v.kind)&&decide (v.kind≤3)&&(v.kind != 1||v.size==0&& !v.secret)) 9
def Zan (f:Fc):Int:=ZK (YI ZbD f.params) (YI ZaU f.vars)
theorem Zrt (f:Fc) (hp:f.params.length≤2^40) (hv:f.vars.length≤2^40) (H:List Ze):Zi Tryz.prog 108 [.agg f.cells] H (XO (Zan f) H):=by
 refine Zf (Z0 Tryz.func108 rfl (by kernel_rfl) ?_)
 obtain⟨M,hM⟩:∃M,M=H++[.box 56 f.cells]:=⟨_,rfl⟩
 have hMk:M[H.length]?=some (.box 56 f.cells):=by rw [hM];simp
 have hMa:∀L,(M++L)[H.length]?=some (.box 56 f.cells):=fun L=>ZG hMk L
 simp only [Fc.cells] at hMk hMa
 refine Zc (fun f H'=>M=H'∧f 1=.bp H.length 0) (by kernel_rfl) ?_ ?_
 ·simp -dsimp [hM]
 replace hM:=YE.mk hM
 rintro g _ ⟨rfl,f1⟩
 refine Zc (fun g H'=>(∃L,H'=M++L)∧g 1=.bp H.length 0∧YI ZbD f.params=0) (by kernel_rfl) ?_ ?_
 ·simp -dsimp [f1,hMk]
  refine Zv (fun (i:Nat) g H'=>(∃L,H'=M++L)∧g 1=.bp H.length 0∧g 7=Vr.sl f.params∧g 8=I f.params.length∧g 9=I i∧i≤f.params.length∧YI ZbD (f.params.drop i)=YI ZbD f.params) (fun i=>f.params.length-i) (by kernel_rfl) 0 (by simp [*]) ?_
  clear g f1
  rintro i g _ ⟨⟨L,rfl⟩,g1,g7,g8,g9,hi,hinv⟩
  simp -dsimp [g1,g7,g8,g9]
  refine Zb (fun hlt=>?_) (fun hlt=>?_)
  ·rw [Jn _ hlt] at hinv
   simp -dsimp [g1,g7,g8,g9,List.getElem?_eq_getElem,hlt]
   repeat' ((with_reducible first|refine And.intro ?_ ?_|refine Zm (fun _=>?_) (fun _=>?_)|refine Zn (fun _=>?_) (fun _=>?_)|refine Zb (fun _=>?_) (fun _=>?_)|refine Zr (fun _=>?_) (fun _ _ _=>?_)|refine Zt (fun _=>?_) (fun _ _ _=>?_)|refine Zq (fun _=>?_) (fun _ _ _=>?_)|refine Zs (fun _ _ _=>?_) (fun _=>?_)|refine Zp (fun _ _ _=>?_) (fun _=>?_)|refine Zl (fun _ _ _=>?_) (fun _=>?_)|refine Zz (fun _=>?_) (fun _=>?_)|refine Zy (fun _=>?_) (fun _=>?_)|refine Z6 (fun _=>?_) (fun _=>?_)|refine Zw (fun _=>?_) (fun _=>?_)|refine Zx (fun _=>?_) (fun _=>?_)|refine Z3 (fun _=>?_) (fun _=>?_)|refine Jl ?_|refine Jg ?_|refine Jf (fun _=>?_) (fun _=>?_)|refine Jr (fun _=>?_) (fun _ _ _=>?_)|refine YT (fun _ _ _=>?_) (fun _=>?_)|refine Jb (fun _=>?_) (fun _=>?_)|refine Jj (fun _=>?_) (fun _=>?_))<;>simp -dsimp [*])
   all_goals first
    |(have e:ZbD f.params[i]=0:=by simp [ZbD,ZM, *]
      rw [e,Zj] at hinv
      exact⟨i+1,by omega,ZC (by omega),by omega,hinv⟩)
    |(have e:ZbD f.params[i]=9:=by simp [ZbD,ZM, *]
      rw [e,Zu (by decide)] at hinv
      rw [hM.out,List.append_assoc]
      exact YL (by rw [Zan,←hinv,Zu (by decide)]) (by decide))
  ·rw [JI _ hlt] at hinv
   simp -dsimp [g1]
   exact hinv.symm
 clear g f1
 rintro g _ ⟨⟨L0,rfl⟩,f1,hz⟩
 refine Zk (by kernel_rfl) ?_
 simp -dsimp [f1,hMa]
 refine Zv (fun (i:Nat) g H'=>(∃L,H'=M++L)∧g 24=Vr.sl f.vars∧g 25=I f.vars.length∧g 26=I i∧i≤f.vars.length∧YI ZaU (f.vars.drop i)=YI ZaU f.vars) (fun i=>f.vars.length-i) (by kernel_rfl) 0 (by simp) ?_
 clear g f1
 rintro i g _ ⟨⟨L,rfl⟩,g7,g8,g9,hi,hinv⟩
 simp -dsimp [g7,g8,g9]
 refine Zb (fun hlt=>?_) (fun hlt=>?_)
 ·rw [Jn _ hlt] at hinv
  simp -dsimp [g7,g8,g9,List.getElem?_eq_getElem,hlt]
  repeat' ((with_reducible first|refine And.intro ?_ ?_|refine Zm (fun _=>?_) (fun _=>?_)|refine Zn (fun _=>?_) (fun _=>?_)|refine Zb (fun _=>?_) (fun _=>?_)|refine Zr (fun _=>?_) (fun _ _ _=>?_)|refine Zt (fun _=>?_) (fun _ _ _=>?_)|refine Zq (fun _=>?_) (fun _ _ _=>?_)|refine Zs (fun _ _ _=>?_) (fun _=>?_)|refine Zp (fun _ _ _=>?_) (fun _=>?_)|refine Zl (fun _ _ _=>?_) (fun _=>?_)|refine Zz (fun _=>?_) (fun _=>?_)|refine Zy (fun _=>?_) (fun _=>?_)|refine Z6 (fun _=>?_) (fun _=>?_)|refine Zw (fun _=>?_) (fun _=>?_)|refine Zx (fun _=>?_) (fun _=>?_)|refine Z3 (fun _=>?_) (fun _=>?_)|refine Jl ?_|refine Jg ?_|refine Jf (fun _=>?_) (fun _=>?_)|refine Jr (fun _=>?_) (fun _ _ _=>?_)|refine YT (fun _ _ _=>?_) (fun _=>?_)|refine Jb (fun _=>?_) (fun _=>?_)|refine Jj (fun _=>?_) (fun _=>?_))<;>simp -dsimp [*])
  all_goals first
   |(have e:ZaU f.vars[i]=0:=by simp [ZaU,ZM, *]
     rw [e,Zj] at hinv
     exact⟨i+1,by omega,ZC (by omega),by omega,hinv⟩)
   |(have e:ZaU f.vars[i]=9:=by simp [ZaU,ZM, *]
     rw [e,Zu (by decide)] at hinv
     rw [hM.out,List.append_assoc]
     exact YL (by rw [Zan,hz,←hinv,Zj]) (by decide))
 ·rw [JI _ hlt] at hinv
  simp -dsimp
  rw [hM.out,List.append_assoc]
  exact Ji (by rw [Zan,hz,←hinv,Zj])
end Go.Proofs
namespace Go.Proofs
open Go.Mu
def Zcc (r:Rg):Int:=ZM (decide (0≤r.addr)&&r.addr.tmod 8==0&&decide (r.addr≤49152-8*r.size)) 14
def ZaC (r q:Rg):Int:=ZM (decide (q.addr+8*q.size≤r.addr)||decide (r.addr+8*r.size≤q.addr)) 14
def Xp (done:List Rg):List Rg→Int
 |[]=>0
 |r::l=>ZK (Zcc r) (ZK (YI (ZaC r) done) (Xp (done++[r]) l))
theorem Y1 {α:Type} {l:List α} {i:Nat} (h:i<l.length):l.take (i+1)=l.take i++[l[i]]:=List.take_succ_eq_append_getElem h
def ZeT (r:Rg):Prop:=1≤r.size∧r.size≤512
theorem Zpi (p:Pg) (hr:p.regions.length≤2^40) (hs:∀r∈p.regions,ZeT r) (H:List Ze):Zi Tryz.prog 107 [.agg p.cells] H (XO (Xp [] p.regions) H):=by
 refine Zf (Z0 Tryz.func107 rfl (by kernel_rfl) ?_)
 obtain⟨M,hM⟩:∃M,M=H++[.box 25 p.cells]:=⟨_,rfl⟩
 have hMk:M[H.length]?=some (.box 25 p.cells):=by rw [hM];simp
 have hMa:∀L,(M++L)[H.length]?=some (.box 25 p.cells):=fun L=>ZG hMk L
 simp only [Pg.cells] at hMk hMa
 refine Zc (fun f H'=>M=H'∧f 1=.bp H.length 0) (by kernel_rfl) ?_ ?_
 ·simp -dsimp [hM]
 replace hM:=YE.mk hM
 rintro g _ ⟨rfl,f1⟩
 refine Zk (by kernel_rfl) ?_
 simp -dsimp [f1,hMk]
 refine Zv (fun (i:Nat) g H'=>(∃L,H'=M++L)∧g 1=.bp H.length 0∧g 7=Rg.sl p.regions∧g 8=I p.regions.length∧g 9=I i∧i≤p.regions.length∧Xp (p.regions.take i) (p.regions.drop i)=Xp [] p.regions∧
  (∀r∈p.regions.take i,0≤r.addr∧r.addr≤49152)) (fun i=>p.regions.length-i) (by kernel_rfl) 0 (by simp [f1]) ?_
 clear g f1
 rintro i g _ ⟨⟨L,rfl⟩,g1,g7,g8,g9,hi,hinv,hin⟩
 simp -dsimp [g1,g7,g8,g9]
 refine Zb (fun hlt=>?_) (fun hlt=>?_)
 ·rw [Zo hlt,Xp] at hinv
  have hsr:ZeT p.regions[i]:=hs _ (List.getElem_mem hlt)
  obtain⟨hs1,hs2⟩:=hsr
  have w1:IntKind.i64.wrap (8*p.regions[i].size)=8*p.regions[i].size:=YG (by omega) (by omega)
  have w2:IntKind.i64.wrap (49152-8*p.regions[i].size)=49152-8*p.regions[i].size:=YG (by omega) (by omega)
  simp -dsimp [g1,g7,g8,g9,List.getElem?_eq_getElem,hlt]
  replace hin:=YE.mk hin
  replace hinv:=YE.mk hinv
  repeat' ((with_reducible first|refine And.intro ?_ ?_|refine Zm (fun _=>?_) (fun _=>?_)|refine Zn (fun _=>?_) (fun _=>?_)|refine Zb (fun _=>?_) (fun _=>?_)|refine Zr (fun _=>?_) (fun _ _ _=>?_)|refine Zt (fun _=>?_) (fun _ _ _=>?_)|refine Zq (fun _=>?_) (fun _ _ _=>?_)|refine Zs (fun _ _ _=>?_) (fun _=>?_)|refine Zp (fun _ _ _=>?_) (fun _=>?_)|refine Zl (fun _ _ _=>?_) (fun _=>?_)|refine Zz (fun _=>?_) (fun _=>?_)|refine Zy (fun _=>?_) (fun _=>?_)|refine Z6 (fun _=>?_) (fun _=>?_)|refine Zw (fun _=>?_) (fun _=>?_)|refine Zx (fun _=>?_) (fun _=>?_)|refine Z3 (fun _=>?_) (fun _=>?_)|refine Jl ?_|refine Jg ?_|refine Jf (fun _=>?_) (fun _=>?_)|refine Jr (fun _=>?_) (fun _ _ _=>?_)|refine YT (fun _ _ _=>?_) (fun _=>?_)|refine Jb (fun _=>?_) (fun _=>?_)|refine Jj (fun _=>?_) (fun _=>?_))<;>simp -dsimp [w1,w2,hMa, *])
  rotate_left
  all_goals try
   have e:Zcc p.regions[i]=14:=by simp [Zcc,ZM, *]
   have hinv:=hinv.out
   rw [e,Zu (by decide)] at hinv
   rw [hM.out,List.append_assoc]
   exact YL hinv (by decide)
  have hb:Zcc p.regions[i]=0:=by simp [Zcc,ZM, *]
  replace hinv:=hinv.out
  rw [hb,Zj] at hinv
  have hin:=hin.out
  refine Zv (fun (k:Nat) g H'=>(∃L2,H'=M++(L++Ze.box 96 p.regions[i].cells::L2))∧g 1=.bp H.length 0∧g 7=Rg.sl p.regions∧g 8=I p.regions.length∧g 9=I i∧g 3=.bp (M.length+L.length) 0∧
   g 36=Rg.sl (p.regions.take i)∧g 37=I i∧g 38=I k∧k≤i∧YI (ZaC p.regions[i]) ((p.regions.take i).drop k)=YI (ZaC p.regions[i]) (p.regions.take i)) (fun k=>i-k) (by kernel_rfl) 0 (by simp [g1,g7,g8,g9,List.map_take]) ?_
  clear g g1 g7 g8 g9
  rintro k g _ ⟨⟨L2,rfl⟩,g1,g7,g8,g9,g3,g36,g37,g38,hk,hinv2⟩
  simp only [Rg.sl,List.map_take] at g36
  have hlt2:(p.regions.take i).length=i:=by simp;omega
  simp -dsimp [g1,g7,g8,g9,g3,g36,g37,g38]
  refine Zb (fun hkt=>?_) (fun hkt=>?_)
  ·have hkl:k<(p.regions.take i).length:=by omega
   rw [Jn _ hkl] at hinv2
   obtain⟨q,hq⟩:∃q,q=(p.regions.take i)[k]:=⟨_,rfl⟩
   have hqm:q∈p.regions.take i:=by rw [hq];exact List.getElem_mem _
   obtain⟨hq1,hq2⟩:=hin q hqm
   obtain⟨hq3,hq4⟩:=hs q (List.mem_of_mem_take hqm)
   have hq5:p.regions[k]'(by omega)=q:=by rw [hq,List.getElem_take]
   rw [←hq] at hinv2
   have w3:IntKind.i64.wrap (8*q.size)=8*q.size:=YG (by omega) (by omega)
   have w4:IntKind.i64.wrap (q.addr+8*q.size)=q.addr+8*q.size:=YG (by omega) (by omega)
   have w5:IntKind.i64.wrap (p.regions[i].addr+8*p.regions[i].size)=p.regions[i].addr+8*p.regions[i].size:=YG (by omega) (by omega)
   have hk2:k<p.regions.length:=by omega
   clear hq
   replace hin:=YE.mk hin
   replace hinv:=YE.mk hinv
   replace hinv2:=YE.mk hinv2
   simp -dsimp [g1,g7,g8,g9,g3,g36,g37,g38,List.getElem?_take,List.getElem?_eq_getElem,hkt,hk2,hq5,w1,w3,w4,w5]
   repeat' ((with_reducible first|refine And.intro ?_ ?_|refine Zm (fun _=>?_) (fun _=>?_)|refine Zn (fun _=>?_) (fun _=>?_)|refine Zb (fun _=>?_) (fun _=>?_)|refine Zr (fun _=>?_) (fun _ _ _=>?_)|refine Zt (fun _=>?_) (fun _ _ _=>?_)|refine Zq (fun _=>?_) (fun _ _ _=>?_)|refine Zs (fun _ _ _=>?_) (fun _=>?_)|refine Zp (fun _ _ _=>?_) (fun _=>?_)|refine Zl (fun _ _ _=>?_) (fun _=>?_)|refine Zz (fun _=>?_) (fun _=>?_)|refine Zy (fun _=>?_) (fun _=>?_)|refine Z6 (fun _=>?_) (fun _=>?_)|refine Zw (fun _=>?_) (fun _=>?_)|refine Zx (fun _=>?_) (fun _=>?_)|refine Z3 (fun _=>?_) (fun _=>?_)|refine Jl ?_|refine Jg ?_|refine Jf (fun _=>?_) (fun _=>?_)|refine Jr (fun _=>?_) (fun _ _ _=>?_)|refine YT (fun _ _ _=>?_) (fun _=>?_)|refine Jb (fun _=>?_) (fun _=>?_)|refine Jj (fun _=>?_) (fun _=>?_))<;>simp -dsimp [*])
   all_goals replace hinv2:=hinv2.out
   all_goals first
    |(have e:ZaC p.regions[i] q=0:=by simp [ZaC,ZM, *]
      rw [e,Zj] at hinv2
      exact⟨k+1,by omega,ZC (by omega),by omega,hinv2⟩)
    |(have e:ZaC p.regions[i] q=14:=by simp [ZaC,ZM, *]
      have hinv:=hinv.out
      rw [e,Zu (by decide)] at hinv2
      rw [←hinv2,Zu (by decide)] at hinv
      rw [hM.out,List.append_assoc]
      exact YL hinv (by decide))
  ·simp -dsimp [g1,g7,g8,g9]
   rw [JI _ (by omega)] at hinv2
   rw [←hinv2,Zj] at hinv
   refine⟨i+1,by omega,ZC (by omega),by omega,?_,?_⟩
   ·rw [Y1 hlt];exact hinv
   ·intro r hr
    rw [Y1 hlt] at hr
    rcases List.mem_append.1 hr with hr|hr
    ·exact hin r hr
    ·obtain rfl:=List.mem_singleton.1 hr
     constructor<;>omega
 ·rw [ZI hlt,Xp] at hinv
  simp -dsimp
  rw [hM.out,List.append_assoc]
  exact Ji hinv.symm
end Go.Proofs
namespace Go.Proofs
open Go.Mu
section
variable {H:List Ze} {c:Nat}
theorem Zeu {X:Ze} (h:H[c]?=some X):H.set c X=H:=by
 apply List.ext_getElem?
 intro i
 rw [List.getElem?_set]
 split
 ·rename_i e;subst e
  rw [if_pos (ZT h),h]
 ·rfl
theorem Ziw (hc:c<H.length) (X:Ze) (L:List Ze):(H.set c X++L)[c]?=some X:=by
 rw [List.getElem?_append_left (by simpa using hc),List.getElem?_set_self hc]
theorem ZhW (hc:c<H.length) (X Y:Ze) (L:List Ze):(H.set c X++L).set c Y=H.set c Y++L:=by
 rw [List.set_append,if_pos (by simpa using hc),List.set_set]
theorem Zk3 (X:Ze) (L:List Ze) (i:Nat):(H.set c X++L)[H.length+i]?=L[i]?:=by
 rw [List.getElem?_append_right (by simp)];simp
theorem Zox (X:Ze) (L:List Ze):(H.set c X++L)[H.length]?=L[0]?:=Zk3 X L 0
theorem Zkg (X Y:Ze) (L:List Ze) (i:Nat):(H.set c X++L).set (H.length+i) Y=H.set c X++L.set i Y:=by
 rw [List.set_append,if_neg (by simp)];simp
theorem Zth (X Y:Ze) (L:List Ze):(H.set c X++L).set H.length Y=H.set c X++L.set 0 Y:=Zkg X Y L 0
theorem Zro (X:Ze):(H.set c X).length=H.length:=by simp
end
theorem ZgP {H L:List Ze} {c:Nat} {X:Ze} {R:AE→List Ze→Prop} {r:AV} (hX:∀n,X.under n=true) (hu:r.under H.length=true) (h:R (.ret r) (H.set c X)):ZW H R (.ret r) (H.set c X++L):=
 Zer (by simp) (fun hh=>by rw [Zro];exact ZcS hh (hX _)) (by rw [Zro];exact hu) h
abbrev ZcR (n:Int):Ze:=.box 274 [I n]
mutual
def Ex.cnt (deep n:Int):Ex→Int
 | .mk _ _ _ args=>if 64<deep then n else if 65536<n then n else XI (deep+1) (n+1) args
def XI (deep n:Int):List Ex→Int
 |[]=>n
 |e::l=>XI deep (e.cnt deep n) l
end
theorem Ex.cnt_eq (deep n:Int) (e:Ex):e.cnt deep n=if 64<deep then n else if 65536<n then n else XI (deep+1) (n+1) e.args:=by cases e;rw [Ex.cnt];rfl
theorem Zp7 (m:Nat):∀ (l:List Ex),ZE l≤m→∀ (deep n:Int),0≤n→n≤65537→0≤XI deep n l∧XI deep n l≤65537:=by
 induction m with
 |zero=>intro l hl deep n h0 h1;have:=Yy l;have:l=[]:=List.eq_nil_of_length_eq_zero (by omega);subst this;simp [XI];omega
 |succ m ih=>
  intro l
  induction l with
  |nil=>intro _ deep n h0 h1;simp only [XI];omega
  |cons e l ihl=>
   intro hl deep n h0 h1
   simp only [ZE] at hl
   have he:=Ex.count_eq e
   rw [XI,Ex.cnt_eq]
   split
   ·exact ihl (by omega) deep n h0 h1
   ·split
    ·exact ihl (by omega) deep n h0 h1
    ·have:=ih e.args (by omega) (deep+1) (n+1) (by omega) (by omega)
     exact ihl (by omega) deep _ this.1 this.2
theorem Ex.cnt_le (e:Ex) (deep n:Int) (h0:0≤n) (h1:n≤65537):0≤e.cnt deep n∧e.cnt deep n≤65537:=by
 have:=Zp7 _ [e] (Nat.le_refl _) deep n h0 h1
 simpa [XI] using this
theorem Zr7 (m:Nat):∀ (e:Ex) (deep n:Int),e.count≤m→e.count≤2^40→0≤deep→deep≤65→0≤n→n≤65537→∀ (H:List Ze) (c:Nat),H[c]?=some (ZcR n)→
 Zi Tryz.prog 249 [.bp c 0,.agg e.cells,I deep] H (fun x H'=>x=.ret (.tup [])∧H'=H.set c (ZcR (e.cnt deep n))):=by
 induction m with
 |zero=>intro e deep n h;rw [Ex.count_eq] at h;omega
 |succ m ih=>
  intro e deep n hn hb hd0 hd hn0 hn1 H c hc
  refine Zf (Z0 Tryz.func249 rfl (by kernel_rfl) ?_)
  have hcl:=ZT hc
  obtain⟨G,hG⟩:∃G:Int→List Ze,∀n,G n=H.set c (ZcR n):=⟨_,fun _=>rfl⟩
  have gl:∀n,(G n).length=H.length:=fun n=>by rw [hG];simp
  have gg:∀n L,(G n++L)[c]?=some (ZcR n):=fun n L=>by rw [hG];exact Ziw hcl _ _
  have gs:∀n k L,(G n++L).set c (ZcR k)=G k++L:=fun n k L=>by rw [hG,hG];exact ZhW hcl _ _ _
  have gN:∀n L i,(G n++L)[H.length+i]?=L[i]?:=fun n L i=>by rw [hG];exact Zk3 _ _ _
  have gE:∀n L,(G n++L)[H.length]?=L[0]?:=fun n L=>by rw [hG];exact Zox _ _
  have sN:∀n L i X,(G n++L).set (H.length+i) X=G n++L.set i X:=fun n L i X=>by rw [hG];exact Zkg _ _ _ _
  obtain⟨E,hE⟩:∃E,E=e.cnt deep n:=⟨_,rfl⟩
  rw [←hE]
  have done:∀L,ZW H (fun x H'=>x=AE.ret (.tup [])∧H'=H.set c (ZcR E)) (.ret (.tup [])) (G E++L):=fun L=>by
   rw [hG];exact ZgP (fun _=>rfl) rfl ⟨rfl,rfl⟩
  have hH:H=G n:=by rw [hG,Zeu hc]
  clear hG hc
  have hlen:=Yy e.args
  have hec:=Ex.count_eq e
  refine Zc (fun f H'=>H'=G n++[.box 73 e.cells]∧f 0=.bp c 0∧f 2=I deep∧f 4=.bp H.length 0) (by kernel_rfl) ?_ ?_
  ·simp -dsimp
   rw [←hH]
  clear hH
  replace hE:=YE.mk hE
  replace hec:=YE.mk hec
  replace done:=YE.mk done
  rintro g _ ⟨rfl,g0,g2,g4⟩
  refine Zc (fun f H'=>H'=G n++[.box 73 e.cells]∧f 0=.bp c 0∧f 2=I deep∧f 4=.bp H.length 0∧deep≤64∧n≤65536) (by kernel_rfl) ?_ ?_
  ·simp -dsimp [g0,g2,g4,gg]
   repeat' ((with_reducible first|refine And.intro ?_ ?_|refine Zm (fun _=>?_) (fun _=>?_)|refine Zn (fun _=>?_) (fun _=>?_)|refine Zb (fun _=>?_) (fun _=>?_)|refine Zr (fun _=>?_) (fun _ _ _=>?_)|refine Zt (fun _=>?_) (fun _ _ _=>?_)|refine Zq (fun _=>?_) (fun _ _ _=>?_)|refine Zs (fun _ _ _=>?_) (fun _=>?_)|refine Zp (fun _ _ _=>?_) (fun _=>?_)|refine Zl (fun _ _ _=>?_) (fun _=>?_)|refine Zz (fun _=>?_) (fun _=>?_)|refine Zy (fun _=>?_) (fun _=>?_)|refine Z6 (fun _=>?_) (fun _=>?_)|refine Zw (fun _=>?_) (fun _=>?_)|refine Zx (fun _=>?_) (fun _=>?_)|refine Z3 (fun _=>?_) (fun _=>?_))<;>simp -dsimp [g0,g2,g4,gg, *])
   ·have hE:=hE.out
    rw [Ex.cnt_eq,if_pos (by assumption)] at hE
    subst hE;exact done.out _
   ·have hE:=hE.out
    rw [Ex.cnt_eq,if_neg (by assumption),if_pos (by assumption)] at hE
    subst hE;exact done.out _
   ·omega
  clear g g0 g2 g4
  rintro g _ ⟨rfl,g0,g2,g4,hd64,hn64⟩
  replace hE:=hE.out
  replace hec:=hec.out
  rw [Ex.cnt_eq,if_neg (by omega),if_neg (by omega)] at hE
  have w1:IntKind.i64.wrap (n+1)=n+1:=YG (by omega) (by omega)
  have w2:IntKind.i64.wrap (deep+1)=deep+1:=YG (by omega) (by omega)
  have ge:∀L,(G (n+1)++.box 73 e.cells::L)[H.length]?=some (.box 73 e.cells):=fun L=>gE _ _
  simp only [Ex.cells_eq] at ge
  refine Zk (by kernel_rfl) ?_
  simp -dsimp [g0,g2,g4,gg,gs,w1,ge]
  refine Zv (fun (i:Nat) g H'=>(∃k L,H'=G k++L∧0≤k∧k≤65537∧XI (deep+1) k (e.args.drop i)=XI (deep+1) (n+1) e.args)∧g 0=.bp c 0∧g 2=I deep∧g 25=Ex.sl e.args∧g 26=I e.args.length∧g 27=I i∧i≤e.args.length) (fun i=>e.args.length-i) (by kernel_rfl) 0
   (by simp [g0,g2];exact⟨n+1,⟨_,rfl⟩,by omega,by omega,rfl⟩) ?_
  clear g g0 g2 g4
  rintro i g _ ⟨⟨k,L,rfl,hk0,hk1,hinv⟩,g0,g2,g25,g26,g27,hi⟩
  simp -dsimp [g0,g2,g25,g26,g27]
  refine Zb (fun hlt=>?_) (fun hlt=>?_)
  ·rw [Zo hlt,XI] at hinv
   have hb3:=Zjy e hlt
   have ih:=ih e.args[i] (deep+1) k (by omega) (by omega) (by omega) (by omega) hk0 hk1 (G k++(L++[.box 73 e.args[i].cells])) c (gg _ _)
   rw [gs] at ih
   have hcl:=Ex.cnt_le e.args[i] (deep+1) k hk0 hk1
   simp only [Ex.cells_eq] at ih
   simp -dsimp [g0,g2,g25,g26,g27,List.getElem?_eq_getElem,hlt,w2]
   refine ZA ih ?_
   rintro x H' ⟨rfl,rfl⟩
   simp -dsimp [g0,g2,g25,g26,g27]
   exact⟨i+1,by omega,⟨_,⟨_,rfl⟩,hcl.1,hcl.2,hinv⟩,ZC (by omega),by omega⟩
  ·simp -dsimp
   rw [ZI hlt,XI] at hinv
   rw [←hE] at hinv
   subst hinv
   exact done.out _
end Go.Proofs
namespace Go.Proofs
open Go.Mu
def Xn (deep n:Int):List Ex→Int
 |[]=>n
 |e::l=>Xn deep (if ZbS e then n else e.cnt deep n) l
mutual
def Sm.cnt (deep n:Int):Sm→Int
 | .mk _ _ _ e a args _ _ body els=>Jy (deep+1) (Jy (deep+1) (Xn deep (n+1) (e::a::args)) body) els
def Jy (deep n:Int):List Sm→Int
 |[]=>n
 |s::l=>if 64<deep then n else if 65536<n then n else Jy deep (s.cnt deep n) l
end
theorem Sm.cnt_eq (deep n:Int) (s:Sm):s.cnt deep n=Jy (deep+1) (Jy (deep+1) (Xn deep (n+1) (s.e::s.a::s.args)) s.body) s.els:=by cases s;rw [Sm.cnt];rfl
theorem Zmj {deep:Int} (h:64<deep) (n:Int) (l:List Sm):Jy deep n l=n:=by
 cases l with
 |nil=>rw [Jy]
 |cons s l=>rw [Jy,if_pos h]
theorem ZcU (deep:Int):∀ (l:List Ex) (n:Int),0≤n→n≤65537→0≤Xn deep n l∧Xn deep n l≤65537
 |[],n,h0,h1=>by simp only [Xn];omega
 |e::l,n,h0,h1=>by
  rw [Xn]
  split
  ·exact ZcU deep l n h0 h1
  ·have:=Ex.cnt_le e deep n h0 h1
   exact ZcU deep l _ this.1 this.2
theorem Zei (m:Nat):∀ (l:List Sm),Zh l≤m→∀ (deep n:Int),0≤n→n≤65537→0≤Jy deep n l∧Jy deep n l≤65537:=by
 induction m with
 |zero=>intro l hl deep n h0 h1;have:=Yi l;have:l=[]:=List.eq_nil_of_length_eq_zero (by omega);subst this;simp only [Jy];omega
 |succ m ih=>
  intro l
  induction l with
  |nil=>intro _ deep n h0 h1;simp only [Jy];omega
  |cons s l ihl=>
   intro hl deep n h0 h1
   simp only [Zh] at hl
   have he:=Sm.count_eq s
   rw [Jy]
   split
   ·omega
   ·split
    ·omega
    ·rw [Sm.cnt_eq]
     have a:=ZcU deep (s.e::s.a::s.args) (n+1) (by omega) (by omega)
     have b:=ih s.body (by omega) (deep+1) _ a.1 a.2
     have c:=ih s.els (by omega) (deep+1) _ b.1 b.2
     exact ihl (by omega) deep _ c.1 c.2
theorem Zo2 (m:Nat):∀ (l:List Sm) (deep n:Int),Zh l≤m→Zh l≤2^40→0≤deep→deep≤65→0≤n→n≤65537→∀ (H:List Ze) (c:Nat),H[c]?=some (ZcR n)→
 Zi Tryz.prog 225 [.bp c 0,Sm.sl l,I deep] H (fun x H'=>x=.ret (.tup [])∧H'=H.set c (ZcR (Jy deep n l))):=by
 induction m with
 |zero=>
  intro l deep n hm _ _ _ _ _ H c hc
  have:=Yi l
  obtain rfl:l=[]:=List.eq_nil_of_length_eq_zero (by omega)
  refine Zf (J4 (hn:=fun d=>d==1000034) (od:=fun _=>none) Tryz.func225 rfl (by kernel_rfl) ?_)
  have done:ZW H (fun x H'=>x=AE.ret (.tup [])∧H'=H.set c (ZcR (Jy deep n []))) (.ret (.tup [])) H:=by
   rw [Jy,Zeu hc]
   exact Z7 rfl ⟨rfl,rfl⟩
  simp -dsimp
  repeat' ((with_reducible first|refine And.intro ?_ ?_|refine Zm (fun _=>?_) (fun _=>?_)|refine Zn (fun _=>?_) (fun _=>?_)|refine Zb (fun _=>?_) (fun _=>?_)|refine Zr (fun _=>?_) (fun _ _ _=>?_)|refine Zt (fun _=>?_) (fun _ _ _=>?_)|refine Zq (fun _=>?_) (fun _ _ _=>?_)|refine Zs (fun _ _ _=>?_) (fun _=>?_)|refine Zp (fun _ _ _=>?_) (fun _=>?_)|refine Zl (fun _ _ _=>?_) (fun _=>?_)|refine Zz (fun _=>?_) (fun _=>?_)|refine Zy (fun _=>?_) (fun _=>?_)|refine Z6 (fun _=>?_) (fun _=>?_)|refine Zw (fun _=>?_) (fun _=>?_)|refine Zx (fun _=>?_) (fun _=>?_)|refine Z3 (fun _=>?_) (fun _=>?_))<;>simp -dsimp [*])
  refine Ju (hn:=fun d=>d==1000034) (od:=fun _=>none) (fun (i:Nat) g H'=>H'=H∧g 13=I 0∧g 14=I 0) (fun i=>0) (by kernel_rfl) 0 (by simp) ?_
  rintro i g _ ⟨rfl,g13,g14⟩
  simp -dsimp [g13,g14]
  exact done
 |succ m ih=>
  intro l deep n hn hb hd0 hd hn0 hn1 H c hc
  refine Zf (Z0 Tryz.func225 rfl (by kernel_rfl) ?_)
  have hcl:=ZT hc
  obtain⟨G,hG⟩:∃G:Int→List Ze,∀n,G n=H.set c (ZcR n):=⟨_,fun _=>rfl⟩
  have gl:∀n,(G n).length=H.length:=fun n=>by rw [hG];simp
  have gg:∀n L,(G n++L)[c]?=some (ZcR n):=fun n L=>by rw [hG];exact Ziw hcl _ _
  have gs:∀n k L,(G n++L).set c (ZcR k)=G k++L:=fun n k L=>by rw [hG,hG];exact ZhW hcl _ _ _
  have gN:∀n L i,(G n++L)[H.length+i]?=L[i]?:=fun n L i=>by rw [hG];exact Zk3 _ _ _
  have gE:∀n L,(G n++L)[H.length]?=L[0]?:=fun n L=>by rw [hG];exact Zox _ _
  have sN:∀n L i X,(G n++L).set (H.length+i) X=G n++L.set i X:=fun n L i X=>by rw [hG];exact Zkg _ _ _ _
  have sE:∀n L X,(G n++L).set H.length X=G n++L.set 0 X:=fun n L X=>by rw [hG];exact Zth _ _ _
  obtain⟨E,hE⟩:∃E,E=Jy deep n l:=⟨_,rfl⟩
  rw [←hE]
  have done:∀L,ZW H (fun x H'=>x=AE.ret (.tup [])∧H'=H.set c (ZcR E)) (.ret (.tup [])) (G E++L):=fun L=>by
   rw [hG];exact ZgP (fun _=>rfl) rfl ⟨rfl,rfl⟩
  have hH:H=G n++[]:=by rw [hG,Zeu hc];simp
  clear hG hc
  have hlen:=Yi l
  refine Zc (fun f H'=>H'=G n++[]∧f 0=.bp c 0∧f 1=Sm.sl l∧f 2=I deep∧deep≤64) (by kernel_rfl) ?_ ?_
  ·simp -dsimp
   refine Zb (fun h=>?_) (fun h=>?_)
   ·simp -dsimp
    rw [Zmj h] at hE
    subst hE
    have d:=done []
    rw [←hH] at d
    exact d
   ·simp -dsimp
    exact⟨by simpa using hH,by omega⟩
  clear hH
  rintro g _ ⟨rfl,g0,g1,g2,hd64⟩
  refine YH (fun d=>d==1000034) (fun _=>none) (by kernel_rfl) ?_
  simp -dsimp [g0,g1,g2]
  refine Ju (hn:=fun d=>d==1000034) (od:=fun _=>none) (fun (i:Nat) g H'=>(∃k L,H'=G k++L∧0≤k∧k≤65537∧Jy deep k (l.drop i)=Jy deep n l)∧g 0=.bp c 0∧g 2=I deep∧g 12=Sm.sl l∧g 13=I l.length∧g 14=I i∧i≤l.length) (fun i=>l.length-i) (by kernel_rfl) 0
   (by simp [g0,g2];exact⟨n,⟨[],by simp⟩,by omega,by omega,rfl⟩) ?_
  clear g g0 g1 g2
  rintro i g _ ⟨⟨k,L,rfl,hk0,hk1,hinv⟩,g0,g2,g12,g13,g14,hi⟩
  simp -dsimp [g0,g2,g12,g13,g14]
  refine Zb (fun hlt=>?_) (fun hlt=>?_)
  ·rw [Zo hlt,Jy,if_neg (by omega)] at hinv
   have hb3:=JY hlt
   simp -dsimp [g0,g2,g12,g13,g14,List.getElem?_eq_getElem,hlt,gg,gl]
   refine Zb (fun hk=>?_) (fun hk=>?_)
   ·simp -dsimp
    rw [if_pos hk,←hE] at hinv
    subst hinv
    exact done _
   rw [if_neg hk,Sm.cnt_eq] at hinv
   obtain⟨es,hes⟩:∃es,es=l[i].e::l[i].a::l[i].args:=⟨_,rfl⟩
   have hesl:es.length≤2^40:=by rw [hes];have:=Yy l[i].args;have:=Sm.count_eq l[i];have:=Ex.count_eq l[i].e;have:=Ex.count_eq l[i].a;simp;omega
   have w1:IntKind.i64.wrap (k+1)=k+1:=YG (by omega) (by omega)
   have hel:[I l[i].e.op,U l[i].e.word,St l[i].e.name,Ex.sl l[i].e.args]::[I l[i].a.op,U l[i].a.word,St l[i].a.name,Ex.sl l[i].a.args]::l[i].args.map Ex.cells=es.map Ex.cells:=by rw [hes];simp
   have hbd:(2+l[i].args.length)*56≤140737488355328∧2+l[i].args.length≤9223372036854775807:=by
    have e:es.length=2+l[i].args.length:=by rw [hes];simp;omega
    omega
   have hlen2:l[i].args.length+1+1=es.length:=by rw [hes];simp
   have hcnt:ZE es≤l[i].count:=by rw [hes];have:=Sm.count_eq l[i];simp only [ZE];omega
   have hsc:=Sm.count_eq l[i]
   have hbound:=ZcU deep es (k+1) (by omega) (by omega)
   have w2:IntKind.i64.wrap (deep+1)=deep+1:=YG (by omega) (by omega)
   rw [←hes] at hinv
   clear hes
   simp -dsimp [g0,g2,g12,g13,g14,gg,gs,gl,gN,w1,hel,hbd,hlen2]
   refine Ju (hn:=fun d=>d==1000034) (od:=fun _=>none) (fun (j:Nat) g H'=>(∃q L2,H'=G q++(L++Ze.box 82 l[i].cells::L2)∧0≤q∧q≤65537∧Xn deep q (es.drop j)=Xn deep (k+1) es)∧g 0=.bp c 0∧g 2=I deep∧g 12=Sm.sl l∧g 13=I l.length∧g 14=I i∧
    g 7=.bp (H.length+L.length) 0∧g 37=Ex.sl es∧g 38=I es.length∧g 39=I j∧j≤es.length) (fun j=>es.length-j) (by kernel_rfl) 0 (by simp [g0,g2,g12,g13,g14];exact⟨k+1,⟨[],rfl⟩,by omega,by omega,rfl⟩) ?_
   clear g g0 g2 g12 g13 g14
   rintro j g _ ⟨⟨q,L2,rfl,hq0,hq1,hinv2⟩,g0,g2,g12,g13,g14,g7,g37,g38,g39,hj⟩
   simp -dsimp [g0,g2,g12,g13,g14,g7,g37,g38,g39]
   refine Zb (fun hjt=>?_) (fun hjt=>?_)
   ·rw [Zo hjt,Xn] at hinv2
    simp -dsimp [g0,g2,g12,g13,g14,g7,g37,g38,g39,List.getElem?_eq_getElem,hjt,gg,gl]
    have cb:=fun H=>ZiG es[j] H
    have hej:=JN hjt
    have ce:=fun L=>Zr7 es[j].count es[j] deep q (Nat.le_refl _) (by omega) hd0 (by omega) hq0 hq1 (G q++L) c (gg _ _)
    simp only [gs] at ce
    have hcl2:=Ex.cnt_le es[j] deep q hq0 hq1
    simp only [Ex.cells_eq] at cb ce
    refine Za (cb _) ?_
    simp -dsimp
    refine Z6 (fun hbl=>?_) (fun hbl=>?_)
    ·rw [if_neg (by simp [hbl])] at hinv2
     simp -dsimp [g0,g2,g12,g13,g14,g7,g37,g38,g39,gN,gl]
     refine ZA (ce _) ?_
     rintro x H' ⟨rfl,rfl⟩
     simp -dsimp [g0,g2,g12,g13,g14,g7,g37,g38,g39]
     exact⟨j+1,by omega,⟨_,⟨_,rfl⟩,hcl2.1,hcl2.2,hinv2⟩,ZC (by omega),by omega⟩
    ·rw [if_pos hbl] at hinv2
     simp -dsimp [g0,g2,g12,g13,g14,g7,g37,g38,g39,gN,gl]
     exact⟨j+1,by omega,⟨_,⟨_,rfl⟩,hq0,hq1,hinv2⟩,ZC (by omega),by omega⟩
   ·rw [ZI hjt,Xn] at hinv2
    subst hinv2
    simp -dsimp [g0,g2,g12,g13,g14,g7,g37,g38,g39,gN,gl,w2]
    have c1:=fun L=>ih l[i].body (deep+1) _ (by omega) (by omega) (by omega) (by omega) hbound.1 hbound.2 (G _++L) c (gg _ _)
    simp only [gs] at c1
    have b1:=Zei _ l[i].body (Nat.le_refl _) (deep+1) _ hbound.1 hbound.2
    refine ZA (c1 _) ?_
    rintro x H' ⟨rfl,rfl⟩
    simp -dsimp [g0,g2,g12,g13,g14,g7,g37,g38,g39,gN,gl,w2]
    have c2:=fun L=>ih l[i].els (deep+1) _ (by omega) (by omega) (by omega) (by omega) b1.1 b1.2 (G _++L) c (gg _ _)
    simp only [gs] at c2
    have b2:=Zei _ l[i].els (Nat.le_refl _) (deep+1) _ b1.1 b1.2
    refine ZA (c2 _) ?_
    rintro x H' ⟨rfl,rfl⟩
    simp -dsimp [g0,g2,g12,g13,g14,g7,g37,g38,g39,gN,gl,w2]
    exact⟨i+1,by omega,⟨_,⟨_,rfl⟩,b2.1,b2.2,hinv⟩,ZC (by omega),by omega⟩
  ·simp -dsimp
   rw [ZI hlt,Jy,←hE] at hinv
   subst hinv
   exact done _
end Go.Proofs
namespace Go.Proofs
open Go.Mu
def X7 (n:Int):List Fc→Int
 |[]=>n
 |f::l=>X7 (Jy 1 n f.body) l
theorem Zgu:∀ (l:List Fc) (n:Int),0≤n→n≤65537→0≤X7 n l∧X7 n l≤65537
 |[],n,h0,h1=>by simp only [X7];omega
 |f::l,n,h0,h1=>by
  rw [X7]
  have:=Zei _ f.body (Nat.le_refl _) 1 n h0 h1
  exact Zgu l _ this.1 this.2
structure Pg.Ok (p:Pg):Prop where
 regions:p.regions.length≤2^40
 funcs:p.funcs.length≤2^40
 body:∀f∈p.funcs,Zh f.body≤2^40
 params:∀f∈p.funcs,f.params.length≤2^36
 vars:∀f∈p.funcs,f.vars.length≤2^36
 rets:∀f∈p.funcs,f.rets.length≤2^40
def ZaS (p:Pg):Int:=X7 0 p.funcs
theorem ZsP (p:Pg) (hp:p.Ok) (H:List Ze):Zi Tryz.prog 175 [.agg p.cells] H (fun e H'=>e=.ret (I (ZaS p))∧H'=H):=by
 refine Zf (Z0 Tryz.func175 rfl (by kernel_rfl) ?_)
 obtain⟨M,hM⟩:∃M,M=H++[.box 25 p.cells,ZcR 0]:=⟨_,rfl⟩
 have hMl:M.length=H.length+2:=by rw [hM];simp
 have hc:M[H.length+1]?=some (ZcR 0):=by rw [hM];simp
 have hcl:=ZT hc
 obtain⟨c,hcc⟩:∃c,c=H.length+1:=⟨_,rfl⟩
 rw [←hcc] at hc hcl
 obtain⟨G,hG⟩:∃G:Int→List Ze,∀n,G n=M.set c (ZcR n):=⟨_,fun _=>rfl⟩
 have gg:∀n L,(G n++L)[c]?=some (ZcR n):=fun n L=>by rw [hG];exact Ziw hcl _ _
 have gs:∀n k L,(G n++L).set c (ZcR k)=G k++L:=fun n k L=>by rw [hG,hG];exact ZhW hcl _ _ _
 have gp:∀n L,(G n++L)[H.length]?=some (.box 25 p.cells):=fun n L=>by
  rw [hG,List.getElem?_append_left (by simp;omega),List.getElem?_set_ne (by omega),hM];simp
 have fin:∀n L,G n++L=H++(.box 25 p.cells::ZcR n::L):=fun n L=>by
  rw [hG,hM,hcc];simp
 have hH:M=G 0++[]:=by rw [hG,Zeu hc];simp
 simp only [Pg.cells] at gp hM
 have gp0:∀n,(G n)[H.length]?=some (.box 25 [Rg.sl p.regions,Fc.sl p.funcs]):=fun n=>by have:=gp n [];simpa using this
 refine Zc (fun f H'=>H'=H++[.box 25 p.cells]∧f 1=.bp H.length 0) (by kernel_rfl) ?_ ?_
 ·simp -dsimp
 rintro g _ ⟨rfl,g1⟩
 refine Zc (fun f H'=>H'=G 0++[]∧f 1=.bp H.length 0∧f 3=.bp c 0) (by kernel_rfl) ?_ ?_
 ·simp -dsimp [g1]
  exact⟨by rw [←hM];simpa using hH,hcc.symm⟩
 clear g g1 hM hG hH
 rintro g _ ⟨rfl,g1,g3⟩
 refine Zc (fun f H'=>(∃L,H'=G (ZaS p)++L)∧f 3=.bp c 0) (by kernel_rfl) ?_ ?_
 ·simp -dsimp [g1,g3,gp,gp0]
  refine Zv (fun (i:Nat) g H'=>(∃k L,H'=G k++L∧0≤k∧k≤65537∧X7 k (p.funcs.drop i)=ZaS p)∧g 3=.bp c 0∧g 9=Fc.sl p.funcs∧g 10=I p.funcs.length∧g 11=I i∧i≤p.funcs.length) (fun i=>p.funcs.length-i) (by kernel_rfl) 0
   (by simp [g3];exact⟨0,⟨[],by simp⟩,by omega,by omega,rfl⟩) ?_
  clear g g1 g3
  rintro i g _ ⟨⟨k,L,rfl,hk0,hk1,hinv⟩,g3,g9,g10,g11,hi⟩
  simp -dsimp [g3,g9,g10,g11]
  have hpf:=hp.funcs
  refine Zb (fun hlt=>?_) (fun hlt=>?_)
  ·rw [Zo hlt,X7] at hinv
   have hb:=hp.body _ (List.getElem_mem hlt)
   have cs:=fun L=>Zo2 _ p.funcs[i].body 1 k (Nat.le_refl _) hb (by omega) (by omega) hk0 hk1 (G k++L) c (gg _ _)
   simp only [gs] at cs
   have b1:=Zei _ p.funcs[i].body (Nat.le_refl _) 1 k hk0 hk1
   simp -dsimp [g3,g9,g10,g11,List.getElem?_eq_getElem,hlt]
   refine ZA (cs _) ?_
   rintro x H' ⟨rfl,rfl⟩
   simp -dsimp [g3,g9,g10,g11]
   exact⟨i+1,by omega,⟨_,⟨_,rfl⟩,b1.1,b1.2,hinv⟩,ZC (by omega),by omega⟩
  ·simp -dsimp [g3]
   rw [ZI hlt,X7] at hinv
   subst hinv
   exact⟨_,rfl⟩
 clear g g1 g3
 rintro g _ ⟨⟨L,rfl⟩,g3⟩
 have hle:=Zgu p.funcs 0 (by omega) (by omega)
 have e:(if (65537:Int)<ZaS p then 65537 else ZaS p)=ZaS p:=by rw [if_neg];unfold ZaS;omega
 refine Zk (by kernel_rfl) ?_
 simp -dsimp [g3,gg,e]
 rw [fin]
 exact Z2 rfl ⟨rfl,rfl⟩
end Go.Proofs
namespace Go.Proofs
open Go.Mu
def Zd6 (H:List Ze) (x:AV) (t:TypeId) (sz:Nat) (es:List (List AV)):Prop:=(x=Yp∧es=[])∨∃k,x=.hs k 0 es.length es.length∧H[k]?=some (.row t sz es)
theorem ZfL (l:List Vr) (hl:l.length≤2^36) (H:List Ze):Zi Tryz.prog 68 [Vr.sl l] H (fun e H'=>(l=[]∧e=.ret Yp∧H'=H)∨(e=.ret (.hs H.length 0 l.length l.length)∧H'=H++[.row 120 4 (l.map Vr.cells)])):=by
 refine J4 (hn:=fun d=>d==5||d==7) (od:=fun _=>none) Tryz.func68 rfl (by kernel_rfl) ?_
 simp -dsimp
 refine ZdZ (fun hne=>?_) (fun he=>⟨?_,?_⟩)
 ·simp -dsimp
  refine Jc (es:=[]) (by simp) rfl rfl (by simp;omega) (by simp;omega) ?_
  simp -dsimp
 ·have:l=[]:=by simpa using he
  simp -dsimp
  exact this
 ·simp -dsimp
  refine Jc (es:=[]) (by simp) rfl rfl (by simp;omega) (by simp;omega) ?_
  simp -dsimp
def Xf (n:Int):Int:=ZM (decide (1≤n)&&decide (n≤512)) 13
theorem Zhm (n:Int) (H:List Ze):Zi Tryz.prog 174 [I n] H (XO (Xf n) H):=by
 refine Zf (Zg Tryz.func174 rfl (by kernel_rfl) ?_)
 simp -dsimp
 repeat' ((with_reducible first|refine And.intro ?_ ?_|refine Zm (fun _=>?_) (fun _=>?_)|refine Zn (fun _=>?_) (fun _=>?_)|refine Zb (fun _=>?_) (fun _=>?_)|refine Zr (fun _=>?_) (fun _ _ _=>?_)|refine Zt (fun _=>?_) (fun _ _ _=>?_)|refine Zq (fun _=>?_) (fun _ _ _=>?_)|refine Zs (fun _ _ _=>?_) (fun _=>?_)|refine Zp (fun _ _ _=>?_) (fun _=>?_)|refine Zl (fun _ _ _=>?_) (fun _=>?_)|refine Zz (fun _=>?_) (fun _=>?_)|refine Zy (fun _=>?_) (fun _=>?_)|refine Z6 (fun _=>?_) (fun _=>?_)|refine Zw (fun _=>?_) (fun _=>?_)|refine Zx (fun _=>?_) (fun _=>?_)|refine Z3 (fun _=>?_) (fun _=>?_)|refine Jl ?_|refine Jg ?_|refine Jf (fun _=>?_) (fun _=>?_)|refine Jr (fun _=>?_) (fun _ _ _=>?_)|refine YT (fun _ _ _=>?_) (fun _=>?_)|refine Jb (fun _=>?_) (fun _=>?_)|refine Jj (fun _=>?_) (fun _=>?_))<;>simp -dsimp [*])
 all_goals first|exact ZhQ (by simp [Xf, *])|exact ZeN (by simp [Xf,ZM, *]) (by decide)
theorem Zvl {n:Int} (h:Xf n≠0):Xf n=13:=by
 unfold Xf ZM at h ⊢
 split at h
 ·exact absurd rfl h
 ·rw [if_neg (by assumption)]
def Zbl (v:Vr):Int:=if v.kind=2∨v.kind=3 then Xf v.size else 0
def Zag (f:Fc):Int:=ZK (ZM (decide ((f.params.length:Int)+f.vars.length≤64)&&decide ((f.rets.length:Int)≤64)) 13) (YI Zbl (f.params++f.vars))
def ZaB (p:Pg):Int:=ZK (ZM (decide ((p.regions.length:Int)≤16)&&decide (1≤(p.funcs.length:Int))&&decide ((p.funcs.length:Int)≤32)) 13)
 (ZK (YI (fun r=>Xf r.size) p.regions) (ZK (YI Zag p.funcs) (ZM (decide (ZaS p≤65536)) 13)))
theorem Zso (p:Pg) (hp:p.Ok) (H:List Ze):Zi Tryz.prog 105 [.agg p.cells] H (XO (ZaB p) H):=by
 refine Zf (Z0 Tryz.func105 rfl (by kernel_rfl) ?_)
 obtain⟨M,hM⟩:∃M,M=H++[.box 25 p.cells]:=⟨_,rfl⟩
 have hMk:M[H.length]?=some (.box 25 p.cells):=by rw [hM];simp
 have hMa:∀L,(M++L)[H.length]?=some (.box 25 p.cells):=fun L=>ZG hMk L
 have cs:=fun H=>ZsP p hp H
 simp only [Pg.cells] at hMk hMa cs
 have endP:∀L,YE (ZaB p=13→ZW H (XO (ZaB p) H) (.pan (Zal 13)) (M++L)):=fun L=>⟨fun h=>by
  rw [hM,List.append_assoc];exact YL h.symm (by decide)⟩
 have end0:∀L,YE (ZaB p=0→ZW H (XO (ZaB p) H) (.ret (.tup [])) (M++L)):=fun L=>⟨fun h=>by
  rw [hM,List.append_assoc];exact Ji h⟩
 refine Zc (fun f H'=>H'=M++[]∧f 1=.bp H.length 0) (by kernel_rfl) ?_ ?_
 ·simp -dsimp [hM]
 clear hM hMk
 rintro g _ ⟨rfl,g1⟩
 --numbers
 refine Zc (fun f H'=>H'=M++[]∧f 1=.bp H.length 0∧ZM (decide ((p.regions.length:Int)≤16)&&decide (1≤(p.funcs.length:Int))&&decide ((p.funcs.length:Int)≤32)) 13=0) (by kernel_rfl) ?_ ?_
 ·have hMk:=hMa []
  rw [List.append_nil] at hMk
  simp -dsimp [g1,hMk]
  repeat' ((with_reducible first|refine And.intro ?_ ?_|refine Zm (fun _=>?_) (fun _=>?_)|refine Zn (fun _=>?_) (fun _=>?_)|refine Zb (fun _=>?_) (fun _=>?_)|refine Zr (fun _=>?_) (fun _ _ _=>?_)|refine Zt (fun _=>?_) (fun _ _ _=>?_)|refine Zq (fun _=>?_) (fun _ _ _=>?_)|refine Zs (fun _ _ _=>?_) (fun _=>?_)|refine Zp (fun _ _ _=>?_) (fun _=>?_)|refine Zl (fun _ _ _=>?_) (fun _=>?_)|refine Zz (fun _=>?_) (fun _=>?_)|refine Zy (fun _=>?_) (fun _=>?_)|refine Z6 (fun _=>?_) (fun _=>?_)|refine Zw (fun _=>?_) (fun _=>?_)|refine Zx (fun _=>?_) (fun _=>?_)|refine Z3 (fun _=>?_) (fun _=>?_)|refine Jl ?_|refine Jg ?_|refine Jf (fun _=>?_) (fun _=>?_)|refine Jr (fun _=>?_) (fun _ _ _=>?_)|refine YT (fun _ _ _=>?_) (fun _=>?_)|refine Jb (fun _=>?_) (fun _=>?_)|refine Jj (fun _=>?_) (fun _=>?_))<;>simp -dsimp [*])
  all_goals first
   |(simp [ZM, *];done)
   |(have e:=(endP []).out (by simp [ZaB,ZK,ZM, *]);simpa using e)
   |trace_state
 clear g g1
 rintro g _ ⟨rfl,g1,h1⟩
 refine Zc (fun f H'=>H'=M++[]∧f 1=.bp H.length 0∧f 2=.fn (.func 174) [] []) (by kernel_rfl) ?_ ?_
 ·simp -dsimp [g1]
 clear g g1
 rintro g _ ⟨rfl,g1,g2⟩
 --regions
 refine Zc (fun f H'=>(∃L,H'=M++L)∧f 1=.bp H.length 0∧f 2=.fn (.func 174) [] []∧YI (fun r=>Xf r.size) p.regions=0) (by kernel_rfl) ?_ ?_
 ·have hMk:=hMa []
  rw [List.append_nil] at hMk
  simp -dsimp [g1,g2,hMk]
  have hpr:=hp.regions
  refine Zv (fun (i:Nat) g H'=>(∃L,H'=M++L)∧g 1=.bp H.length 0∧g 2=.fn (.func 174) [] []∧g 27=Rg.sl p.regions∧g 28=I p.regions.length∧g 29=I i∧i≤p.regions.length∧YI (fun r=>Xf r.size) (p.regions.drop i)=YI (fun r=>Xf r.size) p.regions) (fun i=>p.regions.length-i) (by kernel_rfl) 0 (by simp [g1,g2]) ?_
  clear g g1 g2
  rintro i g _ ⟨⟨L,rfl⟩,g1,g2,g7,g8,g9,hi,hinv⟩
  simp -dsimp [g1,g2,g7,g8,g9]
  refine Zb (fun hlt=>?_) (fun hlt=>?_)
  ·rw [Jn _ hlt] at hinv
   simp -dsimp [g1,g2,g7,g8,g9,List.getElem?_eq_getElem,hlt]
   refine Zb6 (Zhm _ _) (fun hz=>?_) (fun hz=>?_)
   ·rw [hz,Zj] at hinv
    simp -dsimp [g1,g2,g7,g8,g9]
    exact⟨i+1,by omega,ZC (by omega),by omega,hinv⟩
   ·rw [Zu hz] at hinv
    have e13:Xf p.regions[i].size=13:=by unfold Xf ZM at hz ⊢;split at hz;·exact absurd rfl hz
                                         rw [if_neg (by assumption)]
    simp -dsimp [e13]
    rw [e13] at hinv
    exact (endP _).out (by rw [ZaB,h1,Zj,←hinv];rfl)
  ·rw [JI _ hlt] at hinv
   simp -dsimp [g1,g2]
   exact hinv.symm
 clear g g1 g2
 rintro g _ ⟨⟨L0,rfl⟩,g1,g2,h2⟩
 --functions
 refine Z4 (fun f H'=>(∃L,H'=M++L)∧f 1=.bp H.length 0∧YI Zag p.funcs=0) ?_ ?_
 ·refine Zc (fun f H'=>(∃L,H'=M++L)∧f 1=.bp H.length 0∧f 2=.fn (.func 174) [] []∧f 39=Fc.sl p.funcs∧f 40=I p.funcs.length∧f 41=I 0) (by kernel_rfl) ?_ ?_
  ·simp -dsimp [g1,g2,hMa]
  clear g g1 g2
  rintro g _ ⟨⟨L,rfl⟩,g1,g2,g39,g40,g41⟩
  refine Z9 ?_
  have hpf:=hp.funcs
  refine Yd (fun (i:Nat) g H'=>(∃L,H'=M++L)∧g 1=.bp H.length 0∧g 2=.fn (.func 174) [] []∧g 39=Fc.sl p.funcs∧g 40=I p.funcs.length∧g 41=I i∧i≤p.funcs.length∧YI Zag (p.funcs.drop i)=YI Zag p.funcs) (fun i=>p.funcs.length-i) 0 (by simp [*]) ?_
  clear g g1 g2 g39 g40 g41
  rintro i g _ ⟨⟨L,rfl⟩,g1,g2,g39,g40,g41,hi,hinv⟩
  refine Zc (fun f H'=>H'=M++L∧f 1=.bp H.length 0∧f 2=.fn (.func 174) [] []∧f 39=Fc.sl p.funcs∧f 40=I p.funcs.length∧f 41=I i∧f 42=Bo (decide ((i:Int)<p.funcs.length))) (by kernel_rfl) ?_ ?_
  ·simp -dsimp [g1,g2,g39,g40,g41]
  clear g g1 g2 g39 g40 g41
  rintro g _ ⟨rfl,g1,g2,g39,g40,g41,g42⟩
  refine Zc (fun f H'=>H'=M++L∧f 1=.bp H.length 0∧f 2=.fn (.func 174) [] []∧f 39=Fc.sl p.funcs∧f 40=I p.funcs.length∧f 41=I i∧i<p.funcs.length) (by kernel_rfl) ?_ ?_
  ·simp -dsimp [g42]
   refine Zb (fun hlt=>?_) (fun hlt=>?_)
   ·simp -dsimp [g1,g2,g39,g40,g41]
    omega
   ·rw [JI _ (by omega)] at hinv
    simp -dsimp [g1]
    exact hinv.symm
  clear g g1 g2 g39 g40 g41 g42
  rintro g _ ⟨rfl,g1,g2,g39,g40,g41,hlt⟩
  rw [Jn _ hlt] at hinv
  have hpp:=hp.params _ (List.getElem_mem hlt)
  have hpv:=hp.vars _ (List.getElem_mem hlt)
  have hprt:=hp.rets _ (List.getElem_mem hlt)
  obtain⟨F,hF⟩:∃F,F=p.funcs[i]:=⟨_,rfl⟩
  rw [←hF] at hinv hpp hpv hprt
  have err:∀L,YE (Zag F=13→ZW H (XO (ZaB p) H) (.pan (Zal 13)) (M++L)):=fun L=>⟨fun h=>(endP L).out (by
   rw [h,Zu (by decide)] at hinv;rw [ZaB,h1,h2,←hinv];rfl)⟩
  refine Z4 (fun f H'=>(∃L,H'=M++L)∧f 1=.bp H.length 0∧f 2=.fn (.func 174) [] []∧f 39=Fc.sl p.funcs∧f 40=I p.funcs.length∧f 41=I i∧Zag F=0) ?_ ?_
  ·refine Z9 ?_
   refine Zc (fun f H'=>H'=M++(L++[Ze.box 56 F.cells])∧f 1=.bp H.length 0∧f 2=.fn (.func 174) [] []∧f 39=Fc.sl p.funcs∧f 40=I p.funcs.length∧f 41=I i∧f 6=.bp (M.length+L.length) 0) (by kernel_rfl) ?_ ?_
   ·simp -dsimp [g1,g2,g39,g40,g41,List.getElem?_eq_getElem,hlt,hF]
   clear g g1 g2 g39 g40 g41
   rintro g _ ⟨rfl,g1,g2,g39,g40,g41,g6⟩
   have w1:IntKind.i64.wrap ((F.params.length:Int)+F.vars.length)=(F.params.length:Int)+F.vars.length:=YG (by omega) (by omega)
   refine Zc (fun f H'=>H'=M++(L++[Ze.box 56 F.cells])∧f 1=.bp H.length 0∧f 2=.fn (.func 174) [] []∧f 39=Fc.sl p.funcs∧f 40=I p.funcs.length∧f 41=I i∧f 6=.bp (M.length+L.length) 0∧
    ZM (decide ((F.params.length:Int)+F.vars.length≤64)&&decide ((F.rets.length:Int)≤64)) 13=0) (by kernel_rfl) ?_ ?_
   ·clear hF hinv
    simp -dsimp [g1,g2,g39,g40,g41,g6,w1]
    repeat' ((with_reducible first|refine And.intro ?_ ?_|refine Zm (fun _=>?_) (fun _=>?_)|refine Zn (fun _=>?_) (fun _=>?_)|refine Zb (fun _=>?_) (fun _=>?_)|refine Zr (fun _=>?_) (fun _ _ _=>?_)|refine Zt (fun _=>?_) (fun _ _ _=>?_)|refine Zq (fun _=>?_) (fun _ _ _=>?_)|refine Zs (fun _ _ _=>?_) (fun _=>?_)|refine Zp (fun _ _ _=>?_) (fun _=>?_)|refine Zl (fun _ _ _=>?_) (fun _=>?_)|refine Zz (fun _=>?_) (fun _=>?_)|refine Zy (fun _=>?_) (fun _=>?_)|refine Z6 (fun _=>?_) (fun _=>?_)|refine Zw (fun _=>?_) (fun _=>?_)|refine Zx (fun _=>?_) (fun _=>?_)|refine Z3 (fun _=>?_) (fun _=>?_)|refine Jl ?_|refine Jg ?_|refine Jf (fun _=>?_) (fun _=>?_)|refine Jr (fun _=>?_) (fun _ _ _=>?_)|refine YT (fun _ _ _=>?_) (fun _=>?_)|refine Jb (fun _=>?_) (fun _=>?_)|refine Jj (fun _=>?_) (fun _=>?_))<;>simp -dsimp [*])
    all_goals first
     |(simp [ZM, *];done)
     |(exact (err _).out (by simp [Zag,ZK,ZM, *]))
     |trace_state
   clear g g1 g2 g39 g40 g41 g6
   rintro g _ ⟨rfl,g1,g2,g39,g40,g41,g6,h4⟩
   refine J2 (fun d=>d==62||d==65) (fun id=>if id=12 then some [(0,[]),(1,[]),(3,[]),(4,[]),(7,[]),(2,[3,4,7]),(5,[7]),(6,[])] else none) (fun f H'=>(∃L2,H'=M++(L++Ze.box 56 F.cells::L2))∧f 1=.bp H.length 0∧f 2=.fn (.func 174) [] []∧f 39=Fc.sl p.funcs∧f 40=I p.funcs.length∧f 41=I i∧
    Zd6 H' (f 65) 120 4 ((F.params++F.vars).map Vr.cells)∧f 66=I (F.params++F.vars).length∧f 67=I 0) (by kernel_rfl) ?_ ?_
   ·simp -dsimp [g1,g2,g39,g40,g41,g6]
    refine ZA (ZfL F.params hpp _) ?_
    rintro e H' (⟨hl,rfl,rfl⟩|⟨rfl,rfl⟩)
    ·simp -dsimp [g1,g2,g39,g40,g41,g6]
     refine Zaa (by simp;omega) (by simp;omega) (fun hy=>?_) (fun hy=>?_)
     ·have hv:F.vars=[]:=by simpa using hy
      simp -dsimp [g1,g2,g39,g40,g41,g6,hl,hv]
      exact .inl ⟨rfl,rfl⟩
     ·simp -dsimp [g1,g2,g39,g40,g41,g6,hl]
      exact .inr ⟨M.length+(L.length+1),by simp,by simp⟩
    ·simp -dsimp [g1,g2,g39,g40,g41,g6]
     refine Jc (es:=F.params.map Vr.cells) (by simp) (by simp) (by simp) (by simp;omega) (by simp;omega) ?_
     simp -dsimp [g1,g2,g39,g40,g41,g6]
     exact .inr ⟨M.length+(L.length+1),by simp,by simp⟩
   clear g g1 g2 g39 g40 g41 g6
   rintro g _ ⟨⟨L2,rfl⟩,g1,g2,g39,g40,g41,hrow,g66,g67⟩
   obtain⟨W,hW⟩:∃W,W=M++(L++Ze.box 56 F.cells::L2):=⟨_,rfl⟩
   have hWM:∀L3,∃L4,W++L3=M++L4:=fun L3=>⟨L++Ze.box 56 F.cells::L2++L3,by rw [hW];simp⟩
   rw [←hW] at hrow ⊢
   clear hW hF
   obtain⟨vs,hvs⟩:∃vs,vs=F.params++F.vars:=⟨_,rfl⟩
   have hvl:vs.length≤2^40:=by rw [hvs];simp;omega
   have hmf:Zag F=YI Zbl vs:=by rw [Zag,h4,Zj,hvs]
   rw [←hvs] at hrow g66
   clear hvs
   refine Zk (by kernel_rfl) ?_
   simp -dsimp
   refine Zv (fun (j:Nat) f H'=>(∃L3,H'=W++L3)∧f 1=.bp H.length 0∧f 2=.fn (.func 174) [] []∧f 39=Fc.sl p.funcs∧f 40=I p.funcs.length∧f 41=I i∧Zd6 W (f 65) 120 4 (vs.map Vr.cells)∧f 66=I vs.length∧f 67=I j∧j≤vs.length∧YI Zbl (vs.drop j)=YI Zbl vs) (fun j=>vs.length-j) (by kernel_rfl) 0 (by simp [*]) ?_
   clear g g1 g2 g39 g40 g41 hrow g66 g67
   rintro j g _ ⟨⟨L3,rfl⟩,g1,g2,g39,g40,g41,hrow,g66,g67,hj,hinv2⟩
   simp -dsimp [g66,g67]
   refine Zb (fun hjt=>?_) (fun hjt=>?_)
   ·rw [Jn _ hjt] at hinv2
    rcases hrow with ⟨g65,hes⟩|⟨k,g65,hk⟩
    ·have:vs=[]:=by simpa using hes
     subst this
     simp at hjt
    ·have hkL:=fun L=>ZG hk L
     replace hinv:=YE.mk hinv
     replace hinv2:=YE.mk hinv2
     simp -dsimp [g1,g2,g39,g40,g41,g65,g66,g67,hkL,List.getElem?_eq_getElem,hjt]
     replace hmf:=YE.mk hmf
     repeat' ((with_reducible first|refine And.intro ?_ ?_|refine Zm (fun _=>?_) (fun _=>?_)|refine Zn (fun _=>?_) (fun _=>?_)|refine Zb (fun _=>?_) (fun _=>?_)|refine Zr (fun _=>?_) (fun _ _ _=>?_)|refine Zt (fun _=>?_) (fun _ _ _=>?_)|refine Zq (fun _=>?_) (fun _ _ _=>?_)|refine Zs (fun _ _ _=>?_) (fun _=>?_)|refine Zp (fun _ _ _=>?_) (fun _=>?_)|refine Zl (fun _ _ _=>?_) (fun _=>?_)|refine Zz (fun _=>?_) (fun _=>?_)|refine Zy (fun _=>?_) (fun _=>?_)|refine Z6 (fun _=>?_) (fun _=>?_)|refine Zw (fun _=>?_) (fun _=>?_)|refine Zx (fun _=>?_) (fun _=>?_)|refine Z3 (fun _=>?_) (fun _=>?_)|refine Zb6 (Zhm _ _) (fun hz=>?_) (fun hz=>?_))<;>simp -dsimp [*])
     all_goals replace hinv2:=hinv2.out
     all_goals first
      |(have e:Zbl vs[j]=0:=by simp [Zbl, *]
        rw [e,Zj] at hinv2
        exact⟨j+1,by omega,.inr ⟨k,by simp,hk⟩,ZC (by omega),by omega,hinv2⟩)
      |(have e13:=Zvl hz
        have e:Zbl vs[j]=13:=by simp [Zbl, *]
        rw [e,Zu (by decide)] at hinv2
        rw [e13]
        refine (fun (h:∀L3,ZW H (XO (ZaB p) H) (.pan (Zal 13)) (W++L3))=>h _) fun L3=>?_
        obtain⟨L4,h4'⟩:=hWM L3
        rw [h4']
        exact (err L4).out (by rw [hmf.out,←hinv2]))
      |trace_state
   ·rw [JI _ hjt] at hinv2
    obtain⟨L4,h4'⟩:=hWM L3
    simp -dsimp [g1,g2,g39,g40,g41]
    exact⟨⟨L4,h4'⟩,by rw [hmf,←hinv2]⟩
  clear g g1 g2 g39 g40 g41
  rintro g _ ⟨⟨L5,rfl⟩,g1,g2,g39,g40,g41,h5⟩
  rw [h5,Zj] at hinv
  refine Zk (by kernel_rfl) ?_
  simp -dsimp [g1,g2,g39,g40,g41]
  exact⟨i+1,by omega,ZC (by omega),by omega,hinv⟩
 clear g g1 g2
 rintro g _ ⟨⟨L1,rfl⟩,g1,h3⟩
 refine Zk (by kernel_rfl) ?_
 simp -dsimp [g1,hMa]
 refine Za (cs _) ?_
 simp -dsimp
 repeat' ((with_reducible first|refine And.intro ?_ ?_|refine Zm (fun _=>?_) (fun _=>?_)|refine Zn (fun _=>?_) (fun _=>?_)|refine Zb (fun _=>?_) (fun _=>?_)|refine Zr (fun _=>?_) (fun _ _ _=>?_)|refine Zt (fun _=>?_) (fun _ _ _=>?_)|refine Zq (fun _=>?_) (fun _ _ _=>?_)|refine Zs (fun _ _ _=>?_) (fun _=>?_)|refine Zp (fun _ _ _=>?_) (fun _=>?_)|refine Zl (fun _ _ _=>?_) (fun _=>?_)|refine Zz (fun _=>?_) (fun _=>?_)|refine Zy (fun _=>?_) (fun _=>?_)|refine Z6 (fun _=>?_) (fun _=>?_)|refine Zw (fun _=>?_) (fun _=>?_)|refine Zx (fun _=>?_) (fun _=>?_)|refine Z3 (fun _=>?_) (fun _=>?_)|refine Jl ?_|refine Jg ?_|refine Jf (fun _=>?_) (fun _=>?_)|refine Jr (fun _=>?_) (fun _ _ _=>?_)|refine YT (fun _ _ _=>?_) (fun _=>?_)|refine Jb (fun _=>?_) (fun _=>?_)|refine Jj (fun _=>?_) (fun _=>?_))<;>simp -dsimp [*])
 ·exact (end0 _).out (by rw [ZaB,h1,h2,h3];simp [*])
 ·exact (endP _).out (by rw [ZaB,h1,h2,h3];simp [ZM, *])
end Go.Proofs
namespace Go.Proofs
open Go.Mu
abbrev Tab:=List (ByteArray×Bool)
def ZbA:List ByteArray→Tab→Int
 |[],_=>0
 |s::l,t=>ZK (oneE s t) (ZbA l (Jw s true t))
def YK (l:List ByteArray) (t:Tab):Tab:=l.foldl (fun t s=>Jw s true t) t
def Zcq:List Vr→Tab→Tab→Int
 |[],_,_=>0
 |v::l,own,reg=>ZK (oneE v.name own) (Zcq l (Jw v.name true own) (Jw v.name (v.kind==1) reg))
def ZgG (l:List Vr) (t:Tab):Tab:=l.foldl (fun t v=>Jw v.name (v.kind==1) t) t
def Zfl (reg:Tab):List ByteArray→Tab→Int
 |[],_=>0
 |s::l,t=>ZK (ZM (Xc s reg) 8) (ZK (oneE s t) (Zfl reg l (Jw s true t)))
def Zdh (rs:List Rg) (f:Fc):Int:=ZK (Zcq (f.params++f.vars) (YK (rs.map Rg.name) []) []) (Zfl (ZgG (f.params++f.vars) []) f.rets [])
def Xw (p:Pg):Int:=ZK (ZbA (p.regions.map Rg.name) []) (ZK (ZbA (p.funcs.map Fc.name) (YK (p.regions.map Rg.name) [])) (YI (Zdh p.regions) p.funcs))
structure Pg.NOk (p:Pg):Prop where
 regions:∀r∈p.regions,r.name.size≤2^40
 funcs:∀f∈p.funcs,f.name.size≤2^40∧(∀v∈f.params++f.vars,v.name.size≤2^40)∧(∀s∈f.rets,s.size≤2^40)
theorem Ztb {s:ByteArray} {l:Tab} {k:Nat} {H:List Ze} {R:AE→List Ze→Prop} {w:ZQ R} (hs:s.size≤2^40) (hk:H[k]?=some (.map (Yg Xo l)))
 (hz:oneE s l=0→R (.ret (.tup [])) (H.set k (.map (Yg Xo (Jw s true l))))) (hn:oneE s l=8→R (.pan (Zal 8)) H):X2 Tryz.prog 176 [St s,.hm k] H R w:=by
 refine ZA (ZuX s hs l k H hk) ?_
 rintro e H' ⟨rfl,rfl⟩
 by_cases h:oneE s l=0
 ·rw [if_pos h,h];exact hz h
 ·have h8:oneE s l=8:=by
   unfold oneE ZM at h ⊢
   split at h
   ·exact absurd rfl h
   ·rw [if_neg (by assumption)]
  rw [if_neg h,h8];exact hn h8
theorem Zit {l:List ByteArray} {i:Nat} (h:i<l.length) (t:Tab):ZbA (l.drop i) t=ZK (oneE l[i] t) (ZbA (l.drop (i+1)) (Jw l[i] true t)):=by rw [Zo h,ZbA]
theorem ZaW {l:List ByteArray} {i:Nat} (h:i<l.length) (t:Tab):YK (l.take (i+1)) t=Jw l[i] true (YK (l.take i) t):=by rw [Y1 h,YK,List.foldl_append];rfl
theorem ZpM (p:Pg) (hp:p.Ok) (hq:p.NOk) (H:List Ze):Zi Tryz.prog 106 [.agg p.cells] H (XO (Xw p) H):=by
 refine Zf (Z0 Tryz.func106 rfl (by kernel_rfl) ?_)
 have endP:∀L,YE (Xw p=8→ZW H (XO (Xw p) H) (.pan (Zal 8)) (H++L)):=fun L=>⟨fun h=>YL h.symm (by decide)⟩
 have end0:∀L,YE (Xw p=0→ZW H (XO (Xw p) H) (.ret (.tup [])) (H++L)):=fun L=>⟨fun h=>Ji h⟩
 have fn:Fn:=.func 176
 refine Zc (fun f H'=>H'=H++[.box 25 p.cells]∧f 1=.bp H.length 0) (by kernel_rfl) ?_ ?_
 ·simp -dsimp
 rintro g _ ⟨rfl,g1⟩
 refine Zc (fun f H'=>H'=H++[Ze.box 25 p.cells,Ze.map (Yg Xo [])]∧f 1=.bp H.length 0∧f 2=.hm (H.length+1)) (by kernel_rfl) ?_ ?_
 ·simp -dsimp [g1,Yg]
 clear g g1
 rintro g _ ⟨rfl,g1,g2⟩
 refine Zc (fun f H'=>H'=H++[Ze.box 25 p.cells,Ze.map (Yg Xo [])]∧f 1=.bp H.length 0∧f 2=.hm (H.length+1)∧f 3=.fn (.func 176) [] []) (by kernel_rfl) ?_ ?_
 ·simp -dsimp [g1,g2]
 clear g g1 g2
 rintro g _ ⟨rfl,g1,g2,g3⟩
 --regions
 refine Zc (fun f H'=>(∃L,H'=H++(Ze.box 25 p.cells::Ze.map (Yg Xo (YK (p.regions.map Rg.name) []))::L))∧f 1=.bp H.length 0∧f 2=.hm (H.length+1)∧f 3=.fn (.func 176) [] []∧ZbA (p.regions.map Rg.name) []=0) (by kernel_rfl) ?_ ?_
 ·have hpr:=hp.regions
  simp -dsimp [g1,g2,g3]
  refine Zv (fun (i:Nat) g H'=>(∃L,H'=H++(Ze.box 25 p.cells::Ze.map (Yg Xo (YK ((p.regions.map Rg.name).take i) []))::L))∧g 1=.bp H.length 0∧g 2=.hm (H.length+1)∧g 3=.fn (.func 176) [] []∧
   g 22=Rg.sl p.regions∧g 23=I p.regions.length∧g 24=I i∧i≤p.regions.length∧ZbA ((p.regions.map Rg.name).drop i) (YK ((p.regions.map Rg.name).take i) [])=ZbA (p.regions.map Rg.name) []) (fun i=>p.regions.length-i) (by kernel_rfl) 0 (by simp [g1,g2,g3,YK]) ?_
  clear g g1 g2 g3
  rintro i g _ ⟨⟨L,rfl⟩,g1,g2,g3,g7,g8,g9,hi,hinv⟩
  simp -dsimp [g1,g2,g3,g7,g8,g9]
  refine Zb (fun hlt=>?_) (fun hlt=>?_)
  ·have hltn:i<(p.regions.map Rg.name).length:=by simpa using hlt
   rw [Zit hltn] at hinv
   have hT:=ZaW hltn []
   rw [List.getElem_map] at hinv hT
   obtain⟨T,hTT⟩:∃T,T=YK ((p.regions.map Rg.name).take i) []:=⟨_,rfl⟩
   rw [←hTT] at hinv hT ⊢
   have hsz:=hq.regions _ (List.getElem_mem hlt)
   simp -dsimp [g1,g2,g3,g7,g8,g9,List.getElem?_eq_getElem,hlt]
   refine Ztb hsz (by simp;rfl) (fun hz=>?_) (fun hz=>?_)
   ·rw [hz,Zj] at hinv
    simp -dsimp [g1,g2,g3,g7,g8,g9]
    exact⟨i+1,by omega,by rw [hT],ZC (by omega),by omega,by rw [hT];exact hinv⟩
   ·rw [hz,Zu (by decide)] at hinv
    simp -dsimp
    exact (endP _).out (by rw [Xw,←hinv];rfl)
  ·have e:(p.regions.map Rg.name).take i=p.regions.map Rg.name:=List.take_of_length_le (by simp;omega)
   have e2:(p.regions.map Rg.name).drop i=[]:=List.drop_of_length_le (by simp;omega)
   rw [e,e2,ZbA] at hinv
   simp -dsimp [g1,g2,g3,e]
   exact hinv.symm
 clear g g1 g2 g3
 rintro g _ ⟨⟨L0,rfl⟩,g1,g2,g3,h1⟩
 obtain⟨T0,hT0⟩:∃T0,T0=YK (p.regions.map Rg.name) []:=⟨_,rfl⟩
 rw [←hT0]
 refine Zc (fun f H'=>H'=H++(Ze.box 25 p.cells::Ze.map (Yg Xo T0)::L0)∧f 1=.bp H.length 0∧f 2=.hm (H.length+1)∧f 3=.fn (.func 176) [] []∧f 6=I p.regions.length) (by kernel_rfl) ?_ ?_
 ·simp -dsimp [g1,g2,g3]
 clear g g1 g2 g3
 rintro g _ ⟨rfl,g1,g2,g3,g6⟩
 --functions' names
 refine Zc (fun f H'=>(∃L,H'=H++(Ze.box 25 p.cells::Ze.map (Yg Xo (YK (p.funcs.map Fc.name) T0))::L))∧f 1=.bp H.length 0∧f 3=.fn (.func 176) [] []∧f 6=I p.regions.length∧ZbA (p.funcs.map Fc.name) T0=0) (by kernel_rfl) ?_ ?_
 ·have hpr:=hp.funcs
  simp -dsimp [g1,g2,g3,g6]
  refine Zv (fun (i:Nat) g H'=>(∃L,H'=H++(Ze.box 25 p.cells::Ze.map (Yg Xo (YK ((p.funcs.map Fc.name).take i) T0))::L))∧g 1=.bp H.length 0∧g 2=.hm (H.length+1)∧g 3=.fn (.func 176) [] []∧g 6=I p.regions.length∧
   g 38=Fc.sl p.funcs∧g 39=I p.funcs.length∧g 40=I i∧i≤p.funcs.length∧ZbA ((p.funcs.map Fc.name).drop i) (YK ((p.funcs.map Fc.name).take i) T0)=ZbA (p.funcs.map Fc.name) T0) (fun i=>p.funcs.length-i) (by kernel_rfl) 0 (by simp [g1,g2,g3,g6,YK]) ?_
  clear g g1 g2 g3 g6
  rintro i g _ ⟨⟨L,rfl⟩,g1,g2,g3,g6,g7,g8,g9,hi,hinv⟩
  simp -dsimp [g1,g2,g3,g6,g7,g8,g9]
  refine Zb (fun hlt=>?_) (fun hlt=>?_)
  ·have hltn:i<(p.funcs.map Fc.name).length:=by simpa using hlt
   rw [Zit hltn] at hinv
   have hT:=ZaW hltn T0
   rw [List.getElem_map] at hinv hT
   obtain⟨T,hTT⟩:∃T,T=YK ((p.funcs.map Fc.name).take i) T0:=⟨_,rfl⟩
   rw [←hTT] at hinv hT ⊢
   have hsz:=(hq.funcs _ (List.getElem_mem hlt)).1
   simp -dsimp [g1,g2,g3,g6,g7,g8,g9,List.getElem?_eq_getElem,hlt]
   refine Ztb hsz (by simp;rfl) (fun hz=>?_) (fun hz=>?_)
   ·rw [hz,Zj] at hinv
    simp -dsimp [g1,g2,g3,g6,g7,g8,g9]
    exact⟨i+1,by omega,by rw [hT],ZC (by omega),by omega,by rw [hT];exact hinv⟩
   ·rw [hz,Zu (by decide)] at hinv
    simp -dsimp
    exact (endP _).out (by rw [Xw,h1,Zj,←hT0,←hinv];rfl)
  ·have e:(p.funcs.map Fc.name).take i=p.funcs.map Fc.name:=List.take_of_length_le (by simp;omega)
   have e2:(p.funcs.map Fc.name).drop i=[]:=List.drop_of_length_le (by simp;omega)
   rw [e,e2,ZbA] at hinv
   simp -dsimp [g1,g2,g3,g6,e]
   exact hinv.symm
 clear g g1 g2 g3 g6
 rintro g _ ⟨⟨L1,rfl⟩,g1,g3,g6,h2⟩
 have hE:Xw p=YI (Zdh p.regions) p.funcs:=by rw [Xw,h1,Zj,←hT0,h2,Zj]
 obtain⟨W,hW⟩:∃W,W=H++(Ze.box 25 p.cells::Ze.map (Yg Xo (YK (p.funcs.map Fc.name) T0))::L1):=⟨_,rfl⟩
 have hWp:∀L,(W++L)[H.length]?=some (.box 25 p.cells):=fun L=>by rw [hW];simp
 have hWp0:W[H.length]?=some (.box 25 p.cells):=by rw [hW];simp
 have endP2:∀L,YE (Xw p=8→ZW H (XO (Xw p) H) (.pan (Zal 8)) (W++L)):=fun L=>⟨fun h=>by rw [hW,List.append_assoc];exact (endP _).out h⟩
 have end02:∀L,YE (Xw p=0→ZW H (XO (Xw p) H) (.ret (.tup [])) (W++L)):=fun L=>⟨fun h=>by rw [hW,List.append_assoc];exact (end0 _).out h⟩
 simp only [Pg.cells] at hWp hWp0
 rw [←hW]
 clear hW endP end0
 have hpf:=hp.funcs
 have hpr:=hp.regions
 --functions
 refine Zc (fun f H'=>(∃L,H'=W++L)∧f 1=.bp H.length 0∧f 3=.fn (.func 176) [] []∧f 6=I p.regions.length∧f 51=Fc.sl p.funcs∧f 52=I p.funcs.length∧f 53=I 0) (by kernel_rfl) ?_ ?_
 ·simp -dsimp [g1,g3,g6,hWp0]
 clear g g1 g3 g6
 rintro g _ ⟨⟨L,rfl⟩,g1,g3,g6,g51,g52,g53⟩
 refine Z9 ?_
 refine Yd (fun (i:Nat) f H'=>(∃L,H'=W++L)∧f 1=.bp H.length 0∧f 3=.fn (.func 176) [] []∧f 6=I p.regions.length∧f 51=Fc.sl p.funcs∧f 52=I p.funcs.length∧f 53=I i∧i≤p.funcs.length∧YI (Zdh p.regions) (p.funcs.drop i)=YI (Zdh p.regions) p.funcs) (fun i=>p.funcs.length-i) 0 (by simp [*]) ?_
 clear g g1 g3 g6 g51 g52 g53 L
 rintro i g _ ⟨⟨L,rfl⟩,g1,g3,g6,g51,g52,g53,hi,hinv⟩
 refine Zc (fun f H'=>H'=W++L∧f 1=.bp H.length 0∧f 3=.fn (.func 176) [] []∧f 6=I p.regions.length∧f 51=Fc.sl p.funcs∧f 52=I p.funcs.length∧f 53=I i∧f 54=Bo (decide ((i:Int)<p.funcs.length))) (by kernel_rfl) ?_ ?_
 ·simp -dsimp [g1,g3,g6,g51,g52,g53]
 clear g g1 g3 g6 g51 g52 g53
 rintro g _ ⟨rfl,g1,g3,g6,g51,g52,g53,g54⟩
 refine Zc (fun f H'=>H'=W++L∧f 1=.bp H.length 0∧f 3=.fn (.func 176) [] []∧f 6=I p.regions.length∧f 51=Fc.sl p.funcs∧f 52=I p.funcs.length∧f 53=I i∧i<p.funcs.length) (by kernel_rfl) ?_ ?_
 ·simp -dsimp [g54]
  refine Zb (fun hlt=>?_) (fun hlt=>?_)
  ·simp -dsimp [g1,g3,g6,g51,g52,g53]
   omega
  ·rw [JI _ (by omega)] at hinv
   simp -dsimp
   exact (end02 _).out (by rw [hE,←hinv])
 clear g g1 g3 g6 g51 g52 g53 g54
 rintro g _ ⟨rfl,g1,g3,g6,g51,g52,g53,hlt⟩
 rw [Jn _ hlt] at hinv
 obtain⟨F,hF⟩:∃F,F=p.funcs[i]:=⟨_,rfl⟩
 have hpp:=hp.params _ (List.getElem_mem hlt)
 have hpv:=hp.vars _ (List.getElem_mem hlt)
 have hprt:=hp.rets _ (List.getElem_mem hlt)
 obtain⟨_,hnv,hnr⟩:=hq.funcs _ (List.getElem_mem hlt)
 rw [←hF] at hinv hpp hpv hprt hnv hnr
 have err:∀L,YE (Zdh p.regions F=8→ZW H (XO (Xw p) H) (.pan (Zal 8)) (W++L)):=fun L=>⟨fun h=>(endP2 L).out (by
  rw [h,Zu (by decide)] at hinv;rw [hE,←hinv])⟩
 refine Z4 (fun f H'=>(∃L,H'=W++L)∧f 1=.bp H.length 0∧f 3=.fn (.func 176) [] []∧f 6=I p.regions.length∧f 51=Fc.sl p.funcs∧f 52=I p.funcs.length∧f 53=I i∧Zdh p.regions F=0) ?_ ?_
 rotate_left
 ·clear g g1 g3 g6 g51 g52 g53
  rintro g _ ⟨⟨L5,rfl⟩,g1,g3,g6,g51,g52,g53,h5⟩
  rw [h5,Zj] at hinv
  refine Zk (by kernel_rfl) ?_
  simp -dsimp [g1,g3,g6,g51,g52,g53]
  exact⟨i+1,by omega,ZC (by omega),by omega,hinv⟩
 refine Z9 ?_
 refine Zc (fun f H'=>H'=W++(L++[Ze.box 56 F.cells])∧f 1=.bp H.length 0∧f 3=.fn (.func 176) [] []∧f 6=I p.regions.length∧f 51=Fc.sl p.funcs∧f 52=I p.funcs.length∧f 53=I i∧f 10=.bp (W.length+L.length) 0) (by kernel_rfl) ?_ ?_
 ·simp -dsimp [g1,g3,g6,g51,g52,g53,List.getElem?_eq_getElem,hlt,hF]
 clear g g1 g3 g6 g51 g52 g53
 rintro g _ ⟨rfl,g1,g3,g6,g51,g52,g53,g10⟩
 obtain⟨V,hV⟩:∃V,V=W++(L++[Ze.box 56 F.cells]):=⟨_,rfl⟩
 have hVp:∀L,(V++L)[H.length]?=some (.box 25 [Rg.sl p.regions,Fc.sl p.funcs]):=fun L=>by rw [hV,List.append_assoc];exact hWp _
 obtain⟨c,hc⟩:∃c,c=W.length+L.length:=⟨_,rfl⟩
 have hVf:∀L,(V++L)[c]?=some (.box 56 F.cells):=fun L=>by rw [hV,hc];simp
 have hVW:∀L,∃L',V++L=W++L':=fun L'=>⟨_,by rw [hV,List.append_assoc]⟩
 rw [←hc] at g10
 simp only [Fc.cells] at hVf
 rw [←hV]
 clear hV hc hF
 have errV:∀L,YE (Zdh p.regions F=8→ZW H (XO (Xw p) H) (.pan (Zal 8)) (V++L)):=fun L=>⟨fun h=>by obtain⟨L',e⟩:=hVW L;rw [e];exact (err L').out h⟩
 clear err
 --the regions' names
 refine Zc (fun f H'=>H'=V++[Ze.map (Yg Xo [])]∧f 1=.bp H.length 0∧f 3=.fn (.func 176) [] []∧f 6=I p.regions.length∧f 51=Fc.sl p.funcs∧f 52=I p.funcs.length∧f 53=I i∧f 10=.bp c 0∧f 11=.hm V.length) (by kernel_rfl) ?_ ?_
 ·simp -dsimp [g1,g3,g6,g51,g52,g53,g10,Yg]
 clear g g1 g3 g6 g51 g52 g53 g10
 rintro g _ ⟨rfl,g1,g3,g6,g51,g52,g53,g10,g11⟩
 obtain⟨O,hO⟩:∃O,O=YK (p.regions.map Rg.name) []:=⟨_,rfl⟩
 refine Zc (fun f H'=>(∃L,H'=V++(Ze.map (Yg Xo O)::L))∧f 1=.bp H.length 0∧f 3=.fn (.func 176) [] []∧f 6=I p.regions.length∧f 51=Fc.sl p.funcs∧f 52=I p.funcs.length∧f 53=I i∧f 10=.bp c 0∧f 11=.hm V.length) (by kernel_rfl) ?_ ?_
 ·simp -dsimp [g1,g3,g6,g51,g52,g53,g10,g11,hVp]
  refine Zv (fun (j:Nat) f H'=>(∃L,H'=V++(Ze.map (Yg Xo (YK ((p.regions.map Rg.name).take j) []))::L))∧f 1=.bp H.length 0∧f 3=.fn (.func 176) [] []∧f 6=I p.regions.length∧f 51=Fc.sl p.funcs∧f 52=I p.funcs.length∧f 53=I i∧f 10=.bp c 0∧f 11=.hm V.length∧f 61=Rg.sl p.regions∧f 62=I p.regions.length∧f 63=I j∧j≤p.regions.length) (fun j=>p.regions.length-j) (by kernel_rfl) 0 (by simp [g1,g3,g6,g51,g52,g53,g10,g11,YK];exact List.take_of_length_le (by simp)) ?_
  clear g g1 g3 g6 g51 g52 g53 g10 g11
  rintro j g _ ⟨⟨L,rfl⟩,g1,g3,g6,g51,g52,g53,g10,g11,g61,g62,g63,hj⟩
  simp -dsimp [g61,g62,g63]
  refine Zb (fun hjt=>?_) (fun hjt=>?_)
  ·have hltn:j<(p.regions.map Rg.name).length:=by simpa using hjt
   have hT:=ZaW hltn []
   rw [List.getElem_map] at hT
   obtain⟨T,hTT⟩:∃T,T=YK ((p.regions.map Rg.name).take j) []:=⟨_,rfl⟩
   rw [←hTT] at hT ⊢
   have hst:=ZaK Xo p.regions[j].name true T
   simp -dsimp [g1,g3,g6,g51,g52,g53,g10,g11,g61,g62,g63,List.getElem?_eq_getElem,hjt,Y3,hst]
   exact⟨j+1,by omega,by rw [hT],ZC (by omega),by omega⟩
  ·have e:(p.regions.map Rg.name).take j=p.regions.map Rg.name:=List.take_of_length_le (by simp;omega)
   simp -dsimp [g1,g3,g6,g51,g52,g53,g10,g11,e,hO]
 clear g g1 g3 g6 g51 g52 g53 g10 g11
 rintro g _ ⟨⟨L2,rfl⟩,g1,g3,g6,g51,g52,g53,g10,g11⟩
 --variables
 refine Zc (fun f H'=>H'=V++(Ze.map (Yg Xo O)::(L2++[Ze.map (Yg Xo [])]))∧f 1=.bp H.length 0∧f 3=.fn (.func 176) [] []∧f 6=I p.regions.length∧f 51=Fc.sl p.funcs∧f 52=I p.funcs.length∧f 53=I i∧f 10=.bp c 0∧f 11=.hm V.length∧f 14=.hm (V.length+(L2.length+1))) (by kernel_rfl) ?_ ?_
 ·simp -dsimp [g1,g3,g6,g51,g52,g53,g10,g11,Yg]
 clear g g1 g3 g6 g51 g52 g53 g10 g11
 rintro g _ ⟨rfl,g1,g3,g6,g51,g52,g53,g10,g11,g14⟩
 obtain⟨vs,hvs⟩:∃vs,vs=F.params++F.vars:=⟨_,rfl⟩
 have hvl:vs.length≤2^40:=by rw [hvs];simp;omega
 rw [←hvs] at hnv
 refine Z4 (fun f H'=>(∃L3,H'=V++(Ze.map (Yg Xo (YK (vs.map Vr.name) O))::(L2++(Ze.map (Yg Xo (ZgG vs []))::L3))))∧f 1=.bp H.length 0∧f 3=.fn (.func 176) [] []∧f 6=I p.regions.length∧f 51=Fc.sl p.funcs∧f 52=I p.funcs.length∧f 53=I i∧f 10=.bp c 0∧f 14=.hm (V.length+(L2.length+1))∧Zcq vs O []=0) ?_ ?_
 ·refine J2 (fun d=>d==75||d==78) (fun id=>if id=24 then some [(0,[]),(1,[]),(3,[]),(4,[]),(7,[]),(2,[3,4,7]),(5,[7]),(6,[])] else none) (fun f H'=>(∃L3,H'=V++(Ze.map (Yg Xo O)::(L2++(Ze.map (Yg Xo [])::L3)))∧
   ((vs=[]∧f 78=Yp)∨∃k R,f 78=.hs (V.length+(L2.length+(k+2))) 0 vs.length vs.length∧L3[k]?=some R∧R=Ze.row 120 4 (vs.map Vr.cells)))∧f 1=.bp H.length 0∧f 3=.fn (.func 176) [] []∧f 6=I p.regions.length∧f 51=Fc.sl p.funcs∧f 52=I p.funcs.length∧f 53=I i∧f 10=.bp c 0∧f 11=.hm V.length∧f 14=.hm (V.length+(L2.length+1))∧
   f 79=I vs.length∧f 80=I 0) (by kernel_rfl) ?_ ?_
  ·simp -dsimp [g1,g3,g6,g51,g52,g53,g10,g11,g14,hVf]
   refine ZA (ZfL F.params hpp _) ?_
   rintro e H' (⟨hl,rfl,rfl⟩|⟨rfl,rfl⟩)
   ·simp -dsimp [g1,g3,g6,g51,g52,g53,g10,g11,g14,hVf]
    refine Zaa (by simp;omega) (by simp;omega) (fun hy=>?_) (fun hy=>?_)
    ·have hv:F.vars=[]:=by simpa using hy
     simp -dsimp [g1,g3,g6,g51,g52,g53,g10,g11,g14,hl,hv,hvs]
    ·simp -dsimp [g1,g3,g6,g51,g52,g53,g10,g11,g14,hl,hvs]
     exact⟨0,by omega,rfl⟩
   ·simp -dsimp [g1,g3,g6,g51,g52,g53,g10,g11,g14,hVf]
    refine Jc (es:=F.params.map Vr.cells) (by simp) (by simp) (by simp) (by simp;omega) (by simp;omega) ?_
    simp -dsimp [g1,g3,g6,g51,g52,g53,g10,g11,g14,hvs]
    exact⟨0,by omega,rfl⟩
  clear g g1 g3 g6 g51 g52 g53 g10 g11 g14
  rintro g _ ⟨⟨L3,rfl,hrow⟩,g1,g3,g6,g51,g52,g53,g10,g11,g14,g79,g80⟩
  refine Zk (by kernel_rfl) ?_
  simp -dsimp
  refine Zv (fun (j:Nat) f H'=>(∃L4,H'=V++(Ze.map (Yg Xo (YK ((vs.map Vr.name).take j) O))::(L2++(Ze.map (Yg Xo (ZgG (vs.take j) []))::(L3++L4)))))∧f 1=.bp H.length 0∧f 3=.fn (.func 176) [] []∧f 6=I p.regions.length∧f 51=Fc.sl p.funcs∧f 52=I p.funcs.length∧f 53=I i∧f 10=.bp c 0∧f 11=.hm V.length∧f 14=.hm (V.length+(L2.length+1))∧
   f 78=g 78∧f 79=I vs.length∧f 80=I j∧j≤vs.length∧Zcq (vs.drop j) (YK ((vs.map Vr.name).take j) O) (ZgG (vs.take j) [])=Zcq vs O []) (fun j=>vs.length-j) (by kernel_rfl) 0 (by simp [*,YK,ZgG]) ?_
  clear g1 g3 g6 g51 g52 g53 g10 g11 g14 g79 g80
  rintro j f _ ⟨⟨L4,rfl⟩,g1,g3,g6,g51,g52,g53,g10,g11,g14,g78,g79,g80,hj,hinv2⟩
  simp -dsimp [g79,g80]
  refine Zb (fun hjt=>?_) (fun hjt=>?_)
  ·rw [Zo hjt,Zcq] at hinv2
   rcases hrow with ⟨hes,_⟩|⟨k,R,g78',hk,rfl⟩
   ·subst hes;simp at hjt
   have hltn:j<(vs.map Vr.name).length:=by simpa using hjt
   have hT:=ZaW hltn O
   rw [List.getElem_map] at hT
   have hreg:ZgG (vs.take (j+1)) []=Jw vs[j].name (vs[j].kind==1) (ZgG (vs.take j) []):=by rw [Y1 hjt,ZgG,List.foldl_append];rfl
   obtain⟨T,hTT⟩:∃T,T=YK ((vs.map Vr.name).take j) O:=⟨_,rfl⟩
   obtain⟨S,hSS⟩:∃S,S=ZgG (vs.take j) []:=⟨_,rfl⟩
   rw [←hTT] at hT hinv2 ⊢
   rw [←hSS] at hreg hinv2 ⊢
   have hR:∀ (A B:Ze) X,(V++(A::(L2++(B::(L3++X)))))[V.length+(L2.length+(k+2))]?=some (Ze.row 120 4 (vs.map Vr.cells)):=fun A B X=>by
    rw [Yr,show L2.length+(k+2)=(L2.length+(k+1))+1 by omega,List.getElem?_cons_succ,Yr,List.getElem?_cons_succ]
    exact ZG hk X
   have hst:=ZaK Xo vs[j].name (vs[j].kind==1) S
   have hsz:=hnv _ (List.getElem_mem hjt)
   rw [g78'] at g78
   simp -dsimp [g1,g3,g6,g51,g52,g53,g10,g11,g14,g78,g79,g80,hR,List.getElem?_eq_getElem,hjt]
   refine Ztb hsz (by simp;rfl) (fun hz=>?_) (fun hz=>?_)
   ·rw [hz,Zj] at hinv2
    simp -dsimp [g1,g3,g6,g51,g52,g53,g10,g11,g14,g78,g79,g80,hR,Y3,hst]
    exact⟨j+1,by omega,⟨by rw [hT],by rw [hreg]⟩,g78'.symm,ZC (by omega),by omega,by rw [hT,hreg];exact hinv2⟩
   ·rw [hz,Zu (by decide)] at hinv2
    simp -dsimp
    exact (errV _).out (by rw [Zdh,←hO,←hvs,←hinv2];rfl)
  ·have e:(vs.map Vr.name).take j=vs.map Vr.name:=List.take_of_length_le (by simp;omega)
   have e2:vs.take j=vs:=List.take_of_length_le (by omega)
   rw [ZI hjt,Zcq] at hinv2
   simp -dsimp [g1,g3,g6,g51,g52,g53,g10,g11,g14,e,e2]
   exact hinv2.symm
 clear g g1 g3 g6 g51 g52 g53 g10 g11 g14
 rintro g _ ⟨⟨L3,rfl⟩,g1,g3,g6,g51,g52,g53,g10,g14,h6⟩
 have hnf:Zdh p.regions F=Zfl (ZgG vs []) F.rets []:=by rw [Zdh,←hO,←hvs,h6,Zj]
 obtain⟨S,hS⟩:∃S,S=ZgG vs []:=⟨_,rfl⟩
 obtain⟨T,hT⟩:∃T,T=YK (vs.map Vr.name) O:=⟨_,rfl⟩
 rw [←hS] at hnf ⊢
 rw [←hT]
 clear hS hT h6 hvs hO hnv hvl
 obtain⟨d,hd⟩:∃d,d=V.length+(L2.length+(L3.length+1+1)):=⟨_,rfl⟩
 --results
 refine Zc (fun f H'=>H'=V++(Ze.map (Yg Xo T)::(L2++(Ze.map (Yg Xo S)::(L3++[Ze.map (Yg Xo [])]))))∧f 1=.bp H.length 0∧f 3=.fn (.func 176) [] []∧f 6=I p.regions.length∧f 51=Fc.sl p.funcs∧f 52=I p.funcs.length∧f 53=I i∧f 10=.bp c 0∧f 14=.hm (V.length+(L2.length+1))∧f 17=.hm d) (by kernel_rfl) ?_ ?_
 ·simp -dsimp [g1,g3,g6,g51,g52,g53,g10,g14,Yg]
  omega
 clear g g1 g3 g6 g51 g52 g53 g10 g14
 rintro g _ ⟨rfl,g1,g3,g6,g51,g52,g53,g10,g14,g17⟩
 refine Zk (by kernel_rfl) ?_
 simp -dsimp [g1,g3,g6,g51,g52,g53,g10,g14,hVf]
 have hG:∀X,(V++(Ze.map (Yg Xo T)::(L2++(Ze.map (Yg Xo S)::(L3++[X])))))[d]?=some X:=fun X=>by
  rw [hd,Yr,show L2.length+(L3.length+1+1)=(L2.length+(L3.length+1))+1 by omega,List.getElem?_cons_succ,Yr,List.getElem?_cons_succ];simp
 have hSet:∀X Y,(V++(Ze.map (Yg Xo T)::(L2++(Ze.map (Yg Xo S)::(L3++[X]))))).set d Y=V++(Ze.map (Yg Xo T)::(L2++(Ze.map (Yg Xo S)::(L3++[Y])))):=fun X Y=>by
  rw [hd,YS,show L2.length+(L3.length+1+1)=(L2.length+(L3.length+1))+1 by omega,List.set_cons_succ,YS,List.set_cons_succ];simp
 clear hd
 refine Zv (fun (j:Nat) f H'=>H'=V++(Ze.map (Yg Xo T)::(L2++(Ze.map (Yg Xo S)::(L3++[Ze.map (Yg Xo (YK (F.rets.take j) []))]))))∧f 1=.bp H.length 0∧f 3=.fn (.func 176) [] []∧f 6=I p.regions.length∧f 51=Fc.sl p.funcs∧f 52=I p.funcs.length∧f 53=I i∧f 14=.hm (V.length+(L2.length+1))∧f 17=.hm d∧
  f 99=St.sl F.rets∧f 100=I F.rets.length∧f 101=I j∧j≤F.rets.length∧Zfl S (F.rets.drop j) (YK (F.rets.take j) [])=Zfl S F.rets []) (fun j=>F.rets.length-j) (by kernel_rfl) 0 (by simp [g1,g3,g6,g51,g52,g53,g14,g17,YK]) ?_
 clear g g1 g3 g6 g51 g52 g53 g10 g14 g17
 rintro j g _ ⟨rfl,g1,g3,g6,g51,g52,g53,g14,g17,g99,g100,g101,hj,hinv2⟩
 simp -dsimp [g99,g100,g101]
 refine Zb (fun hjt=>?_) (fun hjt=>?_)
 ·rw [Zo hjt,Zfl] at hinv2
  have hT2:=ZaW hjt []
  obtain⟨N,hN⟩:∃N,N=YK (F.rets.take j) []:=⟨_,rfl⟩
  rw [←hN] at hinv2 hT2 ⊢
  have hsz:=hnr _ (List.getElem_mem hjt)
  have hfa:=Zaf Xo F.rets[j] S
  have hgd:((Yq F.rets[j] S).map Xo).getD (Je.avZ (.agg #[.bool false]))=Xo (Xc F.rets[j] S):=Za9 _ Xo false
  simp -dsimp [g1,g3,g6,g51,g52,g53,g14,g17,g99,g100,g101,List.getElem?_eq_getElem,hjt,Y3,hfa,hgd]
  refine Jj (fun hb=>?_) (fun hb=>?_)
  ·rw [hb,Y0,Zj] at hinv2
   simp -dsimp [g1,g3,g6,g51,g52,g53,g14,g17,g99,g100,g101]
   refine Ztb hsz (hG _) (fun hz=>?_) (fun hz=>?_)
   ·rw [hz,Zj] at hinv2
    simp -dsimp [g1,g3,g6,g51,g52,g53,g14,g17,g99,g100,g101,hSet]
    exact⟨j+1,by omega,by rw [hT2],ZC (by omega),by omega,by rw [hT2];exact hinv2⟩
   ·rw [hz,Zu (by decide)] at hinv2
    simp -dsimp
    exact (errV _).out (by rw [hnf,←hinv2])
  ·rw [hb,Y2,Zu (by decide)] at hinv2
   simp -dsimp
   exact (errV _).out (by rw [hnf,←hinv2])
 ·rw [ZI hjt,Zfl] at hinv2
  simp -dsimp [g1,g3,g6,g51,g52,g53]
  exact⟨hVW _,by rw [hnf,←hinv2]⟩
end Go.Proofs
namespace Go.Proofs
open Go.Mu
mutual
def Sm.words (deep:Nat):Sm→List ByteArray
 | .mk k n _ _ _ _ _ _ body els=>(if k=5 then [n] else [])++ZF (deep+1) body++ZF (deep+1) els
def ZF (deep:Nat):List Sm→List ByteArray
 |[]=>[]
 |s::l=>if 64<deep then [] else s.words deep++ZF deep l
end
theorem Sm.words_eq (deep:Nat) (s:Sm):s.words deep=(if s.kind=5 then [s.name] else [])++ZF (deep+1) s.body++ZF (deep+1) s.els:=by cases s;rw [Sm.words];rfl
theorem Ze0 {deep:Nat} (h:64<deep) (l:List Sm):ZF deep l=[]:=by
 cases l with
 |nil=>rw [ZF]
 |cons s l=>rw [ZF,if_pos h]
theorem ZbJ (m:Nat):∀ (l:List Sm),Zh l≤m→∀deep,(ZF deep l).length≤Zh l:=by
 induction m with
 |zero=>intro l hl deep;have:=Yi l;have:l=[]:=List.eq_nil_of_length_eq_zero (by omega);subst this;simp [ZF]
 |succ m ih=>
  intro l
  induction l with
  |nil=>intro _ deep;simp [ZF]
  |cons s l ihl=>
   intro hl deep
   simp only [Zh] at hl ⊢
   have he:=Sm.count_eq s
   rw [ZF]
   split
   ·simp
   ·rw [Sm.words_eq]
    have a:=ih s.body (by omega) (deep+1)
    have b:=ih s.els (by omega) (deep+1)
    have c:=ihl (by omega) deep
    have d:(if s.kind=5 then [s.name] else []).length≤1:=by split<;>simp
    simp only [List.length_append]
    omega
theorem Zo9 (m:Nat):∀ (l:List Sm) (deep:Nat),Zh l≤m→Zh l≤2^36→deep≤65→∀ (H:List Ze),
 Zi Tryz.prog 109 [Sm.sl l,I deep] H (fun e H'=>e=.ret (St.sl (ZF deep l))∧H'=H):=by
 induction m with
 |zero=>
  intro l deep hm _ _ H
  have:=Yi l
  obtain rfl:l=[]:=List.eq_nil_of_length_eq_zero (by omega)
  refine Zf (ZU (J4 (hn:=fun d=>d==22||d==29||d==35) (od:=fun id=>if id=8 then some [(0,[]),(1,[]),(2,[]),(3,[]),(4,[]),(5,[]),(7,[]),(8,[]),(9,[]),(10,[]),(6,[7,8,9,10]),(11,[]),(12,[]),(13,[])] else none) Tryz.func109 rfl (by kernel_rfl) ?_))
  have done:Zao (ZW H fun e H'=>e=AE.ret (St.sl (ZF deep []))∧H'=H) (.ret Yp) H:=by
   rw [ZF]
   exact ZR (.nil 1) (Z7 rfl ⟨rfl,rfl⟩)
  simp -dsimp
  repeat' ((with_reducible first|refine And.intro ?_ ?_|refine Zm (fun _=>?_) (fun _=>?_)|refine Zn (fun _=>?_) (fun _=>?_)|refine Zb (fun _=>?_) (fun _=>?_)|refine Zr (fun _=>?_) (fun _ _ _=>?_)|refine Zt (fun _=>?_) (fun _ _ _=>?_)|refine Zq (fun _=>?_) (fun _ _ _=>?_)|refine Zs (fun _ _ _=>?_) (fun _=>?_)|refine Zp (fun _ _ _=>?_) (fun _=>?_)|refine Zl (fun _ _ _=>?_) (fun _=>?_)|refine Zz (fun _=>?_) (fun _=>?_)|refine Zy (fun _=>?_) (fun _=>?_)|refine Z6 (fun _=>?_) (fun _=>?_)|refine Zw (fun _=>?_) (fun _=>?_)|refine Zx (fun _=>?_) (fun _=>?_)|refine Z3 (fun _=>?_) (fun _=>?_))<;>simp -dsimp [*])
  refine Ju (hn:=fun d=>d==22||d==29||d==35) (od:=fun id=>if id=8 then some [(0,[]),(1,[]),(2,[]),(3,[]),(4,[]),(5,[]),(7,[]),(8,[]),(9,[]),(10,[]),(6,[7,8,9,10]),(11,[]),(12,[]),(13,[])] else none) (fun (i:Nat) g H'=>H'=H∧g 4=Yp∧g 10=I 0∧g 11=I 0) (fun i=>0) (by kernel_rfl) 0 (by simp) ?_
  rintro i g _ ⟨rfl,g4,g10,g11⟩
  simp -dsimp [g4,g10,g11]
  exact done
 |succ m ih=>
  intro l deep hm hb hd H
  refine Ya fun hu _=>Zf (ZU (Yv 1 (Z0 Tryz.func109 rfl (by kernel_rfl) ?_)))
  refine Zc (fun f H'=>H'=H++[Ze.pend]∧f 0=Sm.sl l∧f 1=I deep∧f 4=Yp) (by kernel_rfl) ?_ ?_
  ·simp -dsimp
  rintro g _ ⟨rfl,g0,g1,g4⟩
  have done:∀ (ws:List ByteArray) L,ws=ZF deep l→Zao (ZW H fun e H'=>e=AE.ret (St.sl (ZF deep l))∧H'=H) (.ret (Yo H.length (ws.map fun s=>[St s]))) (H++Yn 9 1 (ws.map fun s=>[St s])::L):=fun ws L e=>by
   subst e
   by_cases hw:ZF deep l=[]
   ·rw [hw]
    refine ZR (.nil 1) ?_
    exact Z2 rfl ⟨rfl,rfl⟩
   ·have hne:(ZF deep l).map (fun s=>[St s])≠[]:=by simpa using hw
    have hz:((ZF deep l).map fun s=>[St s]).flatten.all AV.frzB=true:=by
     rw [Zec,List.all_eq_true]
     intro c hc
     obtain⟨b,_,rfl⟩:=List.mem_map.1 hc
     rfl
    refine ZR (.refl _) ?_
    rw [Yn,if_neg hne]
    refine Zav hu 1 _ _ hz ?_ ?_
    ·rw [JV _ _ _ hne];rfl
    ·rw [JV _ _ _ hne];exact⟨rfl,rfl⟩
  refine Zc (fun f H'=>H'=H++[Ze.pend]∧f 0=Sm.sl l∧f 1=I deep∧f 4=Yp∧deep≤64) (by kernel_rfl) ?_ ?_
  ·simp -dsimp [g0,g1,g4]
   refine Zb (fun h=>?_) (fun h=>?_)
   ·simp -dsimp
    have:=done [] [] (Ze0 (by omega) l).symm
    simpa [Yo,Yn] using this
   ·simp -dsimp [g0,g1,g4]
    omega
  clear g g0 g1 g4
  rintro g _ ⟨rfl,g0,g1,g4,hd64⟩
  have hlen:=Yi l
  refine J2 (fun d=>d==22||d==29||d==35) (fun id=>if id=8 then some [(0,[]),(1,[]),(2,[]),(3,[]),(4,[]),(5,[]),(7,[]),(8,[]),(9,[]),(10,[]),(6,[7,8,9,10]),(11,[]),(12,[]),(13,[])] else none) (fun f H'=>∃L,H'=H++Yn 9 1 ((ZF deep l).map fun s=>[St s])::L∧f 4=Yo H.length ((ZF deep l).map fun s=>[St s])) (by kernel_rfl) ?_ ?_
  ·simp -dsimp [g0,g1,g4]
   refine Ju (hn:=fun d=>d==22||d==29||d==35) (od:=fun id=>if id=8 then some [(0,[]),(1,[]),(2,[]),(3,[]),(4,[]),(5,[]),(7,[]),(8,[]),(9,[]),(10,[]),(6,[7,8,9,10]),(11,[]),(12,[]),(13,[])] else none)
    (fun (i:Nat) g H'=>(∃ws L,H'=H++Yn 9 1 (ws.map fun s=>[St s])::L∧g 4=Yo H.length (ws.map fun s=>[St s])∧ws++ZF deep (l.drop i)=ZF deep l)∧g 1=I deep∧g 9=Sm.sl l∧g 10=I l.length∧g 11=I i∧i≤l.length) (fun i=>l.length-i) (by kernel_rfl) 0
    (by simp [g1,g4]) ?_
   clear g g0 g1 g4
   rintro i g _ ⟨⟨ws,L,rfl,g4,hws⟩,g1,g9,g10,g11,hi⟩
   simp -dsimp [g1,g4,g9,g10,g11]
   refine Zb (fun hlt=>?_) (fun hlt=>?_)
   ·rw [Zo hlt,ZF,if_neg (by omega),Sm.words_eq] at hws
    have hg:=JY hlt
    have hsc:=Sm.count_eq l[i]
    have hwl:=ZbJ _ l (Nat.le_refl _) deep
    have hwl2:=congrArg List.length hws
    simp only [List.length_append] at hwl2
    have w2:IntKind.i64.wrap ((deep:Int)+1)=(deep:Int)+1:=YG (by omega) (by omega)
    simp -dsimp [g1,g4,g9,g10,g11,List.getElem?_eq_getElem,hlt]
    have c1:=fun H=>ih l[i].body (deep+1) (by omega) (by omega) (by omega) H
    have c2:=fun H=>ih l[i].els (deep+1) (by omega) (by omega) (by omega) H
    simp only [St.sl,show ((deep+1:Nat):Int)=(deep:Int)+1 from rfl] at c1 c2
    have step:∀ws1:List ByteArray,(ws1++ZF (deep+1) l[i].body++ZF (deep+1) l[i].els)++ZF deep (l.drop (i+1))=ZF deep l→ws1.length≤2^37:=fun ws1 h=>by
     have:=congrArg List.length h
     simp only [List.length_append] at this
     omega
    refine Zq (fun hk=>?_) (fun hk _ _=>?_)
    ·rw [if_pos hk] at hws
     simp -dsimp [g1,g4,g9,g10,g11]
     refine ZD (es:=ws.map fun s=>[St s]) (by simp) (by simp;omega) (by simp;omega) ?_
     simp -dsimp [g1,g4,g9,g10,g11,w2]
     obtain⟨ws1,hw1⟩:∃ws1,ws1=ws++[l[i].name]:=⟨_,rfl⟩
     have hm1:List.map (fun s=>[St s]) ws++[[AV.v (Value.string l[i].name)]]=ws1.map fun s=>[St s]:=by rw [hw1];simp
     have hl1:ws1.length≤ws.length+1:=by rw [hw1];simp
     rw [hm1]
     refine Zd (c1 _) ?_
     simp -dsimp [g1,g4,g9,g10,g11,w2]
     refine ZD (es:=ws1.map fun s=>[St s]) (by simp) (by simp;omega) (by simp;omega) ?_
     simp -dsimp [g1,g4,g9,g10,g11,w2]
     refine Zd (c2 _) ?_
     simp -dsimp [g1,g4,g9,g10,g11,w2]
     refine ZD (es:=(ws1.map fun s=>[St s])++(ZF (deep+1) l[i].body).map fun s=>[St s]) (by simp) (by simp;omega) (by simp;omega) ?_
     simp -dsimp [g1,g4,g9,g10,g11,w2]
     exact⟨i+1,by omega,⟨ws1++ZF (deep+1) l[i].body++ZF (deep+1) l[i].els,by simp,by simp,by rw [←hws,hw1];simp⟩,ZC (by omega),by omega⟩
    ·rw [if_neg hk] at hws
     simp -dsimp [g1,g4,g9,g10,g11,w2]
     obtain⟨ws1,hw1⟩:∃ws1,ws1=ws:=⟨_,rfl⟩
     have hl1:ws1.length≤ws.length+1:=by rw [hw1];omega
     rw [←hw1]
     refine Zd (c1 _) ?_
     simp -dsimp [g1,g4,g9,g10,g11,w2]
     refine ZD (es:=ws1.map fun s=>[St s]) (by simp) (by simp;omega) (by simp;omega) ?_
     simp -dsimp [g1,g4,g9,g10,g11,w2]
     refine Zd (c2 _) ?_
     simp -dsimp [g1,g4,g9,g10,g11,w2]
     refine ZD (es:=(ws1.map fun s=>[St s])++(ZF (deep+1) l[i].body).map fun s=>[St s]) (by simp) (by simp;omega) (by simp;omega) ?_
     simp -dsimp [g1,g4,g9,g10,g11,w2]
     exact⟨i+1,by omega,⟨ws1++ZF (deep+1) l[i].body++ZF (deep+1) l[i].els,by simp,by simp,by rw [←hws,hw1];simp⟩,ZC (by omega),by omega⟩
   ·rw [ZI hlt,ZF,List.append_nil] at hws
    subst hws
    simp -dsimp [g4]
  clear g g0 g1 g4
  rintro g _ ⟨L,rfl,g4⟩
  refine Zk (by kernel_rfl) ?_
  simp -dsimp [g4]
  exact done _ _ rfl
end Go.Proofs
namespace Go.Proofs
open Go.Mu
theorem Zlo (f:Fc) (s:Sm) (b:Nat) (H:List Ze) (hb:H[b]?=some (.box 82 s.cells)):Zi Tryz.prog 235 [.agg f.cells,.bp b 0] H (fun e H'=>e=.ret (Bo (decide (f.name=s.name)))∧H'=H):=by
 refine Zf (Zg Tryz.func235 rfl (by kernel_rfl) ?_)
 have hbL:=fun L=>ZG hb L
 simp only [Sm.cells_eq] at hbL
 simp -dsimp [hbL]
 exact Z2 rfl ⟨rfl,rfl⟩
def ZaZ (tv:List (ByteArray×Vr)) (ta:List (ByteArray×Bool)) (all:List ByteArray):List ByteArray→List ByteArray→Int
 |_,[]=>0
 |done,n::l=>ZK (ZaL tv ta n) (ZK (ZM (!(all.any fun x=>decide (n=x))) 2) (ZK (ZM (!(done.any fun x=>decide (n=x))) 2) (ZaZ tv ta all (done++[n]) l)))
def Zgs (p:Pg) (f:Int) (tv:List (ByteArray×Vr)) (ta:List (ByteArray×Bool)) (all:List ByteArray) (s:Sm) (deep:Nat):Int:=
 match p.funcs[(JC (fun g=>decide (g.name=s.name)) p.funcs 0).toNat]? with
 |none=>8
 |some g=>ZK (ZM (decide (0≤JC (fun g=>decide (g.name=s.name)) p.funcs 0)) 8) (ZK (ZM (decide (JC (fun g=>decide (g.name=s.name)) p.funcs 0<f)) 9)
  (ZK (ZaZ tv ta all [] s.names) (ZK (ZM ((s.args.length:Int)==g.params.length&&(s.names.length:Int)==g.rets.length) 2) (Xj tv ta deep s.args))))
theorem ZkD {α:Type} (p:α→Bool):∀ (l:List α) (i:Nat),JC p l i= -1∨∃k,k<l.length∧JC p l i=((i+k:Nat):Int)
 |[],i=>.inl rfl
 |a::l,i=>by
  rw [JC]
  split
  ·exact .inr ⟨0,by simp,by simp⟩
  ·rcases ZkD p l (i+1) with h|⟨k,hk,h⟩
   ·exact .inl h
   ·exact .inr ⟨k+1,by simp;omega,by rw [show ((i:Int)+1)=((i+1:Nat):Int) from rfl,h];congr 1;omega⟩
theorem ZsF (s:Sm) (deep:Nat) (hs:s.count≤2^40) (hd:deep≤64) {H:List Ze} {a:Nat} {p:Pg} {f:Int} {kv ka:Nat} {keep:AV} {all:List ByteArray} {tv:List (ByteArray×Vr)} {ta:List (ByteArray×Bool)} (h:Za0 H a p f kv ka keep all tv ta)
 (hall:all.length≤2^40) (hp:p.Ok) (hf0:0≤f) (hfl:f≤p.funcs.length):Zi Tryz.prog 186 [.bp a 0,.agg s.cells,I deep] H (XO (Zgs p f tv ta all s deep) H):=by
 refine Zf (Z0 Tryz.func186 rfl (by kernel_rfl) ?_)
 obtain⟨M,hM⟩:∃M,M=H++[.box 82 s.cells]:=⟨_,rfl⟩
 have hMs:∀L,(M++L)[H.length]?=some (.box 82 s.cells):=fun L=>by rw [hM];simp
 have hMs0:M[H.length]?=some (.box 82 s.cells):=by rw [hM];simp
 have hA:Za0 M a p f kv ka keep all tv ta:=by rw [hM];exact h.app _
 have hb:=fun L=>ZG hA.box L
 have hb0:=hA.box
 obtain⟨E,hE⟩:∃E,E=Zgs p f tv ta all s deep:=⟨_,rfl⟩
 rw [←hE]
 have endP:∀e L,e=E→e≠0→ZW H (XO E H) (.pan (Zal e)) (M++L):=fun e L he h0=>by rw [hM,List.append_assoc];exact YL he h0
 have end0:∀L,E=0→ZW H (XO E H) (.ret (.tup [])) (M++L):=fun L he=>by rw [hM,List.append_assoc];exact Ji he
 have ci:=Zm3 p.funcs (fun g=>decide (g.name=s.name)) 235 [.bp H.length 0] (by simp) hp.funcs M (fun x _=>Zlo x s H.length M hMs0)
 have ix:=ZkD (fun g=>decide (g.name=s.name)) p.funcs 0
 unfold Zgs at hE
 obtain⟨ii,hii⟩:∃ii,ii=JC (fun (g:Fc)=>decide (g.name=s.name)) p.funcs 0:=⟨_,rfl⟩
 simp only [←hii] at hE
 rw [←hii] at ci
 rw [show ((0:Nat):Int)=0 from rfl,←hii] at ix
 simp only [Sm.cells_eq,Xq] at hMs hMs0 hb hb0
 refine Zc (fun f H'=>M=H'∧f 0=.bp a 0∧f 2=I deep∧f 4=.bp H.length 0) (by kernel_rfl) ?_ ?_
 ·simp -dsimp [hM]
 clear hM
 rintro g _ ⟨rfl,g0,g2,g4⟩
 refine J2 (fun d=>d==18) (fun _=>none) (fun f H'=>M=H'∧f 0=.bp a 0∧f 2=I deep∧f 4=.bp H.length 0∧f 6=I ii) (by kernel_rfl) ?_ ?_
 ·simp -dsimp [g0,g2,g4,hb0]
  refine Za ci ?_
  simp -dsimp [g0,g2,g4]
 clear g g0 g2 g4 ci
 rintro g _ ⟨rfl,g0,g2,g4,g6⟩
 --there is one
 refine Zc (fun f H'=>M=H'∧f 0=.bp a 0∧f 2=I deep∧f 4=.bp H.length 0∧f 6=I ii∧0≤ii) (by kernel_rfl) ?_ ?_
 ·simp -dsimp [g6]
  refine Jf (fun h0=>?_) (fun h0=>?_)
  ·simp -dsimp [g0,g2,g4,g6]
   exact h0
  ·simp -dsimp
   have e8:E=8:=by
    rw [hE]
    split
    ·rfl
    ·rw [decide_eq_false h0,Y2,Zu (by decide)]
   simpa using endP 8 [] e8.symm (by decide)
 clear g g0 g2 g4 g6
 rintro g _ ⟨rfl,g0,g2,g4,g6,h0⟩
 obtain⟨k,hk,hki⟩:∃k,k<p.funcs.length∧ii=(k:Int):=by
  rcases ix with h|⟨k,hk,h⟩
  ·omega
  ·exact⟨k,hk,by omega⟩
 subst hki
 rw [show ((k:Int)).toNat=k from rfl,List.getElem?_eq_getElem hk] at hE
 simp only [decide_eq_true h0,Y0,Zj] at hE
 clear h0 ix hii
 --it stands ahead
 refine Zc (fun g H'=>M=H'∧g 0=.bp a 0∧g 2=I deep∧g 4=.bp H.length 0∧g 6=I k∧(k:Int)<f) (by kernel_rfl) ?_ ?_
 ·simp -dsimp [g0,g6,hb0]
  refine Jf (fun h1=>?_) (fun h1=>?_)
  ·simp -dsimp [g0,g2,g4,g6]
   exact h1
  ·simp -dsimp
   rw [decide_eq_false h1,Y2,Zu (by decide)] at hE
   simpa using endP 9 [] hE.symm (by decide)
 clear g g0 g2 g4 g6
 rintro g _ ⟨rfl,g0,g2,g4,g6,h1⟩
 rw [decide_eq_true h1,Y0,Zj] at hE
 obtain⟨F,hF⟩:∃F,F=p.funcs[k]:=⟨_,rfl⟩
 rw [←hF] at hE
 refine Zc (fun g H'=>(∃L,H'=M++(Ze.box 56 F.cells::L))∧g 0=.bp a 0∧g 2=I deep∧g 4=.bp H.length 0∧g 7=.bp M.length 0) (by kernel_rfl) ?_ ?_
 ·simp -dsimp [g0,g2,g4,g6,hb0,List.getElem?_eq_getElem,hk,hF]
 clear g g0 g2 g4 g6 hF
 rintro g _ ⟨⟨L,rfl⟩,g0,g2,g4,g7⟩
 obtain⟨W,hW⟩:∃W,W=M++(Ze.box 56 F.cells::L):=⟨_,rfl⟩
 have hWF:∀L,(W++L)[M.length]?=some (.box 56 F.cells):=fun L=>by rw [hW];simp
 have hWs:∀L,(W++L)[H.length]?=some (.box 82 s.cells):=fun L=>by rw [hW,List.append_assoc];simpa using hMs _
 have hWA:Za0 W a p f kv ka keep all tv ta:=by rw [hW];exact hA.app _
 have endPW:∀e L,e=E→e≠0→ZW H (XO E H) (.pan (Zal e)) (W++L):=fun e L he h0=>by rw [hW,List.append_assoc];exact endP e _ he h0
 have end0W:∀L,E=0→ZW H (XO E H) (.ret (.tup [])) (W++L):=fun L he=>by rw [hW,List.append_assoc];exact end0 _ he
 rw [←hW]
 clear hW endP end0 hMs hMs0 hA hb hb0
 simp only [Sm.cells_eq] at hWs
 simp only [Fc.cells] at hWF
 have hsc:=Sm.count_eq s
 have hna:=Yy s.args
 --names
 refine Zc (fun g H'=>(∃L,H'=W++L)∧g 0=.bp a 0∧g 2=I deep∧g 4=.bp H.length 0∧g 7=.bp M.length 0∧ZaZ tv ta all [] s.names=0) (by kernel_rfl) ?_ ?_
 ·have hWs0:=hWs []
  rw [List.append_nil] at hWs0
  simp -dsimp [g0,g2,g4,g7,hWs0]
  refine Zv (fun (i:Nat) g H'=>W=H'∧g 0=.bp a 0∧g 2=I deep∧g 4=.bp H.length 0∧g 7=.bp M.length 0∧g 38=St.sl s.names∧g 39=I s.names.length∧g 40=I i∧i≤s.names.length∧ZaZ tv ta all (s.names.take i) (s.names.drop i)=ZaZ tv ta all [] s.names) (fun i=>s.names.length-i) (by kernel_rfl) 0 (by simp [g0,g2,g4,g7]) ?_
  clear g g0 g2 g4 g7
  rintro i g _ ⟨rfl,g0,g2,g4,g7,g38,g39,g40,hi,hinv⟩
  simp -dsimp [g0,g2,g4,g7,g38,g39,g40]
  refine Zb (fun hlt=>?_) (fun hlt=>?_)
  ·rw [Zo hlt,ZaZ] at hinv
   obtain⟨nm,hnm⟩:∃nm,nm=s.names[i]:=⟨_,rfl⟩
   have htk:(s.names.take i).length≤2^40:=by simp;omega
   have cc:=fun H=>ZaI (s.names.take i) nm htk H
   simp only [St.sl,List.map_take] at cc
   have cw:=ZgS nm hWA
   have cs2:=Zn7 nm hWA hall
   have hWs0:=hWs []
   rw [List.append_nil] at hWs0
   rw [←hnm] at hinv
   simp -dsimp [g0,g2,g4,g7,g38,g39,g40,List.getElem?_eq_getElem,hlt,←hnm]
   refine Zb6 cw (fun hz=>?_) (fun hz=>?_)
   rotate_left
   ·rw [Zu hz] at hinv
    simp -dsimp
    have e:ZaL tv ta nm=E:=by rw [hE,←hinv,Zu hz]
    simpa using endPW _ [] e hz
   rw [hz,Zj] at hinv
   simp -dsimp [g0,g2,g4,g7,g38,g39,g40]
   refine Zb6 cs2 (fun hz2=>?_) (fun hz2=>?_)
   rotate_left
   ·rw [Zu hz2] at hinv
    simp -dsimp
    have e:ZM (!(all.any fun x=>decide (nm=x))) 2=E:=by rw [hE,←hinv,Zu hz2]
    simpa using endPW _ [] e hz2
   rw [hz2,Zj] at hinv
   have hile:i≤s.names.length:=hi
   simp -dsimp [g0,g2,g4,g7,g38,g39,g40,hWs0,hile]
   refine Za (cc _) ?_
   simp -dsimp
   refine Jb (fun hb=>?_) (fun hb=>?_)
   ·rw [hb] at hinv
    simp only [Bool.not_false,Y0,Zj] at hinv
    simp -dsimp [g0,g2,g4,g7,g38,g39,g40]
    exact⟨i+1,by omega,ZC (by omega),by omega,by rw [Y1 hlt,←hnm];exact hinv⟩
   ·rw [hb] at hinv
    simp only [Bool.not_true,Y2] at hinv
    rw [Zu (by decide)] at hinv
    simp -dsimp
    have e:(2:Int)=E:=by rw [hE,←hinv,Zu (by decide)]
    simpa using endPW _ [] e (by decide)
  ·rw [ZI hlt,ZaZ] at hinv
   simp -dsimp [g0,g2,g4,g7]
   exact hinv.symm
 clear g g0 g2 g4 g7
 rintro g _ ⟨⟨L2,rfl⟩,g0,g2,g4,g7,ht⟩
 rw [ht,Zj] at hE
 refine Zc (fun g H'=>H'=W++L2∧g 0=.bp a 0∧g 2=I deep∧g 4=.bp H.length 0∧ZM ((s.args.length:Int)==F.params.length&&(s.names.length:Int)==F.rets.length) 2=0) (by kernel_rfl) ?_ ?_
 ·replace hE:=YE.mk hE
  replace endPW:=YE.mk endPW
  clear end0W
  simp -dsimp [g0,g2,g4,g7,hWs,hWF]
  repeat' ((with_reducible first|refine And.intro ?_ ?_|refine Zm (fun _=>?_) (fun _=>?_)|refine Zn (fun _=>?_) (fun _=>?_)|refine Zb (fun _=>?_) (fun _=>?_)|refine Zr (fun _=>?_) (fun _ _ _=>?_)|refine Zt (fun _=>?_) (fun _ _ _=>?_)|refine Zq (fun _=>?_) (fun _ _ _=>?_)|refine Zs (fun _ _ _=>?_) (fun _=>?_)|refine Zp (fun _ _ _=>?_) (fun _=>?_)|refine Zl (fun _ _ _=>?_) (fun _=>?_)|refine Zz (fun _=>?_) (fun _=>?_)|refine Zy (fun _=>?_) (fun _=>?_)|refine Z6 (fun _=>?_) (fun _=>?_)|refine Zw (fun _=>?_) (fun _=>?_)|refine Zx (fun _=>?_) (fun _=>?_)|refine Z3 (fun _=>?_) (fun _=>?_)|refine Jl ?_|refine Jg ?_|refine Jf (fun _=>?_) (fun _=>?_)|refine Jr (fun _=>?_) (fun _ _ _=>?_)|refine YT (fun _ _ _=>?_) (fun _=>?_)|refine Jb (fun _=>?_) (fun _=>?_)|refine Jj (fun _=>?_) (fun _=>?_))<;>simp -dsimp [*])
  all_goals exact endPW.out 2 _ (by rw [hE.out,Zu]<;>simp [ZM, *]) (by decide)
 clear g g0 g2 g4 g7
 rintro g _ ⟨rfl,g0,g2,g4,hm⟩
 rw [hm,Zj] at hE
 refine Zk (by kernel_rfl) ?_
 simp -dsimp [g0,g2,g4,hWs]
 refine Zv (fun (i:Nat) g H'=>(∃L,H'=W++L)∧g 0=.bp a 0∧g 2=I deep∧g 78=Ex.sl s.args∧g 79=I s.args.length∧g 80=I i∧i≤s.args.length∧Xj tv ta deep (s.args.drop i)=Xj tv ta deep s.args) (fun i=>s.args.length-i) (by kernel_rfl) 0 (by simp [g0,g2]) ?_
 clear g g0 g2 g4
 rintro i g _ ⟨⟨L,rfl⟩,g0,g2,g78,g79,g80,hi,hinv⟩
 simp -dsimp [g0,g2,g78,g79,g80]
 refine Zb (fun hlt=>?_) (fun hlt=>?_)
 ·rw [Zo hlt,Xj] at hinv
  have hb3:=JN hlt
  have ce:=Zem tv ta _ s.args[i] deep (Nat.le_refl _) (by omega) (by omega) (hWA.app (L++[.box 73 s.args[i].cells]))
  simp only [Ex.cells_eq] at ce
  simp -dsimp [g0,g2,g78,g79,g80,List.getElem?_eq_getElem,hlt]
  refine Zb6 ce (fun hz=>?_) (fun hz=>?_)
  ·rw [hz,Zj] at hinv
   simp -dsimp [g0,g2,g78,g79,g80]
   exact⟨i+1,by omega,ZC (by omega),by omega,hinv⟩
  ·simp -dsimp
   rw [Zu hz] at hinv
   exact endPW _ _ (by rw [hE,←hinv]) hz
 ·simp -dsimp
  rw [ZI hlt,Xj] at hinv
  exact end0W _ (by rw [hE,←hinv])
end Go.Proofs
namespace Go.Proofs
open Go.Mu
theorem ZiP (l:List ByteArray) (n:Nat) (hn:n≤l.length) (s:ByteArray) (hl:l.length≤2^40) (r:Nat) (H:List Ze) (hr:H[r]?=some (.row 9 1 (l.map fun x=>[St x]))):
 Zi Tryz.prog 233 [.hs r 0 n l.length,St s] H (fun e H'=>e=.ret (I (JC (fun x=>decide (s=x)) (l.take n) 0))∧H'=H):=by
 refine Zg Tryz.func233 rfl (by kernel_rfl) ?_
 simp -dsimp [hr]
 refine Zv (fun (i:Nat) f H'=>H=H'∧f 0=.hs r 0 n l.length∧f 1=St s∧f 7=I n∧f 8=I i∧i≤n∧JC (fun x=>decide (s=x)) ((l.take n).drop i) i=JC (fun x=>decide (s=x)) (l.take n) 0) (fun i=>n-i) (by kernel_rfl) 0 (by simp) ?_
 rintro i f H' ⟨rfl,h0,h1,h7,h8,hi,hinv⟩
 have hln:(l.take n).length=n:=by simp;omega
 simp -dsimp [h0,h1,h7,h8]
 refine Zb (fun hlt=>?_) (fun hlt=>?_)
 ·have hlt2:i<(l.take n).length:=by omega
  have hlt3:i<l.length:=by omega
  rw [Zo hlt2,JC,List.getElem_take] at hinv
  simp -dsimp [h0,h1,h7,h8,hr,List.getElem?_eq_getElem,hlt,hlt3]
  refine Zb (fun hp=>?_) (fun hp=>?_)
  ·simp -dsimp
   rw [if_pos (by simpa using hp)] at hinv
   exact hinv
  ·simp -dsimp [h0,h1,h7,h8]
   rw [if_neg (by simpa using hp)] at hinv
   exact⟨i+1,by omega,ZC (by omega),by omega,by simpa using hinv⟩
 ·simp -dsimp
  rw [ZI (by omega),JC] at hinv
  exact hinv
theorem ZfW (l:List ByteArray) (n:Nat) (hn:n≤l.length) (s:ByteArray) (hl:l.length≤2^40) (r:Nat) (H:List Ze) (hr:H[r]?=some (.row 9 1 (l.map fun x=>[St x]))):
 Zi Tryz.prog 183 [.hs r 0 n l.length,St s] H (fun e H'=>e=.ret (Bo ((l.take n).any fun x=>decide (s=x)))∧H'=H):=by
 refine Zg Tryz.func183 rfl (by kernel_rfl) ?_
 simp -dsimp
 refine Za (ZiP l n hn s hl r H hr) ?_
 simp -dsimp
 exact ZbW _ _ _ (Int.le_refl 0)
mutual
def Sm.chk (p:Pg) (f:Int) (F:Fc) (tv:List (ByteArray×Vr)) (ta:List (ByteArray×Bool)) (all:List ByteArray) (deep:Nat) (around:List ByteArray):Sm→Int
 | .mk kind name names e a args low high body els=>
   ZK (ZM (decide ((deep:Int)≤64)) 12) <| ZK (Xr (.mk kind name names e a args low high body els)) <|
    if kind=1 then ZK (ZaL tv ta name) (ZK (ZM (!(all.any fun x=>decide (name=x))) 2) (e.chk tv ta deep))
    else if kind=2 then ZK (Zbb tv ta name) (ZK (a.chk tv ta deep) (ZK (e.chk tv ta deep) (ZK (YB p f F tv ta all (deep+1) around body) (YB p f F tv ta all (deep+1) around els))))
    else if kind=3∨kind=4 then ZK (e.chk tv ta deep) (ZK (YB p f F tv ta all (deep+1) around body) (YB p f F tv ta all (deep+1) around els))
    else if kind=5 then ZK (ZaL tv ta name) (ZK (ZM (!(around.any fun x=>decide (name=x))) 2) (ZK (ZM (decide (low≤high)&&decide (high≤65536)&& !(F.rets.any fun x=>decide (name=x))) 2)
     (ZK (ZM (!(F.params.any fun v=>decide (v.name=name))) 2) (YB p f F tv ta all (deep+1) (around++[name]) body))))
    else Zgs p f tv ta all (.mk kind name names e a args low high body els) deep
def YB (p:Pg) (f:Int) (F:Fc) (tv:List (ByteArray×Vr)) (ta:List (ByteArray×Bool)) (all:List ByteArray) (deep:Nat) (around:List ByteArray):List Sm→Int
 |[]=>0
 |s::l=>ZK (s.chk p f F tv ta all deep around) (YB p f F tv ta all deep around l)
end
theorem Sm.chk_eq (p:Pg) (f:Int) (F:Fc) (tv:List (ByteArray×Vr)) (ta:List (ByteArray×Bool)) (all:List ByteArray) (deep:Nat) (around:List ByteArray) (s:Sm):s.chk p f F tv ta all deep around=
 ZK (ZM (decide ((deep:Int)≤64)) 12) (ZK (Xr s) (
  if s.kind=1 then ZK (ZaL tv ta s.name) (ZK (ZM (!(all.any fun x=>decide (s.name=x))) 2) (s.e.chk tv ta deep))
  else if s.kind=2 then ZK (Zbb tv ta s.name) (ZK (s.a.chk tv ta deep) (ZK (s.e.chk tv ta deep) (ZK (YB p f F tv ta all (deep+1) around s.body) (YB p f F tv ta all (deep+1) around s.els))))
  else if s.kind=3∨s.kind=4 then ZK (s.e.chk tv ta deep) (ZK (YB p f F tv ta all (deep+1) around s.body) (YB p f F tv ta all (deep+1) around s.els))
  else if s.kind=5 then ZK (ZaL tv ta s.name) (ZK (ZM (!(around.any fun x=>decide (s.name=x))) 2) (ZK (ZM (decide (s.low≤s.high)&&decide (s.high≤65536)&& !(F.rets.any fun x=>decide (s.name=x))) 2)
   (ZK (ZM (!(F.params.any fun v=>decide (v.name=s.name))) 2) (YB p f F tv ta all (deep+1) (around++[s.name]) s.body))))
  else Zgs p f tv ta all s deep)):=by cases s;rw [Sm.chk];rfl
theorem Zkk (v:Vr) (s:Sm) (b:Nat) (H:List Ze) (hb:H[b]?=some (.box 82 s.cells)):Zi Tryz.prog 185 [.agg v.cells,.bp b 0] H (fun e H'=>e=.ret (Bo (decide (v.name=s.name)))∧H'=H):=by
 refine Zf (Zg Tryz.func185 rfl (by kernel_rfl) ?_)
 have hbL:=fun L=>ZG hb L
 simp only [Sm.cells_eq] at hbL
 simp -dsimp [hbL]
 exact Z2 rfl ⟨rfl,rfl⟩
def X8 (r:Nat) (es:List ByteArray) (n:Nat):AV:=if es=[] then Yp else .hs r 0 n es.length
def Xv (es:List ByteArray):Ze:=Yn 9 1 (es.map fun x=>[St x])
theorem ZqJ (es:List ByteArray) (n:Nat) (hn:n≤es.length) (s:ByteArray) (hl:es.length≤2^40) (r:Nat) (H:List Ze) (hr:H[r]?=some (Xv es)):
 Zi Tryz.prog 183 [X8 r es n,St s] H (fun e H'=>e=.ret (Bo ((es.take n).any fun x=>decide (s=x)))∧H'=H):=by
 unfold X8
 by_cases he:es=[]
 ·subst he
  rw [if_pos rfl]
  have:=ZaI [] s (by simp) H
  simpa using XT (args':=[St.sl [],St s]) (.cons (.nil 1) (.cons (.refl _) .nil)) this
 ·rw [if_neg he]
  have hne:es.map (fun x=>[St x])≠[]:=by simpa using he
  rw [Xv,Yn,if_neg hne] at hr
  exact ZfW es n hn s hl r H hr
end Go.Proofs
namespace Go.Proofs
open Go.Mu
theorem Zot {s:Sm} (h:Xr s=0):s.kind=1∨s.kind=2∨s.kind=3∨s.kind=4∨s.kind=5∨s.kind=6:=by
 unfold Xr ZM at h
 split at h
 ·rename_i h1
  simp only [Bool.and_eq_true] at h1
  have h2:=h1.1.1.1.1.1.1.1
  unfold kd1 at h2
  simp only [Bool.and_eq_true,decide_eq_true_eq] at h2
  omega
 ·cases h
theorem Ys (a b c:Int):ZK (ZK a b) c=ZK a (ZK b c):=by
 by_cases h:a=0
 ·subst h;simp
 ·rw [Zu h,Zu h,Zu h]
def stG (p:Pg) (f:Int) (kv ka a r:Nat) (all:List ByteArray) (H:List Ze) (es:List ByteArray) (n:Nat):List Ze:=Zbk H a (Xq p f kv ka (X8 r es n) all) r (Xv es)
def StR (c:Int) (n:Nat) (es:List ByteArray) (more:Nat) (G:List ByteArray→Nat→List Ze):AE→List Ze→Prop:=fun e H'=>
 (c=0→e=.ret (.tup [])∧∃es',H'=G es' n∧n≤es'.length∧es'.take n=es.take n∧es'.length≤es.length+more)∧
 (c≠0→e=.pan (Zal c)∧∃es' n',H'=G es' n')
def StM (E:Int) (n:Nat) (es:List ByteArray) (b:Nat) (G:List ByteArray→Nat→List Ze) (c:Int) (m:Nat) (H':List Ze):Prop:=
 c=E∧∃es' L,H'=G es' n++L∧n≤es'.length∧es'.take n=es.take n∧es'.length+m≤b
theorem Zje {H:List Ze} {sl:TypeId×Nat×List Value×Nat} {r n:Nat} {es:List ByteArray} {x:ByteArray} {K:AV→List Ze→Prop} {w:ZQ K} (hk:H[r]?=some (Xv es)) (hn:n≤es.length) (h1:sl.1=9) (h2:sl.2.1=1) (hs:sl.2.2.2≤16)
 (hb:es.length≤2^39) (h:K (X8 r (es.take n++x::es.drop (n+1)) (n+1)) (H.set r (Xv (es.take n++x::es.drop (n+1))))):XA H sl (X8 r es n) [[St x]] K w:=by
 have hne:es.take n++x::es.drop (n+1)≠[]:=by simp
 have hne2:(es.take n++x::es.drop (n+1)).map (fun x=>[St x])≠[]:=by simp
 obtain⟨s1,s2,s3,s4⟩:=sl
 simp only at h1 h2 hs
 subst h1 h2
 rw [X8,if_neg hne,Xv,Yn,if_neg hne2] at h
 unfold XA ZbH
 by_cases he:es=[]
 ·subst he
  simp only [List.length_nil] at hn
  obtain rfl:n=0:=by omega
  rw [X8,if_pos rfl]
  simp only [Xv,Yn,List.map_nil,if_true] at hk
  refine And.intro (fun hy=>by cases hy) (fun _=>⟨by simp;omega,by simp,.inr ⟨r,hk,?_⟩⟩)
  simpa using h
 ·have hm:es.map (fun x=>[St x])≠[]:=by simpa using he
  rw [X8,if_neg he]
  rw [Xv,Yn,if_neg hm] at hk
  simp only [hk]
  refine⟨by simp,?_⟩
  by_cases hnn:n=es.length
  ·subst hnn
   refine .inl ⟨⟨rfl,?_,by simp;omega⟩,?_⟩
   ·have:(es.length+1)*s4≤(es.length+1)*16:=Nat.mul_le_mul_left _ hs
    have e:es.length+[[St x]].length=es.length+1:=rfl
    rw [e]
    omega
   ·have e1:es.take es.length++x::es.drop (es.length+1)=es++[x]:=by simp
    rw [e1] at h
    simpa using h
  ·refine .inr ⟨by simp;omega,?_⟩
   have e2:(es.take n++x::es.drop (n+1)).length=es.length:=by simp;omega
   rw [e2] at h
   simpa [List.map_take,List.map_drop] using h
section
variable {p:Pg} {kv ka a r k:Nat} {all:List ByteArray} {tv:List (ByteArray×Vr)} {ta:List (ByteArray×Bool)} {F:Fc}
theorem Zqx {H:List Ze} {f:Int} {kp:AV} (h:Za0 H a p f kv ka kp all tv ta) {es:List ByteArray} (hr:H[r]?=some (Xv es)):a≠r∧kv≠a∧kv≠r∧ka≠a∧ka≠r:=by
 obtain⟨h1,h2,h3⟩:=h
 have hq:∀ (i:Nat) (x:Ze),H[i]?=some x→x≠Xv es→i≠r:=fun i x hi hx e=>by subst e;rw [hr] at hi;injection hi with hi;exact hx hi.symm
 have kb:∀ (c:List AV),Ze.box 192 c≠Xv es:=fun c=>by unfold Xv Yn;split<;>(intro h;cases h)
 have km:∀c,Ze.map c≠Xv es:=fun c=>by unfold Xv Yn;split<;>(intro h;cases h)
 refine⟨hq _ _ h1 (kb _),fun e=>?_,hq _ _ h2 (km _),fun e=>?_,hq _ _ h3 (km _)⟩
 ·subst e;rw [h1] at h2;simp [Xq] at h2
 ·subst e;rw [h1] at h3;simp [Xq] at h3
theorem ZvB {H:List Ze} {f:Int} {kp:AV} (h:Za0 H a p f kv ka kp all tv ta) {es0:List ByteArray} (hr:H[r]?=some (Xv es0)) (es:List ByteArray) (n:Nat) (L:List Ze):Za0 (stG p f kv ka a r all H es n++L) a p f kv ka (X8 r es n) all tv ta:=by
 obtain⟨n1,n2,n3,n4,n5⟩:=Zqx h hr
 have ha:=ZT h.box
 have hv:=ZT h.vars
 have hk:=ZT h.arr
 refine⟨Ztm ha n1 _ _ _,?_,?_⟩
 ·rw [stG,List.getElem?_append_left (by simpa using hv),Zbk,List.getElem?_set_ne (Ne.symm n3),List.getElem?_set_ne (Ne.symm n2)];exact h.vars
 ·rw [stG,List.getElem?_append_left (by simpa using hk),Zbk,List.getElem?_set_ne (Ne.symm n5),List.getElem?_set_ne (Ne.symm n4)];exact h.arr
theorem Zo1 {H:List Ze} {f:Int} {kp:AV} (h:Za0 H a p f kv ka kp all tv ta) {es0:List ByteArray} (hr:H[r]?=some (Xv es0)) (es:List ByteArray) (n:Nat) (hu:YC H.length H=true):YC H.length (stG p f kv ka a r all H es n)=true:=by
 have h1:=ZT h.vars
 have h2:=ZT h.arr
 have h3:=ZT hr
 have hb:=List.mem_of_getElem? h.box
 have hub:(Xq p f kv ka kp all).under H.length=true:=by
  simp only [YC,List.all_eq_true] at hu
  exact hu _ hb
 refine ZlZ hu ?_ ?_
 ·simp only [Xq,Ze.under,YZ,List.all_cons,List.all_nil,Bool.and_eq_true,AV.under] at hub ⊢
  refine⟨hub.1,hub.2.1,hub.2.2.1,hub.2.2.2.1,hub.2.2.2.2.1,?_,hub.2.2.2.2.2.2⟩
  unfold X8
  split
  ·rfl
  ·simp [AV.under,h3]
 ·refine Zij _ _ _ _ ?_
  rw [List.all_eq_true]
  intro x hx
  obtain⟨y,_,rfl⟩:=List.mem_map.1 hx
  rfl
end
end Go.Proofs
