import Derived.Laws.Strings
import Derived.Test.YtpibcbilkpoomaaGreatFacts
import Derived.Test.YtpibcbilkpoomaaGreatm11
set_option linter.all false
set_option maxHeartbeats 4000000
set_option maxRecDepth 100000
namespace Go.Proofs
open Go.Mu
abbrev I (n:Int):AV:=.v (.int .i64 n)
abbrev U (n:Int):AV:=.v (.int .u64 n)
abbrev Bo (b:Bool):AV:=.v (.bool b)
abbrev St (s:ByteArray):AV:=.v (.string s)
abbrev Yp:AV:=.v (.slice none 0 0)
theorem YG {n:Int} (h1: -9223372036854775808≤n) (h2:n≤9223372036854775807):IntKind.i64.wrap n=n:=by
 simp [IntKind.wrap,IntKind.bits,IntKind.signed]
 omega
theorem Zo {α:Type} {l:List α} {i:Nat} (h:i<l.length):l.drop i=l[i]::l.drop (i+1):=List.drop_eq_getElem_cons h
theorem ZI {α:Type} {l:List α} {i:Nat} (h: ¬ i<l.length):l.drop i=[]:=List.drop_of_length_le (by omega)
theorem ZC {i:Nat} (h:i<4611686018427387904):IntKind.i64.wrap ((i:Int)+1)=((i+1:Nat):Int):=by
 rw [YG (by omega) (by omega)];rfl
def JC {α:Type} (p:α→Bool):List α→Int→Int
 |[],_=> -1
 |a::l,i=>if p a then i else JC p l (i+1)
theorem ZbW {α:Type} (p:α→Bool):∀ (l:List α) (i:Int),0≤i→decide (0≤JC p l i)=l.any p
 |[],i,h=>by simp [JC]
 |a::l,i,h=>by
  simp only [JC,List.any_cons]
  split
  ·rename_i hp;simp [hp,h]
  ·rename_i hp;simp [hp,ZbW p l (i+1) (by omega)]
theorem Zvn {a b:ByteArray} (h:a.toList=b.toList):a=b:=by
 rw [ByteArray.toList_eq,ByteArray.toList_eq] at h
 obtain⟨⟨x⟩⟩:=a
 obtain⟨⟨y⟩⟩:=b
 simp at h
 subst h;rfl
@[simp] theorem ZsM (a b:ByteArray):(a.toList==b.toList)=decide (a=b):=by
  by_cases h:a=b
  ·subst h;simp
  ·rw [decide_eq_false h,beq_eq_false_iff_ne]
   exact fun e=>h (Zvn e)
theorem Zv3 (a b:ByteArray):(a==b)=decide (a=b):=by
 by_cases h:a=b
 ·subst h
  obtain⟨⟨x⟩⟩:=a
  have:((⟨x⟩:Array UInt8)==⟨x⟩)=true:=by simp
  exact this.trans (by simp)
 ·rw [decide_eq_false h]
  cases hb:a==b with
  |false=>rfl
  |true=>exact absurd (Zuw hb) h
theorem Zd5 (a b:ByteArray):Instr.sameNow .string (.string a) (.string b)=some (decide (a=b)):=by
 rw [←Zv3];rfl
def ZK (a b:Int):Int:=if a=0 then b else a
@[simp] theorem Zj (b:Int):ZK 0 b=b:=rfl
theorem Zu {a:Int} (h:a≠0) (b:Int):ZK a b=a:=if_neg h
def ZM (b:Bool) (e:Int):Int:=if b then 0 else e
@[simp] theorem Y0 (e:Int):ZM true e=0:=rfl
@[simp] theorem Y2 (e:Int):ZM false e=e:=rfl
theorem ZiH {a b:Int} {y n:Prop} {w:ZQ y} {w':ZQ n} (hy:a=b→y) (hn:a≠b→n):Zb5 (.v (.bool (a==b))) y n w w':=Zq hy fun h _ _=>hn h
end Go.Proofs
namespace Go.Proofs
open Go.Mu
abbrev St.sl (l:List ByteArray):AV:=.vs 1 (l.map fun s=>[St s])
theorem Zpd (l:List ByteArray) (s:ByteArray) (hl:l.length≤2^40) (H:List Ze):Zi Tryz.prog 233 [.vs 1 (l.map fun x=>[St x]),St s] H (fun e H'=>e=.ret (I (JC (fun x=>decide (s=x)) l 0))∧H'=H):=by
 refine Zf (Zg Tryz.func233 rfl (by kernel_rfl) ?_)
 simp -dsimp
 refine Zv (fun (i:Nat) f H'=>H'=H∧f 0=.vs 1 (l.map fun x=>[St x])∧f 1=St s∧f 7=I l.length∧f 8=I i∧i≤l.length∧JC (fun x=>decide (s=x)) (l.drop i) i=JC (fun x=>decide (s=x)) l 0) (fun i=>l.length-i) (by kernel_rfl) 0 (by simp) ?_
 rintro i f H' ⟨rfl,h0,h1,h7,h8,hi,hinv⟩
 simp -dsimp [h0,h1,h7,h8]
 refine Zb (fun hlt=>?_) (fun hlt=>?_)
 ·rw [Zo hlt,JC] at hinv
  simp -dsimp [h0,h1,h7,h8,List.getElem?_eq_getElem,hlt]
  refine Zb (fun hp=>?_) (fun hp=>?_)
  ·simp -dsimp
   rw [if_pos (by simpa using hp)] at hinv
   exact Z7 rfl ⟨by rw [hinv],rfl⟩
  ·simp -dsimp [h0,h1,h7,h8]
   rw [if_neg (by simpa using hp)] at hinv
   exact⟨i+1,by omega,ZC (by omega),by omega,by simpa using hinv⟩
 ·simp -dsimp
  rw [ZI hlt,JC] at hinv
  exact Z7 rfl ⟨by rw [hinv],rfl⟩
theorem ZaI (l:List ByteArray) (s:ByteArray) (hl:l.length≤2^40) (H:List Ze):Zi Tryz.prog 183 [.vs 1 (l.map fun x=>[St x]),St s] H (fun e H'=>e=.ret (Bo (l.any fun x=>decide (s=x)))∧H'=H):=by
 refine Zf (Zg Tryz.func183 rfl (by kernel_rfl) ?_)
 simp -dsimp
 refine Za (Zpd l s hl _) ?_
 simp -dsimp
 exact Z7 rfl ⟨by rw [ZbW _ _ _ (Int.le_refl 0)],rfl⟩
end Go.Proofs
namespace Go.Proofs
open Go.Mu
inductive Ex where
 |mk (op word:Int) (name:ByteArray) (args:List Ex)
inductive Sm where
 |mk (kind:Int) (name:ByteArray) (names:List ByteArray) (e a:Ex) (args:List Ex) (low high:Int) (body els:List Sm)
structure Vr where
 name:ByteArray
 (kind size:Int)
 secret:Bool
deriving DecidableEq
structure Rg where
 name:ByteArray
 (addr size:Int)
 secret:Bool
deriving DecidableEq
structure Fc where
 name:ByteArray
 (params vars:List Vr)
 rets:List ByteArray
 body:List Sm
structure Pg where
 regions:List Rg
 funcs:List Fc
def Ex.op:Ex→Int| .mk o _ _ _=>o
def Ex.word:Ex→Int| .mk _ w _ _=>w
def Ex.name:Ex→ByteArray| .mk _ _ n _=>n
def Ex.args:Ex→List Ex| .mk _ _ _ a=>a
def Sm.kind:Sm→Int| .mk k _ _ _ _ _ _ _ _ _=>k
def Sm.name:Sm→ByteArray| .mk _ n _ _ _ _ _ _ _ _=>n
def Sm.names:Sm→List ByteArray| .mk _ _ n _ _ _ _ _ _ _=>n
def Sm.e:Sm→Ex| .mk _ _ _ e _ _ _ _ _ _=>e
def Sm.a:Sm→Ex| .mk _ _ _ _ a _ _ _ _ _=>a
def Sm.args:Sm→List Ex| .mk _ _ _ _ _ l _ _ _ _=>l
def Sm.low:Sm→Int| .mk _ _ _ _ _ _ l _ _ _=>l
def Sm.high:Sm→Int| .mk _ _ _ _ _ _ _ h _ _=>h
def Sm.body:Sm→List Sm| .mk _ _ _ _ _ _ _ _ b _=>b
def Sm.els:Sm→List Sm| .mk _ _ _ _ _ _ _ _ _ e=>e
mutual
def Ex.cells:Ex→List AV
 | .mk o w n a=>[I o,U w,St n,.vs 4 (Zfn a)]
def Zfn:List Ex→List (List AV)
 |[]=>[]
 |e::l=>e.cells::Zfn l
end
theorem Zma (l:List Ex):Zfn l=l.map Ex.cells:=by
 induction l with
 |nil=>simp [Zfn]
 |cons n l ih=>simp [Zfn,ih]
abbrev Ex.sl (l:List Ex):AV:=.vs 4 (l.map Ex.cells)
@[simp] theorem Ex.cells_eq (e:Ex):e.cells=[I e.op,U e.word,St e.name,Ex.sl e.args]:=by
  cases e;simp [Ex.cells,Zma,Ex.op,Ex.word,Ex.name,Ex.args]
mutual
def Sm.cells:Sm→List AV
 | .mk k n ns e a l lo hi b el=>[I k,St n,St.sl ns,I e.op,U e.word,St e.name,Ex.sl e.args,I a.op,U a.word,St a.name,Ex.sl a.args,Ex.sl l,U lo,U hi,.vs 16 (Zen b),.vs 16 (Zen el)]
def Zen:List Sm→List (List AV)
 |[]=>[]
 |s::l=>s.cells::Zen l
end
theorem ZlV (l:List Sm):Zen l=l.map Sm.cells:=by
 induction l with
 |nil=>simp [Zen]
 |cons n l ih=>simp [Zen,ih]
abbrev Sm.sl (l:List Sm):AV:=.vs 16 (l.map Sm.cells)
@[simp] theorem Sm.cells_eq (s:Sm):s.cells=[I s.kind,St s.name,St.sl s.names,I s.e.op,U s.e.word,St s.e.name,Ex.sl s.e.args,I s.a.op,U s.a.word,St s.a.name,Ex.sl s.a.args,Ex.sl s.args,U s.low,U s.high,Sm.sl s.body,Sm.sl s.els]:=by
  cases s;simp [Sm.cells,ZlV,Sm.kind,Sm.name,Sm.names,Sm.e,Sm.a,Sm.args,Sm.low,Sm.high,Sm.body,Sm.els]
@[simp] def Vr.cells (v:Vr):List AV:=[St v.name,I v.kind,I v.size,Bo v.secret]
@[simp] def Rg.cells (r:Rg):List AV:=[St r.name,I r.addr,I r.size,Bo r.secret]
abbrev Vr.sl (l:List Vr):AV:=.vs 4 (l.map Vr.cells)
abbrev Rg.sl (l:List Rg):AV:=.vs 4 (l.map Rg.cells)
@[simp] def Fc.cells (f:Fc):List AV:=[St f.name,Vr.sl f.params,Vr.sl f.vars,St.sl f.rets,Sm.sl f.body]
abbrev Fc.sl (l:List Fc):AV:=.vs 5 (l.map Fc.cells)
@[simp] def Pg.cells (p:Pg):List AV:=[Rg.sl p.regions,Fc.sl p.funcs]
mutual
def Ex.count:Ex→Nat
 | .mk _ _ _ a=>1+ZE a
def ZE:List Ex→Nat
 |[]=>0
 |e::l=>e.count+ZE l
end
theorem Ex.count_eq (e:Ex):e.count=1+ZE e.args:=by cases e;simp [Ex.count,Ex.args]
theorem Zjb {l:List Ex} {i:Nat} (h:i<l.length):ZE (l.drop i)=l[i].count+ZE (l.drop (i+1)):=by rw [Zo h,ZE]
theorem Zmi (l:List Ex) (i:Nat):ZE (l.drop i)≤ZE l:=by
 induction l generalizing i with
 |nil=>simp
 |cons n l ih=>cases i with
  |zero=>simp
  |succ i=>simp only [List.drop_succ_cons,ZE];have:=ih i;omega
theorem Yy (l:List Ex):l.length≤ZE l:=by
 induction l with
 |nil=>simp
 |cons n l ih=>simp only [List.length_cons,ZE,Ex.count_eq];omega
theorem JN {l:List Ex} {i:Nat} (h:i<l.length):l[i].count≤ZE l:=by
 have h1:=Zjb h
 have h2:=Zmi l i
 omega
mutual
def Sm.count:Sm→Nat
 | .mk _ _ ns e a l _ _ b el=>1+ns.length+e.count+a.count+ZE l+Zh b+Zh el
def Zh:List Sm→Nat
 |[]=>0
 |s::l=>s.count+Zh l
end
theorem Sm.count_eq (s:Sm):s.count=1+s.names.length+s.e.count+s.a.count+ZE s.args+Zh s.body+Zh s.els:=by cases s;simp [Sm.count,Sm.names,Sm.e,Sm.a,Sm.args,Sm.body,Sm.els]
theorem ZiW {l:List Sm} {i:Nat} (h:i<l.length):Zh (l.drop i)=l[i].count+Zh (l.drop (i+1)):=by rw [Zo h,Zh]
theorem Zgt (l:List Sm) (i:Nat):Zh (l.drop i)≤Zh l:=by
 induction l generalizing i with
 |nil=>simp
 |cons n l ih=>cases i with
  |zero=>simp
  |succ i=>simp only [List.drop_succ_cons,Zh];have:=ih i;omega
theorem Yi (l:List Sm):l.length≤Zh l:=by
 induction l with
 |nil=>simp
 |cons n l ih=>simp only [List.length_cons,Zh,Sm.count_eq];omega
theorem JY {l:List Sm} {i:Nat} (h:i<l.length):l[i].count≤Zh l:=by
 have h1:=ZiW h
 have h2:=Zgt l i
 omega
end Go.Proofs
namespace Go.Proofs
open Go.Mu
def inI (n:Int):Bool:=decide (-9223372036854775808≤n)&&decide (n≤9223372036854775807)
def inU (n:Int):Bool:=decide (0≤n)&&decide (n≤18446744073709551615)
mutual
def Ex.rng:Ex→Bool
 | .mk o w _ a=>inI o&&inU w&&Xz a
def Xz:List Ex→Bool
 |[]=>true
 |e::l=>e.rng&&Xz l
end
mutual
def Sm.rng:Sm→Bool
 | .mk k _ _ e a l lo hi b el=>inI k&&e.rng&&a.rng&&Xz l&&inU lo&&inU hi&&Jh b&&Jh el
def Jh:List Sm→Bool
 |[]=>true
 |s::l=>s.rng&&Jh l
end
def Vr.rng (v:Vr):Bool:=inI v.kind&&inI v.size
def Rg.rng (r:Rg):Bool:=inI r.addr&&inI r.size
def Fc.rng (f:Fc):Bool:=f.params.all Vr.rng&&f.vars.all Vr.rng&&Jh f.body
def Pg.rng (p:Pg):Bool:=p.regions.all Rg.rng&&p.funcs.all Fc.rng
theorem Zsc {l:List Ex} (h:∀e∈l,e.rng=true):Xz l=true:=by
 induction l with
 |nil=>rfl
 |cons e l ih=>rw [Xz,h e (List.mem_cons_self ..),ih (fun e he=>h e (List.mem_cons_of_mem _ he))];rfl
theorem Zok {l:List Sm} (h:∀e∈l,e.rng=true):Jh l=true:=by
 induction l with
 |nil=>rfl
 |cons e l ih=>rw [Jh,h e (List.mem_cons_self ..),ih (fun e he=>h e (List.mem_cons_of_mem _ he))];rfl
theorem Sm.rng_eq (s:Sm):s.rng=(inI s.kind&&s.e.rng&&s.a.rng&&Xz s.args&&inU s.low&&inU s.high&&Jh s.body&&Jh s.els):=by cases s;rw [Sm.rng];rfl
theorem Ex.rng_eq (e:Ex):e.rng=(inI e.op&&inU e.word&&Xz e.args):=by cases e;rw [Ex.rng];rfl
theorem Zct {l:List Ex} (h:Xz l=true):∀e∈l,e.rng=true:=by
 induction l with
 |nil=>intro e he;cases he
 |cons x l ih=>
  intro e he
  rw [Xz,Bool.and_eq_true] at h
  rcases List.mem_cons.1 he with rfl|he
  ·exact h.1
  ·exact ih h.2 e he
theorem Zd8 {l:List Sm} (h:Jh l=true):∀e∈l,e.rng=true:=by
 induction l with
 |nil=>intro e he;cases he
 |cons x l ih=>
  intro e he
  rw [Jh,Bool.and_eq_true] at h
  rcases List.mem_cons.1 he with rfl|he
  ·exact h.1
  ·exact ih h.2 e he
end Go.Proofs
