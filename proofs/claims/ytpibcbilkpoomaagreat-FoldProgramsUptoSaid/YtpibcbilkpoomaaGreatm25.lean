import Derived.Test.YtpibcbilkpoomaaGreatm21
set_option linter.all false
namespace Go.Mu
open Go.RowKit (Below)
def Zuu (P:Program) (it:FuncId) (cap:List AV) (xs:List (List AV)) (base:Nat) (inv:List Ze→Prop):Prop:=
 ∀ (k:Nat) (J:List Nat→List Ze→Prop) (Jx:List Ze→Prop),(∀s A,J s A→A.length=base∧inv A)→
   (∀s i A B x,s.Nodup→(∀j∈s,j<xs.length)→i∉s→xs[i]?=some x→J s A→ZdT P k (A++B) x (fun e M=>∃A' C,M=A'++B++C∧((e=.ret (.v (.bool true))∧J (s++[i]) A')∨(e=.ret (.v (.bool false))∧Jx A'))))→
   ∀A,J [] A→Zi P it (.yl k::cap) A (fun e M=>∃r A' C,e=.ret r∧M=A'++C∧((∃s,s.Nodup∧(∀j∈s,j<xs.length)∧(∀j,j<xs.length→j∈s)∧J s A')∨Jx A'))
theorem Znm {P:Program} {n:Nat} {g:Operand} {ps:Array Tmp} {x y:Code} {Q:AQ} {f:Fr} {H:List Ze} {ds:List ZO} {it:FuncId} {cap:List AV} {w:ZQ (n,Code.rangeFunc g ps x y,Q,f,H,ds)}
 (xs:List (List AV)) (inv:List Ze→Prop) (J:List Nat→List Ze→Prop) (Jx:AX→List Ze→Prop)
 (hgo:(Zk9 n g&&JU x&&JU y&&ZL P it)=true) (hg:ev f g=.fn (.func it) [] cap) (hps:∀e∈xs,e.length=ps.size)
 (hseq:Zuu P it cap xs (H.length+2) (fun A=>∃A0 b,A=A0++b∧A0.length=H.length∧inv A0)) (h0:J [] H) (hJ:∀s A,J s A→A.length=H.length∧inv A) (hJx:∀e A,Jx e A→A.length=H.length)
 (round:∀s i A B e,s.Nodup→(∀j∈s,j<xs.length)→i∉s→xs[i]?=some e→J s A→Zmg P n x (Zha fun f1 M1=>∃C,M1=A++(B++C)∧∀B',B'.length=B.length→Zmg P n y (ZgV (ZhG (J (s++[i])) Jx B')) f1 (A++(B'++C)) [] (Z5 _)) (Zmu f ps.toList e) (A++B) [] (Z5 _))
 (fin:∀s A C,s.Nodup→(∀j∈s,j<xs.length)→(∀j,j<xs.length→j∈s)→J s A→QW Q .normal f (A++.dfr true::C) (⟨0,[],some H.length⟩::ds) (Z5 _))
 (finx:∀ex A C,Jx ex A→ex≠.normal→(∀z,ex≠.pan z)→QW Q ex f (A++.dfr true::C) (⟨0,[],some H.length⟩::ds) (Z5 _)):Zmg P n (.rangeFunc g ps x y) Q f H ds w:=by
 simp only [Bool.and_eq_true] at hgo
 refine ZiV hgo.1.1.1 hg hgo.2 ?_
 have base:=hseq (H.length+1) (fun s M=>∃A,M=A++[.dfr true,.lp .ready none n f ps x y]∧J s A) (fun M=>∃ex A,M=A++[.dfr true,.lp .done (XG ex) n f ps x y]∧Jx ex A∧ex≠.normal∧∀z,ex≠.pan z) ?_ ?_
  (H++[.dfr true,.lp .ready none n f ps x y]) ⟨H,rfl,h0⟩
 ·refine base.mono fun e M he=>?_
  obtain⟨r,A',C,rfl,rfl,⟨s,hs1,hs2,hs3,A,rfl,hA⟩|⟨ex,A,rfl,hA,hne,hnp⟩⟩:=he
  ·have hl:=(hJ _ _ hA).1
   refine⟨r,rfl,.ready,.normal,?_,by simp,?_,?_⟩
   ·rw [←hl];simp [XG]
   ·rw [←hl];simp
   ·have:=fin s A (.lp .exhausted none n f ps x y::C) hs1 hs2 hs3 hA
    simp only
    rw [←hl] at this ⊢
    simpa [XG,QW] using this
  ·have hl:=hJx _ _ hA
   refine⟨r,rfl,.done,ex,?_,by simp,?_,?_⟩
   ·rw [←hl];simp
   ·rw [←hl];simp
   ·have:=finx ex A (.lp .exhausted (XG ex) n f ps x y::C) hA hne hnp
    rw [←hl] at this ⊢
    cases ex with
    |normal=>exact absurd rfl hne
    |pan z=>exact absurd rfl (hnp z)
    |_=>simpa [QW] using this
 ·rintro s M ⟨A,rfl,hA⟩
  have:=hJ s A hA
  exact⟨by simp [this.1],A,_,rfl,this.1,this.2⟩
 ·rintro s i M B e hs1 hs2 hs3 he ⟨A,rfl,hA⟩
  have hl:=(hJ s A hA).1
  have hke:e.length=ps.size:=hps e (List.mem_of_getElem? he)
  have hget:∀ (A C:List Ze) (z u:Ze),A.length=H.length→(A++z::u::C)[H.length+1]?=some u:=by
   intro A C z u hh;rw [←hh];simp
  have hset:∀ (A C:List Ze) (z u u':Ze),A.length=H.length→(A++z::u::C).set (H.length+1) u'=A++z::u'::C:=by
   intro A C z u u' hh;rw [←hh];simp
  have hM:A++[.dfr true,.lp .ready none n f ps x y]++B=A++.dfr true::.lp .ready none n f ps x y::B:=by simp
  rw [hM]
  refine Zp9 (hget _ _ _ _ hl) (by simp [hgo.1.1.2,hgo.1.2]) hke ?_
  refine X6.mono (round s i A (.dfr true::.lp .ready none n f ps x y::B) e hs1 hs2 hs3 he hA) fun ex f1 M1 ds1 h1=>?_
  obtain⟨rfl,rfl,C0,rfl,h2⟩:=h1
  have hC0:∀u:Ze,A++(Ze.dfr true::u::B++C0)=A++Ze.dfr true::u::(B++C0):=fun u=>by simp
  rw [hC0]
  refine⟨rfl,rfl,hget _ _ _ _ hl,?_⟩
  rw [hset _ _ _ _ _ hl,←hC0]
  refine X6.mono (h2 (.dfr true::.lp .busy none n f ps x y::B) (by simp)) fun ex f2 M2 ds2 h3=>?_
  obtain⟨rfl,h3⟩:=h3
  have hx0:(∀z,ex≠.pan z)∧ZhG (J (s++[i])) Jx (.dfr true::.lp .busy none n f ps x y::B) ex M2:=by
   cases ex with
   |pan z=>exact h3.elim
   |_=>exact⟨by simp,h3⟩
  obtain⟨hnp,A',C,rfl,hx⟩:=hx0
  have hM2:A'++((.dfr true::.lp .busy none n f ps x y::B)++C)=A'++.dfr true::.lp .busy none n f ps x y::(B++C):=by simp
  rw [hM2]
  have hl':A'.length=H.length:=by
   cases ex with
   |normal=>exact (hJ _ _ hx).1
   |_=>exact hJx _ _ hx
  refine⟨rfl,hget _ _ _ _ hl',?_⟩
  cases ex with
  |normal=>exact⟨A'++[.dfr true,.lp .ready none n f ps x y],C,by rw [hset _ _ _ _ _ hl'];simp,.inl ⟨rfl,A',rfl,hx⟩⟩
  |pan z=>exact absurd rfl (hnp z)
  |ret=>exact⟨A'++[.dfr true,.lp .done (XG .ret) n f ps x y],C,by rw [hset _ _ _ _ _ hl'];simp,.inr ⟨rfl,_,A',rfl,hx,by simp,by simp⟩⟩
  |exit id=>exact⟨A'++[.dfr true,.lp .done (XG (.exit id)) n f ps x y],C,by rw [hset _ _ _ _ _ hl'];simp,.inr ⟨rfl,_,A',rfl,hx,by simp,by simp⟩⟩
  |goto l=>exact⟨A'++[.dfr true,.lp .done (XG (.goto l)) n f ps x y],C,by rw [hset _ _ _ _ _ hl'];simp,.inr ⟨rfl,_,A',rfl,hx,by simp,by simp⟩⟩
end Go.Mu
