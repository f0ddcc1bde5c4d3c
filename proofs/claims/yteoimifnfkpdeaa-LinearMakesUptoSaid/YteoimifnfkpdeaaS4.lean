/- Which flat code may be, by the document. -/
import Derived.Test.YteoimifnfkpdeaaS3
set_option linter.unusedVariables false
set_option linter.unusedSimpArgs false
set_option maxHeartbeats 4000000
set_option maxRecDepth 100000
namespace Go.Proofs
open Go.Mu
theorem zero_ins (x : Ins) : (!x.kind == 0 || (!x.op == 0 || (!x.d == 0 || (!x.a == 0 || (!x.b == 0 || (!x.c == 0 || (!x.word == 0 || x.stack))))))) = !decide (x = zeroIns) := by
  rw [Bool.eq_iff_iff]
  simp [zeroIns, Ins.ext_iff]
theorem list_ok (vars : Int) (n : Nat) : ∀ (l : List Node) (deep : Int), nodesCount l ≤ n → nodesCount l ≤ 2^40 → 0 ≤ deep → ∀ (H : List Blk), ACalls Try.prog 41 [Node.sl l, I vars, I deep] H (fun e H' => e = .ret (Bo (nodesOk vars deep l)) ∧ H' = H) := by
  induction n with
  | zero =>
    intro l deep hl hb hdp H
    have : l = [] := List.eq_nil_of_length_eq_zero (by have := nodes_len l; omega)
    subst this
    refine acalls_of_vc (hn := fun _ => false) (od := fun _ => none) Try.func41 rfl (by kernel_rfl) ?_
    simp -dsimp
    refine loop_rule (hn := fun _ => false) (od := fun _ => none) (fun (i : Nat) f H' => H' = H ∧ f 0 = Node.sl [] ∧ f 7 = I 0) (fun i => 0) (by kernel_rfl) 0 (by simp) ?_
    rintro i f H' ⟨rfl, h0, h7⟩
    simp -dsimp [h0, h7, nodesOk]
  | succ n ih =>
    intro l deep hl hb hdp H
    refine acalls_tidy (acalls_of_vc (hn := fun _ => false) (od := fun _ => none) Try.func41 rfl (by kernel_rfl) ?_)
    simp -dsimp
    have hlen := nodes_len l
    have leaf : ∀ (L : List Blk) (b : Bool), b = nodesOk vars deep l → Tidy H (fun e H' => e = AE.ret (Bo (nodesOk vars deep l)) ∧ H' = H) (AE.ret (AV.v (Value.bool b))) (H ++ L) := fun L b hb => tidy_same rfl ⟨by rw [hb], rfl⟩
    have leaf0 : ∀ (b : Bool), b = nodesOk vars deep l → Tidy H (fun e H' => e = AE.ret (Bo (nodesOk vars deep l)) ∧ H' = H) (AE.ret (AV.v (Value.bool b))) H := fun b hb => by simpa using leaf [] b hb
    refine guardVW_introTD (fun hpos => ?_) (fun hpos => ?_) <;> simp -dsimp [hpos]
    refine condVW_introD (fun hdeep => ?_) (fun hdeep => ?_) <;> simp -dsimp
    · refine leaf0 _ ?_
      cases l with
      | nil => simp at hpos
      | cons x l => simp [nodesOk]; omega
    all_goals
      refine loop_rule (hn := fun _ => false) (od := fun _ => none) (fun (i : Nat) f H' => (∃ L, H' = H ++ L) ∧ f 0 = Node.sl l ∧ f 1 = I vars ∧ f 2 = I deep ∧ f 7 = I i ∧ i ≤ l.length ∧ nodesOk vars deep (l.drop i) = nodesOk vars deep l) (fun i => l.length - i) (by kernel_rfl) 0 (by simp) ?_
      rintro i f H' ⟨⟨L, rfl⟩, h0, h1, h2, h7, hi, hok⟩
      simp -dsimp [h0, h1, h2, h7]
      refine condVW_introD (fun hlt => ?_) (fun hlt => ?_)
      · have hp := node_parts hlt
        have hd := nodesOk_drop (vars := vars) (deep := deep) hlt
        rw [Node.ok_eq, hok] at hd
        have hdp2 : decide (deep ≤ 65) = true := by simp; omega
        rw [hdp2, Bool.true_and] at hd
        simp only [isEmpty_len] at hd
        replace hd := Hid.mk hd
        replace hok := Hid.mk hok
        have hw : IntKind.i64.wrap (deep + 1) = deep + 1 := wrapI (by omega) (by omega)
        have hwl : IntKind.i64.wrap (↑l[i].ahead.length + ↑l[i].body.length) = ↑l[i].ahead.length + ↑l[i].body.length := by
          have := nodes_len l[i].ahead; have := nodes_len l[i].body; exact wrapI (by omega) (by omega)
        have hwl2 : IntKind.i64.wrap (↑l[i].ahead.length + ↑l[i].body.length + ↑l[i].els.length) = ↑l[i].ahead.length + ↑l[i].body.length + ↑l[i].els.length := by
          have := nodes_len l[i].ahead; have := nodes_len l[i].body; have := nodes_len l[i].els; exact wrapI (by omega) (by omega)
        have hins := fun H => ins_ok l[i].ins vars H
        simp only [Ins.cells] at hins
        simp -dsimp [h0, h1, h2, h7, List.getElem?_eq_getElem, hlt, zero_ins]
        repeat' ((with_reducible first | refine And.intro ?_ ?_ | refine guardVW_introTD (fun _ => ?_) (fun _ => ?_) | refine guardVW_introFD (fun _ => ?_) (fun _ => ?_) | refine condVW_introD (fun _ => ?_) (fun _ => ?_) | refine guardVW_introTE (fun _ => ?_) (fun _ _ _ => ?_) | refine guardVW_introFE (fun _ => ?_) (fun _ _ _ => ?_) | refine condVW_introE (fun _ => ?_) (fun _ _ _ => ?_) | refine guardVW_introTNE (fun _ _ _ => ?_) (fun _ => ?_) | refine guardVW_introFNE (fun _ _ _ => ?_) (fun _ => ?_) | refine condVW_introNE (fun _ _ _ => ?_) (fun _ => ?_) | refine guardVW_introTB (fun _ => ?_) (fun _ => ?_) | refine guardVW_introFB (fun _ => ?_) (fun _ => ?_) | refine condVW_introB (fun _ => ?_) (fun _ => ?_) | refine guardVW_introT (fun _ => ?_) (fun _ => ?_) | refine guardVW_introF (fun _ => ?_) (fun _ => ?_) | refine condVW_intro (fun _ => ?_) (fun _ => ?_) | refine acallsW_det (hins _) ?_ | refine callDW_intro (hins _) ?_ | refine acallsW_det (ih _ _ (by omega) (by omega) (by omega) _) ?_ | refine callDW_intro (ih _ _ (by omega) (by omega) (by omega) _) ?_) <;> simp -dsimp [*, zero_ins])
        all_goals replace hd := hd.out
        all_goals first
          | exact leaf _ _ (by rw [hd]; first | (simp [*, isV]; done) | (simp [*, isV, -List.length_eq_zero_iff]; omega))
          | exact ⟨i + 1, by omega, wrapS (by omega), by omega, by rw [hd]; first | (simp [*, isV]; done) | (simp [*, isV, -List.length_eq_zero_iff]; omega)⟩
      · simp -dsimp [h0, h1, h2, h7]
        rw [drop_end hlt] at hok
        exact leaf _ _ (by simpa [nodesOk] using hok)

/-- May these be parameters, behind those? -/
def paramsOk (vars : Int) (seen : List Int) : List Int → Bool
  | [] => true
  | x :: l => isV x vars && !decide (x ∈ seen) && paramsOk vars (seen ++ [x]) l
theorem paramsOk_drop {vars : Int} {l : List Int} {i : Nat} (h : i < l.length) : paramsOk vars (l.take i) (l.drop i) = (isV l[i] vars && !decide (l[i] ∈ l.take i) && paramsOk vars (l.take (i + 1)) (l.drop (i + 1))) := by
  rw [drop_cons h, paramsOk, List.take_succ_eq_append_getElem h]
theorem take_drop_cons {l : List Int} {i k : Nat} (hk : k < i) (hi : i ≤ l.length) : (l.take i).drop k = l[k] :: (l.take i).drop (k + 1) := by
  rw [drop_cons (l := l.take i) (i := k) (by simp; omega)]; simp
def headOk (vars : Int) (params rets : List Int) (frame : Int) : Bool :=
  decide (0 ≤ vars) && decide (vars ≤ 16384) && decide (0 ≤ frame) && decide (frame ≤ 8192) && decide (frame % 16 = 0) && decide (rets.length ≤ 16384) && paramsOk vars [] params && rets.all (isV · vars)
theorem all_drop {p : Int → Bool} {l : List Int} {i : Nat} (h : i < l.length) : (l.drop i).all p = (p l[i] && (l.drop (i + 1)).all p) := by rw [drop_cons h, List.all_cons]
theorem head_ok (vars : Int) (params rets : List Int) (frame : Int) (hp : params.length ≤ 2^40) (hr : rets.length ≤ 2^40) (H : List Blk) : ACalls Try.prog 40 [I vars, Int.sl params, Int.sl rets, I frame] H (fun e H' => e = .ret (Bo (headOk vars params rets frame)) ∧ H' = H) := by
  refine acalls_of_vc (hn := fun _ => false) (od := fun _ => none) Try.func40 rfl (by kernel_rfl) ?_
  simp -dsimp
  repeat' ((with_reducible first | refine And.intro ?_ ?_ | refine guardVW_introTD (fun _ => ?_) (fun _ => ?_) | refine guardVW_introFD (fun _ => ?_) (fun _ => ?_) | refine condVW_introD (fun _ => ?_) (fun _ => ?_) | refine guardVW_introTE (fun _ => ?_) (fun _ _ _ => ?_) | refine guardVW_introFE (fun _ => ?_) (fun _ _ _ => ?_) | refine condVW_introE (fun _ => ?_) (fun _ _ _ => ?_) | refine guardVW_introTNE (fun _ _ _ => ?_) (fun _ => ?_) | refine guardVW_introFNE (fun _ _ _ => ?_) (fun _ => ?_) | refine condVW_introNE (fun _ _ _ => ?_) (fun _ => ?_) | refine guardVW_introTB (fun _ => ?_) (fun _ => ?_) | refine guardVW_introFB (fun _ => ?_) (fun _ => ?_) | refine condVW_introB (fun _ => ?_) (fun _ => ?_) | refine guardVW_introT (fun _ => ?_) (fun _ => ?_) | refine guardVW_introF (fun _ => ?_) (fun _ => ?_) | refine condVW_intro (fun _ => ?_) (fun _ => ?_)) <;> simp -dsimp [*])
  case refine_2.refine_2.refine_2.refine_2.refine_2.refine_2 h1 h2 h3 h4 h5 h6 =>
    have hbase : headOk vars params rets frame = (paramsOk vars [] params && rets.all (isV · vars)) := by
      have ht := Int.tmod_eq_emod_of_nonneg (a := frame) (b := 16) (by omega)
      rw [ht] at h5
      have e1 : decide (0 ≤ vars) = true := by simp; omega
      have e2 : decide (vars ≤ 16384) = true := by simp; omega
      have e3 : decide (0 ≤ frame) = true := by simp; omega
      have e4 : decide (frame ≤ 8192) = true := by simp; omega
      have e5 : decide (frame % 16 = 0) = true := by simpa using h5
      have e6 : decide (rets.length ≤ 16384) = true := by simp; omega
      simp only [headOk, e1, e2, e3, e4, e5, e6, Bool.true_and]
    replace hbase := Hid.mk hbase
    refine loop_rule (hn := fun _ => false) (od := fun _ => none) (fun (i : Nat) f H' => H' = H ∧ f 0 = I vars ∧ f 1 = Int.sl params ∧ f 2 = Int.sl rets ∧ f 9 = I i ∧ i ≤ params.length ∧ paramsOk vars (params.take i) (params.drop i) = paramsOk vars [] params) (fun i => params.length - i) (by kernel_rfl) 0 (by simp) ?_
    rintro i f H' ⟨rfl, f0, f1, f2, f9, hi, hok⟩
    simp -dsimp [f0, f1, f2, f9]
    refine condVW_introD (fun hlt => ?_) (fun hlt => ?_)
    · have hd := paramsOk_drop (vars := vars) hlt
      rw [hok] at hd
      replace hd := Hid.mk hd
      replace hok := Hid.mk hok
      simp -dsimp [f0, f1, f2, f9, List.getElem?_eq_getElem, hlt]
      repeat' ((with_reducible first | refine And.intro ?_ ?_ | refine guardVW_introTD (fun _ => ?_) (fun _ => ?_) | refine guardVW_introFD (fun _ => ?_) (fun _ => ?_) | refine condVW_introD (fun _ => ?_) (fun _ => ?_) | refine guardVW_introTE (fun _ => ?_) (fun _ _ _ => ?_) | refine guardVW_introFE (fun _ => ?_) (fun _ _ _ => ?_) | refine condVW_introE (fun _ => ?_) (fun _ _ _ => ?_) | refine guardVW_introTNE (fun _ _ _ => ?_) (fun _ => ?_) | refine guardVW_introFNE (fun _ _ _ => ?_) (fun _ => ?_) | refine condVW_introNE (fun _ _ _ => ?_) (fun _ => ?_) | refine guardVW_introTB (fun _ => ?_) (fun _ => ?_) | refine guardVW_introFB (fun _ => ?_) (fun _ => ?_) | refine condVW_introB (fun _ => ?_) (fun _ => ?_) | refine guardVW_introT (fun _ => ?_) (fun _ => ?_) | refine guardVW_introF (fun _ => ?_) (fun _ => ?_) | refine condVW_intro (fun _ => ?_) (fun _ => ?_)) <;> simp -dsimp [*])
      · rw [hbase.out, hd.out]
        have : isV params[i] vars = false := by simp [isV]; omega
        simp [this]
      · rw [hbase.out, hd.out]
        have : isV params[i] vars = false := by simp [isV]; omega
        simp [this]
      · rename_i hv1 hv2
        have hv : isV params[i] vars = true := by simp [isV]; omega
        rw [hv, Bool.true_and] at hd
        refine loop_rule (hn := fun _ => false) (od := fun _ => none) (fun (k : Nat) f H2 => H2 = H' ∧ f 0 = I vars ∧ f 1 = Int.sl params ∧ f 2 = Int.sl rets ∧ f 9 = I i ∧ f 10 = I k ∧ k ≤ i ∧ (params[i] ∈ (params.take i).drop k ↔ params[i] ∈ params.take i)) (fun k => i - k) (by kernel_rfl) 0 (by simp [f0, f1, f2, f9]) ?_
        rintro k f H2 ⟨rfl, f0, f1, f2, f9, f10, hk, hmem⟩
        simp -dsimp [f0, f1, f2, f9, f10]
        refine condVW_introD (fun hkl => ?_) (fun hkl => ?_)
        · have hkl2 : k < params.length := by omega
          rw [take_drop_cons hkl (by omega), List.mem_cons] at hmem
          replace hmem := Hid.mk hmem
          simp -dsimp [f0, f1, f2, f9, f10, List.getElem?_eq_getElem, hlt, hkl2]
          refine condVW_introE (fun he => ?_) (fun hne _ _ => ?_)
          · simp -dsimp
            rw [hbase.out, hd.out]
            have : params[i] ∈ params.take i := hmem.out.1 (.inl he.symm)
            simp [this]
          · simp -dsimp [f0, f1, f2, f9, f10]
            refine ⟨k + 1, by omega, wrapS (by omega), by omega, ?_⟩
            rw [← hmem.out]
            constructor
            · exact fun h => .inr h
            · exact fun h => h.resolve_left (fun e => hne e.symm)
        · simp -dsimp [f0, f1, f2, f9, f10]
          refine ⟨i + 1, by omega, wrapS (by omega), by omega, ?_⟩
          rw [hd.out]
          have hnil : (params.take i).drop k = [] := List.drop_of_length_le (by simp; omega)
          rw [hnil] at hmem
          have : params[i] ∉ params.take i := fun h => by have := hmem.2 h; simp at this
          simp [this]
    · rw [drop_end hlt] at hok
      have hpok : paramsOk vars [] params = true := by rw [← hok]; rfl
      rw [hpok, Bool.true_and] at hbase
      simp -dsimp [f0, f1, f2, f9]
      refine loop_rule (hn := fun _ => false) (od := fun _ => none) (fun (i : Nat) f H2 => H2 = H' ∧ f 0 = I vars ∧ f 2 = Int.sl rets ∧ f 11 = I i ∧ i ≤ rets.length ∧ (rets.drop i).all (isV · vars) = rets.all (isV · vars)) (fun i => rets.length - i) (by kernel_rfl) 0 (by simp [f0, f2]) ?_
      rintro j f H2 ⟨rfl, f0, f2, f11, hj, hall⟩
      simp -dsimp [f0, f2, f11]
      refine condVW_introD (fun hlt2 => ?_) (fun hlt2 => ?_)
      · rw [all_drop hlt2] at hall
        replace hall := Hid.mk hall
        simp -dsimp [f0, f2, f11, List.getElem?_eq_getElem, hlt2]
        repeat' ((with_reducible first | refine And.intro ?_ ?_ | refine guardVW_introTD (fun _ => ?_) (fun _ => ?_) | refine guardVW_introFD (fun _ => ?_) (fun _ => ?_) | refine condVW_introD (fun _ => ?_) (fun _ => ?_) | refine guardVW_introTE (fun _ => ?_) (fun _ _ _ => ?_) | refine guardVW_introFE (fun _ => ?_) (fun _ _ _ => ?_) | refine condVW_introE (fun _ => ?_) (fun _ _ _ => ?_) | refine guardVW_introTNE (fun _ _ _ => ?_) (fun _ => ?_) | refine guardVW_introFNE (fun _ _ _ => ?_) (fun _ => ?_) | refine condVW_introNE (fun _ _ _ => ?_) (fun _ => ?_) | refine guardVW_introTB (fun _ => ?_) (fun _ => ?_) | refine guardVW_introFB (fun _ => ?_) (fun _ => ?_) | refine condVW_introB (fun _ => ?_) (fun _ => ?_) | refine guardVW_introT (fun _ => ?_) (fun _ => ?_) | refine guardVW_introF (fun _ => ?_) (fun _ => ?_) | refine condVW_intro (fun _ => ?_) (fun _ => ?_)) <;> simp -dsimp [*])
        · rw [hbase.out, ← hall.out]
          have : isV rets[j] vars = false := by simp [isV]; omega
          simp [this]
        · rw [hbase.out, ← hall.out]
          have : isV rets[j] vars = false := by simp [isV]; omega
          simp [this]
        · refine ⟨j + 1, by omega, wrapS (by omega), by omega, ?_⟩
          have : isV rets[j] vars = true := by simp [isV]; omega
          have hh := hall.out
          rw [this, Bool.true_and] at hh
          simpa using hh
      · simp -dsimp [f0, f2, f11]
        rw [drop_end hlt2] at hall
        rw [hbase.out, ← hall]; rfl
  case refine_2.refine_2.refine_2.refine_2.refine_1 h5 _ _ =>
    have ht := Int.tmod_eq_emod_of_nonneg (a := frame) (b := 16) (by omega)
    rw [ht] at h5
    have : decide (frame % 16 = 0) = false := by simpa using h5
    simp [headOk, h5]
  all_goals (simp [headOk]; omega)
def Flat.ok (f : Flat) : Bool := headOk f.vars f.params f.rets f.frame && decide (nodesCount f.code ≤ 16384) && nodesOk f.vars 1 f.code
theorem refMay_ok (f : Flat) (hp : f.params.length ≤ 2^40) (hr : f.rets.length ≤ 2^40) (hc : nodesCount f.code ≤ 2^40) (H : List Blk) : ACalls Try.prog 12 [.agg f.cells] H (fun e H' => e = .ret (Bo f.ok) ∧ H' = H) := by
  refine acalls_tidy (acalls_of_vc (hn := fun _ => false) (od := fun _ => none) Try.func12 rfl (by kernel_rfl) ?_)
  simp -dsimp
  repeat' ((with_reducible first | refine And.intro ?_ ?_ | refine guardVW_introTD (fun _ => ?_) (fun _ => ?_) | refine guardVW_introFD (fun _ => ?_) (fun _ => ?_) | refine condVW_introD (fun _ => ?_) (fun _ => ?_) | refine guardVW_introTE (fun _ => ?_) (fun _ _ _ => ?_) | refine guardVW_introFE (fun _ => ?_) (fun _ _ _ => ?_) | refine condVW_introE (fun _ => ?_) (fun _ _ _ => ?_) | refine guardVW_introTNE (fun _ _ _ => ?_) (fun _ => ?_) | refine guardVW_introFNE (fun _ _ _ => ?_) (fun _ => ?_) | refine condVW_introNE (fun _ _ _ => ?_) (fun _ => ?_) | refine guardVW_introTB (fun _ => ?_) (fun _ => ?_) | refine guardVW_introFB (fun _ => ?_) (fun _ => ?_) | refine condVW_introB (fun _ => ?_) (fun _ => ?_) | refine guardVW_introT (fun _ => ?_) (fun _ => ?_) | refine guardVW_introF (fun _ => ?_) (fun _ => ?_) | refine condVW_intro (fun _ => ?_) (fun _ => ?_) | refine acallsW_det (head_ok _ _ _ _ hp hr _) ?_ | refine callDW_intro (head_ok _ _ _ _ hp hr _) ?_ | refine acallsW_det (count_ok _ _ (Nat.le_refl _) hc _) ?_ | refine callDW_intro (count_ok _ _ (Nat.le_refl _) hc _) ?_ | refine acallsW_det (list_ok _ _ _ _ (Nat.le_refl _) hc (by omega) _) ?_ | refine callDW_intro (list_ok _ _ _ _ (Nat.le_refl _) hc (by omega) _) ?_) <;> simp -dsimp [*])
  all_goals refine tidy_same rfl ⟨congrArg (fun b => AE.ret (Bo b)) ?_, rfl⟩
  all_goals (simp [Flat.ok, *] <;> omega)
end Go.Proofs
