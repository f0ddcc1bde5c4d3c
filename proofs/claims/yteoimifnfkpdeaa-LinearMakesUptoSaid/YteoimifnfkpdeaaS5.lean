/- Which flat code may be, by the program. -/
import Derived.Test.YteoimifnfkpdeaaS4
set_option linter.unusedVariables false
set_option linter.unusedSimpArgs false
set_option maxHeartbeats 4000000
set_option maxRecDepth 100000
namespace Go.Proofs
open Go.Mu
theorem asking_ins (k : Nat) (t : Nat) (vars nodes : Int) (x : Ins) (H : List Blk) (hk : H[k]? = some (.box t [I vars, I nodes])) : ACalls Try.prog 96 [.bp k 0, .agg x.cells] H (fun e H' => e = .ret (Bo (insOk vars x)) ∧ H' = H) := by
  refine acalls_tidy (acalls_of_vc (hn := fun _ => false) (od := fun i => if i = 14 then some [(0, []), (1, []), (2, []), (3, []), (4, []), (5, [2, 3]), (6, []), (7, [])] else if i = 20 then some [(0, []), (1, []), (2, []), (3, [0, 1]), (4, []), (5, [])] else if i = 23 then some [(0, []), (1, []), (2, []), (3, []), (4, []), (5, []), (6, []), (7, [2, 3, 4, 5]), (8, []), (9, [4, 5]), (10, []), (11, [])] else none) Try.func96 rfl (by kernel_rfl) ?_)
  have hk' := fun L => get_app_old hk L
  simp -dsimp [hk]
  repeat' ((with_reducible first | refine And.intro ?_ ?_ | refine guardVW_introTD (fun _ => ?_) (fun _ => ?_) | refine guardVW_introFD (fun _ => ?_) (fun _ => ?_) | refine condVW_introD (fun _ => ?_) (fun _ => ?_) | refine guardVW_introTE (fun _ => ?_) (fun _ _ _ => ?_) | refine guardVW_introFE (fun _ => ?_) (fun _ _ _ => ?_) | refine condVW_introE (fun _ => ?_) (fun _ _ _ => ?_) | refine guardVW_introTNE (fun _ _ _ => ?_) (fun _ => ?_) | refine guardVW_introFNE (fun _ _ _ => ?_) (fun _ => ?_) | refine condVW_introNE (fun _ _ _ => ?_) (fun _ => ?_) | refine guardVW_introTB (fun _ => ?_) (fun _ => ?_) | refine guardVW_introFB (fun _ => ?_) (fun _ => ?_) | refine condVW_introB (fun _ => ?_) (fun _ => ?_) | refine guardVW_introT (fun _ => ?_) (fun _ => ?_) | refine guardVW_introF (fun _ => ?_) (fun _ => ?_) | refine condVW_intro (fun _ => ?_) (fun _ => ?_) | refine acallsW_det (asking_is _ _ _ _ _ _ (hk' _)) ?_ | refine callDW_intro (asking_is _ _ _ _ _ _ (hk' _)) ?_ | refine acallsW_det (arity_ok _ _) ?_ | refine callDW_intro (arity_ok _ _) ?_) <;> simp -dsimp [*])
  all_goals refine tidy_same (by first | rfl | simp [AV.under, underL]) ?_
  all_goals refine ⟨?_, rfl⟩
  all_goals clear hk hk'
  all_goals refine congrArg (fun b => AE.ret (Bo b)) ?_
  all_goals first | (simp_all [insOk]; done) | (have ha := arity_01 x.op; simp only [insOk, isV] at *; grind)
/-- What asking a list of nodes comes to: whether it may be, and how many nodes were counted. -/
def AListR (vars deep : Int) (l : List Node) (n0 : Nat) (H : List Blk) (k t : Nat) (e : AE) (H' : List Blk) : Prop :=
  ∃ (b : Bool) (n1 : Nat), e = .ret (Bo b) ∧ b = (nodesOk vars deep l && (l.isEmpty || decide (n0 + nodesCount l ≤ 16384))) ∧ n1 ≤ 16385 ∧ H' = H.set k (.box t [I vars, I n1]) ∧ (b = true → n1 = n0 + nodesCount l ∧ n1 ≤ 16384)
theorem AListR.out {vars deep : Int} {l : List Node} {n0 : Nat} {H : List Blk} {k t : Nat} {e : AE} {H' : List Blk} (h : AListR vars deep l n0 H k t e H') :
  ∃ (b : Bool) (n1 : Nat), e = .ret (Bo b) ∧ b = (nodesOk vars deep l && (l.isEmpty || decide (n0 + nodesCount l ≤ 16384))) ∧ n1 ≤ 16385 ∧ H' = H.set k (.box t [I vars, I n1]) ∧ (b = true → n1 = n0 + nodesCount l ∧ n1 ≤ 16384) := h
theorem count_empty (l : List Node) : l.length = 0 → nodesCount l = 0 := by cases l <;> simp [nodesCount]
theorem alist_ok (vars : Int) (n : Nat) : ∀ (l : List Node) (deep : Int), nodesCount l ≤ n → nodesCount l ≤ 2^40 → 0 ≤ deep → ∀ (n0 : Nat), n0 ≤ 16384 → ∀ (H : List Blk) (k t : Nat), H[k]? = some (.box t [I vars, I n0]) →
    ACalls Try.prog 70 [.bp k 0, Node.sl l, I deep] H (AListR vars deep l n0 H k t) := by
  induction n with
  | zero =>
    intro l deep hl hb hdp n0 hn0 H k t hk
    have : l = [] := List.eq_nil_of_length_eq_zero (by have := nodes_len l; omega)
    subst this
    refine acalls_of_vc (hn := fun _ => false) (od := fun _ => none) Try.func70 rfl (by kernel_rfl) ?_
    simp -dsimp
    refine loop_rule (hn := fun _ => false) (od := fun _ => none) (fun (i : Nat) f H' => H' = H ∧ f 16 = Node.sl [] ∧ f 17 = I 0 ∧ f 18 = I 0) (fun i => 0) (by kernel_rfl) 0 (by simp) ?_
    rintro i f H' ⟨rfl, h0, h7, h8⟩
    simp -dsimp [h0, h7, h8]
    exact ⟨true, n0, rfl, by simp [nodesOk], by omega, (set_same hk).symm, fun _ => ⟨by simp [nodesCount], hn0⟩⟩
  | succ n ih =>
    intro l deep hl hb hdp n0 hn0 H k t hk
    refine acalls_tidy (acalls_of_vc (hn := fun _ => false) (od := fun _ => none) Try.func70 rfl (by kernel_rfl) ?_)
    have hkl := lt_of_get hk
    have g1 := fun X L => m1_get hkl X L
    have g2 := fun X Y L => m1_set hkl X Y L
    have g3 := fun X L i => m1_getN (H := H) (k := k) X L i
    have g4 := fun X L => m1_getE (H := H) (k := k) X L
    have hlen := nodes_len l
    have leaf : ∀ (n1 : Nat) (L : List Blk) (c : Bool), n1 ≤ 16385 → c = (nodesOk vars deep l && (l.isEmpty || decide (n0 + nodesCount l ≤ 16384))) → (c = true → n1 = n0 + nodesCount l ∧ n1 ≤ 16384) → Tidy H (AListR vars deep l n0 H k t) (AE.ret (AV.v (Value.bool c))) (H.set k (.box t [I vars, I n1]) ++ L) := by
      intro n1 L c h1 hc h2
      exact tidy_to (by simp) (fun hu => by rw [List.length_set]; exact underH_set hu rfl) rfl ⟨c, n1, rfl, hc, h1, rfl, h2⟩
    have hH : Hid (H = H.set k (.box t [I vars, I n0]) ++ []) := ⟨by rw [List.append_nil]; exact (set_same hk).symm⟩
    have leafS : ∀ (n1 : Nat) (L : List Blk) (c : Bool), n1 + 1 ≤ 16385 → c = (nodesOk vars deep l && (l.isEmpty || decide (n0 + nodesCount l ≤ 16384))) → (c = true → n1 + 1 = n0 + nodesCount l ∧ n1 + 1 ≤ 16384) → Tidy H (AListR vars deep l n0 H k t) (AE.ret (AV.v (Value.bool c))) (H.set k (.box t [I vars, I ((n1 : Int) + 1)]) ++ L) := fun n1 L c h1 h2 h3 => leaf (n1 + 1) L c h1 h2 h3
    replace leaf := Hid.mk leaf
    replace leafS := Hid.mk leafS
    simp -dsimp
    refine guardVW_introTD (fun hpos => ?_) (fun hpos => ?_) <;> simp -dsimp [hpos]
    refine condVW_introD (fun hdeep => ?_) (fun hdeep => ?_) <;> simp -dsimp
    · conv => arg 4; rw [hH.out]
      refine leaf.out n0 [] _ (by omega) ?_ (by simp)
      cases l with
      | nil => simp at hpos
      | cons x l =>
        have : decide (deep ≤ 65) = false := by simp; omega
        simp [nodesOk, this]
    all_goals
      refine loop_rule (hn := fun _ => false) (od := fun _ => none) (fun (i : Nat) f H' => (∃ (ni : Nat) (L : List Blk), H' = H.set k (.box t [I vars, I ni]) ++ L ∧ ni + nodesCount (l.drop i) = n0 + nodesCount l ∧ ni ≤ 16384) ∧ f 0 = .bp k 0 ∧ f 16 = Node.sl l ∧ f 17 = I l.length ∧ f 2 = I deep ∧ f 18 = I i ∧ i ≤ l.length ∧ nodesOk vars deep (l.drop i) = nodesOk vars deep l) (fun i => l.length - i) (by kernel_rfl) 0 (by refine ⟨⟨n0, [], hH.out, by simp, hn0⟩, ?_⟩; simp) ?_
      rintro i f H' ⟨⟨ni, L, rfl, hni, hni2⟩, h0, h16, h17, h2, h18, hi, hok⟩
      simp -dsimp [h0, h16, h17, h2, h18]
      refine condVW_introD (fun hlt => ?_) (fun hlt => ?_)
      · have hp := node_parts hlt
        have hd := nodesOk_drop (vars := vars) (deep := deep) hlt
        have hcd := nodesCount_drop hlt
        have hcle := nodesCount_le l i
        rw [Node.count_eq] at hcd
        rw [Node.ok_eq, hok] at hd
        have hdp2 : decide (deep ≤ 65) = true := by simp; omega
        have hempty : l.isEmpty = false := by rw [isEmpty_len]; simp only [decide_eq_false_iff_not]; omega
        rw [hdp2, Bool.true_and] at hd
        simp only [isEmpty_len] at hd
        replace hd := Hid.mk hd
        replace hok := Hid.mk hok
        replace hempty := Hid.mk hempty
        have hw : IntKind.i64.wrap (deep + 1) = deep + 1 := wrapI (by omega) (by omega)
        have hwn : IntKind.i64.wrap ((ni : Int) + 1) = ((ni + 1 : Nat) : Int) := wrapS (by omega)
        have hwl : IntKind.i64.wrap (↑l[i].ahead.length + ↑l[i].body.length) = ↑l[i].ahead.length + ↑l[i].body.length := by
          have := nodes_len l[i].ahead; have := nodes_len l[i].body; exact wrapI (by omega) (by omega)
        have hwl2 : IntKind.i64.wrap (↑l[i].ahead.length + ↑l[i].body.length + ↑l[i].els.length) = ↑l[i].ahead.length + ↑l[i].body.length + ↑l[i].els.length := by
          have := nodes_len l[i].ahead; have := nodes_len l[i].body; have := nodes_len l[i].els; exact wrapI (by omega) (by omega)
        have hins := fun nn H h => asking_ins k t vars nn l[i].ins H h
        simp only [Ins.cells] at hins
        have ih1 : ni + 1 ≤ 16384 → ∀ H', H'[k]? = some (.box t [I vars, I ((ni : Int) + 1)]) → ACalls Try.prog 70 [.bp k 0, Node.sl l[i].ahead, I (deep + 1)] H' (AListR vars (deep + 1) l[i].ahead (ni + 1) H' k t) := fun hn H' h => ih l[i].ahead (deep + 1) (by omega) (by omega) (by omega) (ni + 1) hn H' k t h
        have ih2 : ∀ n1 : Nat, n1 ≤ 16384 → ∀ H', H'[k]? = some (.box t [I vars, I n1]) → ACalls Try.prog 70 [.bp k 0, Node.sl l[i].body, I (deep + 1)] H' (AListR vars (deep + 1) l[i].body n1 H' k t) := fun n1 hn H' h => ih l[i].body (deep + 1) (by omega) (by omega) (by omega) n1 hn H' k t h
        have ih3 : ∀ n1 : Nat, n1 ≤ 16384 → ∀ H', H'[k]? = some (.box t [I vars, I n1]) → ACalls Try.prog 70 [.bp k 0, Node.sl l[i].els, I (deep + 1)] H' (AListR vars (deep + 1) l[i].els n1 H' k t) := fun n1 hn H' h => ih l[i].els (deep + 1) (by omega) (by omega) (by omega) n1 hn H' k t h
        simp -dsimp [h0, h16, h17, h2, h18, List.getElem?_eq_getElem, hlt, zero_ins, g1, g2, g3, g4, hwn]
        repeat' ((with_reducible first | refine And.intro ?_ ?_ | refine guardVW_introTD (fun _ => ?_) (fun _ => ?_) | refine guardVW_introFD (fun _ => ?_) (fun _ => ?_) | refine condVW_introD (fun _ => ?_) (fun _ => ?_) | refine guardVW_introTE (fun _ => ?_) (fun _ _ _ => ?_) | refine guardVW_introFE (fun _ => ?_) (fun _ _ _ => ?_) | refine condVW_introE (fun _ => ?_) (fun _ _ _ => ?_) | refine guardVW_introTNE (fun _ _ _ => ?_) (fun _ => ?_) | refine guardVW_introFNE (fun _ _ _ => ?_) (fun _ => ?_) | refine condVW_introNE (fun _ _ _ => ?_) (fun _ => ?_) | refine guardVW_introTB (fun _ => ?_) (fun _ => ?_) | refine guardVW_introFB (fun _ => ?_) (fun _ => ?_) | refine condVW_introB (fun _ => ?_) (fun _ => ?_) | refine guardVW_introT (fun _ => ?_) (fun _ => ?_) | refine guardVW_introF (fun _ => ?_) (fun _ => ?_) | refine condVW_intro (fun _ => ?_) (fun _ => ?_) | refine acallsW_det (hins _ _ (g1 _ _)) ?_ | refine callDW_intro (hins _ _ (g1 _ _)) ?_ | refine acallsW_det (asking_is _ _ _ _ _ _ (g1 _ _)) ?_ | refine callDW_intro (asking_is _ _ _ _ _ _ (g1 _ _)) ?_ | (refine acallsW_of (ih1 (by omega) _ (g1 _ _)) (fun e H' hq => ?_); obtain ⟨b1, n1, rfl, hb1, hn1, rfl, he1⟩ := AListR.out hq; replace hb1 := Hid.mk hb1; replace he1 := Hid.mk he1) | (refine acallsW_of (ih2 n1 (he1.out ‹b1 = true›).2 _ (g1 _ _)) (fun e H' hq => ?_); obtain ⟨b2, n2, rfl, hb2, hn2, rfl, he2⟩ := AListR.out hq; replace hb2 := Hid.mk hb2; replace he2 := Hid.mk he2) | (refine acallsW_of (ih3 n2 (he2.out ‹b2 = true›).2 _ (g1 _ _)) (fun e H' hq => ?_); obtain ⟨b3, n3, rfl, hb3, hn3, rfl, he3⟩ := AListR.out hq; replace hb3 := Hid.mk hb3; replace he3 := Hid.mk he3)) <;> simp -dsimp [*, zero_ins])
        all_goals clear ih ih1 ih2 ih3 hins g1 g2 g3 g4 h0 h16 h17 h2 h18 hwl hwl2 hw
        all_goals have hca := count_empty l[i].ahead
        all_goals have hcb := count_empty l[i].body
        all_goals have hce := count_empty l[i].els
        all_goals first
          | (refine leafS.out ni _ _ (by omega) ?_ (by simp); clear leaf leafS; rw [hd.out, hempty.out]; first | (simp [*]; done) | (simp [*, isV, -List.length_eq_zero_iff]; done) | (simp [*, isV, -List.length_eq_zero_iff]; omega))
          | (refine leaf.out n1 _ _ hn1 ?_ (by simp); clear leaf leafS; rw [hempty.out]; have := hb1.out; rw [hd.out]; grind)
          | (refine leaf.out n2 _ _ hn2 ?_ (by simp); clear leaf leafS; rw [hempty.out]; have := hb1.out; have := hb2.out; have := he1.out; rw [hd.out]; grind)
          | (refine leaf.out n3 _ _ hn3 ?_ (by simp); clear leaf leafS; rw [hempty.out]; have := hb1.out; have := hb2.out; have := hb3.out; have := he1.out; have := he2.out; rw [hd.out]; grind)
          | (refine ⟨i + 1, by omega, ⟨n3, ⟨_, rfl⟩, ?_, ?_⟩, wrapS (by omega), by omega, ?_⟩ <;> clear leaf leafS <;> (have := hb1.out; have := hb2.out; have := hb3.out; have := he1.out; have := he2.out; have := he3.out; first | grind | (rw [hd.out]; grind)))
          | (refine ⟨i + 1, by omega, ⟨ni + 1, ⟨_, rfl⟩, ?_, by omega⟩, wrapS (by omega), by omega, ?_⟩ <;> clear leaf leafS <;> first | grind | (rw [hd.out]; grind))
          | trace_state
      · simp -dsimp [h0, h16, h17, h2, h18]
        rw [drop_end hlt] at hok hni
        have hok2 : nodesOk vars deep l = true := by rw [← hok]; rfl
        simp only [nodesCount] at hni
        refine leaf.out _ _ _ (by omega) ?_ (fun _ => by omega)
        rw [hok2]; simp; right; omega
end Go.Proofs
