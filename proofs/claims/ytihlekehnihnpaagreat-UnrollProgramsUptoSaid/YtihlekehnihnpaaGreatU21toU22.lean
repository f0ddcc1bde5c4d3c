/- The document's layer 11: an expression in which a word is a number. -/
import Derived.Test.YtihlekehnihnpaaGreatFwZtoU19
set_option linter.unusedVariables false
set_option linter.unusedSimpArgs false
set_option maxHeartbeats 4000000
set_option maxRecDepth 100000
namespace Go.Proofs
open Go.Mu
theorem rput_ok (nm : ByteArray) (n : Int) (m : Nat) : ∀ (e : Ex), e.count < m → e.count ≤ 2^36 → ∀ (H : List Blk),
    ACalls Tryz.prog 150 [St nm, U n, .agg e.cells] H (fun r H' => r = .ret (.agg (e.put nm n).cells) ∧ H' = H) := by
  induction m with
  | zero => intro e h; omega
  | succ m ih =>
    intro e hm hc H
    refine acalls_under fun hu _ => acalls_tidy (acalls_weakE (acalls_spare 1 (acalls_of_awp Tryz.func150 rfl (by kernel_rfl) ?_)))
    have hcc := Ex.count_eq e
    have hl := exs_len e.args
    obtain ⟨bz, hbz⟩ : ∃ bz, bz = Blk.box 53 [I 0, U 0, St ByteArray.empty, nilS] := ⟨_, rfl⟩
    obtain ⟨bE, hbE⟩ : ∃ bE, bE = Blk.box 53 [I e.op, U e.word, St e.name, Ex.sl e.args] := ⟨_, rfl⟩
    refine awp_cut (fun _ => false) (fun _ => none) (fun f H' => H' = H ++ [Blk.pend, bE, bz] ∧ f 0 = St nm ∧ f 1 = U n ∧ f 5 = .bp (H.length + 1) 0 ∧ f 6 = .bp (H.length + 2) 0) (by kernel_rfl) ?_ ?_
    · rw [hbz, hbE]
      simp -dsimp
    rintro g _ ⟨rfl, g0, g1, g5, g6⟩
    obtain ⟨V, hV⟩ : ∃ V, V = H ++ [Blk.pend, bE, bz] := ⟨_, rfl⟩
    have v1 : V[H.length + 1]? = some (.box 53 [I e.op, U e.word, St e.name, Ex.sl e.args]) := by rw [hV, ← hbE]; simp
    have v2 : V[H.length + 2]? = some (.box 53 [I 0, U 0, St ByteArray.empty, nilS]) := by rw [hV, ← hbz]; simp
    have vs : ∀ X, V.set (H.length + 2) X = H ++ [Blk.pend, bE, X] := fun X => by rw [hV]; simp
    rw [← hV]
    refine awp_cut (fun _ => false) (fun _ => none) (fun f H' => V = H' ∧ f 0 = St nm ∧ f 1 = U n ∧ f 5 = .bp (H.length + 1) 0 ∧ f 6 = .bp (H.length + 2) 0 ∧ ¬ (e.op = 2 ∧ e.name = nm)) (by kernel_rfl) ?_ ?_
    · by_cases ho : e.op = 2
      · by_cases hnm : e.name = nm
        · rw [Ex.put_eq, if_pos ⟨ho, hnm⟩]
          simp -dsimp [g0, g1, g5, g6, v1, v2, vs, ho, hnm]
          refine tidy_weak ?_ (tidy_same rfl ⟨rfl, rfl⟩)
          repeat first | exact Weak.refl _ | exact Weak.nil _ | exact WeakL.nil | exact WeakR.nil | apply Weak.aggL | apply Weak.vsR | apply WeakL.cons | apply WeakR.cons
        · simp -dsimp [g0, g1, g5, g6, v1, v2, ho, hnm]
      · have hb : (e.op == 2) = false := by simpa using ho
        simp -dsimp [g0, g1, g5, g6, v1, v2, ho, hb]
    clear g g0 g1 g5 g6
    rintro g _ ⟨rfl, g0, g1, g5, g6, hne⟩
    rw [Ex.put_eq, if_neg hne]
    have hVl : V.length = H.length + 3 := by rw [hV]; simp
    refine awp_cut (fun _ => false) (fun _ => none) (fun f H' => H' = V ++ [.box 53 [I e.op, U e.word, St e.name, nilS]] ∧ f 0 = St nm ∧ f 1 = U n ∧ f 5 = .bp (H.length + 1) 0 ∧ f 6 = .bp (H.length + 2) 0 ∧ f 7 = .bp V.length 0) (by kernel_rfl) ?_ ?_
    · simp -dsimp [g0, g1, g5, g6, v1]
    clear g g0 g1 g5 g6
    rw [hVl]
    obtain ⟨M, hM⟩ : ∃ M : List (List AV) → List Blk, M = fun out => H ++ [ownB 53 4 out, bE, bz, .box 53 [I e.op, U e.word, St e.name, ownS H.length out]] := ⟨_, rfl⟩
    have hMe : ∀ out, M out = H ++ [ownB 53 4 out, bE, bz, .box 53 [I e.op, U e.word, St e.name, ownS H.length out]] := fun out => by rw [hM]
    have hVM : V ++ [.box 53 [I e.op, U e.word, St e.name, nilS]] = M [] := by rw [hV, hMe]; simp [ownB, ownS]
    rw [hVM]
    have m0 : ∀ out, (M out)[H.length]? = some (ownB 53 4 out) := fun out => by rw [hMe]; simp
    have m1 : ∀ out, (M out)[H.length + 1]? = some (.box 53 [I e.op, U e.word, St e.name, Ex.sl e.args]) := fun out => by rw [hMe, ← hbE]; simp
    have m2 : ∀ out, (M out)[H.length + 2]? = some (.box 53 [I 0, U 0, St ByteArray.empty, nilS]) := fun out => by rw [hMe, ← hbz]; simp
    have m3 : ∀ out, (M out)[H.length + 3]? = some (.box 53 [I e.op, U e.word, St e.name, ownS H.length out]) := fun out => by rw [hMe]; simp
    have m3' : ∀ out X, ((M out).set H.length X)[H.length + 3]? = some (.box 53 [I e.op, U e.word, St e.name, ownS H.length out]) := fun out X => by rw [List.getElem?_set_ne (by omega)]; exact m3 _
    have ms : ∀ out out', ((M out).set H.length (ownB 53 4 out')).set (H.length + 3) (.box 53 [I e.op, U e.word, St e.name, ownS H.length out']) = M out' := fun out out' => by rw [hMe, hMe]; simp
    clear hM hV v1 v2 vs hVM hVl V
    rintro g _ ⟨rfl, g0, g1, g5, g6, g7⟩
    obtain ⟨ls, hls⟩ : ∃ ls, ls = (exsPut nm n e.args).map Ex.cells := ⟨_, rfl⟩
    have hlsl : ls.length = e.args.length := by rw [hls, exsPut_map]; simp
    refine awp_cutA (fun f H' => H' = M ls ∧ f 6 = .bp (H.length + 2) 0 ∧ f 7 = .bp (H.length + 3) 0) ?_ ?_
    · refine awp_all (fun d => d == 45) (fun _ => none) (by kernel_rfl) ?_
      simp -dsimp [g0, g1, g5, g6, g7]
      refine loop_rule (hn := fun d => d == 45) (od := fun _ => none) (fun (i : Nat) f H' => H' = M (ls.take i) ∧ f 0 = St nm ∧ f 1 = U n ∧ f 5 = .bp (H.length + 1) 0 ∧ f 6 = .bp (H.length + 2) 0 ∧ f 7 = .bp (H.length + 3) 0 ∧ f 8 = I i ∧ i ≤ e.args.length) (fun i => e.args.length - i) (by kernel_rfl) 0
        (by simp [g0, g1, g5, g6, g7]) ?_
      clear g g0 g1 g5 g6 g7
      rintro i g _ ⟨rfl, g0, g1, g5, g6, g7, g8, hi⟩
      obtain ⟨out, hout⟩ : ∃ out, out = ls.take i := ⟨_, rfl⟩
      have hol : out.length = i := by rw [hout]; simp; omega
      rw [← hout]
      simp -dsimp [g0, g1, g5, g6, g7, g8, m1]
      refine condVW_introD (fun hlt => ?_) (fun hlt => ?_)
      · have hlx : e.args[i]? = some e.args[i] := List.getElem?_eq_getElem hlt
        have hgx := exs_get hlt
        have hh : i < ls.length := by omega
        have htk : ls.take (i + 1) = out ++ [(e.args[i].put nm n).cells] := by
          have h2 : ls[i] = (e.args[i].put nm n).cells := by simp [hls, exsPut_map]
          rw [take_succV hh, h2, hout]
        obtain ⟨x, hx⟩ : ∃ x, x = e.args[i] := ⟨_, rfl⟩
        rw [← hx] at hlx hgx htk
        clear hx hout
        have cr := fun H => ih x (by omega) (by omega) H
        simp only [Ex.cells_eq] at cr htk
        simp -dsimp [g0, g1, g5, g6, g7, g8, m1, m3, hlx]
        refine callDW_intro (cr _) ?_
        simp -dsimp [g0, g1, g5, g6, g7, g8, m1, m3]
        refine appendVW_own (k := H.length) (es := out) (by rw [m0]) (by simp; omega) (by simp; omega) ?_
        simp -dsimp [g0, g1, g5, g6, g7, g8, m3', ms]
        exact ⟨i + 1, by omega, by rw [htk], wrapS (by omega), by omega⟩
      · have : out = ls := by rw [hout]; exact List.take_of_length_le (by omega)
        simp -dsimp [g6, g7]
        rw [this]
    clear g g0 g1 g5 g6 g7
    rintro g _ ⟨rfl, g6, g7⟩
    rw [hMe]
    refine awp_giveBox hu 0 4 53 ls rfl (by rw [hls]; exact exs_frzB _) 3 53 _ [I e.op, U e.word, St e.name, Ex.sl (exsPut nm n e.args)] rfl (by omega) (by
      simp only [List.map_cons, List.map_nil, frzS_v, Nat.add_zero, frzS_own]
      exact .cons (.refl _) (.cons (.refl _) (.cons (.refl _) (.cons (by rw [hls]; exact Weak.gvS _ _) .nil)))) ?_
    intro L' f' hf' hLl hL3 hLo
    have e2 := hLo 2 bz (by omega) (by omega) rfl (by rw [hbz]; rfl)
    have f6 : f' 6 = .bp (H.length + 2) 0 := by rw [hf', g6]; simp
    have f7 : f' 7 = .bp (H.length + 3) 0 := by rw [hf', g7]; simp
    clear hf' g6 g7
    have w2 : (H ++ L')[H.length + 2]? = some (.box 53 [I 0, U 0, St ByteArray.empty, nilS]) := by rw [get_app_next, e2, hbz]
    have w3 : (H ++ L')[H.length + 3]? = some (.box 53 [I e.op, U e.word, St e.name, Ex.sl (exsPut nm n e.args)]) := by rw [get_app_next, hL3]
    have ws : ∀ X, (H ++ L').set (H.length + 2) X = H ++ L'.set 2 X := fun X => set_app_next _ _ _ _
    have wg : ∀ X, (H ++ L'.set 2 X)[H.length + 2]? = some X := fun X => by rw [get_app_next, List.getElem?_set_self (lt_of_get e2)]
    refine awp_all (fun _ => false) (fun _ => none) (by kernel_rfl) ?_
    replace w2 := Hid.mk w2
    simp -dsimp [f6, f7, w2.out, w3, ws, wg]
    refine tidy_weak (.refl _) (tidy_same rfl ⟨?_, rfl⟩)
    rfl
end Go.Proofs
namespace Go.Proofs
open Go.Mu
theorem rputs_ok (nm : ByteArray) (n : Int) (m : Nat) : ∀ (l : List Sm), smsCount l < m → smsCount l ≤ 2^36 → ∀ (H : List Blk),
    ACalls Tryz.prog 112 [St nm, U n, Sm.sl l] H (fun r H' => r = .ret (Sm.sl (smsPut nm n l)) ∧ H' = H) := by
  induction m with
  | zero => intro e h; omega
  | succ m ih =>
    intro l hm hc H
    refine acalls_under fun hu _ => acalls_tidy (acalls_weakE (acalls_spare 1 (acalls_of_awp Tryz.func112 rfl (by kernel_rfl) ?_)))
    have hlen := sms_len l
    obtain ⟨M, hM⟩ : ∃ M : List (List AV) → List Blk → List Blk, M = fun out L => H ++ ownB 57 16 out :: L := ⟨_, rfl⟩
    have hMe : ∀ out L, M out L = H ++ ownB 57 16 out :: L := fun out L => by rw [hM]
    have hMa : ∀ out L R, M out L ++ R = M out (L ++ R) := fun out L R => by rw [hMe, hMe]; simp
    have hMl : ∀ out L, (M out L).length = H.length + 1 + L.length := fun out L => by rw [hMe]; simp; omega
    have m0 : ∀ out L, (M out L)[H.length]? = some (ownB 57 16 out) := fun out L => by rw [hMe]; simp
    have s0 : ∀ out L out', (M out L).set H.length (ownB 57 16 out') = M out' L := fun out L out' => by rw [hMe, hMe]; simp
    have mN : ∀ out L i, (M out L)[H.length + 1 + i]? = L[i]? := fun out L i => by
      rw [hMe, List.getElem?_append_right (by omega), show H.length + 1 + i - H.length = i + 1 from by omega]; rfl
    have sN : ∀ out L i X, (M out L).set (H.length + 1 + i) X = M out (L.set i X) := fun out L i X => by
      rw [hMe, hMe, List.set_append, if_neg (by omega), show H.length + 1 + i - H.length = i + 1 from by omega]; rfl
    have hMu : ∀ out L, M out L = H ++ ownB 57 16 out :: L := hMe
    obtain ⟨ls, hls⟩ : ∃ ls, ls = (smsPut nm n l).map Sm.cells := ⟨_, rfl⟩
    have hlsl : ls.length = l.length := by rw [hls, smsPut_map]; simp
    have fin : ∀ L, WeakE (Tidy H fun e H' => e = AE.ret (Sm.sl (smsPut nm n l)) ∧ H' = H) (.ret (ownS H.length ls)) (M ls L) := fun L => by
      rw [hls, hMe]; exact tidy_ownR hu 16 57 _ L (sms_frzB _) ⟨rfl, rfl⟩
    have hM0 : H ++ List.replicate 1 Blk.pend = M [] [] := by rw [hMe]; simp [ownB]
    rw [hM0]
    clear hM hM0
    refine awp_cut (fun _ => false) (fun _ => none) (fun f H' => H' = M [] [] ∧ f 0 = St nm ∧ f 1 = U n ∧ f 2 = Sm.sl l) (by kernel_rfl) ?_ ?_
    · simp -dsimp
    rintro g _ ⟨rfl, g0, g1, g2⟩
    refine awp_cut (fun _ => false) (fun _ => none) (fun f H' => H' = M [] [] ∧ f 0 = St nm ∧ f 1 = U n ∧ f 2 = Sm.sl l ∧ f 7 = nilS) (by kernel_rfl) ?_ ?_
    · simp -dsimp [g0, g1, g2]
    clear g g0 g1 g2
    rintro g _ ⟨rfl, g0, g1, g2, g7⟩
    refine awp_cutA (fun f H' => (∃ L, H' = M ls L) ∧ f 7 = ownS H.length ls) ?_ ?_
    rotate_left
    · clear g g0 g1 g2 g7
      rintro g _ ⟨⟨L, rfl⟩, g7⟩
      refine awp_all (fun _ => false) (fun _ => none) (by kernel_rfl) ?_
      simp -dsimp [g7]
      exact fin L
    refine awp_cut (fun _ => false) (fun _ => none) (fun f H' => H' = M [] [] ∧ f 0 = St nm ∧ f 1 = U n ∧ f 2 = Sm.sl l ∧ f 7 = nilS ∧ f 8 = I 0) (by kernel_rfl) ?_ ?_
    · simp -dsimp [g0, g1, g2, g7]
    clear g g0 g1 g2 g7
    rintro g _ ⟨rfl, g0, g1, g2, g7, g8⟩
    refine awp_block ?_
    refine awp_loopI (fun (i : Nat) f H' => (∃ L, H' = M (ls.take i) L) ∧ f 0 = St nm ∧ f 1 = U n ∧ f 2 = Sm.sl l ∧ f 7 = ownS H.length (ls.take i) ∧ f 8 = I i ∧ i ≤ l.length) (fun i => l.length - i) 0
      ⟨⟨[], by simp⟩, g0, g1, g2, by rw [g7]; exact (ownS_nil _).symm, g8, by omega⟩ ?_
    clear g g0 g1 g2 g7 g8
    rintro i g _ ⟨⟨L, rfl⟩, g0, g1, g2, g7, g8, hi⟩
    obtain ⟨out, hout⟩ : ∃ out, out = ls.take i := ⟨_, rfl⟩
    have hol : out.length = i := by rw [hout]; simp; omega
    rw [← hout] at g7 ⊢
    refine awp_cut (fun _ => false) (fun _ => none) (fun f H' => H' = M out L ∧ f 0 = St nm ∧ f 1 = U n ∧ f 2 = Sm.sl l ∧ f 7 = ownS H.length out ∧ f 8 = I i ∧ i < l.length) (by kernel_rfl) ?_ ?_
    · simp -dsimp [g0, g1, g2, g7, g8]
      refine condVW_introD (fun hlt => ?_) (fun hlt => ?_)
      · simp -dsimp [g0, g1, g2, g7, g8]
        omega
      · have : out = ls := by rw [hout]; exact List.take_of_length_le (by omega)
        rw [this]
        simp -dsimp [g7, this]
        exact ⟨L, rfl⟩
    clear g g0 g1 g2 g7 g8
    rintro g _ ⟨rfl, g0, g1, g2, g7, g8, hlt⟩
    have hlx : l[i]? = some l[i] := List.getElem?_eq_getElem hlt
    have hgx := sms_get hlt
    have hh : i < ls.length := by omega
    have htk : ls.take (i + 1) = out ++ [(l[i].put nm n).cells] := by
      have h2 : ls[i] = (l[i].put nm n).cells := by simp [hls, smsPut_map]
      rw [take_succV hh, h2, hout]
    have hfz : out.flatten.all AV.frzB = true := by rw [hout, hls, ← List.map_take]; exact sms_frzB _
    obtain ⟨x, hx⟩ : ∃ x, x = l[i] := ⟨_, rfl⟩
    rw [← hx] at hlx hgx htk
    clear hx hout
    have hcx := Sm.count_eq x
    have hxa := exs_len x.args
    refine awp_cutA (fun f H' => (∃ L, H' = M (ls.take (i + 1)) L) ∧ f 0 = St nm ∧ f 1 = U n ∧ f 2 = Sm.sl l ∧ f 7 = ownS H.length (ls.take (i + 1)) ∧ f 8 = I i) ?_ ?_
    rotate_left
    · clear g g0 g1 g2 g7 g8
      rintro g H' ⟨ho, g0, g1, g2, g7, g8⟩
      replace ho := Hid.mk ho
      refine awp_all (fun _ => false) (fun _ => none) (by kernel_rfl) ?_
      simp -dsimp [g0, g1, g2, g7, g8]
      exact ⟨i + 1, by omega, ho.out, rfl, wrapS (by omega), by omega⟩
    rw [htk]
    refine awp_block ?_
    obtain ⟨bX, hbX⟩ : ∃ bX, bX = Blk.box 57 x.cells := ⟨_, rfl⟩
    simp only [Sm.cells_eq] at hbX
    refine awp_cut (fun _ => false) (fun _ => none) (fun f H' => H' = M out L ++ [bX] ∧ f 0 = St nm ∧ f 1 = U n ∧ f 2 = Sm.sl l ∧ f 7 = ownS H.length out ∧ f 8 = I i ∧ f 9 = .bp (M out L).length 0) (by kernel_rfl) ?_ ?_
    · simp -dsimp [g0, g1, g2, g7, g8, hlx, hbX]
    clear g g0 g1 g2 g7 g8
    obtain ⟨k1, hk1⟩ : ∃ k1, k1 = H.length + 1 + L.length := ⟨_, rfl⟩
    rw [hMl, ← hk1, hMa]
    rintro g _ ⟨rfl, g0, g1, g2, g7, g8, g9⟩
    refine awp_spare 1 ?_
    rw [hMa]
    have cE := fun H => rput_ok nm n _ x.e (Nat.lt_succ_self _) (by omega) H
    have cA := fun H => rput_ok nm n _ x.a (Nat.lt_succ_self _) (by omega) H
    simp only [Ex.cells_eq] at cE cA
    have gX : ∀ out R, (M out (L ++ bX :: R))[k1]? = some (.box 57 [I x.kind, St x.name, St.sl x.names, I x.e.op, U x.e.word, St x.e.name, Ex.sl x.e.args, I x.a.op, U x.a.word, St x.a.name, Ex.sl x.a.args, Ex.sl x.args, U x.low, U x.high, Sm.sl x.body, Sm.sl x.els]) := fun out R => by rw [hk1, mN, ← hbX]; simp
    obtain ⟨V, hV⟩ : ∃ V, V = M out (L ++ [bX] ++ List.replicate 1 Blk.pend) := ⟨_, rfl⟩
    have hVx := gX out (List.replicate 1 Blk.pend)
    rw [show L ++ bX :: List.replicate 1 Blk.pend = L ++ [bX] ++ List.replicate 1 Blk.pend from by simp, ← hV] at hVx
    have hVl : V.length = k1 + 2 := by rw [hV, hMl, hk1]; simp; omega
    have hVxL := fun R => get_app_old hVx R
    rw [← hV]
    obtain ⟨bO, hbO⟩ : ∃ bO, bO = Blk.box 57 [I x.kind, St x.name, St.sl x.names, I (x.e.put nm n).op, U (x.e.put nm n).word, St (x.e.put nm n).name, Ex.sl (x.e.put nm n).args, I (x.a.put nm n).op, U (x.a.put nm n).word, St (x.a.put nm n).name, Ex.sl (x.a.put nm n).args, nilS, U x.low, U x.high, nilS, nilS] := ⟨_, rfl⟩
    refine awp_cut (fun _ => false) (fun i => if i = 6 then some [(0, []), (1, []), (2, []), (3, []), (4, []), (5, []), (6, []), (7, []), (8, []), (9, []), (10, []), (11, []), (12, []), (13, []), (14, []), (15, []), (16, []), (17, []), (18, []), (19, []), (20, []), (21, []), (22, [0, 1, 2, 3, 4, 5, 6, 7, 8, 9, 10, 13, 14, 15, 18, 19, 20]), (23, [])] else none) (fun f H' => H' = V ++ [bO] ∧ f 0 = St nm ∧ f 1 = U n ∧ f 2 = Sm.sl l ∧ f 7 = ownS H.length out ∧ f 8 = I i ∧ f 9 = .bp k1 0 ∧ f 10 = .bp V.length 0) (by kernel_rfl) ?_ ?_
    · simp -dsimp [g0, g1, g2, g7, g8, g9, hVx, hVxL]
      refine And.intro ⟨by omega, by omega⟩ ?_
      simp -dsimp [g0, g1, g2, g7, g8, g9, hVx, hVxL]
      refine callDW_intro (cE _) ?_
      simp -dsimp [g0, g1, g2, g7, g8, g9, hVx, hVxL]
      refine callDW_intro (cA _) ?_
      simp -dsimp [g0, g1, g2, g7, g8, g9, hVx, hVxL]
      repeat' ((first | refine And.intro ⟨by omega, by omega⟩ ?_ | refine And.intro ?_ ?_ | refine callDW_intro (cE _) ?_ | refine callDW_intro (cA _) ?_) <;> try simp -dsimp [g0, g1, g2, g7, g8, g9, hVx, hVxL])
      all_goals first | omega | exact hbO.symm
    clear g g0 g1 g2 g7 g8 g9
    rintro g _ ⟨rfl, g0, g1, g2, g7, g8, g9, g10⟩
    obtain ⟨kb, hkb⟩ : ∃ kb, kb = k1 + 1 := ⟨_, rfl⟩
    obtain ⟨ko, hko⟩ : ∃ ko, ko = k1 + 2 := ⟨_, rfl⟩
    obtain ⟨oB, hoB⟩ : ∃ oB : AV → AV → AV → Blk, oB = fun a b c => .box 57 [I x.kind, St x.name, St.sl x.names, I (x.e.put nm n).op, U (x.e.put nm n).word, St (x.e.put nm n).name, Ex.sl (x.e.put nm n).args, I (x.a.put nm n).op, U (x.a.put nm n).word, St (x.a.put nm n).name, Ex.sl (x.a.put nm n).args, a, U x.low, U x.high, b, c] := ⟨_, rfl⟩
    have hoBe : ∀ a b c, oB a b c = .box 57 [I x.kind, St x.name, St.sl x.names, I (x.e.put nm n).op, U (x.e.put nm n).word, St (x.e.put nm n).name, Ex.sl (x.e.put nm n).args, I (x.a.put nm n).op, U (x.a.put nm n).word, St (x.a.put nm n).name, Ex.sl (x.a.put nm n).args, a, U x.low, U x.high, b, c] := fun a b c => by rw [hoB]
    obtain ⟨N, hN⟩ : ∃ N : List (List AV) → List Blk, N = fun ar => M out (L ++ [bX, ownB 53 4 ar, oB (ownS kb ar) nilS nilS]) := ⟨_, rfl⟩
    have hNe : ∀ ar, N ar = M out (L ++ [bX, ownB 53 4 ar, oB (ownS kb ar) nilS nilS]) := fun ar => by rw [hN]
    have hVN : V ++ [bO] = N [] := by rw [hNe, hV, hMa, hbO, hoBe]; simp [ownB, ownS]
    have n1 : ∀ ar, (N ar)[k1]? = some (.box 57 [I x.kind, St x.name, St.sl x.names, I x.e.op, U x.e.word, St x.e.name, Ex.sl x.e.args, I x.a.op, U x.a.word, St x.a.name, Ex.sl x.a.args, Ex.sl x.args, U x.low, U x.high, Sm.sl x.body, Sm.sl x.els]) := fun ar => by rw [hNe]; exact gX _ _
    have n2 : ∀ ar, (N ar)[kb]? = some (ownB 53 4 ar) := fun ar => by rw [hNe, hkb, hk1, show H.length + 1 + L.length + 1 = H.length + 1 + (L.length + 1) from by omega, mN]; simp
    have n3 : ∀ ar, (N ar)[ko]? = some (.box 57 [I x.kind, St x.name, St.sl x.names, I (x.e.put nm n).op, U (x.e.put nm n).word, St (x.e.put nm n).name, Ex.sl (x.e.put nm n).args, I (x.a.put nm n).op, U (x.a.put nm n).word, St (x.a.put nm n).name, Ex.sl (x.a.put nm n).args, ownS kb ar, U x.low, U x.high, nilS, nilS]) := fun ar => by rw [hNe, hko, hk1, show H.length + 1 + L.length + 2 = H.length + 1 + (L.length + 2) from by omega, mN, ← hoBe]; simp
    have n3' : ∀ ar X, ((N ar).set kb X)[ko]? = some (.box 57 [I x.kind, St x.name, St.sl x.names, I (x.e.put nm n).op, U (x.e.put nm n).word, St (x.e.put nm n).name, Ex.sl (x.e.put nm n).args, I (x.a.put nm n).op, U (x.a.put nm n).word, St (x.a.put nm n).name, Ex.sl (x.a.put nm n).args, ownS kb ar, U x.low, U x.high, nilS, nilS]) := fun ar X => by rw [List.getElem?_set_ne (by omega)]; exact n3 _
    have ns : ∀ ar ar', ((N ar).set kb (ownB 53 4 ar')).set ko (.box 57 [I x.kind, St x.name, St.sl x.names, I (x.e.put nm n).op, U (x.e.put nm n).word, St (x.e.put nm n).name, Ex.sl (x.e.put nm n).args, I (x.a.put nm n).op, U (x.a.put nm n).word, St (x.a.put nm n).name, Ex.sl (x.a.put nm n).args, ownS kb ar', U x.low, U x.high, nilS, nilS]) = N ar' := fun ar ar' => by
      rw [hNe, hNe, ← hoBe, hkb, hko, hk1, show H.length + 1 + L.length + 1 = H.length + 1 + (L.length + 1) from by omega, show H.length + 1 + L.length + 2 = H.length + 1 + (L.length + 2) from by omega, sN, sN]; simp
    rw [hVN]
    rw [hVl, ← hko] at g10
    clear hVN hVx hVxL hbO hV hVl hN bO V
    obtain ⟨la, hla⟩ : ∃ la, la = (exsPut nm n x.args).map Ex.cells := ⟨_, rfl⟩
    have hlal : la.length = x.args.length := by rw [hla, exsPut_map]; simp
    refine awp_cutA (fun f H' => H' = N la ∧ f 0 = St nm ∧ f 1 = U n ∧ f 2 = Sm.sl l ∧ f 7 = ownS H.length out ∧ f 8 = I i ∧ f 9 = .bp k1 0 ∧ f 10 = .bp ko 0) ?_ ?_
    · refine awp_all (fun d => d == 62) (fun _ => none) (by kernel_rfl) ?_
      simp -dsimp [g0, g1, g2, g7, g8, g9, g10]
      refine loop_rule (hn := fun d => d == 62) (od := fun _ => none) (fun (j : Nat) f H' => H' = N (la.take j) ∧ f 0 = St nm ∧ f 1 = U n ∧ f 2 = Sm.sl l ∧ f 7 = ownS H.length out ∧ f 8 = I i ∧ f 9 = .bp k1 0 ∧ f 10 = .bp ko 0 ∧ f 11 = I j ∧ j ≤ x.args.length) (fun j => x.args.length - j) (by kernel_rfl) 0
        (by simp [g0, g1, g2, g7, g8, g9, g10]) ?_
      clear g g0 g1 g2 g7 g8 g9 g10
      rintro j g _ ⟨rfl, g0, g1, g2, g7, g8, g9, g10, g11, hj⟩
      obtain ⟨ar, has⟩ : ∃ ar, ar = la.take j := ⟨_, rfl⟩
      have hal : ar.length = j := by rw [has]; simp; omega
      rw [← has]
      simp -dsimp [g0, g1, g2, g7, g8, g9, g10, g11, n1]
      refine condVW_introD (fun hlt2 => ?_) (fun hlt2 => ?_)
      · have hly : x.args[j]? = some x.args[j] := List.getElem?_eq_getElem hlt2
        have hgy := exs_get hlt2
        have hh2 : j < la.length := by omega
        have htk2 : la.take (j + 1) = ar ++ [(x.args[j].put nm n).cells] := by
          have h2 : la[j] = (x.args[j].put nm n).cells := by simp [hla, exsPut_map]
          rw [take_succV hh2, h2, has]
        obtain ⟨y, hy⟩ : ∃ y, y = x.args[j] := ⟨_, rfl⟩
        rw [← hy] at hly hgy htk2
        clear hy has
        have cr := fun H => rput_ok nm n _ y (Nat.lt_succ_self _) (by omega) H
        simp only [Ex.cells_eq] at cr htk2
        simp -dsimp [g0, g1, g2, g7, g8, g9, g10, g11, n1, n3, hly]
        refine callDW_intro (cr _) ?_
        simp -dsimp [g0, g1, g2, g7, g8, g9, g10, g11, n1, n3]
        refine appendVW_own (k := kb) (es := ar) (by rw [n2]) (by simp; omega) (by simp; omega) ?_
        simp -dsimp [g0, g1, g2, g7, g8, g9, g10, g11, n3', ns]
        exact ⟨j + 1, by omega, by rw [htk2], wrapS (by omega), by omega⟩
      · have : ar = la := by rw [has]; exact List.take_of_length_le (by omega)
        simp -dsimp [g0, g1, g2, g7, g8, g9, g10]
        rw [this]
    clear g g0 g1 g2 g7 g8 g9 g10
    rintro g _ ⟨rfl, g0, g1, g2, g7, g8, g9, g10⟩
    rw [hNe, hMe]
    have hkb2 : kb = H.length + (1 + L.length + 1) := by omega
    refine awp_giveBox hu (1 + L.length + 1) 4 53 la (by rw [show 1 + L.length + 1 = L.length + 1 + 1 from by omega]; simp) (by rw [hla]; exact exs_frzB _) (1 + L.length + 2) 57 _ [I x.kind, St x.name, St.sl x.names, I (x.e.put nm n).op, U (x.e.put nm n).word, St (x.e.put nm n).name, Ex.sl (x.e.put nm n).args, I (x.a.put nm n).op, U (x.a.put nm n).word, St (x.a.put nm n).name, Ex.sl (x.a.put nm n).args, Ex.sl (exsPut nm n x.args), U x.low, U x.high, nilS, nilS] (by rw [show 1 + L.length + 2 = L.length + 2 + 1 from by omega, hoBe]; simp; rfl) (by omega) (by
      rw [← hkb2]
      simp only [List.map_cons, List.map_nil, frzS_v, frzS_vs, frzS_own]
      refine .cons (.refl _) (.cons (.refl _) (.cons (.refl _) (.cons (.refl _) (.cons (.refl _) (.cons (.refl _) (.cons (.refl _) (.cons (.refl _) (.cons (.refl _) (.cons (.refl _) (.cons (.refl _) (.cons ?_ (.refl _))))))))))))
      rw [hla]; exact Weak.gvS _ _) ?_
    intro L' f' hf' hLl hLb hLo
    rw [← hkb2] at hf'
    obtain ⟨L1, rfl⟩ : ∃ L1, L' = ownB 57 16 out :: L1 := by
      have e0 := hLo 0 (ownB 57 16 out) (by omega) (by omega) rfl (under_ownB_plain hfz)
      match L', e0 with
      | a :: L1, e0 =>
        simp only [List.getElem?_cons_zero, Option.some.injEq] at e0
        subst e0
        exact ⟨L1, rfl⟩
    have hx1 : L1[L.length]? = some bX := by
      have := hLo (L.length + 1) bX (by omega) (by omega) (by simp) (by rw [hbX]; rfl)
      simpa using this
    have hx3 : L1[L.length + 2]? = some (.box 57 [I x.kind, St x.name, St.sl x.names, I (x.e.put nm n).op, U (x.e.put nm n).word, St (x.e.put nm n).name, Ex.sl (x.e.put nm n).args, I (x.a.put nm n).op, U (x.a.put nm n).word, St (x.a.put nm n).name, Ex.sl (x.a.put nm n).args, Ex.sl (exsPut nm n x.args), U x.low, U x.high, nilS, nilS]) := by
      rw [show 1 + L.length + 2 = L.length + 2 + 1 from by omega] at hLb
      simpa using hLb
    have f0 : f' 0 = St nm := by rw [hf', g0]; simp
    have f1 : f' 1 = U n := by rw [hf', g1]; simp
    have f2 : f' 2 = Sm.sl l := by rw [hf', g2]; simp
    have f7 : f' 7 = ownS H.length out := by rw [hf', g7]; exact frzS_ne (by omega)
    have f8 : f' 8 = I i := by rw [hf', g8]; simp
    have f9 : f' 9 = .bp k1 0 := by rw [hf', g9]; simp
    have f10 : f' 10 = .bp ko 0 := by rw [hf', g10]; simp
    rw [← hMe]
    clear hf' g0 g1 g2 g7 g8 g9 g10 hLl hLb hLo n1 n2 n3 n3' ns hNe N
    obtain ⟨W, hW⟩ : ∃ W : Blk → List Blk, W = fun Y => M out (L1.set (L.length + 2) Y) := ⟨_, rfl⟩
    have hWe : ∀ Y, W Y = M out (L1.set (L.length + 2) Y) := fun Y => by rw [hW]
    have hlt3 := lt_of_get hx3
    have w0 : M out L1 = W (oB (Ex.sl (exsPut nm n x.args)) nilS nilS) := by rw [hWe, hoBe, set_same hx3]
    have w1 : ∀ Y, (W Y)[k1]? = some (.box 57 [I x.kind, St x.name, St.sl x.names, I x.e.op, U x.e.word, St x.e.name, Ex.sl x.e.args, I x.a.op, U x.a.word, St x.a.name, Ex.sl x.a.args, Ex.sl x.args, U x.low, U x.high, Sm.sl x.body, Sm.sl x.els]) := fun Y => by rw [hWe, hk1, mN, List.getElem?_set_ne (by omega), hx1, hbX]
    have w2 : ∀ Y, (W Y)[ko]? = some Y := fun Y => by rw [hWe, hko, hk1, show H.length + 1 + L.length + 2 = H.length + 1 + (L.length + 2) from by omega, mN, List.getElem?_set_self hlt3]
    have ws : ∀ Y Z, (W Y).set ko Z = W Z := fun Y Z => by rw [hWe, hWe, hko, hk1, show H.length + 1 + L.length + 2 = H.length + 1 + (L.length + 2) from by omega, sN, List.set_set]
    have w0g : ∀ Y, (W Y)[H.length]? = some (ownB 57 16 out) := fun Y => by rw [hWe]; exact m0 _ _
    have w0s : ∀ Y out', ∃ L2, (W Y).set H.length (ownB 57 16 out') = M out' L2 := fun Y out' => ⟨_, by rw [hWe, s0]⟩
    rw [w0]
    clear w0 hW
    have cB := fun H => ih x.body (by omega) (by omega) H
    have cC := fun H => ih x.els (by omega) (by omega) H
    have w2o : ∀ a b c, (W (oB a b c))[ko]? = some (.box 57 [I x.kind, St x.name, St.sl x.names, I (x.e.put nm n).op, U (x.e.put nm n).word, St (x.e.put nm n).name, Ex.sl (x.e.put nm n).args, I (x.a.put nm n).op, U (x.a.put nm n).word, St (x.a.put nm n).name, Ex.sl (x.a.put nm n).args, a, U x.low, U x.high, b, c]) := fun a b c => by rw [w2, hoBe]
    have wso : ∀ Y a b c, (W Y).set ko (.box 57 [I x.kind, St x.name, St.sl x.names, I (x.e.put nm n).op, U (x.e.put nm n).word, St (x.e.put nm n).name, Ex.sl (x.e.put nm n).args, I (x.a.put nm n).op, U (x.a.put nm n).word, St (x.a.put nm n).name, Ex.sl (x.a.put nm n).args, a, U x.low, U x.high, b, c]) = W (oB a b c) := fun Y a b c => by rw [ws, hoBe]
    refine awp_cut (fun _ => false) (fun _ => none) (fun f H' => H' = W (oB (Ex.sl (exsPut nm n x.args)) (Sm.sl (smsPut nm n x.body)) (Sm.sl (smsPut nm n x.els))) ∧ f 0 = St nm ∧ f 1 = U n ∧ f 2 = Sm.sl l ∧ f 7 = ownS H.length out ∧ f 8 = I i ∧ f 9 = .bp k1 0 ∧ f 10 = .bp ko 0) (by kernel_rfl) ?_ ?_
    · simp -dsimp [f0, f1, f2, f7, f8, f9, f10, w1, w2o, wso]
      refine callDW_intro (cB _) ?_
      simp -dsimp [f0, f1, f2, f7, f8, f9, f10, w1, w2o, wso]
      refine callDW_intro (cC _) ?_
      simp -dsimp [f0, f1, f2, f7, f8, f9, f10, w1, w2o, wso]
    clear f0 f1 f2 f7 f8 f9 f10 f'
    rintro g _ ⟨rfl, g0, g1, g2, g7, g8, g9, g10⟩
    obtain ⟨z, hz⟩ : ∃ z, z = x.put nm n := ⟨_, rfl⟩
    rw [← hz]
    refine awp_cut (fun _ => false) (fun _ => none) (fun f H' => H' = W (.box 57 z.cells) ∧ f 0 = St nm ∧ f 1 = U n ∧ f 2 = Sm.sl l ∧ f 7 = ownS H.length out ∧ f 8 = I i ∧ f 10 = .bp ko 0) (by kernel_rfl) ?_ ?_
    · have hO : ¬ (x.kind = 5 ∧ x.name = nm) → oB (Ex.sl (exsPut nm n x.args)) (Sm.sl (smsPut nm n x.body)) (Sm.sl (smsPut nm n x.els)) = .box 57 z.cells := fun h => by
        rw [hz, Sm.put_eq, if_neg h, hoBe]
        simp [Sm.kind, Sm.name, Sm.names, Sm.e, Sm.a, Sm.args, Sm.low, Sm.high, Sm.body, Sm.els]
      by_cases hk : x.kind = 5
      · by_cases hn : x.name = nm
        · have hzx : z = x := by rw [hz, Sm.put_eq, if_pos ⟨hk, hn⟩]
          rw [hzx]
          have hk' := Hid.mk hk
          have hn' := Hid.mk hn
          simp -dsimp [g0, g1, g2, g7, g8, g9, g10, w1, w2o, ws, hk, hn]
        · simp -dsimp [g0, g1, g2, g7, g8, g9, g10, w1, hk, hn]
          rw [hO (fun h => hn h.2), Sm.cells_eq]
      · have hb : (x.kind == 5) = false := by simpa using hk
        simp -dsimp [g0, g1, g2, g7, g8, g9, g10, w1, hb]
        rw [hO (fun h => hk h.1), Sm.cells_eq]
    clear g g0 g1 g2 g7 g8 g9 g10
    rintro g _ ⟨rfl, g0, g1, g2, g7, g8, g10⟩
    have w2z := w2 (.box 57 z.cells)
    simp only [Sm.cells_eq] at w2z ⊢
    refine awp_all (fun d => d == 89) (fun _ => none) (by kernel_rfl) ?_
    simp -dsimp [g0, g1, g2, g7, g8, g10, w2z]
    refine appendVW_own (k := H.length) (es := out) (by rw [w0g]) (by simp; omega) (by simp; omega) ?_
    simp -dsimp [g0, g1, g2, g7, g8, g10]
    exact w0s _ _
end Go.Proofs
