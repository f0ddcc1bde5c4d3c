/- What is asked of statements, walked. -/
import Derived.Test.YtihlekehnihnpaaGreatG4toG20
import Derived.Test.YtihlekehnihnpaaGreatFwUtoU1
import Derived.Test.YtihlekehnihnpaaGreatGDtoU2
set_option linter.unusedVariables false
set_option linter.unusedSimpArgs false
set_option maxHeartbeats 4000000
set_option maxRecDepth 100000
namespace Go.Proofs
open Go.Mu
section
variable {p : Pg} {kv ka a r k : Nat} {all : List ByteArray} {tv : List (ByteArray × Vr)} {ta : List (ByteArray × Bool)} {F : Fc}
theorem stmts_ok (hp : p.Ok) (hall : all.length ≤ 2^40) (hk : k < p.funcs.length) (hF : F = p.funcs[k]) (m : Nat) : ∀ (l : List Sm) (deep : Nat) (es : List ByteArray) (n : Nat), smsCount l < m → smsCount l ≤ 2^36 → deep ≤ 65 → n ≤ es.length → es.length + smsCount l ≤ 2^38 → ∀ (H : List Blk),
    AskIn H a p k kv ka (keepV r es n) all tv ta → H[r]? = some (keepB es) → ACalls Tryz.prog 111 [.bp a 0, Sm.sl l, I deep] H (StR (smsChk p k F tv ta all deep (es.take n) l) n es (smsCount l) (stG p k kv ka a r all H)) := by
  induction m with
  | zero => intro l deep es n h; omega
  | succ m ih =>
    intro l deep es n hm hc36 hd hn hel H hA hr
    refine acalls_under fun hu _ => acalls_tidy (acalls_of_awp Tryz.func111 rfl (by kernel_rfl) ?_)
    obtain ⟨E, hE⟩ : ∃ E, E = smsChk p k F tv ta all deep (es.take n) l := ⟨_, rfl⟩
    rw [← hE]
    obtain ⟨G, hG⟩ : ∃ G, G = stG p k kv ka a r all H := ⟨_, rfl⟩
    have hGl : ∀ es' n', (G es' n').length = H.length := fun _ _ => by rw [hG, stG, set2_length]
    have hGu : ∀ es' n', underH H.length (G es' n') = true := fun es' n' => by rw [hG]; exact stG_under hA hr es' n' hu
    have hG0 : G es n = H := by rw [hG]; exact set2_same hA.box hr
    have hGA : ∀ es' n' L, AskIn (G es' n' ++ L) a p k kv ka (keepV r es' n') all tv ta := fun es' n' L => by rw [hG]; exact stG_in hA hr es' n' L
    have hGr : ∀ es' n' L, (G es' n' ++ L)[r]? = some (keepB es') := fun es' n' L => by rw [hG]; exact m2_getB (lt_of_get hr) _ _ _
    obtain ⟨nar, -⟩ := ask_ne hA hr
    have hpl := hp.params _ (List.getElem_mem hk)
    have hrl := hp.rets _ (List.getElem_mem hk)
    rw [← hF] at hpl hrl
    have hGs : ∀ es' n' L, stG p k kv ka a r all (G es' n' ++ L) = fun es2 n2 => G es2 n2 ++ L := fun es' n' L => by
      funext es2 n2
      rw [hG, stG, stG]
      exact m2_set2 (lt_of_get hA.box) (lt_of_get hr) nar _ _ _ _ _
    have hGset : ∀ es' n' es2 n2 L, ((G es' n' ++ L).set r (keepB es2)).set a (askBox p k kv ka (keepV r es2 n2) all) = G es2 n2 ++ L := fun es' n' es2 n2 L => by
      rw [List.set_comm _ _ (Ne.symm nar)]
      exact congrFun (congrFun (hGs es' n' L) es2) n2
    have hGset2 : ∀ es' n' n2 L, (G es' n' ++ L).set a (askBox p k kv ka (keepV r es' n2) all) = G es' n2 ++ L := fun es' n' n2 L => by
      rw [← hGset es' n' es' n2 L, set_same (hGr es' n' L)]
    rw [← hG]
    have endP : ∀ e es' n' L, e = E → e ≠ 0 → Tidy H (StR E n es (smsCount l) G) (.pan (refS e)) (G es' n' ++ L) := fun e es' n' L he h0 => by
      subst he
      exact tidy_toP (by rw [hGl]; exact Nat.le_refl _) (fun _ => by rw [hGl]; exact hGu _ _) rfl ⟨fun h => absurd h h0, fun _ => ⟨rfl, es', n', rfl⟩⟩
    have end0 : ∀ c M, StM E n es (es.length + smsCount l) G c 0 M → c = 0 → Tidy H (StR E n es (smsCount l) G) (.ret (.tup [])) M := fun c M h he => by
      obtain ⟨rfl, es', L, rfl, h1, h2, h3⟩ := h
      exact tidy_to (by rw [hGl]; exact Nat.le_refl _) (fun _ => by rw [hGl]; exact hGu _ _) rfl ⟨fun _ => ⟨rfl, es', rfl, h1, h2, by omega⟩, fun h => absurd he h⟩
    have hlen := sms_len l
    refine awp_cut (fun _ => false) (fun _ => none) (fun f H' => H = H' ∧ f 0 = .bp a 0 ∧ f 2 = I deep ∧ f 9 = Sm.sl l ∧ f 10 = I l.length ∧ f 11 = I 0) (by kernel_rfl) ?_ ?_
    · simp -dsimp
    rintro g _ ⟨rfl, g0, g2, g9, g10, g11⟩
    refine awp_block ?_
    refine awp_loopI (fun (i : Nat) g H' => StM E n es (es.length + smsCount l) G (smsChk p k F tv ta all deep (es.take n) (l.drop i)) (smsCount (l.drop i)) H' ∧ g 0 = .bp a 0 ∧ g 2 = I deep ∧ g 9 = Sm.sl l ∧ g 10 = I l.length ∧ g 11 = I i ∧ i ≤ l.length) (fun i => l.length - i) 0
      ⟨⟨hE.symm, es, [], by rw [hG0, List.append_nil], hn, rfl, by simp⟩, g0, g2, g9, g10, g11, by omega⟩ ?_
    clear g g0 g2 g9 g10 g11
    rintro i g M ⟨hM, g0, g2, g9, g10, g11, hi⟩
    refine awp_cut (fun _ => false) (fun _ => none) (fun f H' => M = H' ∧ f 0 = .bp a 0 ∧ f 2 = I deep ∧ f 9 = Sm.sl l ∧ f 10 = I l.length ∧ f 11 = I i ∧ f 12 = Bo (decide ((i : Int) < l.length))) (by kernel_rfl) ?_ ?_
    · simp -dsimp [g0, g2, g9, g10, g11]
    clear g g0 g2 g9 g10 g11
    rintro g _ ⟨rfl, g0, g2, g9, g10, g11, g12⟩
    refine awp_cut (fun _ => false) (fun _ => none) (fun f H' => M = H' ∧ f 0 = .bp a 0 ∧ f 2 = I deep ∧ f 9 = Sm.sl l ∧ f 10 = I l.length ∧ f 11 = I i ∧ i < l.length) (by kernel_rfl) ?_ ?_
    · simp -dsimp [g12]
      refine condVW_introD (fun hlt => ?_) (fun hlt => ?_)
      · simp -dsimp [g0, g2, g9, g10, g11]
        omega
      · simp -dsimp
        rw [drop_end (by omega)] at hM
        exact end0 _ _ hM rfl
    clear g g0 g2 g9 g10 g11 g12
    rintro g _ ⟨rfl, g0, g2, g9, g10, g11, hlt⟩
    rw [drop_cons hlt] at hM
    simp only [smsChk, smsCount] at hM
    have hsc := Sm.count_eq l[i]
    have hsg := sms_get hlt
    obtain ⟨s, hs⟩ : ∃ s, s = l[i] := ⟨_, rfl⟩
    rw [← hs] at hM hsc hsg
    obtain ⟨hinv, es', L, rfl, hn', htk, hlen'⟩ := hM
    have hcl := smsCount_le l (i + 1)
    refine awp_cutA (fun f H' => StM E n es (es.length + smsCount l) G (smsChk p k F tv ta all deep (es.take n) (l.drop (i + 1))) (smsCount (l.drop (i + 1))) H' ∧ f 0 = .bp a 0 ∧ f 2 = I deep ∧ f 9 = Sm.sl l ∧ f 10 = I l.length ∧ f 11 = I i) ?_ ?_
    rotate_left
    · clear g g0 g2 g9 g10 g11
      rintro g M ⟨hM, g0, g2, g9, g10, g11⟩
      refine awp_all (fun _ => false) (fun _ => none) (by kernel_rfl) ?_
      simp -dsimp [g0, g2, g9, g10, g11]
      exact ⟨i + 1, by omega, hM, wrapS (by omega), by omega⟩
    refine awp_block ?_
    -- the statement stands in a box
    obtain ⟨V, hV⟩ : ∃ V : List ByteArray → Nat → List Blk, V = fun es2 n2 => G es2 n2 ++ (L ++ [.box 57 s.cells]) := ⟨_, rfl⟩
    have hVe : ∀ es2 n2, V es2 n2 = G es2 n2 ++ (L ++ [.box 57 s.cells]) := fun _ _ => by rw [hV]
    refine awp_cut (fun _ => false) (fun _ => none) (fun f H' => V es' n = H' ∧ f 0 = .bp a 0 ∧ f 2 = I deep ∧ f 9 = Sm.sl l ∧ f 10 = I l.length ∧ f 11 = I i ∧ f 7 = .bp (H.length + L.length) 0) (by kernel_rfl) ?_ ?_
    · simp -dsimp [g0, g2, g9, g10, g11, List.getElem?_eq_getElem, hlt, hs, hVe, hGl]
    clear g g0 g2 g9 g10 g11
    rintro g _ ⟨rfl, g0, g2, g9, g10, g11, g7⟩
    have hVs : ∀ es2 n2 L2, (V es2 n2 ++ L2)[H.length + L.length]? = some (.box 57 s.cells) := fun es2 n2 L2 => by
      rw [hVe, List.append_assoc, List.append_assoc, ← hGl es2 n2, List.getElem?_append_right (by omega), Nat.add_sub_cancel_left, List.getElem?_append_right (Nat.le_refl _), Nat.sub_self]; rfl
    have hVA : ∀ es2 n2 L2, AskIn (V es2 n2 ++ L2) a p k kv ka (keepV r es2 n2) all tv ta := fun es2 n2 L2 => by rw [hVe, List.append_assoc]; exact hGA _ _ _
    have hVr : ∀ es2 n2 L2, (V es2 n2 ++ L2)[r]? = some (keepB es2) := fun es2 n2 L2 => by rw [hVe, List.append_assoc]; exact hGr _ _ _
    have hVst : ∀ es2 n2 L2, stG p k kv ka a r all (V es2 n2 ++ L2) = fun es3 n3 => V es3 n3 ++ L2 := fun es2 n2 L2 => by
      rw [hVe, List.append_assoc, hGs]; funext es3 n3; rw [hVe]; simp only [List.append_assoc]
    have hVset : ∀ es2 n2 es3 n3 L2, ((V es2 n2 ++ L2).set r (keepB es3)).set a (askBox p k kv ka (keepV r es3 n3) all) = V es3 n3 ++ L2 := fun es2 n2 es3 n3 L2 => by
      rw [hVe, List.append_assoc, hGset, hVe]; simp only [List.append_assoc]
    have hVset2 : ∀ es2 n2 n3 L2, (V es2 n2 ++ L2).set a (askBox p k kv ka (keepV r es2 n3) all) = V es2 n3 ++ L2 := fun es2 n2 n3 L2 => by
      rw [hVe, List.append_assoc, hGset2, hVe]; simp only [List.append_assoc]
    have hVs0 : ∀ es2 n2, (V es2 n2)[H.length + L.length]? = some (.box 57 s.cells) := fun es2 n2 => by simpa using hVs es2 n2 []
    have hVA0 : ∀ es2 n2, AskIn (V es2 n2) a p k kv ka (keepV r es2 n2) all tv ta := fun es2 n2 => by simpa using hVA es2 n2 []
    have hVst0 : ∀ es2 n2, stG p k kv ka a r all (V es2 n2) = V := fun es2 n2 => by have := hVst es2 n2 []; simpa using this
    have endV : ∀ e es' n' L2, e = E → e ≠ 0 → Tidy H (StR E n es (smsCount l) G) (.pan (refS e)) (V es' n' ++ L2) := fun e es' n' L2 he h0 => by
      rw [hVe, List.append_assoc]; exact endP _ _ _ _ he h0
    have endV0 : ∀ e es' n', e = E → e ≠ 0 → Tidy H (StR E n es (smsCount l) G) (.pan (refS e)) (V es' n') := fun e es' n' he h0 => by
      rw [hVe]; exact endP _ _ _ _ he h0
    have fin : ∀ c es2 L2, c = E → n ≤ es2.length → es2.take n = es.take n → es2.length < es'.length + s.count → StM E n es (es.length + smsCount l) G c (smsCount (l.drop (i + 1))) (V es2 n ++ L2) := fun c es2 L2 h0 h1 h2 h3 => by
      rw [hVe, List.append_assoc]; exact ⟨h0, es2, _, rfl, h1, h2, by omega⟩
    have fin0 : ∀ c es2, c = E → n ≤ es2.length → es2.take n = es.take n → es2.length < es'.length + s.count → StM E n es (es.length + smsCount l) G c (smsCount (l.drop (i + 1))) (V es2 n) := fun c es2 h0 h1 h2 h3 => by
      rw [hVe]; exact ⟨h0, es2, _, rfl, h1, h2, by omega⟩
    clear hV hVe hG hGl hGu hG0 hGA hGr hGs hGset hGset2 endP end0
    rw [Sm.chk_eq, thenE_assoc, thenE_assoc] at hinv
    simp only [Sm.cells_eq] at hVs hVs0
    -- not too deep
    refine awp_cut (fun _ => false) (fun _ => none) (fun f H' => V es' n = H' ∧ f 0 = .bp a 0 ∧ f 2 = I deep ∧ f 9 = Sm.sl l ∧ f 10 = I l.length ∧ f 11 = I i ∧ f 7 = .bp (H.length + L.length) 0 ∧ (deep : Int) ≤ 64) (by kernel_rfl) ?_ ?_
    · simp -dsimp [g0, g2, g9, g10, g11, g7]
      refine mustW_D (fun h0 => ?_) (fun h0 => ?_)
      · simp -dsimp [g0, g2, g9, g10, g11, g7]
        exact h0
      · simp -dsimp
        rw [decide_eq_false h0, mustE_false, thenE_ne (by decide)] at hinv
        exact endV0 12 _ _ hinv (by decide)
    clear g g0 g2 g9 g10 g11 g7
    rintro g _ ⟨rfl, g0, g2, g9, g10, g11, g7, hd64⟩
    rw [decide_eq_true hd64, mustE_true, thenE_zero] at hinv
    -- what its kind has
    refine awp_cut (fun _ => false) (fun _ => none) (fun f H' => V es' n = H' ∧ f 0 = .bp a 0 ∧ f 2 = I deep ∧ f 9 = Sm.sl l ∧ f 10 = I l.length ∧ f 11 = I i ∧ f 7 = .bp (H.length + L.length) 0 ∧ kindE s = 0) (by kernel_rfl) ?_ ?_
    · have ck := kind_ok s (V es' n)
      simp only [Sm.cells_eq] at ck
      simp -dsimp [g0, g2, g9, g10, g11, g7, hVs0]
      refine chkW ck (fun hz => ?_) (fun hz => ?_)
      · simp -dsimp [g0, g2, g9, g10, g11, g7]
        exact hz
      · simp -dsimp
        rw [thenE_ne hz] at hinv
        exact endV0 _ _ _ hinv hz
    clear g g0 g2 g9 g10 g11 g7
    rintro g _ ⟨rfl, g0, g2, g9, g10, g11, g7, hkd⟩
    rw [hkd, thenE_zero] at hinv
    refine awp_cut (fun _ => false) (fun _ => none) (fun f H' => V es' n = H' ∧ f 0 = .bp a 0 ∧ f 2 = I deep ∧ f 9 = Sm.sl l ∧ f 10 = I l.length ∧ f 11 = I i ∧ f 7 = .bp (H.length + L.length) 0 ∧ f 21 = I s.kind) (by kernel_rfl) ?_ ?_
    · simp -dsimp [g0, g2, g9, g10, g11, g7, hVs0]
    clear g g0 g2 g9 g10 g11 g7
    rintro g _ ⟨rfl, g0, g2, g9, g10, g11, g7, g21⟩
    have hde : deep ≤ 64 := by omega
    have w2 : IntKind.i64.wrap ((deep : Int) + 1) = (deep : Int) + 1 := wrapI (by omega) (by omega)
    have hde2 : ((deep + 1 : Nat) : Int) = (deep : Int) + 1 := rfl
    have recur : ∀ (l2 : List Sm) (es2 : List ByteArray) (n2 : Nat) (L2 : List Blk) (ar : List ByteArray) (R : AE → List Blk → Prop) (w : Wit R), smsCount l2 < smsCount l → n2 ≤ es2.length → es2.length + smsCount l2 ≤ 2^38 → es2.take n2 = ar →
        (∀ es3, smsChk p k F tv ta all (deep + 1) ar l2 = 0 → n2 ≤ es3.length → es3.take n2 = ar → es3.length ≤ es2.length + smsCount l2 → R (.ret (.tup [])) (V es3 n2 ++ L2)) →
        (∀ es3 n3 e, e = smsChk p k F tv ta all (deep + 1) ar l2 → e ≠ 0 → R (.pan (refS e)) (V es3 n3 ++ L2)) → ACallsW Tryz.prog 111 [.bp a 0, Sm.sl l2, I ((deep : Int) + 1)] (V es2 n2 ++ L2) R w := by
      rintro l2 es2 n2 L2 ar R w c1 c2 c3 rfl hz hne
      refine acallsW_of (ih l2 (deep + 1) es2 n2 (by omega) (by omega) (by omega) c2 c3 _ (hVA es2 n2 L2) (hVr es2 n2 L2)) ?_
      rintro e H' ⟨h1, h2⟩
      rw [hVst] at h1 h2
      by_cases hc : smsChk p k F tv ta all (deep + 1) (es2.take n2) l2 = 0
      · obtain ⟨rfl, es3, rfl, d1, d2, d3⟩ := h1 hc
        exact hz es3 hc d1 d2 d3
      · obtain ⟨rfl, es3, n3, rfl⟩ := h2 hc
        exact hne es3 n3 _ rfl hc
    have recur0 : ∀ (l2 : List Sm) (es2 : List ByteArray) (n2 : Nat) (ar : List ByteArray) (R : AE → List Blk → Prop) (w : Wit R), smsCount l2 < smsCount l → n2 ≤ es2.length → es2.length + smsCount l2 ≤ 2^38 → es2.take n2 = ar →
        (∀ es3, smsChk p k F tv ta all (deep + 1) ar l2 = 0 → n2 ≤ es3.length → es3.take n2 = ar → es3.length ≤ es2.length + smsCount l2 → R (.ret (.tup [])) (V es3 n2)) →
        (∀ es3 n3 e, e = smsChk p k F tv ta all (deep + 1) ar l2 → e ≠ 0 → R (.pan (refS e)) (V es3 n3)) → ACallsW Tryz.prog 111 [.bp a 0, Sm.sl l2, I ((deep : Int) + 1)] (V es2 n2) R w := by
      intro l2 es2 n2 ar R w c1 c2 c3 c4 hz hne
      have := recur l2 es2 n2 [] ar R w c1 c2 c3 c4 (fun es3 => by simpa using hz es3) (fun es3 n3 => by simpa using hne es3 n3)
      simpa using this
    rcases kind_in hkd with hk1 | hk1 | hk1 | hk1 | hk1 | hk1
    · rw [hk1] at g21
      rw [if_pos hk1, thenE_assoc, thenE_assoc] at hinv
      refine awp_all (fun d => d == 84 || d == 129) (fun i => if i = 22 then some [(0, []), (1, []), (2, []), (3, []), (4, []), (5, []), (6, []), (7, []), (8, []), (9, []), (10, []), (11, [1, 2, 3, 4, 6, 7, 8, 9, 10]), (12, [])] else none) (by kernel_rfl) ?_
      have ce := expr_ok tv ta _ s.e deep (Nat.le_refl _) (by omega) (by omega) (hVA0 es' n)
      simp only [Ex.cells_eq] at ce
      simp -dsimp [g0, g2, g9, g10, g11, g7, g21, hVs0]
      refine chkW (word_ok s.name (hVA0 es' n)) (fun hz => ?_) (fun hz => ?_)
      rotate_left
      · simp -dsimp
        rw [thenE_ne hz] at hinv
        exact endV0 _ _ _ hinv hz
      rw [hz, thenE_zero] at hinv
      simp -dsimp [g0, g2, g9, g10, g11, g7, g21, hVs0, w2]
      refine chkW (sets_ok s.name (hVA0 es' n) hall) (fun hz => ?_) (fun hz => ?_)
      rotate_left
      · simp -dsimp
        rw [thenE_ne hz] at hinv
        exact endV0 _ _ _ hinv hz
      rw [hz, thenE_zero] at hinv
      simp -dsimp [g0, g2, g9, g10, g11, g7, g21, hVs0, w2]
      refine chkW ce (fun hz => ?_) (fun hz => ?_)
      rotate_left
      · simp -dsimp
        rw [thenE_ne hz] at hinv
        exact endV0 _ _ _ hinv hz
      rw [hz, thenE_zero] at hinv
      simp -dsimp [g0, g2, g9, g10, g11, g7, g21, hVs0, w2]
      exact fin0 _ _ hinv hn' htk (by omega)
    · rw [hk1] at g21
      rw [if_neg (by omega), if_pos hk1, thenE_assoc, thenE_assoc, thenE_assoc, thenE_assoc] at hinv
      refine awp_all (fun d => d == 84 || d == 129) (fun i => if i = 22 then some [(0, []), (1, []), (2, []), (3, []), (4, []), (5, []), (6, []), (7, []), (8, []), (9, []), (10, []), (11, [1, 2, 3, 4, 6, 7, 8, 9, 10]), (12, [])] else none) (by kernel_rfl) ?_
      have ca := expr_ok tv ta _ s.a deep (Nat.le_refl _) (by omega) (by omega) (hVA0 es' n)
      simp only [Ex.cells_eq] at ca
      have ce := expr_ok tv ta _ s.e deep (Nat.le_refl _) (by omega) (by omega) (hVA0 es' n)
      simp only [Ex.cells_eq] at ce
      simp -dsimp [g0, g2, g9, g10, g11, g7, g21, hVs0]
      refine chkW (array_ok s.name (hVA0 es' n)) (fun hz => ?_) (fun hz => ?_)
      rotate_left
      · simp -dsimp
        rw [thenE_ne hz] at hinv
        exact endV0 _ _ _ hinv hz
      rw [hz, thenE_zero] at hinv
      simp -dsimp [g0, g2, g9, g10, g11, g7, g21, hVs0, w2]
      refine chkW ca (fun hz => ?_) (fun hz => ?_)
      rotate_left
      · simp -dsimp
        rw [thenE_ne hz] at hinv
        exact endV0 _ _ _ hinv hz
      rw [hz, thenE_zero] at hinv
      simp -dsimp [g0, g2, g9, g10, g11, g7, g21, hVs0, w2]
      refine chkW ce (fun hz => ?_) (fun hz => ?_)
      rotate_left
      · simp -dsimp
        rw [thenE_ne hz] at hinv
        exact endV0 _ _ _ hinv hz
      rw [hz, thenE_zero] at hinv
      simp -dsimp [g0, g2, g9, g10, g11, g7, g21, hVs0, w2]
      refine recur0 s.body es' n _ _ _ (by omega) hn' (by omega) htk (fun esA hzesA hnesA htkesA hlesA => ?_) (fun es5 n5 e5 he5 hz5 => ?_)
      rotate_left
      · subst he5
        simp -dsimp
        rw [thenE_ne hz5] at hinv
        exact endV0 _ _ _ hinv hz5
      rw [hzesA, thenE_zero] at hinv
      simp -dsimp [g0, g2, g9, g10, g11, g7, g21, hVs0, w2]
      refine recur0 s.els esA n _ _ _ (by omega) hnesA (by omega) htkesA (fun esB hzesB hnesB htkesB hlesB => ?_) (fun es5 n5 e5 he5 hz5 => ?_)
      rotate_left
      · subst he5
        simp -dsimp
        rw [thenE_ne hz5] at hinv
        exact endV0 _ _ _ hinv hz5
      rw [hzesB, thenE_zero] at hinv
      simp -dsimp [g0, g2, g9, g10, g11, g7, g21, hVs0, w2]
      exact fin0 _ _ hinv hnesB htkesB (by omega)
    · rw [hk1] at g21
      rw [if_neg (by omega), if_neg (by omega), if_pos (by omega), thenE_assoc, thenE_assoc] at hinv
      refine awp_all (fun d => d == 84 || d == 129) (fun i => if i = 22 then some [(0, []), (1, []), (2, []), (3, []), (4, []), (5, []), (6, []), (7, []), (8, []), (9, []), (10, []), (11, [1, 2, 3, 4, 6, 7, 8, 9, 10]), (12, [])] else none) (by kernel_rfl) ?_
      have ce := expr_ok tv ta _ s.e deep (Nat.le_refl _) (by omega) (by omega) (hVA0 es' n)
      simp only [Ex.cells_eq] at ce
      simp -dsimp [g0, g2, g9, g10, g11, g7, g21, hVs0]
      refine chkW ce (fun hz => ?_) (fun hz => ?_)
      rotate_left
      · simp -dsimp
        rw [thenE_ne hz] at hinv
        exact endV0 _ _ _ hinv hz
      rw [hz, thenE_zero] at hinv
      simp -dsimp [g0, g2, g9, g10, g11, g7, g21, hVs0, w2]
      refine recur0 s.body es' n _ _ _ (by omega) hn' (by omega) htk (fun esA hzesA hnesA htkesA hlesA => ?_) (fun es5 n5 e5 he5 hz5 => ?_)
      rotate_left
      · subst he5
        simp -dsimp
        rw [thenE_ne hz5] at hinv
        exact endV0 _ _ _ hinv hz5
      rw [hzesA, thenE_zero] at hinv
      simp -dsimp [g0, g2, g9, g10, g11, g7, g21, hVs0, w2]
      refine recur0 s.els esA n _ _ _ (by omega) hnesA (by omega) htkesA (fun esB hzesB hnesB htkesB hlesB => ?_) (fun es5 n5 e5 he5 hz5 => ?_)
      rotate_left
      · subst he5
        simp -dsimp
        rw [thenE_ne hz5] at hinv
        exact endV0 _ _ _ hinv hz5
      rw [hzesB, thenE_zero] at hinv
      simp -dsimp [g0, g2, g9, g10, g11, g7, g21, hVs0, w2]
      exact fin0 _ _ hinv hnesB htkesB (by omega)
    · rw [hk1] at g21
      rw [if_neg (by omega), if_neg (by omega), if_pos (by omega), thenE_assoc, thenE_assoc] at hinv
      refine awp_all (fun d => d == 84 || d == 129) (fun i => if i = 22 then some [(0, []), (1, []), (2, []), (3, []), (4, []), (5, []), (6, []), (7, []), (8, []), (9, []), (10, []), (11, [1, 2, 3, 4, 6, 7, 8, 9, 10]), (12, [])] else none) (by kernel_rfl) ?_
      have ce := expr_ok tv ta _ s.e deep (Nat.le_refl _) (by omega) (by omega) (hVA0 es' n)
      simp only [Ex.cells_eq] at ce
      simp -dsimp [g0, g2, g9, g10, g11, g7, g21, hVs0]
      refine chkW ce (fun hz => ?_) (fun hz => ?_)
      rotate_left
      · simp -dsimp
        rw [thenE_ne hz] at hinv
        exact endV0 _ _ _ hinv hz
      rw [hz, thenE_zero] at hinv
      simp -dsimp [g0, g2, g9, g10, g11, g7, g21, hVs0, w2]
      refine recur0 s.body es' n _ _ _ (by omega) hn' (by omega) htk (fun esA hzesA hnesA htkesA hlesA => ?_) (fun es5 n5 e5 he5 hz5 => ?_)
      rotate_left
      · subst he5
        simp -dsimp
        rw [thenE_ne hz5] at hinv
        exact endV0 _ _ _ hinv hz5
      rw [hzesA, thenE_zero] at hinv
      simp -dsimp [g0, g2, g9, g10, g11, g7, g21, hVs0, w2]
      refine recur0 s.els esA n _ _ _ (by omega) hnesA (by omega) htkesA (fun esB hzesB hnesB htkesB hlesB => ?_) (fun es5 n5 e5 he5 hz5 => ?_)
      rotate_left
      · subst he5
        simp -dsimp
        rw [thenE_ne hz5] at hinv
        exact endV0 _ _ _ hinv hz5
      rw [hzesB, thenE_zero] at hinv
      simp -dsimp [g0, g2, g9, g10, g11, g7, g21, hVs0, w2]
      exact fin0 _ _ hinv hnesB htkesB (by omega)
    · rw [hk1] at g21
      rw [if_neg (by omega), if_neg (by omega), if_neg (by omega), if_pos hk1, thenE_assoc, thenE_assoc, thenE_assoc, thenE_assoc] at hinv
      have hVb0 : ∀ es2 n2, (V es2 n2)[a]? = some (.box 189 [Rg.sl p.regions, Fc.sl p.funcs, I k, .hm kv, .hm ka, keepV r es2 n2, St.sl all]) := fun es2 n2 => (hVA0 es2 n2).box
      have hVb : ∀ es2 n2 L2, (V es2 n2 ++ L2)[a]? = some (.box 189 [Rg.sl p.regions, Fc.sl p.funcs, I k, .hm kv, .hm ka, keepV r es2 n2, St.sl all]) := fun es2 n2 L2 => (hVA es2 n2 L2).box
      have ckp := fun M h => keep_has es' n hn' s.name (by omega) r M h
      have hVr0 : ∀ es2 n2, (V es2 n2)[r]? = some (keepB es2) := fun es2 n2 => by simpa using hVr es2 n2 []
      refine awp_all (fun d => d == 84 || d == 129) (fun i => if i = 22 then some [(0, []), (1, []), (2, []), (3, []), (4, []), (5, []), (6, []), (7, []), (8, []), (9, []), (10, []), (11, [1, 2, 3, 4, 6, 7, 8, 9, 10]), (12, [])] else none) (by kernel_rfl) ?_
      simp -dsimp [g0, g2, g9, g10, g11, g7, g21, hVs0]
      refine chkW (word_ok s.name (hVA0 es' n)) (fun hz => ?_) (fun hz => ?_)
      rotate_left
      · simp -dsimp
        rw [thenE_ne hz] at hinv
        exact endV0 _ _ _ hinv hz
      rw [hz, thenE_zero] at hinv
      simp -dsimp [g0, g2, g9, g10, g11, g7, g21, hVs0, hVb0]
      refine callDW_intro (ckp _ (hVr0 _ _)) ?_
      rw [htk]
      simp -dsimp [g0, g2, g9, g10, g11, g7, g21, hVs0, hVb0]
      refine mustW_B (fun hb => ?_) (fun hb => ?_)
      rotate_left
      · simp -dsimp
        rw [hb] at hinv
        simp only [Bool.not_true, mustE_false] at hinv
        rw [thenE_ne (by decide)] at hinv
        exact endV0 2 _ _ hinv (by decide)
      rw [hb] at hinv
      simp only [Bool.not_false, mustE_true, thenE_zero] at hinv
      simp -dsimp [g0, g2, g9, g10, g11, g7, g21, hVs0, hVb0, hVs, hVb, List.getElem?_eq_getElem, hk, ← hF]
      refine guardVW_introTD (fun hlo => ?_) (fun hlo => ?_)
      · simp -dsimp [g0, g2, g9, g10, g11, g7, g21, hVs0, hVb0, hVs, hVb, hlo]
        refine guardVW_introTD (fun hhi => ?_) (fun hhi => ?_)
        · simp -dsimp [g0, g2, g9, g10, g11, g7, g21, hVs0, hVb0, hVs, hVb, hlo, hhi]
          refine acallsW_det (str_contains F.rets s.name hrl _) ?_
          simp -dsimp [g0, g2, g9, g10, g11, g7, g21, hVs0, hVb0, hVs, hVb, hlo, hhi]
          refine mustW_B (fun hb2 => ?_) (fun hb2 => ?_)
          rotate_left
          · simp -dsimp
            rw [hb2] at hinv
            simp only [Bool.not_true, Bool.and_false, mustE_false] at hinv
            rw [thenE_ne (by decide)] at hinv
            exact endV 2 _ _ _ hinv (by decide)
          rw [hb2, decide_eq_true hlo, decide_eq_true hhi] at hinv
          simp only [Bool.not_false, Bool.and_true, mustE_true, thenE_zero] at hinv
          simp -dsimp [g0, g2, g9, g10, g11, g7, g21, hVs0, hVb0, hVs, hVb]
          have ckv := var_containsF F.params (fun v => decide (v.name = s.name)) 148 [.bp (H.length + L.length) 0] (by simp) (by omega) (V es' n ++ [.box 37 F.cells]) (fun x _ => named_var_ok x s (H.length + L.length) _ (by simpa using hVs es' n [.box 37 F.cells]))
          simp only [Fc.cells] at ckv
          refine acallsW_det ckv ?_
          simp -dsimp [g0, g2, g9, g10, g11, g7, g21, hVs0, hVb0, hVs, hVb]
          refine mustW_B (fun hb3 => ?_) (fun hb3 => ?_)
          rotate_left
          · simp -dsimp
            rw [hb3] at hinv
            simp only [Bool.not_true, mustE_false] at hinv
            rw [thenE_ne (by decide)] at hinv
            exact endV 2 _ _ _ hinv (by decide)
          rw [hb3] at hinv
          simp only [Bool.not_false, mustE_true, thenE_zero] at hinv
          obtain ⟨L4, hL4⟩ : ∃ L4, L4 = [Blk.box 37 F.cells] := ⟨_, rfl⟩
          simp only [Fc.cells] at hL4
          simp -dsimp [g0, g2, g9, g10, g11, g7, g21, hVs0, hVb0, hVs, hVb]
          rw [← hL4]
          refine appendVW_keep (hVr _ _ _) hn' rfl rfl (by decide) (by omega) ?_
          obtain ⟨es2, hes2⟩ : ∃ es2, es2 = es'.take n ++ s.name :: es'.drop (n + 1) := ⟨_, rfl⟩
          rw [← hes2]
          have h2ne : es2 ≠ [] := by rw [hes2]; simp
          have hVsa : ((V es' n ++ L4).set r (keepB es2))[a]? = some (.box 189 [Rg.sl p.regions, Fc.sl p.funcs, I k, .hm kv, .hm ka, keepV r es' n, St.sl all]) := by rw [List.getElem?_set_ne (Ne.symm nar)]; exact hVb _ _ _
          have hVsw : ((V es' n ++ L4).set r (keepB es2)).set a (.box 189 [Rg.sl p.regions, Fc.sl p.funcs, I k, .hm kv, .hm ka, .hs r 0 (n + 1) es2.length, St.sl all]) = V es2 (n + 1) ++ L4 := by
            have := hVset es' n es2 (n + 1) L4
            rw [keepV, if_neg h2ne] at this
            exact this
          have hk2 : keepV r es2 (n + 1) = .hs r 0 (n + 1) es2.length := if_neg h2ne
          simp -dsimp [g0, g2, g9, g10, g11, g7, g21, hVs0, hVb0, hVs, hVb, hVsa, hVsw, w2, hk2]
          have hl2 : es2.length ≤ es'.length + 1 := by rw [hes2]; simp; omega
          have hl2n : n + 1 ≤ es2.length := by rw [hes2]; simp; omega
          have ht2 : es2.take (n + 1) = es.take n ++ [s.name] := by rw [hes2, ← htk, List.take_append]; simp [Nat.min_eq_left hn', List.take_take]
          have ht2n : es2.take n = es.take n := by rw [hes2, ← htk, List.take_append]; simp [Nat.min_eq_left hn', List.take_take]
          refine recur s.body es2 (n + 1) L4 _ _ _ (by omega) hl2n (by omega) ht2 (fun es3 hz3 hn3 htk3 hl3 => ?_) (fun es5 n5 e5 he5 hz5 => ?_)
          rotate_left
          · subst he5
            simp -dsimp
            rw [thenE_ne hz5] at hinv
            exact endV _ _ _ _ hinv hz5
          rw [hz3, thenE_zero] at hinv
          have h3ne : es3 ≠ [] := fun h => by subst h; simp at hn3
          have hk3 : keepV r es3 (n + 1) = .hs r 0 (n + 1) es3.length := if_neg h3ne
          have hk3b : (V es3 (n + 1) ++ L4)[r]? = some (.row 9 1 (es3.map fun x => [St x])) := by rw [hVr, keepB, ownB, if_neg (by simpa using h3ne)]
          have hb3a := hVb es3 (n + 1) L4
          rw [hk3] at hb3a
          have w3 : IntKind.i64.wrap (n : Int) = (n : Int) := wrapI (by omega) (by omega)
          have w4 : (n : Int) ≤ (n : Int) + 1 := by omega
          have hVend : (V es3 (n + 1) ++ L4).set a (.box 189 [Rg.sl p.regions, Fc.sl p.funcs, I k, .hm kv, .hm ka, .hs r 0 n es3.length, St.sl all]) = V es3 n ++ L4 := by
            have := hVset2 es3 (n + 1) n L4
            rw [keepV, if_neg h3ne] at this
            exact this
          simp -dsimp [g0, g2, g9, g10, g11, g7, g21, hb3a, hk3b, w3, w4, hVend]
          have hec := Ex.count_eq s.e
          exact fin _ _ _ hinv (by omega) (by rw [← ht2n]; have h5 := congrArg (List.take n) (htk3.trans ht2.symm); simpa [List.take_take, Nat.min_eq_left] using h5) (by omega)
        · simp -dsimp [g0, g2, g9, g10, g11, g7, g21, hVs0, hVb0, hVs, hVb, hlo, hhi]
          refine mustW_f ?_
          simp -dsimp
          rw [decide_eq_false hhi] at hinv
          simp only [Bool.false_and, Bool.and_false, mustE_false] at hinv
          rw [thenE_ne (by decide)] at hinv
          exact endV 2 _ _ _ hinv (by decide)
      · simp -dsimp [g0, g2, g9, g10, g11, g7, g21, hVs0, hVb0, hVs, hVb, hlo]
        refine mustW_f ?_
        simp -dsimp
        rw [decide_eq_false hlo] at hinv
        simp only [Bool.false_and, mustE_false] at hinv
        rw [thenE_ne (by decide)] at hinv
        exact endV 2 _ _ _ hinv (by decide)
    · rw [hk1] at g21
      rw [if_neg (by omega), if_neg (by omega), if_neg (by omega), if_neg (by omega)] at hinv
      refine awp_all (fun d => d == 84 || d == 129) (fun i => if i = 22 then some [(0, []), (1, []), (2, []), (3, []), (4, []), (5, []), (6, []), (7, []), (8, []), (9, []), (10, []), (11, [1, 2, 3, 4, 6, 7, 8, 9, 10]), (12, [])] else none) (by kernel_rfl) ?_
      have cc := call_ok s deep (by omega) hde (hVA0 es' n) hall hp (by omega) (by omega)
      simp only [Sm.cells_eq] at cc
      simp -dsimp [g0, g2, g9, g10, g11, g7, g21, hVs0]
      refine chkW cc (fun hz => ?_) (fun hz => ?_)
      rotate_left
      · simp -dsimp
        rw [thenE_ne hz] at hinv
        exact endV0 _ _ _ hinv hz
      rw [hz, thenE_zero] at hinv
      simp -dsimp [g0, g2, g9, g10, g11, g7, g21, hVs0, w2]
      exact fin0 _ _ hinv hn' htk (by omega)
end
end Go.Proofs
namespace Go.Proofs
open Go.Mu
def varsT (l : List Vr) : List (ByteArray × Vr) := l.foldl (fun t v => aset v.name v t) []
theorem varsT_take {l : List Vr} {i : Nat} (h : i < l.length) : varsT (l.take (i + 1)) = aset l[i].name l[i] (varsT (l.take i)) := by rw [take_succ' h, varsT, List.foldl_append]; rfl
def askE (p : Pg) (i : Nat) (f : Fc) : Int := smsChk p i f (varsT (f.params ++ f.vars)) (onesT (p.regions.map Rg.name) []) (smsWords 1 f.body) 1 [] f.body
def asksE (p : Pg) : Nat → List Fc → Int
  | _, [] => 0
  | i, f :: l => thenE (askE p i f) (asksE p (i + 1) l)
def mayE (p : Pg) : Int := thenE (manyE p) (thenE (namesE p) (thenE (boundsE [] p.regions) (thenE (allE kindsE p.funcs) (asksE p 0 p.funcs))))
theorem sizes_in {p : Pg} (h : manyE p = 0) : ∀ r ∈ p.regions, SizeIn r := by
  have t : ∀ a b : Int, thenE a b = 0 → a = 0 ∧ b = 0 := fun a b h => by
    unfold thenE at h
    split at h
    · rename_i ha; exact ⟨ha, h⟩
    · rename_i ha; exact absurd h ha
  unfold manyE at h
  have h2 := (t _ _ (t _ _ h).2).1
  have all : ∀ l : List Rg, allE (fun r => sizeE r.size) l = 0 → ∀ r ∈ l, sizeE r.size = 0 := by
    intro l
    induction l with
    | nil => intro _ r hr; cases hr
    | cons r l ih =>
      intro h q hq
      rw [allE] at h
      rcases List.mem_cons.1 hq with rfl | hq
      · exact (t _ _ h).1
      · exact ih (t _ _ h).2 q hq
  intro r hr
  have h3 := all _ h2 r hr
  unfold sizeE mustE at h3
  split at h3
  · rename_i h4; simpa [SizeIn] using h4
  · cases h3
section
variable {p : Pg} {kv ka a k c : Nat} {all : List ByteArray} {tv : List (ByteArray × Vr)} {ta : List (ByteArray × Bool)} {F : Fc} {M W : List Blk}
theorem stmts_top (hp : p.Ok) (hall : all.length ≤ 2^40) (hk : k < p.funcs.length) (hF : F = p.funcs[k]) (l : List Sm) (hl : smsCount l ≤ 2^36) (H : List Blk) (hA : AskIn H a p k kv ka nilS all tv ta) :
    ACalls Tryz.prog 111 [.bp a 0, Sm.sl l, I 1] H (fun e H' => (smsChk p k F tv ta all 1 [] l = 0 → e = .ret (.tup [])) ∧ (smsChk p k F tv ta all 1 [] l ≠ 0 → e = .pan (refS (smsChk p k F tv ta all 1 [] l))) ∧ ∃ X Y, H' = H.set a X ++ [Y]) := by
  refine acalls_spare 1 ?_
  have hal := lt_of_get hA.box
  refine (stmts_ok (r := H.length) hp hall hk hF (smsCount l + 1) l 1 [] 0 (by omega) hl (by omega) (Nat.le_refl _) (by simp; omega) (H ++ [.pend]) (hA.app _) (by simp [keepB, ownB])).mono ?_
  have hs : ∀ X Y, set2 (H ++ [.pend]) a X H.length Y = H.set a X ++ [Y] := fun X Y => by
    rw [set2, List.set_append, if_pos hal, List.set_append, if_neg (by simp)]; simp
  rintro e H' ⟨h1, h2⟩
  by_cases hc : smsChk p k F tv ta all 1 [] l = 0
  · obtain ⟨rfl, es', rfl, _⟩ := h1 hc
    exact ⟨fun _ => rfl, fun h => absurd hc h, _, _, hs _ _⟩
  · obtain ⟨rfl, es', n', rfl⟩ := h2 hc
    exact ⟨fun h => absurd h hc, fun _ => rfl, _, _, hs _ _⟩
structure AskM (M W : List Blk) (p : Pg) (k : Nat) (F : Fc) (c a kv ka : Nat) (all : List ByteArray) (tv : List (ByteArray × Vr)) (ta : List (ByteArray × Bool)) : Prop where
  ext : ∃ L, W = M ++ L
  ask : AskIn W a p k kv ka nilS all tv ta
  ne : kv ≠ ka
  la : M.length ≤ a
  lv : M.length ≤ kv
  lk : M.length ≤ ka
  fb : W[c]? = some (.box 37 F.cells)
theorem set_ext {M W : List Blk} (h : ∃ L, W = M ++ L) {n : Nat} (hn : M.length ≤ n) (X : Blk) : ∃ L, W.set n X = M ++ L := by
  obtain ⟨L, rfl⟩ := h
  exact ⟨_, by rw [List.set_append, if_neg (by omega)]⟩
theorem AskM.app (h : AskM M W p k F c a kv ka all tv ta) (L : List Blk) : AskM M (W ++ L) p k F c a kv ka all tv ta := by
  obtain ⟨⟨L1, e⟩, h2, h3, h4, h5, h6, h7⟩ := h
  exact ⟨⟨L1 ++ L, by rw [e, List.append_assoc]⟩, h2.app L, h3, h4, h5, h6, get_app_old h7 L⟩
theorem AskM.setV (h : AskM M W p k F c a kv ka all tv ta) (tv' : List (ByteArray × Vr)) : AskM M (W.set kv (.map (strM Vr.av tv'))) p k F c a kv ka all tv' ta := by
  obtain ⟨h1, ⟨b1, b2, b3⟩, h3, h4, h5, h6, h7⟩ := h
  have l1 := lt_of_get b2
  have n1 : a ≠ kv := fun e => by subst e; rw [b1] at b2; simp [askBox] at b2
  have n2 : c ≠ kv := fun e => by subst e; rw [h7] at b2; simp at b2
  exact ⟨set_ext h1 h5 _, ⟨by rw [List.getElem?_set_ne (Ne.symm n1)]; exact b1, by simp [l1], by rw [List.getElem?_set_ne h3]; exact b3⟩, h3, h4, h5, h6, by rw [List.getElem?_set_ne (Ne.symm n2)]; exact h7⟩
theorem AskM.setK (h : AskM M W p k F c a kv ka all tv ta) (ta' : List (ByteArray × Bool)) : AskM M (W.set ka (.map (strM okA ta'))) p k F c a kv ka all tv ta' := by
  obtain ⟨h1, ⟨b1, b2, b3⟩, h3, h4, h5, h6, h7⟩ := h
  have l1 := lt_of_get b3
  have n1 : a ≠ ka := fun e => by subst e; rw [b1] at b3; simp [askBox] at b3
  have n2 : c ≠ ka := fun e => by subst e; rw [h7] at b3; simp at b3
  exact ⟨set_ext h1 h6 _, ⟨by rw [List.getElem?_set_ne (Ne.symm n1)]; exact b1, by rw [List.getElem?_set_ne (Ne.symm h3)]; exact b2, by simp [l1]⟩, h3, h4, h5, h6, by rw [List.getElem?_set_ne (Ne.symm n2)]; exact h7⟩
theorem RowAt.app {H : List Blk} {x : AV} {t : TypeId} {sz : Nat} {es : List (List AV)} (h : RowAt H x t sz es) (L : List Blk) : RowAt (H ++ L) x t sz es := by
  rcases h with h | ⟨k, h1, h2⟩
  · exact .inl h
  · exact .inr ⟨k, h1, get_app_old h2 L⟩
theorem RowAt.set {H : List Blk} {x : AV} {t : TypeId} {sz : Nat} {es : List (List AV)} (h : RowAt H x t sz es) {n : Nat} {m : List (Value × AV)} (hn : H[n]? = some (.map m)) (X : Blk) : RowAt (H.set n X) x t sz es := by
  rcases h with h | ⟨k, h1, h2⟩
  · exact .inl h
  · refine .inr ⟨k, h1, ?_⟩
    rw [List.getElem?_set_ne (fun e => by subst e; rw [h2] at hn; simp at hn)]; exact h2
end
end Go.Proofs
namespace Go.Proofs
open Go.Mu
mutual
def Sm.wordsOk : Sm → Bool
  | .mk _ _ _ _ _ _ lo hi b el => decide (0 ≤ lo) && decide (0 ≤ hi) && smsWordsOk b && smsWordsOk el
def smsWordsOk : List Sm → Bool
  | [] => true
  | s :: l => s.wordsOk && smsWordsOk l
end
theorem Sm.wordsOk_eq (s : Sm) : s.wordsOk = (decide (0 ≤ s.low) && decide (0 ≤ s.high) && smsWordsOk s.body && smsWordsOk s.els) := by cases s; rw [Sm.wordsOk]; rfl
mutual
def Sm.shapes : Sm → Bool
  | .mk k _ _ _ _ _ _ _ b el => (decide (k = 3) || decide (k = 4) || decide (k = 5) || b.isEmpty) && (decide (k = 3) || el.isEmpty) && smsShapes b && smsShapes el
def smsShapes : List Sm → Bool
  | [] => true
  | s :: l => s.shapes && smsShapes l
end
theorem Sm.shapes_eq (s : Sm) : s.shapes = ((decide (s.kind = 3) || decide (s.kind = 4) || decide (s.kind = 5) || s.body.isEmpty) && (decide (s.kind = 3) || s.els.isEmpty) && smsShapes s.body && smsShapes s.els) := by cases s; rw [Sm.shapes]; rfl
theorem then_inv {a b : Int} (h : thenE a b = 0) : a = 0 ∧ b = 0 := by
  unfold thenE at h
  split at h
  · rename_i ha; exact ⟨ha, h⟩
  · rename_i ha; exact absurd h ha
theorem must_inv {b : Bool} {e : Int} (h : mustE b e = 0) (he : e ≠ 0) : b = true := by
  unfold mustE at h
  split at h
  · assumption
  · exact absurd h he
theorem chk_shape (m : Nat) : ∀ l : List Sm, smsCount l ≤ m → ∀ (p : Pg) (f : Int) (F : Fc) tv ta all (deep : Nat) around, smsChk p f F tv ta all deep around l = 0 → smsWordsOk l = true → smsFors l = true ∧ smsShapes l = true := by
  induction m with
  | zero => intro l hl p f F tv ta all deep around _ _; have := sms_len l; obtain rfl : l = [] := List.eq_nil_of_length_eq_zero (by omega); exact ⟨rfl, rfl⟩
  | succ m ih =>
    intro l
    induction l with
    | nil => intro _ p f F tv ta all deep around _ _; exact ⟨rfl, rfl⟩
    | cons s l ihl =>
      intro h p f F tv ta all deep around hc hw
      simp only [smsCount] at h
      have hcc := Sm.count_eq s
      rw [smsChk] at hc
      obtain ⟨c1, c2⟩ := then_inv hc
      rw [smsWordsOk, Bool.and_eq_true] at hw
      obtain ⟨h1, h2⟩ := ihl (by omega) p f F tv ta all deep around c2 hw.2
      have hw1 := hw.1
      rw [Sm.wordsOk_eq] at hw1
      simp only [Bool.and_eq_true, decide_eq_true_eq] at hw1
      obtain ⟨⟨⟨w1, w2⟩, w3⟩, w4⟩ := hw1
      rw [smsFors, smsShapes, h1, h2, Bool.and_true, Bool.and_true, Sm.fors_eq, Sm.shapes_eq]
      rw [Sm.chk_eq] at c1
      obtain ⟨_, c1⟩ := then_inv c1
      obtain ⟨k0, c1⟩ := then_inv c1
      unfold kindE at k0
      have k0 := must_inv k0 (by decide)
      simp only [Bool.and_eq_true] at k0
      obtain ⟨⟨⟨⟨⟨⟨⟨kk1, _⟩, _⟩, _⟩, _⟩, _⟩, kk7⟩, kk8⟩ := k0
      have e7 : (s.kind = 3 ∨ s.kind = 4 ∨ s.kind = 5) ∨ s.body = [] := by
        unfold kd7 hasK at kk7
        simp at kk7
        rcases kk7 with h | h | h | h
        · exact .inr h
        · exact .inl (.inl h)
        · exact .inl (.inr (.inl h))
        · exact .inl (.inr (.inr h))
      have e8 : s.kind = 3 ∨ s.els = [] := by
        unfold kd8 hasK at kk8
        simp at kk8
        rcases kk8 with h | h
        · exact .inr h
        · exact .inl h
      have sb : (decide (s.kind = 3) || decide (s.kind = 4) || decide (s.kind = 5) || s.body.isEmpty) = true := by
        rcases e7 with (h | h | h) | h <;> simp [h]
      have se : (decide (s.kind = 3) || s.els.isEmpty) = true := by
        rcases e8 with h | h <;> simp [h]
      rw [sb, se, Bool.true_and, Bool.true_and]
      by_cases k5 : s.kind = 5
      · rw [if_neg (by omega), if_neg (by omega), if_neg (by omega), if_pos k5] at c1
        obtain ⟨_, c1⟩ := then_inv c1
        obtain ⟨_, c1⟩ := then_inv c1
        obtain ⟨q, c1⟩ := then_inv c1
        have q := must_inv q (by decide)
        simp only [Bool.and_eq_true, decide_eq_true_eq] at q
        obtain ⟨_, c1⟩ := then_inv c1
        obtain ⟨b1, b2⟩ := ih s.body (by omega) _ _ _ _ _ _ _ _ c1 w3
        have he : s.els = [] := by rcases e8 with h | h; omega; exact h
        rw [b1, b2, he, if_pos k5, decide_eq_true w1, decide_eq_true q.1.1, decide_eq_true q.1.2]
        exact ⟨rfl, rfl⟩
      rw [if_neg k5]
      by_cases k34 : s.kind = 3 ∨ s.kind = 4
      · rw [if_neg (by omega), if_neg (by omega), if_pos k34] at c1
        obtain ⟨_, c1⟩ := then_inv c1
        obtain ⟨d1, d2⟩ := then_inv c1
        obtain ⟨b1, b2⟩ := ih s.body (by omega) _ _ _ _ _ _ _ _ d1 w3
        obtain ⟨b3, b4⟩ := ih s.els (by omega) _ _ _ _ _ _ _ _ d2 w4
        rw [b1, b2, b3, b4]
        exact ⟨rfl, rfl⟩
      have hb : s.body = [] := by rcases e7 with h | h; omega; exact h
      have he : s.els = [] := by rcases e8 with h | h; omega; exact h
      rw [hb, he]
      exact ⟨rfl, rfl⟩
theorem may_shape {p : Pg} (h : mayE p = 0) (hw : ∀ f ∈ p.funcs, smsWordsOk f.body = true) : ∀ f ∈ p.funcs, smsFors f.body = true ∧ smsShapes f.body = true := by
  unfold mayE at h
  obtain ⟨_, h⟩ := then_inv h
  obtain ⟨_, h⟩ := then_inv h
  obtain ⟨_, h⟩ := then_inv h
  obtain ⟨_, h⟩ := then_inv h
  have : ∀ (l : List Fc) (i : Nat), asksE p i l = 0 → (∀ f ∈ l, smsWordsOk f.body = true) → ∀ f ∈ l, smsFors f.body = true ∧ smsShapes f.body = true := by
    intro l
    induction l with
    | nil => intro i _ _ f hf; cases hf
    | cons a l ih =>
      intro i h hw f hf
      rw [asksE] at h
      obtain ⟨h1, h2⟩ := then_inv h
      rcases List.mem_cons.1 hf with rfl | hf
      · unfold askE at h1
        exact chk_shape _ _ (Nat.le_refl _) _ _ _ _ _ _ _ _ h1 (hw _ (List.mem_cons_self ..))
      · exact ih _ h2 (fun f hf => hw f (List.mem_cons_of_mem _ hf)) f hf
  exact this p.funcs 0 h hw
end Go.Proofs
namespace Go.Proofs
open Go.Mu
theorem eachE_ok (l : List Ex) (F : Ex → Ex) (g : FuncId) (cap : List AV) (hok : okFn Tryz.prog g = true) (hl : l.length ≤ 2^36) (H : List Blk) (hg : ∀ x ∈ l, ∀ L, ACalls Tryz.prog g (.agg x.cells :: cap) (H ++ L) (fun e H' => e = .ret (.agg (F x).cells) ∧ H' = H ++ L)) :
    ACalls Tryz.prog 171 [Ex.sl l, .fn (.func g) [] cap] H (fun e H' => e = .ret (Ex.sl (l.map F)) ∧ H' = H) := by
  refine acalls_under fun hu _ => acalls_tidy (acalls_weakE (acalls_spare 1 (acalls_of_vc (hn := fun d => d == 19) (od := fun _ => none) Tryz.func171 rfl (by kernel_rfl) ?_)))
  have hrg : ∀ X L, (H ++ X :: L)[H.length]? = some X := fun X L => by simp
  have hrs : ∀ X Y L, (H ++ X :: L).set H.length Y = H ++ Y :: L := fun X Y L => by simp
  obtain ⟨ls, hls⟩ : ∃ ls, ls = (l.map F).map Ex.cells := ⟨_, rfl⟩
  have hlsl : ls.length = l.length := by rw [hls]; simp
  have fin : ∀ L, WeakE (Tidy H fun e H' => e = AE.ret (Ex.sl (l.map F)) ∧ H' = H) (.ret (ownS H.length ls)) (H ++ ownB 53 4 ls :: L) := fun L => by
    rw [hls]; exact tidy_ownR hu 4 53 _ L (exs_frzB _) ⟨rfl, rfl⟩
  simp -dsimp
  refine loop_rule (hn := fun d => d == 19) (od := fun _ => none) (fun (i : Nat) f H' => RowM 53 4 H (ls.take i) (f 5) H' ∧ f 1 = .fn (.func g) [] cap ∧ f 8 = Ex.sl l ∧ f 9 = I l.length ∧ f 10 = I i ∧ i ≤ l.length) (fun i => l.length - i) (by kernel_rfl) 0
    (by simp; exact ⟨[], by simp [ownB], (ownS_nil _).symm⟩) ?_
  rintro i f _ ⟨⟨L, rfl, f5⟩, f1, f8, f9, f10, hi⟩
  obtain ⟨out, hout⟩ : ∃ out, out = ls.take i := ⟨_, rfl⟩
  have hol : out.length = i := by rw [hout]; simp; omega
  rw [← hout] at f5 ⊢
  simp -dsimp [f1, f5, f8, f9, f10]
  refine condVW_introD (fun hlt => ?_) (fun hlt => ?_)
  · have hlx : l[i]? = some l[i] := List.getElem?_eq_getElem hlt
    have htk : ls.take (i + 1) = out ++ [(F l[i]).cells] := by
      have hh : i < ls.length := by omega
      have h2 : ls[i] = (F l[i]).cells := by simp [hls]
      rw [take_succV hh, h2, hout]
    have hmx := hg l[i] (List.getElem_mem hlt)
    obtain ⟨x, hx⟩ : ∃ x, x = l[i] := ⟨_, rfl⟩
    rw [← hx] at hlx htk hmx
    clear hx hout
    have cr := fun X => hmx (ownB 53 4 out :: (L ++ [X]))
    simp only [Ex.cells_eq] at cr htk
    simp -dsimp [f1, f5, f8, f9, f10, hlx, hok]
    refine acallsW_det (cr _) ?_
    simp -dsimp [f1, f5, f8, f9, f10]
    refine appendVW_own (k := H.length) (es := out) (by rw [hrg]) (by simp; omega) (by simp; omega) ?_
    rw [hrs]
    simp -dsimp [f1, f5, f8, f9, f10]
    refine ⟨i + 1, by omega, ⟨_, by rw [htk], by rw [htk]⟩, wrapS (by omega), by omega⟩
  · have : out = ls := by rw [hout]; exact List.take_of_length_le (by omega)
    simp -dsimp [f5]
    rw [this]
    exact fin L
theorem eachS_ok (l : List Sm) (F : Sm → Sm) (g : FuncId) (cap : List AV) (hok : okFn Tryz.prog g = true) (hl : l.length ≤ 2^36) (H : List Blk) (hg : ∀ x ∈ l, ∀ L, ACalls Tryz.prog g (.agg x.cells :: cap) (H ++ L) (fun e H' => e = .ret (.agg (F x).cells) ∧ H' = H ++ L)) :
    ACalls Tryz.prog 173 [Sm.sl l, .fn (.func g) [] cap] H (fun e H' => e = .ret (Sm.sl (l.map F)) ∧ H' = H) := by
  refine acalls_under fun hu _ => acalls_tidy (acalls_weakE (acalls_spare 1 (acalls_of_vc (hn := fun d => d == 19) (od := fun _ => none) Tryz.func173 rfl (by kernel_rfl) ?_)))
  have hrg : ∀ X L, (H ++ X :: L)[H.length]? = some X := fun X L => by simp
  have hrs : ∀ X Y L, (H ++ X :: L).set H.length Y = H ++ Y :: L := fun X Y L => by simp
  obtain ⟨ls, hls⟩ : ∃ ls, ls = (l.map F).map Sm.cells := ⟨_, rfl⟩
  have hlsl : ls.length = l.length := by rw [hls]; simp
  have fin : ∀ L, WeakE (Tidy H fun e H' => e = AE.ret (Sm.sl (l.map F)) ∧ H' = H) (.ret (ownS H.length ls)) (H ++ ownB 57 16 ls :: L) := fun L => by
    rw [hls]; exact tidy_ownR hu 16 57 _ L (sms_frzB _) ⟨rfl, rfl⟩
  simp -dsimp
  refine loop_rule (hn := fun d => d == 19) (od := fun _ => none) (fun (i : Nat) f H' => RowM 57 16 H (ls.take i) (f 5) H' ∧ f 1 = .fn (.func g) [] cap ∧ f 8 = Sm.sl l ∧ f 9 = I l.length ∧ f 10 = I i ∧ i ≤ l.length) (fun i => l.length - i) (by kernel_rfl) 0
    (by simp; exact ⟨[], by simp [ownB], (ownS_nil _).symm⟩) ?_
  rintro i f _ ⟨⟨L, rfl, f5⟩, f1, f8, f9, f10, hi⟩
  obtain ⟨out, hout⟩ : ∃ out, out = ls.take i := ⟨_, rfl⟩
  have hol : out.length = i := by rw [hout]; simp; omega
  rw [← hout] at f5 ⊢
  simp -dsimp [f1, f5, f8, f9, f10]
  refine condVW_introD (fun hlt => ?_) (fun hlt => ?_)
  · have hlx : l[i]? = some l[i] := List.getElem?_eq_getElem hlt
    have htk : ls.take (i + 1) = out ++ [(F l[i]).cells] := by
      have hh : i < ls.length := by omega
      have h2 : ls[i] = (F l[i]).cells := by simp [hls]
      rw [take_succV hh, h2, hout]
    have hmx := hg l[i] (List.getElem_mem hlt)
    obtain ⟨x, hx⟩ : ∃ x, x = l[i] := ⟨_, rfl⟩
    rw [← hx] at hlx htk hmx
    clear hx hout
    have cr := fun X => hmx (ownB 57 16 out :: (L ++ [X]))
    simp only [Sm.cells_eq] at cr htk
    simp -dsimp [f1, f5, f8, f9, f10, hlx, hok]
    refine acallsW_det (cr _) ?_
    simp -dsimp [f1, f5, f8, f9, f10]
    refine appendVW_own (k := H.length) (es := out) (by rw [hrg]) (by simp; omega) (by simp; omega) ?_
    rw [hrs]
    simp -dsimp [f1, f5, f8, f9, f10]
    refine ⟨i + 1, by omega, ⟨_, by rw [htk], by rw [htk]⟩, wrapS (by omega), by omega⟩
  · have : out = ls := by rw [hout]; exact List.take_of_length_le (by omega)
    simp -dsimp [f5]
    rw [this]
    exact fin L
end Go.Proofs
namespace Go.Proofs
open Go.Mu
theorem putE_ok (nm : ByteArray) (n : Int) (cn nn xx : Nat) (m : Nat) : ∀ (e : Ex), e.count < m → e.count ≤ 2^36 → ∀ (H : List Blk), H[cn]? = some (.box 9 [St nm]) → H[nn]? = some (.box 50 [U n]) →
    H[xx]? = some (.box 248 [.fn (.func 170) [] [.bp cn 0, .bp nn 0, .bp xx 0]]) →
    ACalls Tryz.prog 170 [.agg e.cells, .bp cn 0, .bp nn 0, .bp xx 0] H (fun r H' => r = .ret (.agg (e.put nm n).cells) ∧ H' = H) := by
  induction m with
  | zero => intro e h; omega
  | succ m ih =>
    intro e hm hc H h1 h2 h3
    refine acalls_tidy (acalls_weakE (acalls_of_vc (hn := fun _ => false) (od := fun _ => none) Tryz.func170 rfl (by kernel_rfl) ?_))
    have hcc := Ex.count_eq e
    have hl := exs_len e.args
    have a1 := fun L => get_app_old (L := L) h1
    have a2 := fun L => get_app_old (L := L) h2
    have a3 := fun L => get_app_old (L := L) h3
    have cr := fun L => eachE_ok e.args (Ex.put nm n) 170 [.bp cn 0, .bp nn 0, .bp xx 0] (by simp) (by omega) (H ++ L) (fun x hx L' => by
      have hx' := List.getElem_of_mem hx
      obtain ⟨j, hj, rfl⟩ := hx'
      have := exs_get hj
      rw [List.append_assoc]
      exact ih _ (by omega) (by omega) _ (a1 _) (a2 _) (a3 _))
    rw [Ex.put_eq]
    by_cases ho : e.op = 2
    · by_cases hnm : e.name = nm
      · rw [if_pos ⟨ho, hnm⟩]
        simp -dsimp [ho, hnm, a1, a2, a3]
        refine tidy_weak ?_ (tidy_same rfl ⟨rfl, rfl⟩)
        repeat first | exact Weak.refl _ | exact Weak.nil _ | exact WeakL.nil | exact WeakR.nil | apply Weak.aggL | apply Weak.vsR | apply WeakL.cons | apply WeakR.cons
      · rw [if_neg (fun h => hnm h.2)]
        simp -dsimp [ho, hnm, a1, a2, a3]
        refine acallsW_det (cr _) ?_
        simp -dsimp
        refine tidy_weak (.refl _) (tidy_same rfl ⟨?_, rfl⟩)
        simp [Ex.op, Ex.word, Ex.name, Ex.args, exsPut_map, ho]
    · rw [if_neg (fun h => ho h.1)]
      have hb : (e.op == 2) = false := by simpa using ho
      simp -dsimp [hb, a1, a2, a3]
      refine acallsW_det (cr _) ?_
      simp -dsimp
      refine tidy_weak (.refl _) (tidy_same rfl ⟨?_, rfl⟩)
      simp [Ex.op, Ex.word, Ex.name, Ex.args, exsPut_map]
end Go.Proofs
namespace Go.Proofs
open Go.Mu
theorem putS_ok (nm : ByteArray) (n : Int) (cn nn xx yy : Nat) (m : Nat) : ∀ (s : Sm), s.count < m → s.count ≤ 2^36 → ∀ (H : List Blk), H[cn]? = some (.box 9 [St nm]) → H[nn]? = some (.box 50 [U n]) →
    H[xx]? = some (.box 248 [.fn (.func 170) [] [.bp cn 0, .bp nn 0, .bp xx 0]]) →
    H[yy]? = some (.box 250 [.fn (.func 172) [] [.bp cn 0, .bp xx 0, .bp yy 0]]) →
    ACalls Tryz.prog 172 [.agg s.cells, .bp cn 0, .bp xx 0, .bp yy 0] H (fun r H' => r = .ret (.agg (s.put nm n).cells) ∧ H' = H) := by
  induction m with
  | zero => intro e h; omega
  | succ m ih =>
    intro s hm hc H h1 h2 h3 h4
    refine acalls_tidy (acalls_of_awp Tryz.func172 rfl (by kernel_rfl) ?_)
    have hcc := Sm.count_eq s
    have hlb := sms_len s.body
    have hle := sms_len s.els
    have hla := exs_len s.args
    have a1 := fun L => get_app_old (L := L) h1
    have a2 := fun L => get_app_old (L := L) h2
    have a3 := fun L => get_app_old (L := L) h3
    have a4 := fun L => get_app_old (L := L) h4
    have cE := fun L => putE_ok nm n cn nn xx _ s.e (Nat.lt_succ_self _) (by omega) (H ++ L) (a1 _) (a2 _) (a3 _)
    have cA := fun L => putE_ok nm n cn nn xx _ s.a (Nat.lt_succ_self _) (by omega) (H ++ L) (a1 _) (a2 _) (a3 _)
    have cN := fun L => cloneS_ok s.names (by omega) (H ++ L)
    have cL := fun L => eachE_ok s.args (Ex.put nm n) 170 [.bp cn 0, .bp nn 0, .bp xx 0] (by simp) (by omega) (H ++ L) (fun x hx L' => by
      obtain ⟨j, hj, rfl⟩ := List.getElem_of_mem hx
      have := exs_get hj
      rw [List.append_assoc]
      exact putE_ok nm n cn nn xx _ _ (Nat.lt_succ_self _) (by omega) _ (a1 _) (a2 _) (a3 _))
    have cb := fun L => eachS_ok s.body (Sm.put nm n) 172 [.bp cn 0, .bp xx 0, .bp yy 0] (by simp) (by omega) (H ++ L) (fun x hx L' => by
      obtain ⟨j, hj, rfl⟩ := List.getElem_of_mem hx
      have := sms_get hj
      rw [List.append_assoc]
      exact ih _ (by omega) (by omega) _ (a1 _) (a2 _) (a3 _) (a4 _))
    have ce := fun L => eachS_ok s.els (Sm.put nm n) 172 [.bp cn 0, .bp xx 0, .bp yy 0] (by simp) (by omega) (H ++ L) (fun x hx L' => by
      obtain ⟨j, hj, rfl⟩ := List.getElem_of_mem hx
      have := sms_get hj
      rw [List.append_assoc]
      exact ih _ (by omega) (by omega) _ (a1 _) (a2 _) (a3 _) (a4 _))
    rw [← exsPut_map] at cL
    rw [← smsPut_map] at cb ce
    simp only [Ex.cells_eq] at cE cA
    obtain ⟨bz, hbz⟩ : ∃ bz, bz = Blk.box 57 [I 0, St ByteArray.empty, nilS, I 0, U 0, St ByteArray.empty, nilS, I 0, U 0, St ByteArray.empty, nilS, nilS, U 0, U 0, nilS, nilS] := ⟨_, rfl⟩
    refine awp_cut (fun _ => false) (fun _ => none) (fun f H' => H' = H ++ [.box 57 s.cells, bz] ∧ f 1 = .bp cn 0 ∧ f 2 = .bp xx 0 ∧ f 3 = .bp yy 0 ∧ f 4 = .bp H.length 0 ∧ f 5 = .bp (H.length + 1) 0) (by kernel_rfl) ?_ ?_
    · simp -dsimp [hbz]
    rintro g _ ⟨rfl, g1, g2, g3, g4, g5⟩
    simp only [Sm.cells_eq]
    refine awp_cut (fun _ => false) (fun _ => none) (fun f H' => H' = H ++ [.box 57 s.cells, bz] ∧ f 1 = .bp cn 0 ∧ f 2 = .bp xx 0 ∧ f 3 = .bp yy 0 ∧ f 4 = .bp H.length 0 ∧ f 5 = .bp (H.length + 1) 0 ∧ ¬ (s.kind = 5 ∧ s.name = nm) ∧ f 14 = Bo false) (by kernel_rfl) ?_ ?_
    · by_cases hk : s.kind = 5
      · by_cases hn : s.name = nm
        · simp -dsimp [g1, g2, g3, g4, g5, a1, hk, hn, hbz]
          rw [Sm.put_eq, if_pos ⟨hk, hn⟩]
          refine tidy_same rfl ⟨?_, rfl⟩
          rw [hk, hn]
        · simp -dsimp [g1, g2, g3, g4, g5, a1, hk, hn]
      · have hb : (s.kind == 5) = false := by simpa using hk
        simp -dsimp [g1, g2, g3, g4, g5, a1, hk, hb]
    clear g g1 g2 g3 g4 g5
    rintro g _ ⟨rfl, g1, g2, g3, g4, g5, hne, g14⟩
    have hput : s.put nm n = .mk s.kind s.name s.names (s.e.put nm n) (s.a.put nm n) (exsPut nm n s.args) s.low s.high (smsPut nm n s.body) (smsPut nm n s.els) := by rw [Sm.put_eq, if_neg hne]
    rw [hput]
    simp only [Sm.cells_eq]
    refine awp_all (fun _ => false) (fun _ => none) (by kernel_rfl) ?_
    simp -dsimp [g1, g2, g3, g4, g5, g14, a1, a2, a3, a4]
    refine callDW_intro (cN _) ?_
    simp -dsimp [g1, g2, g3, g4, g5, a1, a2, a3, a4]
    refine callDW_intro (cE _) ?_
    simp -dsimp [g1, g2, g3, g4, g5, a1, a2, a3, a4]
    refine callDW_intro (cA _) ?_
    simp -dsimp [g1, g2, g3, g4, g5, a1, a2, a3, a4]
    refine callDW_intro (cL _) ?_
    simp -dsimp [g1, g2, g3, g4, g5, a1, a2, a3, a4]
    refine callDW_intro (cb _) ?_
    simp -dsimp [g1, g2, g3, g4, g5, a1, a2, a3, a4]
    refine callDW_intro (ce _) ?_
    simp -dsimp [g1, g2, g3, g4, g5, a1, a2, a3, a4, hbz]
    refine tidy_same rfl ⟨?_, rfl⟩
    simp [Sm.kind, Sm.name, Sm.names, Sm.e, Sm.a, Sm.args, Sm.low, Sm.high, Sm.body, Sm.els]
theorem put_ok (nm : ByteArray) (n : Int) (l : List Sm) (hc : smsCount l ≤ 2^36) (H : List Blk) : ACalls Tryz.prog 134 [St nm, U n, Sm.sl l] H (fun r H' => r = .ret (Sm.sl (smsPut nm n l)) ∧ H' = H) := by
  refine acalls_tidy (acalls_of_vc (hn := fun _ => false) (od := fun _ => none) Tryz.func134 rfl (by kernel_rfl) ?_)
  have hl := sms_len l
  obtain ⟨M, hM⟩ : ∃ M, M = H ++ [.box 9 [St nm], .box 50 [U n], .box 248 [.fn (.func 170) [] [.bp H.length 0, .bp (H.length + 1) 0, .bp (H.length + 2) 0]], .box 250 [.fn (.func 172) [] [.bp H.length 0, .bp (H.length + 2) 0, .bp (H.length + 3) 0]]] := ⟨_, rfl⟩
  have a1 : M[H.length]? = some (.box 9 [St nm]) := by rw [hM]; simp
  have a2 : M[H.length + 1]? = some (.box 50 [U n]) := by rw [hM]; simp
  have a3 : M[H.length + 2]? = some (.box 248 [.fn (.func 170) [] [.bp H.length 0, .bp (H.length + 1) 0, .bp (H.length + 2) 0]]) := by rw [hM]; simp
  have a4 : M[H.length + 3]? = some (.box 250 [.fn (.func 172) [] [.bp H.length 0, .bp (H.length + 2) 0, .bp (H.length + 3) 0]]) := by rw [hM]; simp
  have ce := eachS_ok l (Sm.put nm n) 172 [.bp H.length 0, .bp (H.length + 2) 0, .bp (H.length + 3) 0] (by simp) (by omega) M (fun x hx L' => by
    obtain ⟨j, hj, rfl⟩ := List.getElem_of_mem hx
    have := sms_get hj
    exact putS_ok nm n H.length (H.length + 1) (H.length + 2) (H.length + 3) _ _ (Nat.lt_succ_self _) (by omega) _ (get_app_old a1 _) (get_app_old a2 _) (get_app_old a3 _) (get_app_old a4 _))
  rw [← smsPut_map] at ce
  simp -dsimp
  rw [← hM]
  refine acallsW_det ce ?_
  simp -dsimp
  rw [hM]
  exact tidy_same rfl ⟨rfl, rfl⟩
end Go.Proofs
