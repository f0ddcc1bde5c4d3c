/- What is asked of statements, walked. -/
import Derived.Test.YtpibcbilkpoomaaGreatG4toG20
set_option linter.unusedVariables false
set_option linter.unusedSimpArgs false
set_option maxHeartbeats 4000000
set_option maxRecDepth 100000
namespace Go.Proofs
open Go.Mu
section
variable {p : Pg} {kv ka a r k : Nat} {all : List ByteArray} {tv : List (ByteArray × Vr)} {ta : List (ByteArray × Bool)} {F : Fc}
theorem stmts_ok (hp : p.Ok) (hall : all.length ≤ 2^40) (hk : k < p.funcs.length) (hF : F = p.funcs[k]) (m : Nat) : ∀ (l : List Sm) (deep : Nat) (es : List ByteArray) (n : Nat), smsCount l < m → smsCount l ≤ 2^36 → deep ≤ 65 → n ≤ es.length → es.length + smsCount l ≤ 2^38 → ∀ (H : List Blk),
    AskIn H a p k kv ka (keepV r es n) all tv ta → H[r]? = some (keepB es) → ACalls Tryz.prog 110 [.bp a 0, Sm.sl l, I deep] H (StR (smsChk p k F tv ta all deep (es.take n) l) n es (smsCount l) (stG p k kv ka a r all H)) := by
  induction m with
  | zero => intro l deep es n h; omega
  | succ m ih =>
    intro l deep es n hm hc36 hd hn hel H hA hr
    refine acalls_under fun hu _ => acalls_tidy (acalls_of_awp Tryz.func110 rfl (by kernel_rfl) ?_)
    obtain ⟨E, hE⟩ : ∃ E, E = smsChk p k F tv ta all deep (es.take n) l := ⟨_, rfl⟩
    rw [← hE]
    obtain ⟨G, hG⟩ : ∃ G, G = stG p k kv ka a r all H := ⟨_, rfl⟩
    have hGl : ∀ es' n', (G es' n').length = H.length := fun _ _ => by rw [hG, stG, set2_length]
    have hGu : ∀ es' n', underH H.length (G es' n') = true := fun es' n' => by rw [hG]; exact stG_under hA hr es' n' hu
    have hG0 : G es n = H := by rw [hG]; exact set2_same hA.box hr
    have hGA : ∀ es' n' L, AskIn (G es' n' ++ L) a p k kv ka (keepV r es' n') all tv ta := fun es' n' L => by rw [hG]; exact stG_in hA hr es' n' L
    have hGr : ∀ es' n' L, (G es' n' ++ L)[r]? = some (keepB es') := fun es' n' L => by rw [hG]; exact m2_getB (lt_of_get hr) _ _ _
    obtain ⟨nar, -⟩ := ask_ne hA hr
    have hpl := hp.params _ (List.getElem_mem hk)
    have hrl := hp.rets _ (List.getElem_mem hk)
    rw [← hF] at hpl hrl
    have hGs : ∀ es' n' L, stG p k kv ka a r all (G es' n' ++ L) = fun es2 n2 => G es2 n2 ++ L := fun es' n' L => by
      funext es2 n2
      rw [hG, stG, stG]
      exact m2_set2 (lt_of_get hA.box) (lt_of_get hr) nar _ _ _ _ _
    have hGset : ∀ es' n' es2 n2 L, ((G es' n' ++ L).set r (keepB es2)).set a (askBox p k kv ka (keepV r es2 n2) all) = G es2 n2 ++ L := fun es' n' es2 n2 L => by
      rw [List.set_comm _ _ (Ne.symm nar)]
      exact congrFun (congrFun (hGs es' n' L) es2) n2
    have hGset2 : ∀ es' n' n2 L, (G es' n' ++ L).set a (askBox p k kv ka (keepV r es' n2) all) = G es' n2 ++ L := fun es' n' n2 L => by
      rw [← hGset es' n' es' n2 L, set_same (hGr es' n' L)]
    rw [← hG]
    have endP : ∀ e es' n' L, e = E → e ≠ 0 → Tidy H (StR E n es (smsCount l) G) (.pan (refS e)) (G es' n' ++ L) := fun e es' n' L he h0 => by
      subst he
      exact tidy_toP (by rw [hGl]; exact Nat.le_refl _) (fun _ => by rw [hGl]; exact hGu _ _) rfl ⟨fun h => absurd h h0, fun _ => ⟨rfl, es', n', rfl⟩⟩
    have end0 : ∀ c M, StM E n es (es.length + smsCount l) G c 0 M → c = 0 → Tidy H (StR E n es (smsCount l) G) (.ret (.tup [])) M := fun c M h he => by
      obtain ⟨rfl, es', L, rfl, h1, h2, h3⟩ := h
      exact tidy_to (by rw [hGl]; exact Nat.le_refl _) (fun _ => by rw [hGl]; exact hGu _ _) rfl ⟨fun _ => ⟨rfl, es', rfl, h1, h2, by omega⟩, fun h => absurd he h⟩
    have hlen := sms_len l
    refine awp_cut (fun _ => false) (fun _ => none) (fun f H' => H = H' ∧ f 0 = .bp a 0 ∧ f 2 = I deep ∧ f 9 = Sm.sl l ∧ f 10 = I l.length ∧ f 11 = I 0) (by kernel_rfl) ?_ ?_
    · simp -dsimp
    rintro g _ ⟨rfl, g0, g2, g9, g10, g11⟩
    refine awp_block ?_
    refine awp_loopI (fun (i : Nat) g H' => StM E n es (es.length + smsCount l) G (smsChk p k F tv ta all deep (es.take n) (l.drop i)) (smsCount (l.drop i)) H' ∧ g 0 = .bp a 0 ∧ g 2 = I deep ∧ g 9 = Sm.sl l ∧ g 10 = I l.length ∧ g 11 = I i ∧ i ≤ l.length) (fun i => l.length - i) 0
      ⟨⟨hE.symm, es, [], by rw [hG0, List.append_nil], hn, rfl, by simp⟩, g0, g2, g9, g10, g11, by omega⟩ ?_
    clear g g0 g2 g9 g10 g11
    rintro i g M ⟨hM, g0, g2, g9, g10, g11, hi⟩
    refine awp_cut (fun _ => false) (fun _ => none) (fun f H' => M = H' ∧ f 0 = .bp a 0 ∧ f 2 = I deep ∧ f 9 = Sm.sl l ∧ f 10 = I l.length ∧ f 11 = I i ∧ f 12 = Bo (decide ((i : Int) < l.length))) (by kernel_rfl) ?_ ?_
    · simp -dsimp [g0, g2, g9, g10, g11]
    clear g g0 g2 g9 g10 g11
    rintro g _ ⟨rfl, g0, g2, g9, g10, g11, g12⟩
    refine awp_cut (fun _ => false) (fun _ => none) (fun f H' => M = H' ∧ f 0 = .bp a 0 ∧ f 2 = I deep ∧ f 9 = Sm.sl l ∧ f 10 = I l.length ∧ f 11 = I i ∧ i < l.length) (by kernel_rfl) ?_ ?_
    · simp -dsimp [g12]
      refine condVW_introD (fun hlt => ?_) (fun hlt => ?_)
      · simp -dsimp [g0, g2, g9, g10, g11]
        omega
      · simp -dsimp
        rw [drop_end (by omega)] at hM
        exact end0 _ _ hM rfl
    clear g g0 g2 g9 g10 g11 g12
    rintro g _ ⟨rfl, g0, g2, g9, g10, g11, hlt⟩
    rw [drop_cons hlt] at hM
    simp only [smsChk, smsCount] at hM
    have hsc := Sm.count_eq l[i]
    have hsg := sms_get hlt
    obtain ⟨s, hs⟩ : ∃ s, s = l[i] := ⟨_, rfl⟩
    rw [← hs] at hM hsc hsg
    obtain ⟨hinv, es', L, rfl, hn', htk, hlen'⟩ := hM
    have hcl := smsCount_le l (i + 1)
    refine awp_cutA (fun f H' => StM E n es (es.length + smsCount l) G (smsChk p k F tv ta all deep (es.take n) (l.drop (i + 1))) (smsCount (l.drop (i + 1))) H' ∧ f 0 = .bp a 0 ∧ f 2 = I deep ∧ f 9 = Sm.sl l ∧ f 10 = I l.length ∧ f 11 = I i) ?_ ?_
    rotate_left
    · clear g g0 g2 g9 g10 g11
      rintro g M ⟨hM, g0, g2, g9, g10, g11⟩
      refine awp_all (fun _ => false) (fun _ => none) (by kernel_rfl) ?_
      simp -dsimp [g0, g2, g9, g10, g11]
      exact ⟨i + 1, by omega, hM, wrapS (by omega), by omega⟩
    refine awp_block ?_
    -- the statement stands in a box
    obtain ⟨V, hV⟩ : ∃ V : List ByteArray → Nat → List Blk, V = fun es2 n2 => G es2 n2 ++ (L ++ [.box 82 s.cells]) := ⟨_, rfl⟩
    have hVe : ∀ es2 n2, V es2 n2 = G es2 n2 ++ (L ++ [.box 82 s.cells]) := fun _ _ => by rw [hV]
    refine awp_cut (fun _ => false) (fun _ => none) (fun f H' => V es' n = H' ∧ f 0 = .bp a 0 ∧ f 2 = I deep ∧ f 9 = Sm.sl l ∧ f 10 = I l.length ∧ f 11 = I i ∧ f 7 = .bp (H.length + L.length) 0) (by kernel_rfl) ?_ ?_
    · simp -dsimp [g0, g2, g9, g10, g11, List.getElem?_eq_getElem, hlt, hs, hVe, hGl]
    clear g g0 g2 g9 g10 g11
    rintro g _ ⟨rfl, g0, g2, g9, g10, g11, g7⟩
    have hVs : ∀ es2 n2 L2, (V es2 n2 ++ L2)[H.length + L.length]? = some (.box 82 s.cells) := fun es2 n2 L2 => by
      rw [hVe, List.append_assoc, List.append_assoc, ← hGl es2 n2, List.getElem?_append_right (by omega), Nat.add_sub_cancel_left, List.getElem?_append_right (Nat.le_refl _), Nat.sub_self]; rfl
    have hVA : ∀ es2 n2 L2, AskIn (V es2 n2 ++ L2) a p k kv ka (keepV r es2 n2) all tv ta := fun es2 n2 L2 => by rw [hVe, List.append_assoc]; exact hGA _ _ _
    have hVr : ∀ es2 n2 L2, (V es2 n2 ++ L2)[r]? = some (keepB es2) := fun es2 n2 L2 => by rw [hVe, List.append_assoc]; exact hGr _ _ _
    have hVst : ∀ es2 n2 L2, stG p k kv ka a r all (V es2 n2 ++ L2) = fun es3 n3 => V es3 n3 ++ L2 := fun es2 n2 L2 => by
      rw [hVe, List.append_assoc, hGs]; funext es3 n3; rw [hVe]; simp only [List.append_assoc]
    have hVset : ∀ es2 n2 es3 n3 L2, ((V es2 n2 ++ L2).set r (keepB es3)).set a (askBox p k kv ka (keepV r es3 n3) all) = V es3 n3 ++ L2 := fun es2 n2 es3 n3 L2 => by
      rw [hVe, List.append_assoc, hGset, hVe]; simp only [List.append_assoc]
    have hVset2 : ∀ es2 n2 n3 L2, (V es2 n2 ++ L2).set a (askBox p k kv ka (keepV r es2 n3) all) = V es2 n3 ++ L2 := fun es2 n2 n3 L2 => by
      rw [hVe, List.append_assoc, hGset2, hVe]; simp only [List.append_assoc]
    have hVs0 : ∀ es2 n2, (V es2 n2)[H.length + L.length]? = some (.box 82 s.cells) := fun es2 n2 => by simpa using hVs es2 n2 []
    have hVA0 : ∀ es2 n2, AskIn (V es2 n2) a p k kv ka (keepV r es2 n2) all tv ta := fun es2 n2 => by simpa using hVA es2 n2 []
    have hVst0 : ∀ es2 n2, stG p k kv ka a r all (V es2 n2) = V := fun es2 n2 => by have := hVst es2 n2 []; simpa using this
    have endV : ∀ e es' n' L2, e = E → e ≠ 0 → Tidy H (StR E n es (smsCount l) G) (.pan (refS e)) (V es' n' ++ L2) := fun e es' n' L2 he h0 => by
      rw [hVe, List.append_assoc]; exact endP _ _ _ _ he h0
    have endV0 : ∀ e es' n', e = E → e ≠ 0 → Tidy H (StR E n es (smsCount l) G) (.pan (refS e)) (V es' n') := fun e es' n' he h0 => by
      rw [hVe]; exact endP _ _ _ _ he h0
    have fin : ∀ c es2 L2, c = E → n ≤ es2.length → es2.take n = es.take n → es2.length < es'.length + s.count → StM E n es (es.length + smsCount l) G c (smsCount (l.drop (i + 1))) (V es2 n ++ L2) := fun c es2 L2 h0 h1 h2 h3 => by
      rw [hVe, List.append_assoc]; exact ⟨h0, es2, _, rfl, h1, h2, by omega⟩
    have fin0 : ∀ c es2, c = E → n ≤ es2.length → es2.take n = es.take n → es2.length < es'.length + s.count → StM E n es (es.length + smsCount l) G c (smsCount (l.drop (i + 1))) (V es2 n) := fun c es2 h0 h1 h2 h3 => by
      rw [hVe]; exact ⟨h0, es2, _, rfl, h1, h2, by omega⟩
    clear hV hVe hG hGl hGu hG0 hGA hGr hGs hGset hGset2 endP end0
    rw [Sm.chk_eq, thenE_assoc, thenE_assoc] at hinv
    simp only [Sm.cells_eq] at hVs hVs0
    -- not too deep
    refine awp_cut (fun _ => false) (fun _ => none) (fun f H' => V es' n = H' ∧ f 0 = .bp a 0 ∧ f 2 = I deep ∧ f 9 = Sm.sl l ∧ f 10 = I l.length ∧ f 11 = I i ∧ f 7 = .bp (H.length + L.length) 0 ∧ (deep : Int) ≤ 64) (by kernel_rfl) ?_ ?_
    · simp -dsimp [g0, g2, g9, g10, g11, g7]
      refine mustW_D (fun h0 => ?_) (fun h0 => ?_)
      · simp -dsimp [g0, g2, g9, g10, g11, g7]
        exact h0
      · simp -dsimp
        rw [decide_eq_false h0, mustE_false, thenE_ne (by decide)] at hinv
        exact endV0 12 _ _ hinv (by decide)
    clear g g0 g2 g9 g10 g11 g7
    rintro g _ ⟨rfl, g0, g2, g9, g10, g11, g7, hd64⟩
    rw [decide_eq_true hd64, mustE_true, thenE_zero] at hinv
    -- what its kind has
    refine awp_cut (fun _ => false) (fun _ => none) (fun f H' => V es' n = H' ∧ f 0 = .bp a 0 ∧ f 2 = I deep ∧ f 9 = Sm.sl l ∧ f 10 = I l.length ∧ f 11 = I i ∧ f 7 = .bp (H.length + L.length) 0 ∧ kindE s = 0) (by kernel_rfl) ?_ ?_
    · have ck := kind_ok s (V es' n)
      simp only [Sm.cells_eq] at ck
      simp -dsimp [g0, g2, g9, g10, g11, g7, hVs0]
      refine chkW ck (fun hz => ?_) (fun hz => ?_)
      · simp -dsimp [g0, g2, g9, g10, g11, g7]
        exact hz
      · simp -dsimp
        rw [thenE_ne hz] at hinv
        exact endV0 _ _ _ hinv hz
    clear g g0 g2 g9 g10 g11 g7
    rintro g _ ⟨rfl, g0, g2, g9, g10, g11, g7, hkd⟩
    rw [hkd, thenE_zero] at hinv
    refine awp_cut (fun _ => false) (fun _ => none) (fun f H' => V es' n = H' ∧ f 0 = .bp a 0 ∧ f 2 = I deep ∧ f 9 = Sm.sl l ∧ f 10 = I l.length ∧ f 11 = I i ∧ f 7 = .bp (H.length + L.length) 0 ∧ f 21 = I s.kind) (by kernel_rfl) ?_ ?_
    · simp -dsimp [g0, g2, g9, g10, g11, g7, hVs0]
    clear g g0 g2 g9 g10 g11 g7
    rintro g _ ⟨rfl, g0, g2, g9, g10, g11, g7, g21⟩
    have hde : deep ≤ 64 := by omega
    have w2 : IntKind.i64.wrap ((deep : Int) + 1) = (deep : Int) + 1 := wrapI (by omega) (by omega)
    have hde2 : ((deep + 1 : Nat) : Int) = (deep : Int) + 1 := rfl
    have recur : ∀ (l2 : List Sm) (es2 : List ByteArray) (n2 : Nat) (L2 : List Blk) (ar : List ByteArray) (R : AE → List Blk → Prop) (w : Wit R), smsCount l2 < smsCount l → n2 ≤ es2.length → es2.length + smsCount l2 ≤ 2^38 → es2.take n2 = ar →
        (∀ es3, smsChk p k F tv ta all (deep + 1) ar l2 = 0 → n2 ≤ es3.length → es3.take n2 = ar → es3.length ≤ es2.length + smsCount l2 → R (.ret (.tup [])) (V es3 n2 ++ L2)) →
        (∀ es3 n3 e, e = smsChk p k F tv ta all (deep + 1) ar l2 → e ≠ 0 → R (.pan (refS e)) (V es3 n3 ++ L2)) → ACallsW Tryz.prog 110 [.bp a 0, Sm.sl l2, I ((deep : Int) + 1)] (V es2 n2 ++ L2) R w := by
      rintro l2 es2 n2 L2 ar R w c1 c2 c3 rfl hz hne
      refine acallsW_of (ih l2 (deep + 1) es2 n2 (by omega) (by omega) (by omega) c2 c3 _ (hVA es2 n2 L2) (hVr es2 n2 L2)) ?_
      rintro e H' ⟨h1, h2⟩
      rw [hVst] at h1 h2
      by_cases hc : smsChk p k F tv ta all (deep + 1) (es2.take n2) l2 = 0
      · obtain ⟨rfl, es3, rfl, d1, d2, d3⟩ := h1 hc
        exact hz es3 hc d1 d2 d3
      · obtain ⟨rfl, es3, n3, rfl⟩ := h2 hc
        exact hne es3 n3 _ rfl hc
    have recur0 : ∀ (l2 : List Sm) (es2 : List ByteArray) (n2 : Nat) (ar : List ByteArray) (R : AE → List Blk → Prop) (w : Wit R), smsCount l2 < smsCount l → n2 ≤ es2.length → es2.length + smsCount l2 ≤ 2^38 → es2.take n2 = ar →
        (∀ es3, smsChk p k F tv ta all (deep + 1) ar l2 = 0 → n2 ≤ es3.length → es3.take n2 = ar → es3.length ≤ es2.length + smsCount l2 → R (.ret (.tup [])) (V es3 n2)) →
        (∀ es3 n3 e, e = smsChk p k F tv ta all (deep + 1) ar l2 → e ≠ 0 → R (.pan (refS e)) (V es3 n3)) → ACallsW Tryz.prog 110 [.bp a 0, Sm.sl l2, I ((deep : Int) + 1)] (V es2 n2) R w := by
      intro l2 es2 n2 ar R w c1 c2 c3 c4 hz hne
      have := recur l2 es2 n2 [] ar R w c1 c2 c3 c4 (fun es3 => by simpa using hz es3) (fun es3 n3 => by simpa using hne es3 n3)
      simpa using this
    rcases kind_in hkd with hk1 | hk1 | hk1 | hk1 | hk1 | hk1
    · rw [hk1] at g21
      rw [if_pos hk1, thenE_assoc, thenE_assoc] at hinv
      refine awp_all (fun d => d == 84 || d == 129) (fun i => if i = 22 then some [(0, []), (1, []), (2, []), (3, []), (4, []), (5, []), (6, []), (7, []), (8, []), (9, []), (10, []), (11, [1, 2, 3, 4, 6, 7, 8, 9, 10]), (12, [])] else none) (by kernel_rfl) ?_
      have ce := expr_ok tv ta _ s.e deep (Nat.le_refl _) (by omega) (by omega) (hVA0 es' n)
      simp only [Ex.cells_eq] at ce
      simp -dsimp [g0, g2, g9, g10, g11, g7, g21, hVs0]
      refine chkW (word_ok s.name (hVA0 es' n)) (fun hz => ?_) (fun hz => ?_)
      rotate_left
      · simp -dsimp
        rw [thenE_ne hz] at hinv
        exact endV0 _ _ _ hinv hz
      rw [hz, thenE_zero] at hinv
      simp -dsimp [g0, g2, g9, g10, g11, g7, g21, hVs0, w2]
      refine chkW (sets_ok s.name (hVA0 es' n) hall) (fun hz => ?_) (fun hz => ?_)
      rotate_left
      · simp -dsimp
        rw [thenE_ne hz] at hinv
        exact endV0 _ _ _ hinv hz
      rw [hz, thenE_zero] at hinv
      simp -dsimp [g0, g2, g9, g10, g11, g7, g21, hVs0, w2]
      refine chkW ce (fun hz => ?_) (fun hz => ?_)
      rotate_left
      · simp -dsimp
        rw [thenE_ne hz] at hinv
        exact endV0 _ _ _ hinv hz
      rw [hz, thenE_zero] at hinv
      simp -dsimp [g0, g2, g9, g10, g11, g7, g21, hVs0, w2]
      exact fin0 _ _ hinv hn' htk (by omega)
    · rw [hk1] at g21
      rw [if_neg (by omega), if_pos hk1, thenE_assoc, thenE_assoc, thenE_assoc, thenE_assoc] at hinv
      refine awp_all (fun d => d == 84 || d == 129) (fun i => if i = 22 then some [(0, []), (1, []), (2, []), (3, []), (4, []), (5, []), (6, []), (7, []), (8, []), (9, []), (10, []), (11, [1, 2, 3, 4, 6, 7, 8, 9, 10]), (12, [])] else none) (by kernel_rfl) ?_
      have ca := expr_ok tv ta _ s.a deep (Nat.le_refl _) (by omega) (by omega) (hVA0 es' n)
      simp only [Ex.cells_eq] at ca
      have ce := expr_ok tv ta _ s.e deep (Nat.le_refl _) (by omega) (by omega) (hVA0 es' n)
      simp only [Ex.cells_eq] at ce
      simp -dsimp [g0, g2, g9, g10, g11, g7, g21, hVs0]
      refine chkW (array_ok s.name (hVA0 es' n)) (fun hz => ?_) (fun hz => ?_)
      rotate_left
      · simp -dsimp
        rw [thenE_ne hz] at hinv
        exact endV0 _ _ _ hinv hz
      rw [hz, thenE_zero] at hinv
      simp -dsimp [g0, g2, g9, g10, g11, g7, g21, hVs0, w2]
      refine chkW ca (fun hz => ?_) (fun hz => ?_)
      rotate_left
      · simp -dsimp
        rw [thenE_ne hz] at hinv
        exact endV0 _ _ _ hinv hz
      rw [hz, thenE_zero] at hinv
      simp -dsimp [g0, g2, g9, g10, g11, g7, g21, hVs0, w2]
      refine chkW ce (fun hz => ?_) (fun hz => ?_)
      rotate_left
      · simp -dsimp
        rw [thenE_ne hz] at hinv
        exact endV0 _ _ _ hinv hz
      rw [hz, thenE_zero] at hinv
      simp -dsimp [g0, g2, g9, g10, g11, g7, g21, hVs0, w2]
      refine recur0 s.body es' n _ _ _ (by omega) hn' (by omega) htk (fun esA hzesA hnesA htkesA hlesA => ?_) (fun es5 n5 e5 he5 hz5 => ?_)
      rotate_left
      · subst he5
        simp -dsimp
        rw [thenE_ne hz5] at hinv
        exact endV0 _ _ _ hinv hz5
      rw [hzesA, thenE_zero] at hinv
      simp -dsimp [g0, g2, g9, g10, g11, g7, g21, hVs0, w2]
      refine recur0 s.els esA n _ _ _ (by omega) hnesA (by omega) htkesA (fun esB hzesB hnesB htkesB hlesB => ?_) (fun es5 n5 e5 he5 hz5 => ?_)
      rotate_left
      · subst he5
        simp -dsimp
        rw [thenE_ne hz5] at hinv
        exact endV0 _ _ _ hinv hz5
      rw [hzesB, thenE_zero] at hinv
      simp -dsimp [g0, g2, g9, g10, g11, g7, g21, hVs0, w2]
      exact fin0 _ _ hinv hnesB htkesB (by omega)
    · rw [hk1] at g21
      rw [if_neg (by omega), if_neg (by omega), if_pos (by omega), thenE_assoc, thenE_assoc] at hinv
      refine awp_all (fun d => d == 84 || d == 129) (fun i => if i = 22 then some [(0, []), (1, []), (2, []), (3, []), (4, []), (5, []), (6, []), (7, []), (8, []), (9, []), (10, []), (11, [1, 2, 3, 4, 6, 7, 8, 9, 10]), (12, [])] else none) (by kernel_rfl) ?_
      have ce := expr_ok tv ta _ s.e deep (Nat.le_refl _) (by omega) (by omega) (hVA0 es' n)
      simp only [Ex.cells_eq] at ce
      simp -dsimp [g0, g2, g9, g10, g11, g7, g21, hVs0]
      refine chkW ce (fun hz => ?_) (fun hz => ?_)
      rotate_left
      · simp -dsimp
        rw [thenE_ne hz] at hinv
        exact endV0 _ _ _ hinv hz
      rw [hz, thenE_zero] at hinv
      simp -dsimp [g0, g2, g9, g10, g11, g7, g21, hVs0, w2]
      refine recur0 s.body es' n _ _ _ (by omega) hn' (by omega) htk (fun esA hzesA hnesA htkesA hlesA => ?_) (fun es5 n5 e5 he5 hz5 => ?_)
      rotate_left
      · subst he5
        simp -dsimp
        rw [thenE_ne hz5] at hinv
        exact endV0 _ _ _ hinv hz5
      rw [hzesA, thenE_zero] at hinv
      simp -dsimp [g0, g2, g9, g10, g11, g7, g21, hVs0, w2]
      refine recur0 s.els esA n _ _ _ (by omega) hnesA (by omega) htkesA (fun esB hzesB hnesB htkesB hlesB => ?_) (fun es5 n5 e5 he5 hz5 => ?_)
      rotate_left
      · subst he5
        simp -dsimp
        rw [thenE_ne hz5] at hinv
        exact endV0 _ _ _ hinv hz5
      rw [hzesB, thenE_zero] at hinv
      simp -dsimp [g0, g2, g9, g10, g11, g7, g21, hVs0, w2]
      exact fin0 _ _ hinv hnesB htkesB (by omega)
    · rw [hk1] at g21
      rw [if_neg (by omega), if_neg (by omega), if_pos (by omega), thenE_assoc, thenE_assoc] at hinv
      refine awp_all (fun d => d == 84 || d == 129) (fun i => if i = 22 then some [(0, []), (1, []), (2, []), (3, []), (4, []), (5, []), (6, []), (7, []), (8, []), (9, []), (10, []), (11, [1, 2, 3, 4, 6, 7, 8, 9, 10]), (12, [])] else none) (by kernel_rfl) ?_
      have ce := expr_ok tv ta _ s.e deep (Nat.le_refl _) (by omega) (by omega) (hVA0 es' n)
      simp only [Ex.cells_eq] at ce
      simp -dsimp [g0, g2, g9, g10, g11, g7, g21, hVs0]
      refine chkW ce (fun hz => ?_) (fun hz => ?_)
      rotate_left
      · simp -dsimp
        rw [thenE_ne hz] at hinv
        exact endV0 _ _ _ hinv hz
      rw [hz, thenE_zero] at hinv
      simp -dsimp [g0, g2, g9, g10, g11, g7, g21, hVs0, w2]
      refine recur0 s.body es' n _ _ _ (by omega) hn' (by omega) htk (fun esA hzesA hnesA htkesA hlesA => ?_) (fun es5 n5 e5 he5 hz5 => ?_)
      rotate_left
      · subst he5
        simp -dsimp
        rw [thenE_ne hz5] at hinv
        exact endV0 _ _ _ hinv hz5
      rw [hzesA, thenE_zero] at hinv
      simp -dsimp [g0, g2, g9, g10, g11, g7, g21, hVs0, w2]
      refine recur0 s.els esA n _ _ _ (by omega) hnesA (by omega) htkesA (fun esB hzesB hnesB htkesB hlesB => ?_) (fun es5 n5 e5 he5 hz5 => ?_)
      rotate_left
      · subst he5
        simp -dsimp
        rw [thenE_ne hz5] at hinv
        exact endV0 _ _ _ hinv hz5
      rw [hzesB, thenE_zero] at hinv
      simp -dsimp [g0, g2, g9, g10, g11, g7, g21, hVs0, w2]
      exact fin0 _ _ hinv hnesB htkesB (by omega)
    · rw [hk1] at g21
      rw [if_neg (by omega), if_neg (by omega), if_neg (by omega), if_pos hk1, thenE_assoc, thenE_assoc, thenE_assoc, thenE_assoc] at hinv
      have hVb0 : ∀ es2 n2, (V es2 n2)[a]? = some (.box 192 [Rg.sl p.regions, Fc.sl p.funcs, I k, .hm kv, .hm ka, keepV r es2 n2, St.sl all]) := fun es2 n2 => (hVA0 es2 n2).box
      have hVb : ∀ es2 n2 L2, (V es2 n2 ++ L2)[a]? = some (.box 192 [Rg.sl p.regions, Fc.sl p.funcs, I k, .hm kv, .hm ka, keepV r es2 n2, St.sl all]) := fun es2 n2 L2 => (hVA es2 n2 L2).box
      have ckp := fun M h => keep_has es' n hn' s.name (by omega) r M h
      have hVr0 : ∀ es2 n2, (V es2 n2)[r]? = some (keepB es2) := fun es2 n2 => by simpa using hVr es2 n2 []
      refine awp_all (fun d => d == 84 || d == 129) (fun i => if i = 22 then some [(0, []), (1, []), (2, []), (3, []), (4, []), (5, []), (6, []), (7, []), (8, []), (9, []), (10, []), (11, [1, 2, 3, 4, 6, 7, 8, 9, 10]), (12, [])] else none) (by kernel_rfl) ?_
      simp -dsimp [g0, g2, g9, g10, g11, g7, g21, hVs0]
      refine chkW (word_ok s.name (hVA0 es' n)) (fun hz => ?_) (fun hz => ?_)
      rotate_left
      · simp -dsimp
        rw [thenE_ne hz] at hinv
        exact endV0 _ _ _ hinv hz
      rw [hz, thenE_zero] at hinv
      simp -dsimp [g0, g2, g9, g10, g11, g7, g21, hVs0, hVb0]
      refine callDW_intro (ckp _ (hVr0 _ _)) ?_
      rw [htk]
      simp -dsimp [g0, g2, g9, g10, g11, g7, g21, hVs0, hVb0]
      refine mustW_B (fun hb => ?_) (fun hb => ?_)
      rotate_left
      · simp -dsimp
        rw [hb] at hinv
        simp only [Bool.not_true, mustE_false] at hinv
        rw [thenE_ne (by decide)] at hinv
        exact endV0 2 _ _ hinv (by decide)
      rw [hb] at hinv
      simp only [Bool.not_false, mustE_true, thenE_zero] at hinv
      simp -dsimp [g0, g2, g9, g10, g11, g7, g21, hVs0, hVb0, hVs, hVb, List.getElem?_eq_getElem, hk, ← hF]
      refine guardVW_introTD (fun hlo => ?_) (fun hlo => ?_)
      · simp -dsimp [g0, g2, g9, g10, g11, g7, g21, hVs0, hVb0, hVs, hVb, hlo]
        refine guardVW_introTD (fun hhi => ?_) (fun hhi => ?_)
        · simp -dsimp [g0, g2, g9, g10, g11, g7, g21, hVs0, hVb0, hVs, hVb, hlo, hhi]
          refine acallsW_det (str_contains F.rets s.name hrl _) ?_
          simp -dsimp [g0, g2, g9, g10, g11, g7, g21, hVs0, hVb0, hVs, hVb, hlo, hhi]
          refine mustW_B (fun hb2 => ?_) (fun hb2 => ?_)
          rotate_left
          · simp -dsimp
            rw [hb2] at hinv
            simp only [Bool.not_true, Bool.and_false, mustE_false] at hinv
            rw [thenE_ne (by decide)] at hinv
            exact endV 2 _ _ _ hinv (by decide)
          rw [hb2, decide_eq_true hlo, decide_eq_true hhi] at hinv
          simp only [Bool.not_false, Bool.and_true, mustE_true, thenE_zero] at hinv
          simp -dsimp [g0, g2, g9, g10, g11, g7, g21, hVs0, hVb0, hVs, hVb]
          have ckv := var_containsF F.params (fun v => decide (v.name = s.name)) 185 [.bp (H.length + L.length) 0] (by simp) (by omega) (V es' n ++ [.box 56 F.cells]) (fun x _ => named_var_ok x s (H.length + L.length) _ (by simpa using hVs es' n [.box 56 F.cells]))
          simp only [Fc.cells] at ckv
          refine acallsW_det ckv ?_
          simp -dsimp [g0, g2, g9, g10, g11, g7, g21, hVs0, hVb0, hVs, hVb]
          refine mustW_B (fun hb3 => ?_) (fun hb3 => ?_)
          rotate_left
          · simp -dsimp
            rw [hb3] at hinv
            simp only [Bool.not_true, mustE_false] at hinv
            rw [thenE_ne (by decide)] at hinv
            exact endV 2 _ _ _ hinv (by decide)
          rw [hb3] at hinv
          simp only [Bool.not_false, mustE_true, thenE_zero] at hinv
          obtain ⟨L4, hL4⟩ : ∃ L4, L4 = [Blk.box 56 F.cells] := ⟨_, rfl⟩
          simp only [Fc.cells] at hL4
          simp -dsimp [g0, g2, g9, g10, g11, g7, g21, hVs0, hVb0, hVs, hVb]
          rw [← hL4]
          refine appendVW_keep (hVr _ _ _) hn' rfl rfl (by decide) (by omega) ?_
          obtain ⟨es2, hes2⟩ : ∃ es2, es2 = es'.take n ++ s.name :: es'.drop (n + 1) := ⟨_, rfl⟩
          rw [← hes2]
          have h2ne : es2 ≠ [] := by rw [hes2]; simp
          have hVsa : ((V es' n ++ L4).set r (keepB es2))[a]? = some (.box 192 [Rg.sl p.regions, Fc.sl p.funcs, I k, .hm kv, .hm ka, keepV r es' n, St.sl all]) := by rw [List.getElem?_set_ne (Ne.symm nar)]; exact hVb _ _ _
          have hVsw : ((V es' n ++ L4).set r (keepB es2)).set a (.box 192 [Rg.sl p.regions, Fc.sl p.funcs, I k, .hm kv, .hm ka, .hs r 0 (n + 1) es2.length, St.sl all]) = V es2 (n + 1) ++ L4 := by
            have := hVset es' n es2 (n + 1) L4
            rw [keepV, if_neg h2ne] at this
            exact this
          have hk2 : keepV r es2 (n + 1) = .hs r 0 (n + 1) es2.length := if_neg h2ne
          simp -dsimp [g0, g2, g9, g10, g11, g7, g21, hVs0, hVb0, hVs, hVb, hVsa, hVsw, w2, hk2]
          have hl2 : es2.length ≤ es'.length + 1 := by rw [hes2]; simp; omega
          have hl2n : n + 1 ≤ es2.length := by rw [hes2]; simp; omega
          have ht2 : es2.take (n + 1) = es.take n ++ [s.name] := by rw [hes2, ← htk, List.take_append]; simp [Nat.min_eq_left hn', List.take_take]
          have ht2n : es2.take n = es.take n := by rw [hes2, ← htk, List.take_append]; simp [Nat.min_eq_left hn', List.take_take]
          refine recur s.body es2 (n + 1) L4 _ _ _ (by omega) hl2n (by omega) ht2 (fun es3 hz3 hn3 htk3 hl3 => ?_) (fun es5 n5 e5 he5 hz5 => ?_)
          rotate_left
          · subst he5
            simp -dsimp
            rw [thenE_ne hz5] at hinv
            exact endV _ _ _ _ hinv hz5
          rw [hz3, thenE_zero] at hinv
          have h3ne : es3 ≠ [] := fun h => by subst h; simp at hn3
          have hk3 : keepV r es3 (n + 1) = .hs r 0 (n + 1) es3.length := if_neg h3ne
          have hk3b : (V es3 (n + 1) ++ L4)[r]? = some (.row 9 1 (es3.map fun x => [St x])) := by rw [hVr, keepB, ownB, if_neg (by simpa using h3ne)]
          have hb3a := hVb es3 (n + 1) L4
          rw [hk3] at hb3a
          have w3 : IntKind.i64.wrap (n : Int) = (n : Int) := wrapI (by omega) (by omega)
          have w4 : (n : Int) ≤ (n : Int) + 1 := by omega
          have hVend : (V es3 (n + 1) ++ L4).set a (.box 192 [Rg.sl p.regions, Fc.sl p.funcs, I k, .hm kv, .hm ka, .hs r 0 n es3.length, St.sl all]) = V es3 n ++ L4 := by
            have := hVset2 es3 (n + 1) n L4
            rw [keepV, if_neg h3ne] at this
            exact this
          simp -dsimp [g0, g2, g9, g10, g11, g7, g21, hb3a, hk3b, w3, w4, hVend]
          have hec := Ex.count_eq s.e
          exact fin _ _ _ hinv (by omega) (by rw [← ht2n]; have h5 := congrArg (List.take n) (htk3.trans ht2.symm); simpa [List.take_take, Nat.min_eq_left] using h5) (by omega)
        · simp -dsimp [g0, g2, g9, g10, g11, g7, g21, hVs0, hVb0, hVs, hVb, hlo, hhi]
          refine mustW_f ?_
          simp -dsimp
          rw [decide_eq_false hhi] at hinv
          simp only [Bool.false_and, Bool.and_false, mustE_false] at hinv
          rw [thenE_ne (by decide)] at hinv
          exact endV 2 _ _ _ hinv (by decide)
      · simp -dsimp [g0, g2, g9, g10, g11, g7, g21, hVs0, hVb0, hVs, hVb, hlo]
        refine mustW_f ?_
        simp -dsimp
        rw [decide_eq_false hlo] at hinv
        simp only [Bool.false_and, mustE_false] at hinv
        rw [thenE_ne (by decide)] at hinv
        exact endV 2 _ _ _ hinv (by decide)
    · rw [hk1] at g21
      rw [if_neg (by omega), if_neg (by omega), if_neg (by omega), if_neg (by omega)] at hinv
      refine awp_all (fun d => d == 84 || d == 129) (fun i => if i = 22 then some [(0, []), (1, []), (2, []), (3, []), (4, []), (5, []), (6, []), (7, []), (8, []), (9, []), (10, []), (11, [1, 2, 3, 4, 6, 7, 8, 9, 10]), (12, [])] else none) (by kernel_rfl) ?_
      have cc := call_ok s deep (by omega) hde (hVA0 es' n) hall hp (by omega) (by omega)
      simp only [Sm.cells_eq] at cc
      simp -dsimp [g0, g2, g9, g10, g11, g7, g21, hVs0]
      refine chkW cc (fun hz => ?_) (fun hz => ?_)
      rotate_left
      · simp -dsimp
        rw [thenE_ne hz] at hinv
        exact endV0 _ _ _ hinv hz
      rw [hz, thenE_zero] at hinv
      simp -dsimp [g0, g2, g9, g10, g11, g7, g21, hVs0, w2]
      exact fin0 _ _ hinv hn' htk (by omega)
end
end Go.Proofs
