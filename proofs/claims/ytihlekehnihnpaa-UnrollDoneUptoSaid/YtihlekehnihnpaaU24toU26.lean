/- What is laid out has no loops of rounds. -/
import Derived.Test.YtihlekehnihnpaaFwZtoU19
import Derived.Test.YtihlekehnihnpaaU25
import Derived.Test.YtihlekehnihnpaaG28toUA
set_option linter.unusedVariables false
set_option linter.unusedSimpArgs false
set_option maxHeartbeats 4000000
set_option maxRecDepth 100000
namespace Go.Proofs
open Go.Mu
mutual
def Sm.num2 : Sm → Nat
  | .mk _ _ _ _ _ _ _ _ b el => 1 + smsNum2 b + smsNum2 el
def smsNum2 : List Sm → Nat
  | [] => 0
  | s :: l => s.num2 + smsNum2 l
end
theorem Sm.num2_eq (s : Sm) : s.num2 = 1 + smsNum2 s.body + smsNum2 s.els := by cases s; rw [Sm.num2]; rfl
theorem smsNum2_app (a b : List Sm) : smsNum2 (a ++ b) = smsNum2 a + smsNum2 b := by
  induction a with
  | nil => simp [smsNum2]
  | cons x a ih => simp only [List.cons_append, smsNum2, ih]; omega
theorem smsUses_app (k : Int) (a b : List Sm) : smsUses k (a ++ b) = (smsUses k a || smsUses k b) := by
  induction a with
  | nil => simp [smsUses]
  | cons x a ih => simp only [List.cons_append, smsUses, ih, Bool.or_assoc]
theorem smsHigh_app (a b : List Sm) : smsHigh (a ++ b) = max (smsHigh a) (smsHigh b) := by
  induction a with
  | nil => simp [smsHigh]
  | cons x a ih => simp only [List.cons_append, smsHigh, ih]; omega
theorem smsWords_app (a b : List Sm) : smsWordsOk (a ++ b) = (smsWordsOk a && smsWordsOk b) := by
  induction a with
  | nil => simp [smsWordsOk]
  | cons x a ih => simp only [List.cons_append, smsWordsOk, ih, Bool.and_assoc]
theorem put_same2 (k : Int) (nm : ByteArray) (n : Int) (m : Nat) : ∀ l : List Sm, smsCount l ≤ m → smsUses k (smsPut nm n l) = smsUses k l ∧ smsWordsOk (smsPut nm n l) = smsWordsOk l := by
  induction m with
  | zero => intro l hl; have := sms_len l; obtain rfl : l = [] := List.eq_nil_of_length_eq_zero (by omega); exact ⟨rfl, rfl⟩
  | succ m ih =>
    intro l
    induction l with
    | nil => intro _; exact ⟨rfl, rfl⟩
    | cons s l ihl =>
      intro h
      simp only [smsCount] at h
      have hc := Sm.count_eq s
      obtain ⟨h1, h2⟩ := ihl (by omega)
      rw [smsPut, smsUses, smsWordsOk, h1, h2, smsUses, smsWordsOk, Sm.put_eq]
      split
      · exact ⟨rfl, rfl⟩
      · obtain ⟨a1, a2⟩ := ih s.body (by omega)
        obtain ⟨b1, b2⟩ := ih s.els (by omega)
        rw [Sm.uses, Sm.wordsOk, a1, a2, b1, b2, ← Sm.uses_eq, ← Sm.wordsOk_eq]
        exact ⟨rfl, rfl⟩
structure LaidOk (l : List Sm) (left : Int) (b : List Sm) (l1 : Int) : Prop where
  nofor : smsUses 5 b = false
  num : (smsNum2 b : Int) + l1 = left
  nocall : smsUses 6 l = false → smsUses 6 b = false
  high : smsHigh b ≤ smsHigh l
  words : smsWordsOk l = true → smsWordsOk b = true
def RecL (rec : List Sm → Int → LR) : Prop := ∀ l left b t l1, rec l left = some (b, t, l1) → LaidOk l left b l1
theorem round_laid {rec : List Sm → Int → LR} (hr : RecL rec) (nm : ByteArray) (lo : Int) (body : List Sm) (c : Nat) : ∀ n left bs ts l1, roundGo rec nm lo body c n left = some (bs, ts, l1) → LaidOk body left bs l1 := by
  induction c with
  | zero => intro n left bs ts l1 h; simp only [roundGo, Option.some.injEq, Prod.mk.injEq] at h; obtain ⟨rfl, rfl, rfl⟩ := h; exact ⟨rfl, by simp [smsNum2], fun _ => rfl, by simp [smsHigh], fun _ => rfl⟩
  | succ c ih =>
    intro n left bs ts l1 h
    rw [roundGo] at h
    split at h
    · cases h
    · rename_i b t l2 h1
      obtain ⟨⟨b3, t3, l3⟩, h3, h4⟩ := Option.map_eq_some_iff.1 h
      simp only [Prod.mk.injEq] at h4
      obtain ⟨rfl, rfl, rfl⟩ := h4
      have a := hr _ _ _ _ _ h1
      have b' := ih _ _ _ _ _ h3
      have p6 := (put_same2 6 nm (lo + n) _ body (Nat.le_refl _)).1
      have pw := (put_same2 6 nm (lo + n) _ body (Nat.le_refl _)).2
      refine ⟨by rw [smsUses_app, a.nofor, b'.nofor]; rfl, ?_, fun h => ?_, ?_, fun h => ?_⟩
      · rw [smsNum2_app]; have := a.num; have := b'.num; push_cast; omega
      · rw [smsUses_app, a.nocall (by rw [p6]; exact h), b'.nocall h]; rfl
      · rw [smsHigh_app]; have := a.high; rw [put_high] at this; have := b'.high; omega
      · rw [smsWords_app, a.words (by rw [pw]; exact h), b'.words h]; rfl
theorem layGo_laid {rec : List Sm → Int → LR} (hr : RecL rec) : RecL (layGo rec) := by
  intro l
  induction l with
  | nil => intro left b t l1 h; simp only [layGo, Option.some.injEq, Prod.mk.injEq] at h; obtain ⟨rfl, rfl, rfl⟩ := h; exact ⟨rfl, by simp [smsNum2], fun _ => rfl, by simp [smsHigh], fun _ => rfl⟩
  | cons s l ih =>
    intro left b t l1 h
    rw [layGo] at h
    split at h
    · split at h
      · cases h
      · rename_i bs ts l2 h1
        obtain ⟨⟨b3, t3, l3⟩, h3, h4⟩ := Option.map_eq_some_iff.1 h
        simp only [Prod.mk.injEq] at h4
        obtain ⟨rfl, rfl, rfl⟩ := h4
        have a := round_laid hr _ _ _ _ _ _ _ _ _ h1
        have b' := ih _ _ _ _ h3
        refine ⟨by rw [smsUses_app, a.nofor, b'.nofor]; rfl, ?_, fun h => ?_, ?_, fun h => ?_⟩
        · rw [smsNum2_app]; have := a.num; have := b'.num; push_cast; omega
        · rw [smsUses, Sm.uses_eq] at h
          simp only [Bool.or_eq_false_iff] at h
          rw [smsUses_app, a.nocall h.1.2.1, b'.nocall h.2]; rfl
        · rw [smsHigh_app, smsHigh, Sm.high2_eq]; have := a.high; have := b'.high; omega
        · rw [smsWordsOk, Sm.wordsOk_eq] at h
          simp only [Bool.and_eq_true] at h
          rw [smsWords_app, a.words h.1.1.2, b'.words h.2]; rfl
    · rename_i hk
      split at h
      · cases h
      · rename_i hl
        split at h
        · cases h
        · rename_i b1 t1 l2 h1
          split at h
          · cases h
          · rename_i b2 t2 l3 h2
            obtain ⟨⟨b3, t3, l4⟩, h3, h4⟩ := Option.map_eq_some_iff.1 h
            simp only [Prod.mk.injEq] at h4
            obtain ⟨rfl, rfl, rfl⟩ := h4
            have a := hr _ _ _ _ _ h1
            have a2 := hr _ _ _ _ _ h2
            have b' := ih _ _ _ _ h3
            have hkb : (s.kind == 5) = false := by simpa using hk
            refine ⟨?_, ?_, fun h => ?_, ?_, fun h => ?_⟩
            · rw [smsUses, Sm.uses_eq, b'.nofor]
              show ((s.kind == 5 || (smsUses 5 b1 || smsUses 5 b2)) || false) = false
              rw [hkb, a.nofor, a2.nofor]; rfl
            · rw [smsNum2, Sm.num2_eq]
              have := a.num; have := a2.num; have := b'.num
              show (((1 + smsNum2 b1 + smsNum2 b2) + smsNum2 b3 : Nat) : Int) + l4 = left
              push_cast; omega
            · rw [smsUses, Sm.uses_eq] at h
              simp only [Bool.or_eq_false_iff] at h
              rw [smsUses, Sm.uses_eq, b'.nocall h.2]
              show ((s.kind == 6 || (smsUses 6 b1 || smsUses 6 b2)) || false) = false
              rw [h.1.1, a.nocall h.1.2.1, a2.nocall h.1.2.2]; rfl
            · rw [smsHigh, Sm.high2_eq, smsHigh, Sm.high2_eq]
              have := a.high; have := a2.high; have := b'.high
              show max (1 + max (smsHigh b1) (smsHigh b2)) (smsHigh b3) ≤ _
              omega
            · rw [smsWordsOk, Sm.wordsOk_eq] at h
              simp only [Bool.and_eq_true] at h
              rw [smsWordsOk, Sm.wordsOk_eq, b'.words h.2]
              show ((decide (0 ≤ s.low) && decide (0 ≤ s.high) && smsWordsOk b1 && smsWordsOk b2) && true) = true
              rw [h.1.1.1.1, h.1.1.1.2, a.words h.1.1.2, a2.words h.1.2]; rfl
theorem layM_laid (d : Nat) : RecL (layM d) := by
  induction d with
  | zero => intro l left b t l1 h; cases h
  | succ d ih => exact layGo_laid ih
theorem lay_nofor (d : Nat) : ∀ (l : List Sm) (left : Int), smsHigh l < d → smsUses 5 l = false → (smsNum2 l : Int) ≤ left → ∃ t, layM d l left = some (l, t, left - smsNum2 l) := by
  induction d with
  | zero => intro l left h; omega
  | succ d ih =>
    intro l
    induction l with
    | nil => intro left _ _ h; exact ⟨[], by rw [layM, layGo, smsNum2]; simp⟩
    | cons s l ihl =>
      intro left hh hu hn
      rw [smsHigh, Sm.high2_eq] at hh
      rw [smsUses, Sm.uses_eq] at hu
      simp only [Bool.or_eq_false_iff] at hu
      rw [smsNum2, Sm.num2_eq] at hn
      push_cast at hn
      have hk : ¬ s.kind = 5 := by have := hu.1.1; simpa using this
      obtain ⟨t1, h1⟩ := ih s.body (left - 1) (by omega) hu.1.2.1 (by omega)
      obtain ⟨t2, h2⟩ := ih s.els (left - 1 - smsNum2 s.body) (by omega) hu.1.2.2 (by omega)
      obtain ⟨t3, h3⟩ := ihl (left - 1 - smsNum2 s.body - smsNum2 s.els) (by omega) hu.2 (by omega)
      refine ⟨termOf s.kind t1 t2 :: t3, ?_⟩
      rw [layM] at h3 ⊢
      rw [layGo, if_neg hk, if_neg (by omega), h1]
      simp only []
      rw [h2]
      simp only []
      rw [h3]
      have hw : s.withB s.body s.els = s := by cases s; rfl
      simp only [Option.map_some, hw, Option.some.injEq, Prod.mk.injEq, true_and]
      rw [smsNum2, Sm.num2_eq]
      push_cast
      omega
theorem rounds_nofor (m : Nat) : ∀ l : List Sm, smsCount l ≤ m → smsUses 5 l = false → smsRounds l = 0 := by
  induction m with
  | zero => intro l hl _; have := sms_len l; obtain rfl : l = [] := List.eq_nil_of_length_eq_zero (by omega); rfl
  | succ m ih =>
    intro l
    induction l with
    | nil => intro _ _; rfl
    | cons s l ihl =>
      intro h hu
      simp only [smsCount] at h
      have hc := Sm.count_eq s
      rw [smsUses, Sm.uses_eq] at hu
      simp only [Bool.or_eq_false_iff] at hu
      have hk : ¬ s.kind = 5 := by have := hu.1.1; simpa using this
      rw [smsRounds, Sm.rounds_eq, if_neg hk, ih s.body (by omega) hu.1.2.1, ih s.els (by omega) hu.1.2.2, ihl (by omega) hu.2]
      decide
end Go.Proofs
namespace Go.Proofs
open Go.Mu
theorem withBody_okL {p : Pg} (hp : p.OkL) (hm : lastF p ∈ p.funcs) {b : List Sm} (hb : smsCount b ≤ 2^36) (hw : smsWordsOk b = true) (ho : smsCount (layE b).1 ≤ 2^36) : (p.withBody b).OkL := by
  refine ⟨⟨withBody_ok2 hp.oku.ok2 hm hb, fun f hf => ?_⟩, ⟨hp.okc.regions, by simp [Pg.withBody], fun f hf => ?_, fun f hf => ?_, fun f hf => ?_, fun f hf => ?_⟩, fun f hf => ?_⟩ <;> obtain rfl := List.mem_singleton.1 hf
  · exact hw
  · exact hp.okc.params (lastF p) hm
  · exact hp.okc.vars (lastF p) hm
  · exact hp.okc.rets (lastF p) hm
  · exact hb
  · exact ho
theorem lay_again {l b : List Sm} {t : List Tm} (h : layE l = (b, t, 0)) : smsUses 5 b = false ∧ (smsUses 6 l = false → smsUses 6 b = false) ∧ (smsWordsOk l = true → smsWordsOk b = true) ∧ ∃ t', layE b = (b, t', 0) ∧ t'.length = b.length := by
  unfold layE at h
  split at h
  · rename_i b' t' l1 hq
    simp only [Prod.mk.injEq, and_true] at h
    obtain ⟨rfl, rfl⟩ := h
    have a := layM_laid _ _ _ _ _ _ hq
    have hb := layM_bnd _ _ _ _ _ _ (by omega) hq
    obtain ⟨t2, h2⟩ := lay_nofor (smsHigh b' + 1) b' 65536 (Nat.lt_succ_self _) a.nofor (by have := a.num; omega)
    have hl := layM_bnd _ _ _ _ _ _ (by omega) h2
    refine ⟨a.nofor, a.nocall, a.words, t2, by unfold layE; rw [h2], hl.2.2⟩
  · simp only [Prod.mk.injEq] at h
    omega
theorem unrollDone_ok (p : Pg) (hp : p.OkA) (H : List Blk) : ACalls Try.prog 5 [.agg p.cells] H (fun e H' => e = .ret (Bo true) ∧ H' = H) := by
  refine acalls_tidy (acalls_of_vc (hn := fun _ => false) (od := fun _ => none) Try.func5 rfl (by kernel_rfl) ?_)
  have cs := fun H => small_ok p hp.ok3.ok 600 H
  have cm := fun H => rmay_ok p hp.ok3 H
  have cf := fun H => rform_ok p hp.ok3.ok.ok.body (fun f hf => by have := hp.okl.okc.vars f hf; omega) hp.ok3.ok.ok.funcs hp.ok3.ok.ok.regions H
  have cu := fun H => unroll_ok p hp.okl H
  simp only [Pg.cells] at cs cu cm cf
  simp -dsimp
  refine acallsW_det (cs _) ?_
  cases smallB p 600
  · simp -dsimp
    refine acallsW_det (known11_ok _) ?_
    simp -dsimp
    exact tidy_same rfl ⟨rfl, rfl⟩
  simp -dsimp
  refine acallsW_det (cm _) ?_
  by_cases hm : mayE p = 0
  rotate_left
  · have hb : (mayE p != 0) = true := by simpa using hm
    simp -dsimp [hb]
    refine acallsW_det (known11_ok _) ?_
    simp -dsimp
    exact tidy_same rfl ⟨rfl, rfl⟩
  simp -dsimp [hm]
  refine acallsW_det (cf _) ?_
  obtain ⟨ca, fo, ar, st, hT⟩ : ∃ a b c d, (⟨a, b, c, d⟩ : Fo) = formT p := ⟨_, _, _, _, rfl⟩
  have hTc : (formT p).calls = ca := by rw [← hT]
  rw [← hT]
  simp only [Fo.cells]
  cases ca
  rotate_left
  · simp -dsimp
    refine acallsW_det (known11_ok _) ?_
    simp -dsimp
    exact tidy_same rfl ⟨rfl, rfl⟩
  have hone := nocalls_one hm hTc
  have hmem : lastF p ∈ p.funcs := by rw [hone]; exact List.mem_singleton.2 rfl
  have h0 : p.funcs[0]? = some (lastF p) := by rw [hone]; rfl
  have hc36 := hp.okl.okc.body _ hmem
  have hsh := (may_shape hm hp.okl.oku.words _ hmem).1
  have cz := fun H => rsize11_ok 3000 (by omega) (by omega) _ (lastF p).body (Nat.lt_succ_self _) hc36 hsh H
  have cr := fun H => rrounds_ok _ (lastF p).body (Nat.lt_succ_self _) hc36 hsh H
  obtain ⟨Z, hZ⟩ : ∃ Z, Z = min (smsSizeI (lastF p).body) (3000 + 1) := ⟨_, rfl⟩
  rw [← hZ] at cz
  clear hZ
  simp -dsimp [h0]
  refine acallsW_det (cz _) ?_
  by_cases hz : (3000 : Int) < Z
  · simp -dsimp [hz]
    refine acallsW_det (known11_ok _) ?_
    simp -dsimp
    exact tidy_same rfl ⟨rfl, rfl⟩
  simp -dsimp [hz, h0]
  refine acallsW_det (cr _) ?_
  by_cases hr : (3000 : Int) < smsRounds (lastF p).body
  · simp -dsimp [hr]
    refine acallsW_det (known11_ok _) ?_
    simp -dsimp
    exact tidy_same rfl ⟨rfl, rfl⟩
  simp -dsimp [hr]
  refine acallsW_det (cu _) ?_
  obtain ⟨q, t, e, hE⟩ : ∃ q t e, (q, t, e) = unrollE p := ⟨_, _, _, rfl⟩
  rw [← hE]
  simp -dsimp
  refine acallsW_det (num11_ok e _) ?_
  by_cases he : e = 0
  rotate_left
  · have hb : (e != 0) = true := by simpa using he
    simp -dsimp [hb]
    refine acallsW_det (known11_ok _) ?_
    simp -dsimp
    exact tidy_same rfl ⟨rfl, rfl⟩
  subst he
  -- what comes of it
  obtain ⟨b, tm, hB, hq, hmq⟩ : ∃ b tm, layE (lastF p).body = (b, tm, 0) ∧ q = p.withBody b ∧ mayE q = 0 := by
    unfold unrollE at hE
    rw [if_pos hm, hTc, if_neg (by decide)] at hE
    split at hE
    · simp only [Prod.mk.injEq] at hE; omega
    · split at hE
      · rename_i h2
        split at hE
        · rename_i h3
          simp only [Prod.mk.injEq] at hE
          exact ⟨(layE (lastF p).body).1, (layE (lastF p).body).2.1, by rw [← h2], hE.1, by rw [hE.1]; exact h3⟩
        · rename_i h3
          simp only [Prod.mk.injEq] at hE
          exact absurd hE.2.2.symm h3
      · rename_i h2
        simp only [Prod.mk.injEq] at hE
        exact absurd hE.2.2.symm h2
  obtain ⟨a5, a6, aw, t', ht', htl⟩ := lay_again hB
  have hbc : smsCount b ≤ 2^36 := by have := hp.okl.out _ hmem; rw [hB] at this; exact this
  have hw := aw (hp.okl.oku.words _ hmem)
  have hqL : q.OkL := by rw [hq]; exact withBody_okL hp.okl hmem hbc hw (by rw [ht']; exact hbc)
  have hqf : q.funcs = [{ lastF p with body := b }] := by rw [hq]; rfl
  have hqla : lastF q = { lastF p with body := b } := by rw [hq]; rfl
  have hqc : (formT q).calls = false := by
    have h6 : smsUses 6 (lastF p).body = false := by
      unfold formT at hTc
      simp only [Bool.or_eq_false_iff] at hTc
      have := hTc.2
      rw [hone, fcsUse, fcsUse, Bool.or_false] at this
      exact this
    unfold formT
    simp [hqf, fcsUse, a6 h6]
  have hq5 : (formT q).fors = false := by
    unfold formT
    simp only [hqf, fcsUse, a5]
    rfl
  have hr0 : smsRounds b = 0 := rounds_nofor _ b (Nat.le_refl _) a5
  have hrq : roundsE q = (0, 0) := by rw [roundsE, if_pos hmq, hqla, hr0]
  have huq : unrollE q = (q, t', 0) := by
    have hwb : q.withBody b = q := by rw [hq]; rfl
    unfold unrollE
    rw [if_pos hmq, hqc, if_neg (by decide), hqla]
    simp only []
    rw [hr0, if_neg (by decide), ht']
    simp only []
    rw [if_pos trivial, hwb, if_pos hmq]
  have dr := fun H => rounds_prog_ok q hqL.oku H
  have du := unroll_of hqL huq
  have ds := same_of hqL
  have df := fun H => rform_ok q hqL.oku.ok2.ok.body (fun f hf => by have := hqL.okc.vars f hf; omega) hqL.oku.ok2.ok.funcs hqL.oku.ok2.ok.regions H
  rw [hrq] at dr
  obtain ⟨ca, fo, ar', st', hT2⟩ : ∃ a b c d, (⟨a, b, c, d⟩ : Fo) = formT q := ⟨_, _, _, _, rfl⟩
  rw [← hT2] at hq5 df
  have hfo : fo = false := hq5
  subst hfo
  simp only [Pg.cells, Fo.cells] at dr du ds df
  clear hq hB hE cu cs cm cf cz cr
  have hq0 : q.funcs[0]? = some { lastF p with body := b } := by rw [hqf]; rfl
  have hql : q.funcs.length = 1 := by rw [hqf]; rfl
  have htl2 : (t'.length : Int) = b.length := by rw [htl]
  simp -dsimp
  refine acallsW_det (dr _) ?_
  simp -dsimp
  refine acallsW_det (du _) ?_
  simp -dsimp [hql]
  refine acallsW_det (num11_ok 0 _) ?_
  simp -dsimp
  refine acallsW_det (num11_ok 0 _) ?_
  have w0 : IntKind.i64.wrap 0 = 0 := by decide
  simp -dsimp [hq0, htl, w0]
  refine acallsW_det (ds _) ?_
  simp -dsimp
  refine acallsW_det (df _) ?_
  simp -dsimp
  refine acallsW_det (known11_ok _) ?_
  simp -dsimp
  exact tidy_same rfl ⟨rfl, rfl⟩
end Go.Proofs
