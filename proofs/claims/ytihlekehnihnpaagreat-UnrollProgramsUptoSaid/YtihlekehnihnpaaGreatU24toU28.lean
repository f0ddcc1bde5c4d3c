/- What is laid out has no loops of rounds. -/
import Derived.Test.YtihlekehnihnpaaGreatFwZtoU19
import Derived.Test.YtihlekehnihnpaaGreatU21toU22
set_option linter.unusedVariables false
set_option linter.unusedSimpArgs false
set_option maxHeartbeats 4000000
set_option maxRecDepth 100000
namespace Go.Proofs
open Go.Mu
mutual
def Sm.num2 : Sm → Nat
  | .mk _ _ _ _ _ _ _ _ b el => 1 + smsNum2 b + smsNum2 el
def smsNum2 : List Sm → Nat
  | [] => 0
  | s :: l => s.num2 + smsNum2 l
end
structure LaidOk (l : List Sm) (left : Int) (b : List Sm) (l1 : Int) : Prop where
  nofor : smsUses 5 b = false
  num : (smsNum2 b : Int) + l1 = left
  nocall : smsUses 6 l = false → smsUses 6 b = false
  high : smsHigh b ≤ smsHigh l
  words : smsWordsOk l = true → smsWordsOk b = true
end Go.Proofs
namespace Go.Proofs
open Go.Mu
abbrev L2 := List Sm × List Tm
section
variable (rec : List Sm → L2)
def rroundGo (nm : ByteArray) (lo : Int) (body : List Sm) : Nat → Nat → List Sm × List (List Tm)
  | 0, n => ([], [])
  | c + 1, n => ((rec (smsPut nm (lo + n) body)).1 ++ (rroundGo nm lo body c (n + 1)).1, (rec (smsPut nm (lo + n) body)).2 :: (rroundGo nm lo body c (n + 1)).2)
def rlayGo : List Sm → L2
  | [] => ([], [])
  | s :: l => if s.kind = 5 then ((rroundGo rec s.name s.low s.body (s.high - s.low).toNat 0).1 ++ (rlayGo l).1, .mk 6 [] false (rroundGo rec s.name s.low s.body (s.high - s.low).toNat 0).2 :: (rlayGo l).2)
    else if s.kind = 3 then (s.withB (rec s.body).1 (rec s.els).1 :: (rlayGo l).1, .mk 3 [] false [(rec s.body).2, (rec s.els).2] :: (rlayGo l).2)
    else if s.kind = 4 then (s.withB (rec s.body).1 s.els :: (rlayGo l).1, .mk 5 [] false [(rec s.body).2] :: (rlayGo l).2)
    else (s :: (rlayGo l).1, .mk 1 [] false [] :: (rlayGo l).2)
end
def rlayM : Nat → List Sm → L2
  | 0 => fun _ => ([], [])
  | d + 1 => rlayGo (rlayM d)
def RecS (rec : List Sm → Int → LR) (rrec : List Sm → L2) : Prop := ∀ l left b t l1, smsShapes l = true → rec l left = some (b, t, l1) → rrec l = (b, t)
theorem shapes_put (nm : ByteArray) (n : Int) (m : Nat) : ∀ l : List Sm, smsCount l ≤ m → smsShapes l = true → smsShapes (smsPut nm n l) = true := by
  induction m with
  | zero => intro l hl _; have := sms_len l; obtain rfl : l = [] := List.eq_nil_of_length_eq_zero (by omega); rfl
  | succ m ih =>
    intro l
    induction l with
    | nil => intro _ _; rfl
    | cons s l ihl =>
      intro h hs
      simp only [smsCount] at h
      have hc := Sm.count_eq s
      rw [smsShapes, Bool.and_eq_true] at hs
      rw [smsPut, smsShapes, ihl (by omega) hs.2, Bool.and_true, Sm.put_eq]
      split
      · exact hs.1
      · have h1 := hs.1
        rw [Sm.shapes_eq] at h1
        simp only [Bool.and_eq_true] at h1
        obtain ⟨⟨⟨h1, h2⟩, h3⟩, h4⟩ := h1
        have e1 : (smsPut nm n s.body).isEmpty = s.body.isEmpty := by rw [smsPut_map]; simp
        have e2 : (smsPut nm n s.els).isEmpty = s.els.isEmpty := by rw [smsPut_map]; simp
        rw [Sm.shapes, ih s.body (by omega) h3, ih s.els (by omega) h4, e1, e2, h1, h2]
        rfl
theorem round_same {rec : List Sm → Int → LR} {rrec : List Sm → L2} (hr : RecS rec rrec) (nm : ByteArray) (lo : Int) (body : List Sm) (hs : smsShapes body = true) (c : Nat) : ∀ n left bs ts l1, roundGo rec nm lo body c n left = some (bs, ts, l1) → rroundGo rrec nm lo body c n = (bs, ts) := by
  induction c with
  | zero => intro n left bs ts l1 h; simp only [roundGo, Option.some.injEq, Prod.mk.injEq] at h; obtain ⟨rfl, rfl, rfl⟩ := h; rfl
  | succ c ih =>
    intro n left bs ts l1 h
    rw [roundGo] at h
    split at h
    · cases h
    · rename_i b t l2 h1
      obtain ⟨⟨b3, t3, l3⟩, h3, h4⟩ := Option.map_eq_some_iff.1 h
      simp only [Prod.mk.injEq] at h4
      obtain ⟨rfl, rfl, rfl⟩ := h4
      rw [rroundGo, hr _ _ _ _ _ (shapes_put nm _ _ body (Nat.le_refl _) hs) h1, ih _ _ _ _ _ h3]
theorem layGo_same {rec : List Sm → Int → LR} {rrec : List Sm → L2} (hr : RecS rec rrec) (h0 : ∀ left b t l1, rec [] left = some (b, t, l1) → b = []) : RecS (layGo rec) (rlayGo rrec) := by
  intro l
  induction l with
  | nil => intro left b t l1 _ h; simp only [layGo, Option.some.injEq, Prod.mk.injEq] at h; obtain ⟨rfl, rfl, rfl⟩ := h; rfl
  | cons s l ih =>
    intro left b t l1 hs h
    rw [smsShapes, Bool.and_eq_true, Sm.shapes_eq] at hs
    obtain ⟨hs1, hs2⟩ := hs
    simp only [Bool.and_eq_true] at hs1
    obtain ⟨⟨⟨q1, q2⟩, q3⟩, q4⟩ := hs1
    rw [layGo] at h
    rw [rlayGo]
    split at h
    · rename_i hk
      rw [if_pos hk]
      split at h
      · cases h
      · rename_i bs ts l2 h1
        obtain ⟨⟨b3, t3, l3⟩, h3, h4⟩ := Option.map_eq_some_iff.1 h
        simp only [Prod.mk.injEq] at h4
        obtain ⟨rfl, rfl, rfl⟩ := h4
        rw [round_same hr _ _ _ q3 _ _ _ _ _ _ h1, ih _ _ _ _ hs2 h3]
    · rename_i hk
      rw [if_neg hk]
      split at h
      · cases h
      · rename_i hl
        split at h
        · cases h
        · rename_i b1 t1 l2 h1
          split at h
          · cases h
          · rename_i b2 t2 l3 h2
            obtain ⟨⟨b3, t3, l4⟩, h3, h4⟩ := Option.map_eq_some_iff.1 h
            simp only [Prod.mk.injEq] at h4
            obtain ⟨rfl, rfl, rfl⟩ := h4
            have e3 := ih _ _ _ _ hs2 h3
            have r1 := hr _ _ _ _ _ q3 h1
            have r2 := hr _ _ _ _ _ q4 h2
            by_cases k3 : s.kind = 3
            · rw [if_pos k3, r1, r2, e3, termOf, if_pos k3]
            · have he : s.els = [] := by simpa [k3] using q2
              have hb2 : b2 = [] := by rw [he] at h2; exact h0 _ _ _ _ h2
              by_cases k4 : s.kind = 4
              · rw [if_neg k3, if_pos k4, r1, e3, termOf, if_neg k3, if_pos k4, he, hb2]
              · have hb : s.body = [] := by simpa [k3, k4, hk] using q1
                have hb1 : b1 = [] := by rw [hb] at h1; exact h0 _ _ _ _ h1
                have hw : s.withB [] [] = s := by cases s; simp only [Sm.body, Sm.els] at hb he; subst hb he; rfl
                rw [if_neg k3, if_neg k4, e3, termOf, if_neg k3, if_neg k4, hb1, hb2, hw]
theorem layM_same (d : Nat) : RecS (layM d) (rlayM d) := by
  induction d with
  | zero => intro l left b t l1 _ h; cases h
  | succ d ih =>
    refine layGo_same ih (fun left b t l1 h => ?_)
    cases d with
    | zero => cases h
    | succ d => rw [layM, layGo] at h; simp only [Option.some.injEq, Prod.mk.injEq] at h; exact h.1.symm
end Go.Proofs
