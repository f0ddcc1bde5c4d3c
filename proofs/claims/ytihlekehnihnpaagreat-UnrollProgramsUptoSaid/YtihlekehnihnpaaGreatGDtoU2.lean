/- Leakage and terms, as data. -/
import Derived.Test.YtihlekehnihnpaaGreatG1toG3
import Derived.Test.YtihlekehnihnpaaGreatFwUtoU1
set_option linter.unusedVariables false
set_option linter.unusedSimpArgs false
set_option maxHeartbeats 4000000
set_option maxRecDepth 100000
namespace Go.Proofs
open Go.Mu
inductive Lk where
  | mk (kind : Int) (items : List Int) (taken : Bool) (subs : List (List Lk))
structure Pk where
  (kind item word : Int)
  stack : Bool
deriving DecidableEq
inductive Tm where
  | mk (kind : Int) (lines : List (List Pk)) (taken : Bool) (subs : List (List Tm))
def Tm.kind : Tm → Int | .mk k _ _ _ => k
def Tm.lines : Tm → List (List Pk) | .mk _ i _ _ => i
def Tm.taken : Tm → Bool | .mk _ _ t _ => t
def Tm.subs : Tm → List (List Tm) | .mk _ _ _ s => s
@[simp] def Pk.cells (p : Pk) : List AV := [I p.kind, I p.item, U p.word, Bo p.stack]
abbrev Pk.sl (l : List Pk) : AV := .vs 4 (l.map Pk.cells)
abbrev Pk.sls (l : List (List Pk)) : AV := .vs 1 (l.map fun a => [Pk.sl a])
mutual
def Tm.cells : Tm → List AV
  | .mk k i t s => [I k, Pk.sls i, Bo t, .vs 1 (tmssCells s)]
def tmsCells : List Tm → List (List AV)
  | [] => []
  | x :: l => x.cells :: tmsCells l
def tmssCells : List (List Tm) → List (List AV)
  | [] => []
  | a :: l => [.vs 4 (tmsCells a)] :: tmssCells l
end
theorem tmsCells_map (l : List Tm) : tmsCells l = l.map Tm.cells := by
  induction l with
  | nil => simp [tmsCells]
  | cons n l ih => simp [tmsCells, ih]
abbrev Tm.sl (l : List Tm) : AV := .vs 4 (l.map Tm.cells)
abbrev Tm.sls (l : List (List Tm)) : AV := .vs 1 (l.map fun a => [Tm.sl a])
theorem tmssCells_map (l : List (List Tm)) : tmssCells l = l.map fun a => [Tm.sl a] := by
  induction l with
  | nil => simp [tmssCells]
  | cons n l ih => simp [tmssCells, ih, tmsCells_map]
@[simp] theorem Tm.cells_eq (x : Tm) : x.cells = [I x.kind, Pk.sls x.lines, Bo x.taken, Tm.sls x.subs] := by
  cases x; simp [Tm.cells, tmssCells_map, Tm.kind, Tm.lines, Tm.taken, Tm.subs]
end Go.Proofs
namespace Go.Proofs
open Go.Mu
def Sm.withB (s : Sm) (b el : List Sm) : Sm := .mk s.kind s.name s.names s.e s.a s.args s.low s.high b el
def termOf (k : Int) (a b : List Tm) : Tm := if k = 3 then .mk 3 [] false [a, b] else if k = 4 then .mk 5 [] false [a] else .mk 1 [] false []
abbrev LR := Option (List Sm × List Tm × Int)
section
variable (rec : List Sm → Int → LR)
def roundGo (nm : ByteArray) (lo : Int) (body : List Sm) : Nat → Nat → Int → Option (List Sm × List (List Tm) × Int)
  | 0, n, left => some ([], [], left)
  | c + 1, n, left => match rec (smsPut nm (lo + n) body) left with
    | none => none
    | some (b, t, l1) => (roundGo nm lo body c (n + 1) l1).map fun r => (b ++ r.1, t :: r.2.1, r.2.2)
def layGo : List Sm → Int → LR
  | [], left => some ([], [], left)
  | s :: l, left => if s.kind = 5 then
      match roundGo rec s.name s.low s.body (s.high - s.low).toNat 0 left with
      | none => none
      | some (bs, ts, l1) => (layGo l l1).map fun r => (bs ++ r.1, .mk 6 [] false ts :: r.2.1, r.2.2)
    else if left - 1 < 0 then none else
      match rec s.body (left - 1) with
      | none => none
      | some (b, ta, l1) => match rec s.els l1 with
        | none => none
        | some (e, tb, l2) => (layGo l l2).map fun r => (s.withB b e :: r.1, termOf s.kind ta tb :: r.2.1, r.2.2)
end
def layM : Nat → List Sm → Int → LR
  | 0 => fun _ _ => none
  | d + 1 => layGo (layM d)
mutual
def Sm.high2 : Sm → Nat
  | .mk _ _ _ _ _ _ _ _ b el => 1 + max (smsHigh b) (smsHigh el)
def smsHigh : List Sm → Nat
  | [] => 0
  | s :: l => max s.high2 (smsHigh l)
end
theorem Sm.high2_eq (s : Sm) : s.high2 = 1 + max (smsHigh s.body) (smsHigh s.els) := by cases s; rw [Sm.high2]; rfl
mutual
def Sm.fors : Sm → Bool
  | .mk k _ _ _ _ _ lo hi b el => (if k = 5 then decide (0 ≤ lo) && decide (lo ≤ hi) && decide (hi ≤ 65536) else true) && smsFors b && smsFors el
def smsFors : List Sm → Bool
  | [] => true
  | s :: l => s.fors && smsFors l
end
theorem Sm.fors_eq (s : Sm) : s.fors = ((if s.kind = 5 then decide (0 ≤ s.low) && decide (s.low ≤ s.high) && decide (s.high ≤ 65536) else true) && smsFors s.body && smsFors s.els) := by cases s; rw [Sm.fors]; rfl
theorem put_same (nm : ByteArray) (n : Int) (m : Nat) : ∀ l : List Sm, smsCount l ≤ m → smsHigh (smsPut nm n l) = smsHigh l ∧ smsFors (smsPut nm n l) = smsFors l := by
  induction m with
  | zero => intro l hl; have := sms_len l; obtain rfl : l = [] := List.eq_nil_of_length_eq_zero (by omega); exact ⟨rfl, rfl⟩
  | succ m ih =>
    intro l
    induction l with
    | nil => intro _; exact ⟨rfl, rfl⟩
    | cons s l ihl =>
      intro h
      simp only [smsCount] at h
      have hc := Sm.count_eq s
      obtain ⟨h1, h2⟩ := ihl (by omega)
      rw [smsPut, smsHigh, smsFors, h1, h2, smsHigh, smsFors, Sm.put_eq]
      split
      · exact ⟨rfl, rfl⟩
      · obtain ⟨a1, a2⟩ := ih s.body (by omega)
        obtain ⟨b1, b2⟩ := ih s.els (by omega)
        rw [Sm.high2, Sm.fors, a1, a2, b1, b2, ← Sm.high2_eq, ← Sm.fors_eq]
        exact ⟨rfl, rfl⟩
theorem put_high (nm : ByteArray) (n : Int) (l : List Sm) : smsHigh (smsPut nm n l) = smsHigh l := (put_same nm n _ l (Nat.le_refl _)).1
theorem put_fors (nm : ByteArray) (n : Int) (l : List Sm) : smsFors (smsPut nm n l) = smsFors l := (put_same nm n _ l (Nat.le_refl _)).2
end Go.Proofs
