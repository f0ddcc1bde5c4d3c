/- A call that is handed in what it may only read: own memory stays as it is, whatever own rows the arguments show. -/
import Derived.Test.YtpibcbilkpoomaaGreatFwUtoG24
set_option linter.unusedVariables false
set_option linter.unusedSimpArgs false
set_option maxHeartbeats 4000000
set_option maxRecDepth 100000
namespace Go.Mu
open Go.RowKit (Below)
section
variable {P : Program}
end
end Go.Mu
namespace Go.Proofs
open Go.Mu
end Go.Proofs
namespace Go.Proofs
open Go.Mu
def findV : List Vr → ByteArray → Int
  | [], _ => 0
  | v :: l, n => if v.name = n then (if v.kind = 1 then 1 else 2) else findV l n
def findR : List Rg → ByteArray → Int
  | [], _ => 0
  | r :: l, n => if r.name = n then 3 else findR l n
def findK (rs : List Rg) (vs : List Vr) (n : ByteArray) : Int := if findV vs n = 0 then findR rs n else findV vs n
def wordK (k : Int) : Int := if k = 0 then 8 else if k = 1 then 0 else 9
def arrayK (k : Int) : Int := if k = 0 then 8 else if k = 1 then 9 else 0
end Go.Proofs
namespace Go.Proofs
open Go.Mu
structure NamesAt (p : Pg) (k : Nat) (hk : k < p.funcs.length) (tv : List (ByteArray × Vr)) (ta : List (ByteArray × Bool)) : Prop where
  word : ∀ n, wordE tv ta n = wordK (findK p.regions (p.funcs[k].params ++ p.funcs[k].vars) n)
  array : ∀ n, arrayE tv ta n = arrayK (findK p.regions (p.funcs[k].params ++ p.funcs[k].vars) n)
end Go.Proofs
namespace Go.Proofs
open Go.Mu
end Go.Proofs
namespace Go.Proofs
open Go.Mu
end Go.Proofs
namespace Go.Proofs
open Go.Mu
end Go.Proofs
namespace Go.Proofs
open Go.Mu
end Go.Proofs
namespace Go.Proofs
open Go.Mu
mutual
def Ex.num (deep : Nat) : Ex → Nat
  | .mk _ _ _ args => if 64 < deep then 0 else 1 + exsNum (deep + 1) args
def exsNum (deep : Nat) : List Ex → Nat
  | [] => 0
  | e :: l => e.num deep + exsNum deep l
end
theorem Ex.num_eq (deep : Nat) (e : Ex) : e.num deep = if 64 < deep then 0 else 1 + exsNum (deep + 1) e.args := by cases e; rw [Ex.num]; rfl
theorem exsNum_le (m : Nat) : ∀ (l : List Ex) (deep : Nat), exsCount l ≤ m → exsNum deep l ≤ exsCount l := by
  induction m with
  | zero => intro l deep hl; have := exs_len l; have : l = [] := List.eq_nil_of_length_eq_zero (by omega); subst this; simp [exsNum]
  | succ m ih =>
    intro l deep
    induction l with
    | nil => intro _; simp [exsNum]
    | cons e l ihl =>
      intro hl
      simp only [exsCount, exsNum] at hl ⊢
      have he := Ex.count_eq e
      have h1 : e.num deep ≤ e.count := by
        rw [Ex.num_eq]
        split
        · omega
        · have := ih e.args (deep + 1) (by omega); omega
      have := ihl (by omega)
      omega
theorem Ex.num_le (deep : Nat) (e : Ex) : e.num deep ≤ e.count := by
  rw [Ex.num_eq, Ex.count_eq]
  split
  · omega
  · have := exsNum_le _ e.args (deep + 1) (Nat.le_refl _); omega
end Go.Proofs
namespace Go.Proofs
open Go.Mu
def Ex.nz (deep : Nat) (e : Ex) : Nat := if blankB e then 0 else e.num deep
def exsNz (deep : Nat) : List Ex → Nat
  | [] => 0
  | e :: l => e.nz deep + exsNz deep l
mutual
def Sm.num (deep : Nat) : Sm → Nat
  | .mk _ _ _ e a args _ _ body els => 1 + e.nz deep + a.nz deep + exsNz deep args + smsNum (deep + 1) body + smsNum (deep + 1) els
def smsNum (deep : Nat) : List Sm → Nat
  | [] => 0
  | s :: l => if 64 < deep then 0 else s.num deep + smsNum deep l
end
theorem Sm.num_eq (deep : Nat) (s : Sm) : s.num deep = 1 + s.e.nz deep + s.a.nz deep + exsNz deep s.args + smsNum (deep + 1) s.body + smsNum (deep + 1) s.els := by cases s; rw [Sm.num]; rfl
theorem Ex.nz_le (deep : Nat) (e : Ex) : e.nz deep ≤ e.count := by
  unfold Ex.nz
  split
  · omega
  · exact e.num_le deep
theorem exsNz_le (deep : Nat) : ∀ (l : List Ex), exsNz deep l ≤ exsCount l
  | [] => by simp [exsNz]
  | e :: l => by
    simp only [exsNz, exsCount]
    have := e.nz_le deep
    have := exsNz_le deep l
    omega
theorem smsNum_le (m : Nat) : ∀ (l : List Sm) (deep : Nat), smsCount l ≤ m → smsNum deep l ≤ smsCount l := by
  induction m with
  | zero => intro l deep hl; have := sms_len l; have : l = [] := List.eq_nil_of_length_eq_zero (by omega); subst this; simp [smsNum]
  | succ m ih =>
    intro l deep
    induction l with
    | nil => intro _; simp [smsNum]
    | cons s l ihl =>
      intro hl
      simp only [smsCount] at hl
      have he := Sm.count_eq s
      rw [smsNum, smsCount]
      split
      · omega
      · rw [Sm.num_eq]
        have a := ih s.body (deep + 1) (by omega)
        have b := ih s.els (deep + 1) (by omega)
        have c := ihl (by omega)
        have d := s.e.nz_le deep
        have e := s.a.nz_le deep
        have f := exsNz_le deep s.args
        omega
end Go.Proofs
namespace Go.Proofs
open Go.Mu
theorem exsCnt_num (m : Nat) : ∀ (l : List Ex), exsCount l ≤ m → ∀ (deep : Nat) (n : Int), 0 ≤ n → n ≤ 65537 → exsCnt deep n l = min (n + exsNum deep l) 65537 := by
  induction m with
  | zero => intro l hl deep n h0 h1; have := exs_len l; have : l = [] := List.eq_nil_of_length_eq_zero (by omega); subst this; simp only [exsCnt, exsNum]; omega
  | succ m ih =>
    intro l
    induction l with
    | nil => intro _ deep n h0 h1; simp only [exsCnt, exsNum]; omega
    | cons e l ihl =>
      intro hl deep n h0 h1
      simp only [exsCount] at hl
      have he := Ex.count_eq e
      have h2 : e.cnt deep n = min (n + e.num deep) 65537 := by
        rw [Ex.cnt_eq, Ex.num_eq]
        by_cases hd : 64 < deep
        · rw [if_pos (by omega), if_pos hd]; omega
        · rw [if_neg (by omega), if_neg hd]
          by_cases hn : 65536 < n
          · rw [if_pos hn]; omega
          · rw [if_neg hn]
            have := ih e.args (by omega) (deep + 1) (n + 1) (by omega) (by omega)
            rw [show ((deep + 1 : Nat) : Int) = (deep : Int) + 1 from rfl] at this
            rw [this]; omega
      rw [exsCnt, exsNum, h2]
      have := ihl (by omega) deep (min (n + e.num deep) 65537) (by omega) (by omega)
      rw [this]; omega
theorem Ex.cnt_num (e : Ex) (deep : Nat) (n : Int) (h0 : 0 ≤ n) (h1 : n ≤ 65537) : e.cnt deep n = min (n + e.num deep) 65537 := by
  have h := exsCnt_num _ [e] (Nat.le_refl _) deep n h0 h1
  simp only [exsCnt, exsNum] at h
  rw [h]; omega
theorem exsCntB_num (deep : Nat) : ∀ (l : List Ex) (n : Int), 0 ≤ n → n ≤ 65537 → exsCntB deep n l = min (n + exsNz deep l) 65537
  | [], n, h0, h1 => by simp only [exsCntB, exsNz]; omega
  | e :: l, n, h0, h1 => by
    rw [exsCntB, exsNz, Ex.nz]
    split
    · rw [exsCntB_num deep l n h0 h1]; omega
    · rw [Ex.cnt_num e deep n h0 h1, exsCntB_num deep l _ (by omega) (by omega)]; omega
theorem smsCnt_num (m : Nat) : ∀ (l : List Sm), smsCount l ≤ m → ∀ (deep : Nat) (n : Int), 0 ≤ n → n ≤ 65537 → smsCnt deep n l = min (n + smsNum deep l) 65537 := by
  induction m with
  | zero => intro l hl deep n h0 h1; have := sms_len l; have : l = [] := List.eq_nil_of_length_eq_zero (by omega); subst this; simp only [smsCnt, smsNum]; omega
  | succ m ih =>
    intro l
    induction l with
    | nil => intro _ deep n h0 h1; simp only [smsCnt, smsNum]; omega
    | cons s l ihl =>
      intro hl deep n h0 h1
      simp only [smsCount] at hl
      have he := Sm.count_eq s
      rw [smsCnt, smsNum]
      by_cases hd : 64 < deep
      · rw [if_pos (by omega), if_pos hd]; omega
      · rw [if_neg (by omega), if_neg hd]
        by_cases hn : 65536 < n
        · rw [if_pos hn]; omega
        · rw [if_neg hn, Sm.cnt_eq, Sm.num_eq]
          have q1 := exsCntB_num deep (s.e :: s.a :: s.args) (n + 1) (by omega) (by omega)
          simp only [exsNz] at q1
          have q2 := ih s.body (by omega) (deep + 1) (exsCntB deep (n + 1) (s.e :: s.a :: s.args)) (by omega) (by omega)
          have q3 := ih s.els (by omega) (deep + 1) (smsCnt ((deep : Int) + 1) (exsCntB deep (n + 1) (s.e :: s.a :: s.args)) s.body) (by rw [show ((deep : Int) + 1) = ((deep + 1 : Nat) : Int) from rfl]; omega) (by rw [show ((deep : Int) + 1) = ((deep + 1 : Nat) : Int) from rfl]; omega)
          rw [show ((deep + 1 : Nat) : Int) = (deep : Int) + 1 from rfl] at q2 q3
          rw [q3, ihl (by omega) deep _ (by omega) (by omega)]
          omega
def funcsNum : List Fc → Nat
  | [] => 0
  | f :: l => smsNum 1 f.body + funcsNum l
theorem funcsCnt_num : ∀ (l : List Fc) (n : Int), 0 ≤ n → n ≤ 65537 → funcsCnt n l = min (n + funcsNum l) 65537
  | [], n, h0, h1 => by simp only [funcsCnt, funcsNum]; omega
  | f :: l, n, h0, h1 => by
    have q := smsCnt_num _ f.body (Nat.le_refl _) 1 n h0 h1
    rw [show ((1 : Nat) : Int) = 1 from rfl] at q
    rw [funcsCnt, funcsNum, q, funcsCnt_num l _ (by omega) (by omega)]; omega
theorem sizeM_num (p : Pg) : sizeM p = min (funcsNum p.funcs : Int) 65537 := by rw [sizeM, funcsCnt_num _ _ (by omega) (by omega)]; omega
end Go.Proofs
