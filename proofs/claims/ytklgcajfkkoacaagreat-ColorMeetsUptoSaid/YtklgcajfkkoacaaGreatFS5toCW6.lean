/- Functions of Go's library as they stand in this program: laid by the kit's own tool. -/
import Derived.Test.YtklgcajfkkoacaaGreatFwCompacttoCN2
import Derived.Test.YtklgcajfkkoacaaGreatProg
import Derived.Test.YtklgcajfkkoacaaGreatFS4toCN1
import Derived.Test.YtklgcajfkkoacaaGreatCL2toCW3
import Derived.Test.YtklgcajfkkoacaaGreatCW4toCW5
set_option linter.unusedVariables false
set_option linter.unusedSimpArgs false
set_option maxHeartbeats 4000000
set_option maxRecDepth 100000
namespace Go.Proofs
open Go.Shelf
def Tryz.compI_ren : Go.Shelf.Ren := ⟨fun | 43 => 107 | n => n, fun | 22 => 22 | 23 => 3 | 3 => 3 | 4 => 4 | 0 => 0 | n => n, fun | n => n⟩
theorem Tryz.compI : Go.Proofs.SlLaysN.n43 Tryz.prog Tryz.compI_ren := {
  mixed := by kernel_rfl
  f43 := ⟨Tryz.f107.name, by decide, Tryz.func107.trans (congrArg some (by kernel_rfl))⟩
  t0 := Tryz.underlying0
  a0 := Tryz.isAgg0
  z0 := Tryz.sizeOf0
  v0 := Tryz.zeroValue0
  t3 := Tryz.underlying3
  a3 := Tryz.isAgg3
  z3 := Tryz.sizeOf3
  v3 := Tryz.zeroValue3
  t4 := Tryz.underlying4
  a4 := Tryz.isAgg4
  z4 := Tryz.sizeOf4
  v4 := Tryz.zeroValue4
  t22 := Tryz.underlying22
  a22 := Tryz.isAgg22
  z22 := Tryz.sizeOf22
  v22 := Tryz.zeroValue22
  t23 := Tryz.underlying3
  a23 := Tryz.isAgg3
  z23 := Tryz.sizeOf3
  v23 := Tryz.zeroValue3
  i23 := by kernel_rfl }
end Go.Proofs
namespace Go.Proofs
open Go.Mu
theorem icompact_ok (l : List Int) (hl : l.length ≤ 2^40) (k : Nat) (H : List Blk) (hK : H[k]? = some (.row 3 1 (l.map fun s => [I s]))) : ACalls Tryz.prog 107 [.hs k 0 l.length l.length] H (fun e H' => e = .ret (.hs k 0 (Lib.compact l).length l.length) ∧ H' = H.set k (.row 3 1 ((compRow l).map fun s => [I s]))) :=
  acalls_compact l (fun blk cap w hH hb hc => AnyG.slices_Compact_int Tryz.compI blk 0 cap l w hH (by omega) hc) hK
theorem icompact0_ok (H : List Blk) : ACalls Tryz.prog 107 [nilS] H (fun e H' => e = .ret nilS ∧ H' = H) := by
  intro B w0 cx vals hR hH hA
  subst hH
  obtain ⟨v1, vs1, rfl, r1, hA1⟩ := hA.cons_inv
  obtain rfl := hA1.nil_inv
  obtain rfl := r1.v_inv
  refine (AnyG.slices_Compact_int_empty Tryz.compI none 0 cx.w).mono ?_
  rintro e w' ⟨rfl, rfl⟩
  exact ⟨cx, nilS, rfl, hR, Le.refl _, .v _, rfl, rfl⟩
end Go.Proofs
namespace Go.Proofs
open Go.Mu
def atM (t : List (Int × Int)) : List (Value × AV) := t.map fun p => (.int .i64 p.1, I p.2)
def ilook (n : Int) : List (Int × Int) → Option Int
  | [] => none
  | (a, b) :: t => if n = a then some b else ilook n t
def iset (n x : Int) : List (Int × Int) → List (Int × Int)
  | [] => [(n, x)]
  | (a, b) :: t => if n = a then (n, x) :: t else (a, b) :: iset n x t
theorem atM_find (n : Int) (t : List (Int × Int)) : mfind (.int .i64) (.int .i64 n) (atM t) = some ((ilook n t).map I) := by
  induction t with
  | nil => rfl
  | cons p t ih =>
    obtain ⟨a, b⟩ := p
    have : atM ((a, b) :: t) = (.int .i64 a, I b) :: atM t := rfl
    rw [this, mfind, sameNow_i64, ilook]
    by_cases h : n = a
    · subst h; simp
    · have e : (n == a) = false := by simp [h]
      rw [e, if_neg h]; exact ih
theorem atM_set (n x : Int) (t : List (Int × Int)) : mset (.int .i64) (.int .i64 n) (I x) (atM t) = some (atM (iset n x t)) := by
  induction t with
  | nil => rfl
  | cons p t ih =>
    obtain ⟨a, b⟩ := p
    have : atM ((a, b) :: t) = (.int .i64 a, I b) :: atM t := rfl
    rw [this, mset, sameNow_i64, iset]
    by_cases h : n = a
    · subst h; simp [atM]
    · have e : (n == a) = false := by simp [h]
      rw [e, if_neg h, ih]; rfl
theorem ilook_set (n m x : Int) : ∀ t : List (Int × Int), ilook n (iset m x t) = if n = m then some x else ilook n t
  | [] => by simp [iset, ilook]
  | (a, b) :: t => by
    rw [iset]
    by_cases h : m = a
    · subst h
      rw [if_pos rfl, ilook, ilook]
      by_cases e : n = m
      · rw [if_pos e, if_pos e]
      · rw [if_neg e, if_neg e, if_neg e]
    · rw [if_neg h, ilook, ilook, ilook_set n m x t]
      by_cases e : n = a
      · have : n ≠ m := fun q => h (q.symm.trans e)
        rw [if_pos e, if_pos e, if_neg this]
      · rw [if_neg e, if_neg e]
def whereM : List Line → Nat → List (Int × Int) → List (Int × Int)
  | [], _, t => t
  | x :: c, i, t => whereM c (i + 1) (if x.kind = 2 then iset x.label (i : Int) t else t)
theorem whereM_look (a : Int) : ∀ (c : List Line) (i : Nat) (t : List (Int × Int)), (labs c).Nodup → ilook a (whereM c i t) = if whr c a < c.length then some ((whr c a + i : Nat) : Int) else ilook a t
  | [], i, t, _ => by simp [whereM, whr]
  | x :: c, i, t, h => by
    rw [labs_cons] at h
    rw [whereM, whr_cons, List.length_cons]
    by_cases hk : x.kind = 2
    · rw [if_pos hk] at h
      obtain ⟨h1, h2⟩ := List.nodup_cons.1 h
      rw [if_pos hk, whereM_look a c (i + 1) _ h2, ilook_set]
      by_cases ha : a = x.label
      · subst ha
        have : ¬ whr c x.label < c.length := fun q => h1 (whr_in.1 q)
        rw [if_neg this, if_pos rfl, if_pos (isLab_iff.2 ⟨hk, rfl⟩), if_pos (by omega)]; simp
      · rw [if_neg ha, if_neg (fun q => ha (isLab_iff.1 q).2.symm)]
        by_cases q : whr c a < c.length
        · rw [if_pos q, if_pos (by omega)]; congr 2; omega
        · rw [if_neg q, if_neg (by omega)]
    · rw [if_neg hk] at h
      rw [if_neg hk, whereM_look a c (i + 1) _ h, if_neg (fun q => hk (isLab_iff.1 q).1)]
      by_cases q : whr c a < c.length
      · rw [if_pos q, if_pos (by omega)]; congr 2; omega
      · rw [if_neg q, if_neg (by omega)]
end Go.Proofs
