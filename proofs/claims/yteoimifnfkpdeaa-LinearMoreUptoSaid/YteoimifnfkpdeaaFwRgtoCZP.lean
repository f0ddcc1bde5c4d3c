/- A range over an iterator whose round takes memory for its variable. -/
import Derived.Test.YteoimifnfkpdeaaFwQtoFwT
import Derived.Test.YteoimifnfkpdeaaCW1toCW3
import Derived.Test.YteoimifnfkpdeaaFwCompacttoCN2
import Derived.Test.YteoimifnfkpdeaaFwSortM
import Derived.Test.YteoimifnfkpdeaaCW4toCW5
import Derived.Test.YteoimifnfkpdeaaFwYtoL9
import Derived.Test.YteoimifnfkpdeaaCL2toCZ1
set_option linter.unusedVariables false
set_option linter.unusedSimpArgs false
set_option maxHeartbeats 4000000
set_option maxRecDepth 100000
namespace Go.Mu
open Go.RowKit (Below)
end Go.Mu
namespace Go.Mu
open Go.RowKit (Below)
end Go.Mu
namespace Go.Proofs
open Go.Mu
def insOf (t : List Int) (s : List Nat) : List Int := s.map fun j => (t[j]?).getD 0
end Go.Proofs
namespace Go.Proofs
open Go.Mu
end Go.Proofs
namespace Go.Proofs
open Go.Mu
def atM (t : List (Int × Int)) : List (Value × AV) := t.map fun p => (.int .i64 p.1, I p.2)
def ilook (n : Int) : List (Int × Int) → Option Int
  | [] => none
  | (a, b) :: t => if n = a then some b else ilook n t
def iset (n x : Int) : List (Int × Int) → List (Int × Int)
  | [] => [(n, x)]
  | (a, b) :: t => if n = a then (n, x) :: t else (a, b) :: iset n x t
theorem atM_find (n : Int) (t : List (Int × Int)) : mfind (.int .i64) (.int .i64 n) (atM t) = some ((ilook n t).map I) := by
  induction t with
  | nil => rfl
  | cons p t ih =>
    obtain ⟨a, b⟩ := p
    have : atM ((a, b) :: t) = (.int .i64 a, I b) :: atM t := rfl
    rw [this, mfind, sameNow_i64, ilook]
    by_cases h : n = a
    · subst h; simp
    · have e : (n == a) = false := by simp [h]
      rw [e, if_neg h]; exact ih
theorem atM_set (n x : Int) (t : List (Int × Int)) : mset (.int .i64) (.int .i64 n) (I x) (atM t) = some (atM (iset n x t)) := by
  induction t with
  | nil => rfl
  | cons p t ih =>
    obtain ⟨a, b⟩ := p
    have : atM ((a, b) :: t) = (.int .i64 a, I b) :: atM t := rfl
    rw [this, mset, sameNow_i64, iset]
    by_cases h : n = a
    · subst h; simp [atM]
    · have e : (n == a) = false := by simp [h]
      rw [e, if_neg h, ih]; rfl
theorem ilook_set (n m x : Int) : ∀ t : List (Int × Int), ilook n (iset m x t) = if n = m then some x else ilook n t
  | [] => by simp [iset, ilook]
  | (a, b) :: t => by
    rw [iset]
    by_cases h : m = a
    · subst h
      rw [if_pos rfl, ilook, ilook]
      by_cases e : n = m
      · rw [if_pos e, if_pos e]
      · rw [if_neg e, if_neg e, if_neg e]
    · rw [if_neg h, ilook, ilook, ilook_set n m x t]
      by_cases e : n = a
      · have : n ≠ m := fun q => h (q.symm.trans e)
        rw [if_pos e, if_pos e, if_neg this]
      · rw [if_neg e, if_neg e]
def whereM : List Line → Nat → List (Int × Int) → List (Int × Int)
  | [], _, t => t
  | x :: c, i, t => whereM c (i + 1) (if x.kind = 2 then iset x.label (i : Int) t else t)
theorem whereM_look (a : Int) : ∀ (c : List Line) (i : Nat) (t : List (Int × Int)), (labs c).Nodup → ilook a (whereM c i t) = if whr c a < c.length then some ((whr c a + i : Nat) : Int) else ilook a t
  | [], i, t, _ => by simp [whereM, whr]
  | x :: c, i, t, h => by
    rw [labs_cons] at h
    rw [whereM, whr_cons, List.length_cons]
    by_cases hk : x.kind = 2
    · rw [if_pos hk] at h
      obtain ⟨h1, h2⟩ := List.nodup_cons.1 h
      rw [if_pos hk, whereM_look a c (i + 1) _ h2, ilook_set]
      by_cases ha : a = x.label
      · subst ha
        have : ¬ whr c x.label < c.length := fun q => h1 (whr_in.1 q)
        rw [if_neg this, if_pos rfl, if_pos (isLab_iff.2 ⟨hk, rfl⟩), if_pos (by omega)]; simp
      · rw [if_neg ha, if_neg (fun q => ha (isLab_iff.1 q).2.symm)]
        by_cases q : whr c a < c.length
        · rw [if_pos q, if_pos (by omega)]; congr 2; omega
        · rw [if_neg q, if_neg (by omega)]
    · rw [if_neg hk] at h
      rw [if_neg hk, whereM_look a c (i + 1) _ h, if_neg (fun q => hk (isLab_iff.1 q).1)]
      by_cases q : whr c a < c.length
      · rw [if_pos q, if_pos (by omega)]; congr 2; omega
      · rw [if_neg q, if_neg (by omega)]
end Go.Proofs
namespace Go.Proofs
open Go.Mu
abbrev OwnI (B M : List Blk) (h : Option Nat) (l : List Int) : Prop := Own 3 1 B M h (l.map fun n => [I n])
structure Two (B M : List Blk) (h hd : Option Nat) (u d : List Int) : Prop where
  own : OwnI B M h u
  dwn : OwnI B M hd d
  ne : ∀ k, h = some k → hd ≠ some k
end Go.Proofs
namespace Go.Proofs
open Go.Mu
theorem whereM_step {c : List Line} {i : Nat} (h : i < c.length) (t : List (Int × Int)) : whereM (c.drop i) i t = whereM (c.drop (i + 1)) (i + 1) (if c[i].kind = 2 then iset c[i].label (i : Int) t else t) := by rw [drop_cons h, whereM]
structure AtR (l : Linear) (H : List Blk) (k : Nat) (M : List Blk) : Prop where
  pre : ∃ L, M = H ++ L
  new : H.length ≤ k
  map : M[k]? = some (.map (atM (whereM l.code 0 [])))
def WhI (l : Linear) (H : List Blk) (i : Nat) (H' : List Blk) : Prop := ∃ t L, H' = H ++ .box 30 [I l.vars, Int.sl l.params, Int.sl l.rets, I l.frame, Line.sl l.code] :: .map (atM t) :: L ∧ whereM (l.code.drop i) i t = whereM l.code 0 []
theorem where_ok (l : Linear) (hc : l.code.length ≤ 2^40) (H : List Blk) : ACalls Try.prog 63 [.agg l.cells] H (fun e M => e = .ret (.hm (H.length + 1)) ∧ AtR l H (H.length + 1) M) := by
  refine acalls_of_vc (hn := fun _ => false) (od := fun _ => none) Try.func63 rfl (by kernel_rfl) ?_
  simp -dsimp
  refine loop_rule (hn := fun _ => false) (od := fun _ => none) (fun (i : Nat) f H' => WhI l H i H' ∧ f 3 = .hm (H.length + 1) ∧ f 8 = Line.sl l.code ∧ f 9 = I l.code.length ∧ f 10 = I i ∧ i ≤ l.code.length) (fun i => l.code.length - i) (by kernel_rfl) 0
    (by refine ⟨⟨[], [], by simp [atM], rfl⟩, ?_⟩; simp) ?_
  rintro i f _ ⟨⟨t, L, rfl, hinv⟩, h3, h8, h9, h10, hi⟩
  simp -dsimp [h3, h8, h9, h10]
  refine condVW_introD (fun hlt => ?_) (fun hlt => ?_)
  · have g := List.getElem?_eq_getElem hlt
    rw [whereM_step hlt] at hinv
    obtain ⟨x, hx⟩ : ∃ x, x = l.code[i] := ⟨_, rfl⟩
    rw [← hx] at g hinv
    clear hx
    replace hinv := Hid.mk hinv
    have hset := atM_set x.label (i : Int) t
    simp -dsimp [h3, h8, h9, h10, g]
    by_cases hk : x.kind = 2
    · have hkb : (x.kind == 2) = true := by simpa using hk
      simp -dsimp [h3, h8, h9, h10, g, hkb, mapEs, hset]
      have hinv := hinv.out
      rw [if_pos hk] at hinv
      exact ⟨i + 1, by omega, ⟨_, _, rfl, hinv⟩, wrapS (by omega), by omega⟩
    · have hkb : (x.kind == 2) = false := by simpa using hk
      simp -dsimp [h3, h8, h9, h10, g, hkb]
      have hinv := hinv.out
      rw [if_neg hk] at hinv
      exact ⟨i + 1, by omega, ⟨_, _, rfl, hinv⟩, wrapS (by omega), by omega⟩
  · rw [drop_end hlt, whereM] at hinv
    subst hinv
    simp -dsimp [h3]
    exact ⟨⟨_, rfl⟩, by omega, by simp⟩
end Go.Proofs
namespace Go.Proofs
open Go.Mu
end Go.Proofs
namespace Go.Proofs
open Go.Mu
structure Linear.Sm (l : Linear) : Prop where
  params : l.params.length ≤ 2^36
  rets : l.rets.length ≤ 2^36
  code : l.code.length ≤ 2^36
end Go.Proofs
namespace Go.Proofs
open Go.Mu
theorem sm_of {l : Linear} (h : l.params.length + l.rets.length + l.code.length ≤ 2^36) : l.Sm := ⟨by omega, by omega, by omega⟩
end Go.Proofs
