/- Functions of Go's library as they stand in this program: laid by the kit's own tool. -/
import Derived.Test.YteoimifnfkpdeaaGreatFwCompacttoCN2
import Derived.Test.YteoimifnfkpdeaaGreatProg
import Derived.Test.YteoimifnfkpdeaaGreatFS4toCN1
import Derived.Test.YteoimifnfkpdeaaGreatCW1toCW3
import Derived.Test.YteoimifnfkpdeaaGreatCW4toCW5
import Derived.Test.YteoimifnfkpdeaaGreatFwYtoL9
import Derived.Test.YteoimifnfkpdeaaGreatCL2toCZ1
set_option linter.unusedVariables false
set_option linter.unusedSimpArgs false
set_option maxHeartbeats 4000000
set_option maxRecDepth 100000
namespace Go.Proofs
open Go.Shelf
def Tryz.compI_ren : Go.Shelf.Ren := ⟨fun | 43 => 78 | n => n, fun | 22 => 22 | 23 => 3 | 3 => 3 | 4 => 4 | 0 => 0 | n => n, fun | n => n⟩
theorem Tryz.compI : Go.Proofs.SlLaysN.n43 Tryz.prog Tryz.compI_ren := {
  mixed := by kernel_rfl
  f43 := ⟨Tryz.f78.name, by decide, Tryz.func78.trans (congrArg some (by kernel_rfl))⟩
  t0 := Tryz.underlying0
  a0 := Tryz.isAgg0
  z0 := Tryz.sizeOf0
  v0 := Tryz.zeroValue0
  t3 := Tryz.underlying3
  a3 := Tryz.isAgg3
  z3 := Tryz.sizeOf3
  v3 := Tryz.zeroValue3
  t4 := Tryz.underlying4
  a4 := Tryz.isAgg4
  z4 := Tryz.sizeOf4
  v4 := Tryz.zeroValue4
  t22 := Tryz.underlying22
  a22 := Tryz.isAgg22
  z22 := Tryz.sizeOf22
  v22 := Tryz.zeroValue22
  t23 := Tryz.underlying3
  a23 := Tryz.isAgg3
  z23 := Tryz.sizeOf3
  v23 := Tryz.zeroValue3
  i23 := by kernel_rfl }
end Go.Proofs
namespace Go.Proofs
open Go.Mu
theorem icompact_ok (l : List Int) (hl : l.length ≤ 2^40) (k : Nat) (H : List Blk) (hK : H[k]? = some (.row 3 1 (l.map fun s => [I s]))) : ACalls Tryz.prog 78 [.hs k 0 l.length l.length] H (fun e H' => e = .ret (.hs k 0 (Lib.compact l).length l.length) ∧ H' = H.set k (.row 3 1 ((compRow l).map fun s => [I s]))) :=
  acalls_compact l (fun blk cap w hH hb hc => AnyG.slices_Compact_int Tryz.compI blk 0 cap l w hH (by omega) hc) hK
theorem icompact0_ok (H : List Blk) : ACalls Tryz.prog 78 [nilS] H (fun e H' => e = .ret nilS ∧ H' = H) := by
  intro B w0 cx vals hR hH hA
  subst hH
  obtain ⟨v1, vs1, rfl, r1, hA1⟩ := hA.cons_inv
  obtain rfl := hA1.nil_inv
  obtain rfl := r1.v_inv
  refine (AnyG.slices_Compact_int_empty Tryz.compI none 0 cx.w).mono ?_
  rintro e w' ⟨rfl, rfl⟩
  exact ⟨cx, nilS, rfl, hR, Le.refl _, .v _, rfl, rfl⟩
end Go.Proofs
namespace Go.Proofs
open Go.Mu
def atM (t : List (Int × Int)) : List (Value × AV) := t.map fun p => (.int .i64 p.1, I p.2)
def ilook (n : Int) : List (Int × Int) → Option Int
  | [] => none
  | (a, b) :: t => if n = a then some b else ilook n t
def iset (n x : Int) : List (Int × Int) → List (Int × Int)
  | [] => [(n, x)]
  | (a, b) :: t => if n = a then (n, x) :: t else (a, b) :: iset n x t
theorem atM_find (n : Int) (t : List (Int × Int)) : mfind (.int .i64) (.int .i64 n) (atM t) = some ((ilook n t).map I) := by
  induction t with
  | nil => rfl
  | cons p t ih =>
    obtain ⟨a, b⟩ := p
    have : atM ((a, b) :: t) = (.int .i64 a, I b) :: atM t := rfl
    rw [this, mfind, sameNow_i64, ilook]
    by_cases h : n = a
    · subst h; simp
    · have e : (n == a) = false := by simp [h]
      rw [e, if_neg h]; exact ih
theorem atM_set (n x : Int) (t : List (Int × Int)) : mset (.int .i64) (.int .i64 n) (I x) (atM t) = some (atM (iset n x t)) := by
  induction t with
  | nil => rfl
  | cons p t ih =>
    obtain ⟨a, b⟩ := p
    have : atM ((a, b) :: t) = (.int .i64 a, I b) :: atM t := rfl
    rw [this, mset, sameNow_i64, iset]
    by_cases h : n = a
    · subst h; simp [atM]
    · have e : (n == a) = false := by simp [h]
      rw [e, if_neg h, ih]; rfl
theorem ilook_set (n m x : Int) : ∀ t : List (Int × Int), ilook n (iset m x t) = if n = m then some x else ilook n t
  | [] => by simp [iset, ilook]
  | (a, b) :: t => by
    rw [iset]
    by_cases h : m = a
    · subst h
      rw [if_pos rfl, ilook, ilook]
      by_cases e : n = m
      · rw [if_pos e, if_pos e]
      · rw [if_neg e, if_neg e, if_neg e]
    · rw [if_neg h, ilook, ilook, ilook_set n m x t]
      by_cases e : n = a
      · have : n ≠ m := fun q => h (q.symm.trans e)
        rw [if_pos e, if_pos e, if_neg this]
      · rw [if_neg e, if_neg e]
def whereM : List Line → Nat → List (Int × Int) → List (Int × Int)
  | [], _, t => t
  | x :: c, i, t => whereM c (i + 1) (if x.kind = 2 then iset x.label (i : Int) t else t)
theorem whereM_look (a : Int) : ∀ (c : List Line) (i : Nat) (t : List (Int × Int)), (labs c).Nodup → ilook a (whereM c i t) = if whr c a < c.length then some ((whr c a + i : Nat) : Int) else ilook a t
  | [], i, t, _ => by simp [whereM, whr]
  | x :: c, i, t, h => by
    rw [labs_cons] at h
    rw [whereM, whr_cons, List.length_cons]
    by_cases hk : x.kind = 2
    · rw [if_pos hk] at h
      obtain ⟨h1, h2⟩ := List.nodup_cons.1 h
      rw [if_pos hk, whereM_look a c (i + 1) _ h2, ilook_set]
      by_cases ha : a = x.label
      · subst ha
        have : ¬ whr c x.label < c.length := fun q => h1 (whr_in.1 q)
        rw [if_neg this, if_pos rfl, if_pos (isLab_iff.2 ⟨hk, rfl⟩), if_pos (by omega)]; simp
      · rw [if_neg ha, if_neg (fun q => ha (isLab_iff.1 q).2.symm)]
        by_cases q : whr c a < c.length
        · rw [if_pos q, if_pos (by omega)]; congr 2; omega
        · rw [if_neg q, if_neg (by omega)]
    · rw [if_neg hk] at h
      rw [if_neg hk, whereM_look a c (i + 1) _ h, if_neg (fun q => hk (isLab_iff.1 q).1)]
      by_cases q : whr c a < c.length
      · rw [if_pos q, if_pos (by omega)]; congr 2; omega
      · rw [if_neg q, if_neg (by omega)]
end Go.Proofs
namespace Go.Proofs
open Go.Mu
abbrev OwnI (B M : List Blk) (h : Option Nat) (l : List Int) : Prop := Own 3 1 B M h (l.map fun n => [I n])
abbrev AtI (M : List Blk) (h : Option Nat) (l : List Int) : Prop := RowAt' 3 1 M h (l.map fun n => [I n])
theorem map_len (l : List Int) : (l.map fun n => [I n]).length = l.length := by simp
theorem compRow_take (l : List Int) : (compRow l).take (Lib.compact l).length = Lib.compact l := by unfold compRow; simp
theorem isort_h (l : List Int) (hl : l.length ≤ 2^40) (h : Option Nat) (M : List Blk) (hr : AtI M h l) : ACalls Tryz.prog 77 [hrow h l.length] M (fun e M' => e = .ret (.tup []) ∧ AtI M' h (sortI l) ∧ Stp M M' h h) := by
  cases h with
  | none =>
    have : l = [] := List.map_eq_nil_iff.1 (hr.nil rfl)
    subst this
    refine (isorts0_ok M).mono ?_
    rintro e M' ⟨rfl, rfl⟩
    exact ⟨rfl, ⟨fun _ h => (by cases h), fun _ => by unfold sortI; simp⟩, .refl _ _⟩
  | some k =>
    have q := hr.row k rfl
    have hkl := lt_of_get q
    refine (isorts_ok l hl k M q).mono ?_
    rintro e M' ⟨rfl, rfl⟩
    exact ⟨rfl, ⟨fun j hj => by cases hj; simp [hkl], fun h => by cases h⟩, ⟨by simp, fun j hj hne => by rw [List.getElem?_set_ne (fun e => hne (by rw [e]))], .inl rfl⟩⟩
theorem icompact_h (l : List Int) (hl : l.length ≤ 2^40) (h : Option Nat) (M : List Blk) (hr : AtI M h l) : ACalls Tryz.prog 78 [hrow h l.length] M (fun e M' => e = .ret (cutS h (Lib.compact l).length l.length) ∧ AtI M' h (compRow l) ∧ Stp M M' h h) := by
  cases h with
  | none =>
    have : l = [] := List.map_eq_nil_iff.1 (hr.nil rfl)
    subst this
    refine (icompact0_ok M).mono ?_
    rintro e M' ⟨rfl, rfl⟩
    exact ⟨rfl, ⟨fun _ h => (by cases h), fun _ => by simp [compRow, Lib.compact, Lib.compactUpTo]⟩, .refl _ _⟩
  | some k =>
    have q := hr.row k rfl
    have hkl := lt_of_get q
    refine (icompact_ok l hl k M q).mono ?_
    rintro e M' ⟨rfl, rfl⟩
    exact ⟨rfl, ⟨fun j hj => by cases hj; simp [hkl], fun h => by cases h⟩, ⟨by simp, fun j hj hne => by rw [List.getElem?_set_ne (fun e => hne (by rw [e]))], .inl rfl⟩⟩
structure Two (B M : List Blk) (h hd : Option Nat) (u d : List Int) : Prop where
  own : OwnI B M h u
  dwn : OwnI B M hd d
  ne : ∀ k, h = some k → hd ≠ some k
theorem Two.step {B M M' : List Blk} {h hd : Option Nat} {u d u' : List Int} (t : Two B M h hd u d) (r : AtI M' h u') (s : Stp M M' h h) : Two B M' h hd u' d := by
  have o := t.own.step r s
  refine ⟨o, ⟨o.pre, fun k hk => s.old (t.dwn.row k hk) (fun e => t.ne k e hk), t.dwn.nil, t.dwn.new⟩, t.ne⟩
def UsesI (x : Line) (B : List Blk) (f : Fr) (M : List Blk) : Prop := ∃ h hd, f 4 = hrow h x.raw.length ∧ f 3 = hrow hd x.defs.length ∧ Two B M h hd x.raw x.defs
theorem two_nn {B L : List Blk} : Two B (B ++ L) none none [] [] := ⟨.nil0 _ _ _ _, .nil0 _ _ _ _, fun _ h => by cases h⟩
theorem two_sn {B : List Blk} {u : List Int} : Two B (B ++ [.row 3 1 (u.map fun n => [I n])]) (some B.length) none u [] :=
  ⟨⟨⟨_, rfl⟩, fun k hk => by cases hk; simp, fun h => by (cases h), fun k hk => by cases hk; exact Nat.le_refl _⟩, .nil0 _ _ _ _, fun _ _ h => by cases h⟩
theorem two_ns {B : List Blk} {d : List Int} : Two B (B ++ [.row 3 1 (d.map fun n => [I n])]) none (some B.length) [] d :=
  ⟨.nil0 _ _ _ _, ⟨⟨_, rfl⟩, fun k hk => by cases hk; simp, fun h => by (cases h), fun k hk => by cases hk; exact Nat.le_refl _⟩, fun _ h => by cases h⟩
theorem two_ss {B : List Blk} {u d : List Int} : Two B (B ++ [.row 3 1 (d.map fun n => [I n]), .row 3 1 (u.map fun n => [I n])]) (some (B.length + 1)) (some B.length) u d :=
  ⟨⟨⟨_, rfl⟩, fun k hk => by cases hk; simp, fun h => by (cases h), fun k hk => by cases hk; omega⟩, ⟨⟨_, rfl⟩, fun k hk => by cases hk; simp, fun h => by (cases h), fun k hk => by cases hk; exact Nat.le_refl _⟩, fun k h1 h2 => by cases h1; simp at h2⟩
theorem raw_len (x : Line) : x.raw.length ≤ 3 := by
  unfold Line.raw
  repeat' split
  all_goals simp
theorem defs_len (x : Line) : x.defs.length ≤ 1 := by
  unfold Line.defs
  split <;> simp
theorem app_n1 {H : List Blk} {sl : TypeId × Nat × List Value × Nat} {y : List AV} {K : AV → List Blk → Prop} {w : Wit K} (hb : sl.2.2.2 ≤ 140737488355328) (h : K (.hs H.length 0 1 1) (H ++ [.row sl.1 sl.2.1 [y]])) : appendVW H sl nilS [y] K w :=
  appendVW_nil (by simpa using hb) (by simp) (fun hy => by cases hy) (fun _ => h)
theorem app_h0 {H : List Blk} {sl : TypeId × Nat × List Value × Nat} {t sz n : Nat} {es : List (List AV)} {y : List AV} {K : AV → List Blk → Prop} {w : Wit K} (h1 : t = sl.1) (h2 : sz = sl.2.1) (hn : n = es.length) (hb : (n + 1) * sl.2.2.2 ≤ 140737488355328) (h63 : n + 1 ≤ 9223372036854775807)
    (h : K (.hs H.length 0 (n + 1) (n + 1)) (H ++ [.row t sz (es ++ [y])])) : appendVW (H ++ [.row t sz es]) sl (.hs H.length 0 n n) [y] K w := by
  subst h1 h2 hn
  refine appendVW_hs (es := es) (by simp) rfl rfl (by simpa using hb) (by simpa using h63) ?_
  simpa using h
theorem app_h1 {H : List Blk} {r : Blk} {sl : TypeId × Nat × List Value × Nat} {t sz n : Nat} {es : List (List AV)} {y : List AV} {K : AV → List Blk → Prop} {w : Wit K} (h1 : t = sl.1) (h2 : sz = sl.2.1) (hn : n = es.length) (hb : (n + 1) * sl.2.2.2 ≤ 140737488355328) (h63 : n + 1 ≤ 9223372036854775807)
    (h : K (.hs (H.length + 1) 0 (n + 1) (n + 1)) (H ++ [r, .row t sz (es ++ [y])])) : appendVW (H ++ [r, .row t sz es]) sl (.hs (H.length + 1) 0 n n) [y] K w := by
  subst h1 h2 hn
  refine appendVW_hs (es := es) (by simp) rfl rfl (by simpa using hb) (by simpa using h63) ?_
  simpa using h
theorem usesI_nn {x : Line} {B M : List Blk} {f : Fr} (hM : M = B) (h4 : f 4 = nilS) (h3 : f 3 = nilS) (hr : x.raw = []) (hd : x.defs = []) : UsesI x B f M := by
  subst hM
  exact ⟨none, none, by rw [h4, hr]; rfl, by rw [h3, hd]; rfl, by rw [hr, hd]; have := two_nn (B := M) (L := []); rwa [List.append_nil] at this⟩
theorem usesI_sn {x : Line} {B M : List Blk} {f : Fr} (hM : M = B ++ [.row 3 1 (x.raw.map fun n => [I n])]) (h4 : f 4 = .hs B.length 0 x.raw.length x.raw.length) (h3 : f 3 = nilS) (hd : x.defs = []) : UsesI x B f M := by
  subst hM
  exact ⟨some B.length, none, h4, by rw [h3, hd]; rfl, by rw [hd]; exact two_sn⟩
theorem usesI_ns {x : Line} {B M : List Blk} {f : Fr} (hM : M = B ++ [.row 3 1 (x.defs.map fun n => [I n])]) (h4 : f 4 = nilS) (h3 : f 3 = .hs B.length 0 x.defs.length x.defs.length) (hr : x.raw = []) : UsesI x B f M := by
  subst hM
  exact ⟨none, some B.length, by rw [h4, hr]; rfl, h3, by rw [hr]; exact two_ns⟩
theorem usesI_ss {x : Line} {B M : List Blk} {f : Fr} (hM : M = B ++ [.row 3 1 (x.defs.map fun n => [I n]), .row 3 1 (x.raw.map fun n => [I n])]) (h4 : f 4 = .hs (B.length + 1) 0 x.raw.length x.raw.length) (h3 : f 3 = .hs B.length 0 x.defs.length x.defs.length) : UsesI x B f M := by
  subst hM
  exact ⟨some (B.length + 1), some B.length, h4, h3, two_ss⟩
def usHn (d : Nat) : Bool := d == 13 || d == 25 || d == 42 || d == 48 || d == 64 || d == 74 || d == 80 || d == 90
def UsesR (x : Line) (H : List Blk) (e : AE) (M : List Blk) : Prop := ∃ h hd es m, e = .ret (.tup [cutS h m es.length, hrow hd x.defs.length]) ∧ Two H M h hd es x.defs ∧ m ≤ es.length ∧ es.take m = x.uses
theorem uses_own (x : Line) (H : List Blk) : ACalls Tryz.prog 42 [.agg x.cells] H (UsesR x H) := by
  refine acalls_of_awp Tryz.func42 rfl (by kernel_rfl) ?_
  obtain ⟨B, hB⟩ : ∃ B, B = H ++ [.box 67 x.cells] := ⟨_, rfl⟩
  have hBl : B.length = H.length + 1 := by rw [hB]; simp
  have hb : ∀ L, (B ++ L)[H.length]? = some (.box 67 x.cells) := fun L => by rw [hB]; simp
  refine awp_cut (fun _ => false) (fun _ => none) (fun f H' => B = H' ∧ f 1 = .bp H.length 0 ∧ f 3 = nilS) (by kernel_rfl) ?_ ?_
  · simp -dsimp [hB]
  rintro g _ ⟨rfl, g1, g3⟩
  refine awp_cut (fun _ => false) (fun _ => none) (fun f H' => B ++ [] = H' ∧ f 1 = .bp H.length 0 ∧ f 3 = nilS ∧ f 4 = nilS) (by kernel_rfl) ?_ ?_
  · simp -dsimp [g1, g3]
  clear g g1 g3
  rintro g _ ⟨rfl, g1, g3, g4⟩
  simp only [Line.cells] at hb
  have hb0 := hb []
  rw [List.append_nil] at hb0
  replace hB := Hid.mk hB
  replace hBl := Hid.mk hBl
  refine awp_cut usHn (fun _ => none) (UsesI x B) (by kernel_rfl) ?_ ?_
  · simp -dsimp [g1, g3, g4, hb, hb0, usHn]
    repeat' ((with_reducible first | refine And.intro ?_ ?_ | refine guardVW_introTD (fun _ => ?_) (fun _ => ?_) | refine guardVW_introFD (fun _ => ?_) (fun _ => ?_) | refine condVW_introD (fun _ => ?_) (fun _ => ?_) | refine guardVW_introTE (fun _ => ?_) (fun _ _ _ => ?_) | refine guardVW_introFE (fun _ => ?_) (fun _ _ _ => ?_) | refine condVW_introE (fun _ => ?_) (fun _ _ _ => ?_) | refine guardVW_introTNE (fun _ _ _ => ?_) (fun _ => ?_) | refine guardVW_introFNE (fun _ _ _ => ?_) (fun _ => ?_) | refine condVW_introNE (fun _ _ _ => ?_) (fun _ => ?_) | refine guardVW_introTB (fun _ => ?_) (fun _ => ?_) | refine guardVW_introFB (fun _ => ?_) (fun _ => ?_) | refine condVW_introB (fun _ => ?_) (fun _ => ?_) | refine guardVW_introT (fun _ => ?_) (fun _ => ?_) | refine guardVW_introF (fun _ => ?_) (fun _ => ?_) | refine condVW_intro (fun _ => ?_) (fun _ => ?_) | (refine app_n1 (by simp) ?_) | (refine app_h0 rfl rfl rfl (by simp) (by simp) ?_) | (refine app_h1 rfl rfl rfl (by simp) (by simp) ?_)) <;> simp -dsimp [*, usHn])
    all_goals clear hb hb0 hB hBl
    all_goals first
      | (refine usesI_nn ?_ ?_ ?_ ?_ ?_ <;> (simp [Line.raw, Line.defs, *]; done))
      | (refine usesI_sn ?_ ?_ ?_ ?_ <;> (simp [Line.raw, Line.defs, *]; done))
      | (refine usesI_ns ?_ ?_ ?_ ?_ <;> (simp [Line.raw, Line.defs, *]; done))
      | (refine usesI_ss ?_ ?_ ?_ <;> (simp [Line.raw, Line.defs, *]; done))
  clear g g1 g3 g4
  rintro g M ⟨h, hd, g4, g3, tw⟩
  have hs := isort_h x.raw (by have := raw_len x; omega) h M tw.own.at'
  refine awp_all usHn (fun _ => none) (by kernel_rfl) ?_
  simp -dsimp [g3, g4]
  refine acallsW_of hs ?_
  rintro e M1 ⟨rfl, r1, s1⟩
  have tw1 := tw.step r1 s1
  have hl := (sortI_perm x.raw).length_eq
  have hc := icompact_h (sortI x.raw) (by have := raw_len x; omega) h M1 r1
  rw [hl] at hc
  simp -dsimp [g3, g4]
  refine acallsW_of hc ?_
  rintro e M2 ⟨rfl, r2, s2⟩
  have tw2 := tw1.step r2 s2
  rw [hB.out] at tw2
  simp -dsimp [g3, g4]
  refine ⟨h, hd, compRow (sortI x.raw), (Lib.compact (sortI x.raw)).length, by rw [compRow_len, hl], ⟨tw2.own.less, tw2.dwn.less, tw2.ne⟩, ?_, ?_⟩
  · rw [compRow_len]; exact compact_len _
  · rw [compRow_take, compact_sort]; rfl
theorem uses_ok (x : Line) (H : List Blk) : ACalls Tryz.prog 42 [.agg x.cells] H (fun e H' => e = .ret (.tup [Int.sl x.uses, Int.sl x.defs]) ∧ H' = H) := by
  refine acalls_under fun hu _ => acalls_weakE (acalls_tidy ((uses_own x H).mono ?_))
  rintro e M ⟨h, hd, es, m, rfl, tw, hm, ht⟩
  have := tidy_row2 (R := fun e H' => e = .ret (.tup [Int.sl x.uses, Int.sl x.defs]) ∧ H' = H) (m1 := m) (m2 := x.defs.length) hu tw.own tw.dwn (int_frzB _) (int_frzB _) tw.ne (map_len es).symm (map_len x.defs).symm ⟨by
    rw [← List.map_take, ht, List.take_of_length_le (by simp)], rfl⟩
  rwa [cutS_all] at this
end Go.Proofs
namespace Go.Proofs
open Go.Mu
theorem whereM_step {c : List Line} {i : Nat} (h : i < c.length) (t : List (Int × Int)) : whereM (c.drop i) i t = whereM (c.drop (i + 1)) (i + 1) (if c[i].kind = 2 then iset c[i].label (i : Int) t else t) := by rw [drop_cons h, whereM]
structure AtR (l : Linear) (H : List Blk) (k : Nat) (M : List Blk) : Prop where
  pre : ∃ L, M = H ++ L
  new : H.length ≤ k
  map : M[k]? = some (.map (atM (whereM l.code 0 [])))
def WhI (l : Linear) (H : List Blk) (i : Nat) (H' : List Blk) : Prop := ∃ t L, H' = H ++ .box 25 [I l.vars, Int.sl l.params, Int.sl l.rets, I l.frame, Line.sl l.code] :: .map (atM t) :: L ∧ whereM (l.code.drop i) i t = whereM l.code 0 []
theorem where_ok (l : Linear) (hc : l.code.length ≤ 2^40) (H : List Blk) : ACalls Tryz.prog 41 [.agg l.cells] H (fun e M => e = .ret (.hm (H.length + 1)) ∧ AtR l H (H.length + 1) M) := by
  refine acalls_of_vc (hn := fun _ => false) (od := fun _ => none) Tryz.func41 rfl (by kernel_rfl) ?_
  simp -dsimp
  refine loop_rule (hn := fun _ => false) (od := fun _ => none) (fun (i : Nat) f H' => WhI l H i H' ∧ f 3 = .hm (H.length + 1) ∧ f 8 = Line.sl l.code ∧ f 9 = I l.code.length ∧ f 10 = I i ∧ i ≤ l.code.length) (fun i => l.code.length - i) (by kernel_rfl) 0
    (by refine ⟨⟨[], [], by simp [atM], rfl⟩, ?_⟩; simp) ?_
  rintro i f _ ⟨⟨t, L, rfl, hinv⟩, h3, h8, h9, h10, hi⟩
  simp -dsimp [h3, h8, h9, h10]
  refine condVW_introD (fun hlt => ?_) (fun hlt => ?_)
  · have g := List.getElem?_eq_getElem hlt
    rw [whereM_step hlt] at hinv
    obtain ⟨x, hx⟩ : ∃ x, x = l.code[i] := ⟨_, rfl⟩
    rw [← hx] at g hinv
    clear hx
    replace hinv := Hid.mk hinv
    have hset := atM_set x.label (i : Int) t
    simp -dsimp [h3, h8, h9, h10, g]
    by_cases hk : x.kind = 2
    · have hkb : (x.kind == 2) = true := by simpa using hk
      simp -dsimp [h3, h8, h9, h10, g, hkb, mapEs, hset]
      have hinv := hinv.out
      rw [if_pos hk] at hinv
      exact ⟨i + 1, by omega, ⟨_, _, rfl, hinv⟩, wrapS (by omega), by omega⟩
    · have hkb : (x.kind == 2) = false := by simpa using hk
      simp -dsimp [h3, h8, h9, h10, g, hkb]
      have hinv := hinv.out
      rw [if_neg hk] at hinv
      exact ⟨i + 1, by omega, ⟨_, _, rfl, hinv⟩, wrapS (by omega), by omega⟩
  · rw [drop_end hlt, whereM] at hinv
    subst hinv
    simp -dsimp [h3]
    exact ⟨⟨_, rfl⟩, by omega, by simp⟩
end Go.Proofs
namespace Go.Proofs
open Go.Mu
def nxtU (l : Linear) (i : Nat) (x : Line) : List Int := if x.kind = 3 then [(whr l.code x.label : Int)] else if x.kind = 4 then [(i : Int) + 1, (whr l.code x.label : Int)] else [(i : Int) + 1]
theorem nxtU_rise {l : Linear} {i : Nat} {x : Line} (hx : l.code[i]? = some x) (h5 : x.kind ≠ 5) : riseL (nxtU l i x) = nxt l i := by
  unfold nxt nxtU
  rw [hx]
  simp only [h5, if_false]
  split
  · rfl
  · split <;> rfl
theorem nxtU_len (l : Linear) (i : Nat) (x : Line) : (nxtU l i x).length ≤ 2 := by
  unfold nxtU
  repeat' split
  all_goals simp
theorem whr_lab {l : Linear} (ho : LinOk l) {i : Nat} {x : Line} (hx : l.code[i]? = some x) (hk : x.kind = 3 ∨ x.kind = 4) : ilook x.label (whereM l.code 0 []) = some (whr l.code x.label : Int) := by
  have hj := ho.jump x (List.mem_of_getElem? hx) hk
  have hn : (labs l.code).Nodup := whr_nodup.2 ho.uniq
  rw [whereM_look _ _ _ _ hn, if_pos hj]; simp
def NextI (l : Linear) (i : Nat) (x : Line) (B : List Blk) (f : Fr) (M : List Blk) : Prop := x.kind ≠ 5 ∧ ∃ h, f 7 = hrow h (nxtU l i x).length ∧ OwnI B M h (nxtU l i x)
theorem nextI_of {l : Linear} {i : Nat} {x : Line} {B M : List Blk} {b : Blk} {f : Fr} (h5 : x.kind ≠ 5) (hM : M = B ++ [b, .row 3 1 ((nxtU l i x).map fun n => [I n])]) (h : f 7 = .hs (B.length + 1) 0 (nxtU l i x).length (nxtU l i x).length) : NextI l i x B f M := by
  subst hM
  exact ⟨h5, some (B.length + 1), h, ⟨⟨_, rfl⟩, fun k hk => by cases hk; simp, fun h => by (cases h), fun k hk => by cases hk; omega⟩⟩
def nxHn (d : Nat) : Bool := d == 30 || d == 37 || d == 42
theorem next_ok (l : Linear) (ho : LinOk l) (hc : l.code.length ≤ 2^40) (i k : Nat) (hi : i < l.code.length) (H : List Blk) (hk : H[k]? = some (.map (atM (whereM l.code 0 [])))) : ACalls Tryz.prog 43 [.agg l.cells, I i, .hm k] H (fun e H' => e = .ret (Int.sl (nxt l i)) ∧ H' = H) := by
  refine acalls_under fun hu _ => acalls_weakE (acalls_tidy (acalls_of_awp Tryz.func43 rfl (by kernel_rfl) ?_))
  obtain ⟨x, hx⟩ : ∃ x, l.code[i]? = some x := ⟨_, List.getElem?_eq_getElem hi⟩
  obtain ⟨B, hB⟩ : ∃ B, B = H ++ [.box 25 l.cells] := ⟨_, rfl⟩
  have hBl : Hid (B.length = H.length + 1) := ⟨by rw [hB]; simp⟩
  have hb : ∀ L, (B ++ L)[H.length]? = some (.box 25 l.cells) := fun L => by rw [hB]; simp
  have hm : ∀ L, (B ++ L)[k]? = some (.map (atM (whereM l.code 0 []))) := fun L => by rw [hB, List.append_assoc]; exact get_app_old hk _
  have hb0 := hb []
  rw [List.append_nil] at hb0
  simp only [Linear.cells] at hb hb0
  have u0 : i < l.code.length := hi
  have fin : Hid (∀ L, nxt l i = [(l.code.length : Int)] → Tidy H (WeakE fun e H' => e = .ret (Int.sl (nxt l i)) ∧ H' = H) (.ret (.vs 1 [[I l.code.length]])) (B ++ L)) := ⟨fun L h => by
    rw [hB, List.append_assoc]
    exact tidy_same rfl ⟨_, .refl _, by rw [h]; exact ⟨rfl, rfl⟩⟩⟩
  replace hB := Hid.mk hB
  have hu := Hid.mk hu
  refine awp_cut (fun _ => false) (fun _ => none) (fun f H' => B = H' ∧ f 3 = .bp H.length 0 ∧ f 1 = I i ∧ f 2 = .hm k) (by kernel_rfl) ?_ ?_
  · simp -dsimp [hB.out]
  rintro g _ ⟨rfl, g3, g1, g2⟩
  refine awp_cut (fun _ => false) (fun _ => none) (fun f H' => B = H' ∧ f 3 = .bp H.length 0 ∧ f 1 = I i ∧ f 2 = .hm k ∧ f 7 = nilS) (by kernel_rfl) ?_ ?_
  · simp -dsimp [g1, g2, g3]
  clear g g1 g2 g3
  rintro g _ ⟨rfl, g3, g1, g2, g7⟩
  have hw := whr_lab ho hx
  have hf := atM_find x.label (whereM l.code 0 [])
  have me : ∀ L, mapEs (B ++ L) (.hm k) = some (atM (whereM l.code 0 [])) := fun L => by simp only [mapEs, hm]
  have hi' := Hid.mk hi
  have h5 := nxtU_rise hx
  have he : x.kind = 5 → nxt l i = [(l.code.length : Int)] := fun h => by unfold nxt; rw [hx]; simp [h]
  replace h5 := Hid.mk h5
  replace he := Hid.mk he
  refine awp_cut nxHn (fun _ => none) (NextI l i x B) (by kernel_rfl) ?_ ?_
  · simp -dsimp [g1, g2, g3, g7, hb, hb0, hx, nxHn]
    have hwr : IntKind.i64.wrap ((i : Int) + 1) = (i : Int) + 1 := by have := wrapS (i := i) (by omega); omega
    have ua : x.kind = 5 ∨ x.kind = 4 ∨ x.kind = 3 ∨ (x.kind ≠ 5 ∧ x.kind ≠ 4 ∧ x.kind ≠ 3) := by omega
    rcases ua with hk5 | hk4 | hk3 | ⟨n5, n4, n3⟩
    · have b5 : (x.kind == 5) = true := by simpa using hk5
      simp -dsimp [g1, g2, g3, g7, hb, hb0, hx, nxHn, b5]
      exact fin.out _ (he.out hk5)
    · have b5 : (x.kind == 5) = false := by simp [hk4]
      have b4 : (x.kind == 4) = true := by simpa using hk4
      rw [hw (.inr hk4)] at hf
      simp -dsimp [g1, g2, g3, g7, hb, hb0, hx, nxHn, b5, b4, hwr]
      refine app_n1 (by simp) ?_
      simp -dsimp [g1, g2, g3, g7, hb, hb0, hx, nxHn, b5, b4, hwr, me, hf]
      refine app_h1 rfl rfl rfl (by simp) (by simp) ?_
      simp -dsimp [g1, g2, g3, g7, hb, hb0, hx, nxHn, b5, b4, hwr, me, hf]
      refine nextI_of (b := .box 67 x.cells) (by omega) (by simp [nxtU, hk4]) ?_
      simp [nxtU, hk4]
    · have b5 : (x.kind == 5) = false := by simp [hk3]
      have b4 : (x.kind == 4) = false := by simp [hk3]
      have b3 : (x.kind == 3) = true := by simpa using hk3
      rw [hw (.inl hk3)] at hf
      simp -dsimp [g1, g2, g3, g7, hb, hb0, hx, nxHn, b5, b4, b3, hwr, me, hf]
      refine app_n1 (by simp) ?_
      simp -dsimp [g1, g2, g3, g7, hb, hb0, hx, nxHn, b5, b4, b3, hwr]
      refine nextI_of (b := .box 67 x.cells) (by omega) (by simp [nxtU, hk3]) ?_
      simp [nxtU, hk3]
    · have b5 : (x.kind == 5) = false := by simpa using n5
      have b4 : (x.kind == 4) = false := by simpa using n4
      have b3 : (x.kind == 3) = false := by simpa using n3
      simp -dsimp [g1, g2, g3, g7, hb, hb0, hx, nxHn, b5, b4, b3, hwr]
      refine app_n1 (by simp) ?_
      simp -dsimp [g1, g2, g3, g7, hb, hb0, hx, nxHn, b5, b4, b3, hwr]
      refine nextI_of (b := .box 67 x.cells) (by omega) (by simp [nxtU, n3, n4]) ?_
      simp [nxtU, n3, n4]
  clear g g1 g2 g3 g7
  rintro g M ⟨q5, h, g7, ow⟩
  have hlen := nxtU_len l i x
  have hs := isort_h (nxtU l i x) (by omega) h M ow.at'
  refine awp_all nxHn (fun _ => none) (by kernel_rfl) ?_
  simp -dsimp [g7]
  refine acallsW_of hs ?_
  rintro e M1 ⟨rfl, r1, s1⟩
  have ow1 := ow.step r1 s1
  have hl := (sortI_perm (nxtU l i x)).length_eq
  have hc := icompact_h (sortI (nxtU l i x)) (by omega) h M1 r1
  rw [hl] at hc
  simp -dsimp [g7]
  refine acallsW_of hc ?_
  rintro e M2 ⟨rfl, r2, s2⟩
  have ow2 := ow1.step r2 s2
  rw [hB.out] at ow2
  simp -dsimp [g7]
  refine tidy_row1 hu.out ow2.less (int_frzB _) (by simp [compRow_len, hl]) ⟨?_, rfl⟩
  rw [← List.map_take, compRow_take, compact_sort, h5.out q5]
end Go.Proofs
namespace Go.Proofs
open Go.Mu
structure Linear.Sm (l : Linear) : Prop where
  params : l.params.length ≤ 2^36
  rets : l.rets.length ≤ 2^36
  code : l.code.length ≤ 2^36
end Go.Proofs
namespace Go.Proofs
open Go.Mu
theorem sm_of {l : Linear} (h : l.params.length + l.rets.length + l.code.length ≤ 2^36) : l.Sm := ⟨by omega, by omega, by omega⟩
end Go.Proofs
