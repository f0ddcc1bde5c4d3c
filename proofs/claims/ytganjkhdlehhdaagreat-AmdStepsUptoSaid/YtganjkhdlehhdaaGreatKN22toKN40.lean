/- Instructions of an operation. -/
import Derived.Test.YtganjkhdlehhdaaGreatKN0toL10
import Derived.Test.YtganjkhdlehhdaaGreatFwQtoFwT
set_option linter.unusedVariables false
set_option linter.unusedSimpArgs false
set_option maxHeartbeats 4000000
set_option maxRecDepth 100000
namespace Go.Proofs.Lm
open Go.Mu
abbrev R11 (n : Int) : Prop := 0 ≤ n ∧ n < 11
theorem getDI (o : Option Int) : (o.map I).getD (assertV.avZ (Value.int .i64 0)) = I (o.getD 0) := by cases o <;> rfl
theorem isSomeI (o : Option Int) : (o.map I).isSome = o.isSome := by cases o <;> rfl
end Go.Proofs.Lm
namespace Go.Proofs.Lm
open Go.Mu
structure LineIn (x : Line) : Prop where
  kind : 1 ≤ x.kind ∧ x.kind ≤ 5
  var : x.kind = 4 → R11 x.var
  ins : x.kind = 1 → 1 ≤ x.ins.kind ∧ x.ins.kind ≤ 5 ∧ (x.ins.kind ≤ 3 → R11 x.ins.a) ∧ x.ins.a < 11 ∧ R11 x.ins.b ∧ R11 x.ins.c ∧ R11 x.ins.d ∧ (x.ins.kind = 3 → 4 ≤ x.ins.op ∧ x.ins.op ≤ 21)
end Go.Proofs.Lm
namespace Go.Proofs.Lm
open Go.Mu
theorem amd_nq (x y : Amd) : binE Tryz.prog .neq 56 (.agg x.cells) (.agg y.cells) = some (Bo (!decide (x = y))) := by
  simp only [Amd.cells, I, U, Bo]
  rw [Tryz.nq56]
  congr 3
  congr 1
  rw [Bool.eq_iff_iff]
  simp [Amd.ext_iff, and_assoc]
def short (w : Int) : Bool := IntKind.u64.wrap (IntKind.i64.wrap (IntKind.i32.wrap w)) == w
theorem short_ok (w : Int) (H : List Blk) : ACalls Tryz.prog 25 [U w] H (fun e H' => e = .ret (Bo (short w)) ∧ H' = H) := by
  refine acalls_of_vc (hn := fun _ => false) (od := fun _ => none) Tryz.func25 rfl (by kernel_rfl) ?_
  simp -dsimp [short]
end Go.Proofs.Lm
namespace Go.Proofs.Lm
open Go.Mu
end Go.Proofs.Lm
namespace Go.Proofs.Lm
open Go.Mu
end Go.Proofs.Lm
namespace Go.Proofs.Lm
open Go.Mu
end Go.Proofs.Lm
namespace Go.Proofs.Lm
open Go.Mu
end Go.Proofs.Lm
namespace Go.Proofs.Lm
open Go.Mu
end Go.Proofs.Lm
namespace Go.Proofs.Lm
open Go.Mu
end Go.Proofs.Lm
namespace Go.Proofs.Lm
open Go.Mu
def putT : List (Int × Int) → Int → Int → List (Int × Int)
  | [], k, v => [(k, v)]
  | (a, b) :: l, k, v => if k = a then (k, v) :: l else (a, b) :: putT l k v
theorem tab_set (k v : Int) (l : List (Int × Int)) : mset (.int .i64) (.int .i64 k) (I v) (tabM l) = some (tabM (putT l k v)) := by
  induction l with
  | nil => rfl
  | cons p l ih =>
    obtain ⟨a, b⟩ := p
    have : tabM ((a, b) :: l) = (.int .i64 a, I b) :: tabM l := rfl
    rw [this, mset, sameNow_i64, putT]
    by_cases h : k = a
    · subst h; simp [tabM]
    · have e : (k == a) = false := by simp [h]
      rw [e, if_neg h]; simp only [ih]; rfl
end Go.Proofs.Lm
namespace Go.Proofs.Lm
open Go.Mu
section
variable {H A : List Blk} {c p r c' : List (List AV)} {bx bx' : Blk} {X : List Blk}
end
end Go.Proofs.Lm
namespace Go.Proofs.Lm
open Go.Mu
theorem putT_new (k v : Int) (t : List (Int × Int)) (h : ∀ p ∈ t, p.1 ≠ k) : putT t k v = t ++ [(k, v)] := by
  induction t with
  | nil => rfl
  | cons p t ih =>
    obtain ⟨a, b⟩ := p
    have ha : a ≠ k := h (a, b) (by simp)
    rw [putT, if_neg (fun e => ha e.symm), ih (fun p hp => h p (by simp [hp]))]; rfl
end Go.Proofs.Lm
namespace Go.Proofs.Lm
open Go.Mu
end Go.Proofs.Lm
namespace Go.Proofs.Lm
open Go.Mu
def partsT : List (Int × Int) := [(1, 3), (2, 5), (3, 9), (4, 10), (5, 19), (6, 21), (7, 33), (8, 37), (9, 1), (10, 1), (11, 3), (12, 3), (13, 5), (14, 65), (15, 3), (16, 67), (17, 128), (18, 192), (19, 128), (20, 0)]
theorem parts_ok (H : List Blk) : ACalls Tryz.prog 51 [] H (fun e H' => e = .ret (.hm H.length) ∧ H' = H ++ [.map (tabM partsT)]) := by
  refine acalls_of_vc (hn := fun _ => false) (od := fun _ => none) Tryz.func51 rfl (by kernel_rfl) ?_
  simp -dsimp [mset_nil, mset_cons]
  rfl
def bitP (p m : Int) : Bool := IntKind.i64.wrap (((BitVec.ofInt 64 p) &&& (BitVec.ofInt 64 m)).toNat) != 0
def stripA (i : Amd) (p : Int) : Amd :=
  ⟨i.op, if bitP p 16 then i.bin else 0, if bitP p 32 then i.shift else 0, if bitP p 64 then i.cond else 0, if bitP p 1 then i.dst else 0, if bitP p 2 then i.src else 0, if bitP p 4 then i.imm else 0,
    if bitP p 8 then i.base else 0, if bitP p 8 then i.index else 0, if bitP p 8 then i.hasBase else false, if bitP p 8 then i.hasIndex else false, if bitP p 8 then i.disp else 0, if bitP p 128 then i.label else 0⟩
def isReg (r : Int) : Bool := decide (0 ≤ r) && decide (r ≤ 15)
theorem reg_is_ok (r : Int) (H : List Blk) : ACalls Tryz.prog 60 [I r] H (fun e H' => e = .ret (Bo (isReg r)) ∧ H' = H) := by
  refine acalls_of_vc (hn := fun _ => false) (od := fun _ => none) Tryz.func60 rfl (by kernel_rfl) ?_
  simp -dsimp
  repeat' ((with_reducible first | refine And.intro ?_ ?_ | refine guardVW_introTD (fun _ => ?_) (fun _ => ?_) | refine guardVW_introFD (fun _ => ?_) (fun _ => ?_) | refine condVW_introD (fun _ => ?_) (fun _ => ?_) | refine guardVW_introTE (fun _ => ?_) (fun _ _ _ => ?_) | refine guardVW_introFE (fun _ => ?_) (fun _ _ _ => ?_) | refine condVW_introE (fun _ => ?_) (fun _ _ _ => ?_) | refine guardVW_introTNE (fun _ _ _ => ?_) (fun _ => ?_) | refine guardVW_introFNE (fun _ _ _ => ?_) (fun _ => ?_) | refine condVW_introNE (fun _ _ _ => ?_) (fun _ => ?_) | refine guardVW_introTB (fun _ => ?_) (fun _ => ?_) | refine guardVW_introFB (fun _ => ?_) (fun _ => ?_) | refine condVW_introB (fun _ => ?_) (fun _ => ?_) | refine guardVW_introT (fun _ => ?_) (fun _ => ?_) | refine guardVW_introF (fun _ => ?_) (fun _ => ?_) | refine condVW_intro (fun _ => ?_) (fun _ => ?_)) <;> simp -dsimp [*])
  all_goals simp [isReg, *]
def mayAddr (base index : Int) (hb hi : Bool) (disp : Int) : Bool :=
  isReg base && (hb || base == 0) && (isReg index && (hi || index == 0) && !(hi && index == 4)) && short (IntKind.u64.wrap disp)
theorem mayAddr_ok (base index : Int) (hb hi : Bool) (disp : Int) (H : List Blk) : ACalls Tryz.prog 94 [.agg [I base, I index, Bo hb, Bo hi, I disp]] H (fun e H' => e = .ret (Bo (mayAddr base index hb hi disp)) ∧ H' = H) := by
  refine acalls_tidy (acalls_of_vc (hn := fun _ => false) (od := fun _ => none) Tryz.func94 rfl (by kernel_rfl) ?_)
  have c := reg_is_ok
  have s := short_ok
  simp -dsimp
  cases hb <;> cases hi
  all_goals repeat' ((with_reducible first | refine And.intro ?_ ?_ | refine guardVW_introTD (fun _ => ?_) (fun _ => ?_) | refine guardVW_introFD (fun _ => ?_) (fun _ => ?_) | refine condVW_introD (fun _ => ?_) (fun _ => ?_) | refine guardVW_introTE (fun _ => ?_) (fun _ _ _ => ?_) | refine guardVW_introFE (fun _ => ?_) (fun _ _ _ => ?_) | refine condVW_introE (fun _ => ?_) (fun _ _ _ => ?_) | refine guardVW_introTNE (fun _ _ _ => ?_) (fun _ => ?_) | refine guardVW_introFNE (fun _ _ _ => ?_) (fun _ => ?_) | refine condVW_introNE (fun _ _ _ => ?_) (fun _ => ?_) | refine guardVW_introTB (fun _ => ?_) (fun _ => ?_) | refine guardVW_introFB (fun _ => ?_) (fun _ => ?_) | refine condVW_introB (fun _ => ?_) (fun _ => ?_) | refine guardVW_introT (fun _ => ?_) (fun _ => ?_) | refine guardVW_introF (fun _ => ?_) (fun _ => ?_) | refine condVW_intro (fun _ => ?_) (fun _ => ?_) | refine acallsW_det (c _ _) ?_ | refine callDW_intro (c _ _) ?_ | refine acallsW_det (s _ _) ?_ | refine callDW_intro (s _ _) ?_) <;> simp -dsimp [*])
  all_goals refine tidy_same rfl ⟨?_, rfl⟩
  all_goals first | (simp [mayAddr, *]; done) | (simp_all [mayAddr]; done)
theorem strip_at (i : Amd) (p : Int) (hp : p ∈ partsT.map (·.2)) (H : List Blk) : ACalls Tryz.prog 93 [.agg i.cells, I p] H (fun e H' => e = .ret (.agg (stripA i p).cells) ∧ H' = H) := by
  refine acalls_tidy (acalls_of_vc (hn := fun _ => false) (od := fun _ => none) Tryz.func93 rfl (by kernel_rfl) ?_)
  simp only [partsT, List.map_cons, List.map_nil, List.mem_cons, List.not_mem_nil, or_false] at hp
  rcases hp with rfl | rfl | rfl | rfl | rfl | rfl | rfl | rfl | rfl | rfl | rfl | rfl | rfl | rfl | rfl | rfl | rfl | rfl | rfl | rfl
  all_goals simp -dsimp [IntKind.bits, IntKind.wrap]
  all_goals exact tidy_same rfl ⟨by simp [stripA, bitP, IntKind.wrap, IntKind.bits, IntKind.signed], rfl⟩
def mayOne (i : Amd) : Bool :=
  match partsT.lookup i.op with
  | none => false
  | some p => decide (i = stripA i p) && isReg i.dst && isReg i.src && mayAddr i.base i.index i.hasBase i.hasIndex i.disp &&
    !(bitP p 16 && (decide (i.bin < 1) || decide (8 < i.bin)) || bitP p 32 && (decide (i.shift < 1) || decide (5 < i.shift))) &&
    !(decide (i.cond < 0) || decide (15 < i.cond) || decide (i.label < 0) || decide (1048576 < i.label)) &&
    (if i.op = 6 ∨ i.op = 13 then short i.imm else (i.op != 8 || decide (i.imm < 64)))
theorem lookup_mem {k v : Int} : ∀ {l : List (Int × Int)}, l.lookup k = some v → (k, v) ∈ l
  | [], h => by simp at h
  | (a, b) :: l, h => by
    rw [List.lookup_cons] at h
    by_cases hk : k = a
    · subst hk; simp at h; simp [h]
    · have : (k == a) = false := by simp [hk]
      rw [this] at h; exact List.mem_cons_of_mem _ (lookup_mem h)
theorem mayOne_ok (i : Amd) (k : Nat) (H : List Blk) (hk : H[k]? = some (.map (tabM partsT))) : ACalls Tryz.prog 53 [.agg i.cells, .hm k] H (fun e H' => e = .ret (Bo (mayOne i)) ∧ H' = H) := by
  refine acalls_tidy (acalls_of_vc (hn := fun _ => false) (od := fun _ => none) Tryz.func53 rfl (by kernel_rfl) ?_)
  have hm : ∀ X, mapEs (H ++ X) (.hm k) = some (tabM partsT) := by
    intro X; simp only [mapEs]; rw [List.getElem?_append_left (lt_of_get hk), hk]
  have hf := tab_find i.op partsT
  have leaf : Hid (∀ (L : List Blk) (c : Bool), c = mayOne i → Tidy H (fun e H' => e = AE.ret (Bo (mayOne i)) ∧ H' = H) (AE.ret (AV.v (Value.bool c))) (H ++ L)) := ⟨fun L c hb => tidy_same rfl ⟨by rw [hb], rfl⟩⟩
  have c := reg_is_ok
  have s := short_ok
  have ma := mayAddr_ok
  have hnq := fun (x y : Amd) => amd_nq x y
  simp only [Amd.cells] at hnq
  cases hl : partsT.lookup i.op with
  | none =>
    rw [hl] at hf
    simp -dsimp [hm, hf]
    exact leaf.out _ _ (by simp [mayOne, hl])
  | some p =>
    rw [hl] at hf
    have hp : p ∈ partsT.map (·.2) := List.mem_map.2 ⟨_, lookup_mem hl, rfl⟩
    have st := fun H => strip_at i p hp H
    simp only [Amd.cells] at st
    obtain ⟨b16, h16⟩ : ∃ b, b = bitP p 16 := ⟨_, rfl⟩
    obtain ⟨b32, h32⟩ : ∃ b, b = bitP p 32 := ⟨_, rfl⟩
    have e16 : (IntKind.i64.wrap (((p % 2 ^ IntKind.i64.bits).toNat &&& 16 % 2 ^ IntKind.i64.bits : Nat) : Int) != 0) = b16 := by rw [h16]; simp [bitP, IntKind.bits]
    have e32 : (IntKind.i64.wrap (((p % 2 ^ IntKind.i64.bits).toNat &&& 32 % 2 ^ IntKind.i64.bits : Nat) : Int) != 0) = b32 := by rw [h32]; simp [bitP, IntKind.bits]
    obtain ⟨d, hd⟩ : ∃ d, d = decide (i = stripA i p) := ⟨_, rfl⟩
    replace hnq := hnq i (stripA i p)
    rw [← hd] at hnq
    simp -dsimp [hm, hf]
    refine callDW_intro (st _) ?_
    clear st hf hm
    cases d
    · simp -dsimp [hnq, -Tryz.nq56]
      refine leaf.out _ _ ?_
      simp [mayOne, hl, ← hd]
    replace hd := Hid.mk hd
    replace h16 := Hid.mk h16
    replace h32 := Hid.mk h32
    simp -dsimp [hnq, -Tryz.nq56]
    repeat' ((with_reducible first | refine And.intro ?_ ?_ | refine guardVW_introTD (fun _ => ?_) (fun _ => ?_) | refine guardVW_introFD (fun _ => ?_) (fun _ => ?_) | refine condVW_introD (fun _ => ?_) (fun _ => ?_) | refine guardVW_introTE (fun _ => ?_) (fun _ _ _ => ?_) | refine guardVW_introFE (fun _ => ?_) (fun _ _ _ => ?_) | refine condVW_introE (fun _ => ?_) (fun _ _ _ => ?_) | refine guardVW_introTNE (fun _ _ _ => ?_) (fun _ => ?_) | refine guardVW_introFNE (fun _ _ _ => ?_) (fun _ => ?_) | refine condVW_introNE (fun _ _ _ => ?_) (fun _ => ?_) | refine guardVW_introTB (fun _ => ?_) (fun _ => ?_) | refine guardVW_introFB (fun _ => ?_) (fun _ => ?_) | refine condVW_introB (fun _ => ?_) (fun _ => ?_) | refine guardVW_introT (fun _ => ?_) (fun _ => ?_) | refine guardVW_introF (fun _ => ?_) (fun _ => ?_) | refine condVW_intro (fun _ => ?_) (fun _ => ?_) | refine acallsW_det (c _ _) ?_ | refine callDW_intro (c _ _) ?_ | refine acallsW_det (ma _ _ _ _ _ _) ?_ | refine callDW_intro (ma _ _ _ _ _ _) ?_ | refine acallsW_det (s _ _) ?_ | refine callDW_intro (s _ _) ?_) <;> simp -dsimp [*, e16, e32, -Tryz.nq56])
    all_goals refine leaf.out _ _ ?_
    all_goals simp only [mayOne, hl, ← h16.out, ← h32.out, ← hd.out]
    all_goals clear leaf c s ma hnq e16 e32 h16 h32 hl hp hd
    all_goals first | (simp [*]; done) | (simp [*]; omega)
end Go.Proofs.Lm
namespace Go.Proofs.Lm
open Go.Mu
def labsA : List Amd → Nat → List (Int × Int)
  | [], _ => []
  | a :: l, i => if a.op = 19 then (a.label, (i : Int)) :: labsA l (i + 1) else labsA l (i + 1)
theorem labels_ok (l : List Amd) (H : List Blk) : ACalls Tryz.prog 70 [Amd.sl l] H (fun e H' => e = .ret (.fn (.func 101) [] [.bp H.length 0]) ∧ H' = H ++ [.box 22 [Amd.sl l]]) := by
  refine acalls_of_vc (hn := fun _ => false) (od := fun _ => none) Tryz.func70 rfl (by kernel_rfl) ?_
  simp -dsimp
theorem labels_seq (l : List Amd) (hl : l.length ≤ 2^40) (kb base : Nat) (hkb : kb < base) : ASeq Tryz.prog 101 [.bp kb 0] ((labsA l 0).map fun p => [I p.1, I p.2]) base (fun A => A[kb]? = some (.box 22 [Amd.sl l])) := by
  intro k J Jx hJ hy A h0
  refine acalls_of_vc (hn := fun _ => false) (od := fun _ => none) Tryz.func101 rfl (by kernel_rfl) ?_
  have g0 : A[kb]? = some (.box 22 [Amd.sl l]) := (hJ 0 A h0).2
  simp -dsimp [g0]
  refine loop_rule (hn := fun _ => false) (od := fun _ => none) (fun (i : Nat) f H' => (∃ j A' B, H' = A' ++ B ∧ J j A' ∧ j ≤ (labsA l 0).length ∧ (labsA l 0).drop j = labsA (l.drop i) i) ∧ f 0 = .yl k ∧ f 5 = Amd.sl l ∧ f 6 = I l.length ∧ f 7 = I i ∧ i ≤ l.length) (fun i => l.length - i) (by kernel_rfl) 0 (by refine ⟨⟨0, A, [], by simp, h0, Nat.zero_le _, rfl⟩, ?_⟩; simp) ?_
  rintro i f H' ⟨⟨j, A', B, rfl, hj, hjle, hdr⟩, f0, f5, f6, f7, hi⟩
  simp -dsimp [f0, f5, f6, f7]
  refine condVW_introD (fun hlt => ?_) (fun hlt => ?_)
  · have hg : l[i]? = some l[i] := List.getElem?_eq_getElem hlt
    rw [drop_cons hlt, labsA] at hdr
    simp -dsimp [f0, f5, f6, f7, hg]
    refine guardVW_introTE (fun hk => ?_) (fun hk _ _ => ?_)
    · rw [if_pos hk] at hdr
      have hxj : ((labsA l 0).map fun p => [I p.1, I p.2])[j]? = some [I l[i].label, I i] := by
        rw [List.getElem?_map]
        have : (labsA l 0)[j]? = some (l[i].label, (i : Int)) := by
          have := List.getElem?_drop (xs := labsA l 0) (i := j) (j := 0)
          rw [hdr] at this; simpa using this.symm
        rw [this]; rfl
      simp -dsimp [f0, f5, f6, f7, hg, hk]
      refine ayieldW_of (hy j A' _ _ hxj hj) ?_
      rintro e M ⟨A2, C, rfl, ⟨rfl, h1⟩ | ⟨rfl, h2⟩⟩
      · have hjlt : j < (labsA l 0).length := by simpa using (List.getElem?_eq_some_iff.1 hxj).1
        simp -dsimp [f0, f5, f6, f7, hk]
        refine ⟨i + 1, by omega, ⟨j + 1, A2, ⟨_, rfl⟩, h1, by omega, ?_⟩, wrapS (by omega), by omega⟩
        rw [← List.drop_drop, hdr]; rfl
      · simp -dsimp [f0, f5, f6, f7, hk]
        exact ⟨A2, ⟨_, rfl⟩, .inr h2⟩
    · rw [if_neg hk] at hdr
      have hkb : (l[i].op == 19) = false := by simp [hk]
      simp -dsimp [f0, f5, f6, f7, hg, hkb]
      exact ⟨i + 1, by omega, ⟨j, A', ⟨_, rfl⟩, hj, hjle, hdr⟩, wrapS (by omega), by omega⟩
  · simp -dsimp [f0, f5, f6, f7]
    rw [drop_end hlt, labsA] at hdr
    have hjl : (labsA l 0).length ≤ j := by simpa using hdr
    obtain rfl : j = (labsA l 0).length := by omega
    exact ⟨A', ⟨_, rfl⟩, .inl hj⟩
end Go.Proofs.Lm
namespace Go.Proofs.Lm
open Go.Mu
def keysA (l : List Amd) : List Int := (labsA l 0).map (·.1)
def goodA (l : List Amd) (a : Amd) : Bool := mayOne a && (!(a.op == 17 || a.op == 18) || decide (a.label ∈ keysA l))
def mayA (l : List Amd) : Bool := decide (l.length ≤ 1048576) && decide (keysA l).Nodup && l.all (goodA l)
theorem lookup_none {k : Int} : ∀ {t : List (Int × Int)}, t.lookup k = none ↔ k ∉ t.map (·.1)
  | [] => by simp
  | (a, b) :: t => by
    rw [List.lookup_cons]
    by_cases h : k = a
    · subst h; simp
    · have : (k == a) = false := by simp [h]
      rw [this]; simp [lookup_none (t := t), h]
def opM (H : List Blk) (l : List Amd) (b0 b1 : AV) (t : List (Int × Int)) : List Blk :=
  H ++ [.box 83 [b0], .box 4 [b1], .map (tabM t), .box 137 [Amd.sl l, .hm (H.length + 2)], .box 83 [.bp (H.length + 3) 0], .box 22 [Amd.sl l]]
theorem opM_len {H : List Blk} {l : List Amd} {b0 b1 : AV} {t : List (Int × Int)} : (opM H l b0 b1 t).length = H.length + 6 := by simp [opM]
theorem open_ok (l : List Amd) (hl : l.length ≤ 2^40) (H : List Blk) : ACalls Tryz.prog 38 [Amd.sl l] H (fun e H' => ∃ t C, e = .ret (.tup [if mayA l = true then .bp (H.length + 3) 0 else .v (.pointer none), Bo (mayA l)]) ∧
    H' = H ++ ([.box 83 [if mayA l = true then .bp (H.length + 3) 0 else .v (.pointer none)], .box 4 [Bo (mayA l)], .map (tabM t), .box 137 [Amd.sl l, .hm (H.length + 2)]] ++ C) ∧ (mayA l = true → t = labsA l 0)) := by
  refine acalls_of_vcM (hn := fun _ => false) (od := fun _ => none) Tryz.func38 rfl (by kernel_rfl) ?_
  have lb := fun H => labels_ok l H
  simp -dsimp
  refine condVW_introD (fun h0 => ?_) (fun h0 => ?_)
  · simp -dsimp
    have hm : mayA l = false := by simp [mayA]; intro h; omega
    simp [hm, tabM]
  have hl2 : l.length ≤ 1048576 := by omega
  simp -dsimp
  refine acallsW_of (lb _) (fun e H' hq => ?_)
  obtain ⟨rfl, rfl⟩ := hq
  simp -dsimp
  have hM : H ++ [Blk.box 83 [.v (.pointer none)], .box 4 [Bo false], .map [], .box 137 [Amd.sl l, .hm (H.length + 2)], .box 83 [.bp (H.length + 3) 0], .box 22 [Amd.sl l]] = opM H l (.v (.pointer none)) (Bo false) [] := rfl
  rw [hM]
  have keys : ∀ i, ((labsA l 0).take i).map (·.1) = (keysA l).take i := by intro i; rw [keysA, List.map_take]
  refine awp_range ((labsA l 0).map fun p => [I p.1, I p.2]) (fun A => A[H.length + 5]? = some (.box 22 [Amd.sl l])) (fun i A => A = opM H l (.v (.pointer none)) (Bo false) ((labsA l 0).take i) ∧ ((keysA l).take i).Nodup)
    (fun ex A => ex = .ret ∧ ∃ t, A = opM H l (.v (.pointer none)) (Bo false) t ∧ ¬ (keysA l).Nodup) (by kernel_rfl) rfl (by simp only [List.mem_map]; rintro e ⟨p, _, rfl⟩; rfl) ?_ ⟨rfl, by simp⟩ ?_ ?_ ?_ ?_ ?_
  · rw [opM_len]
    intro k J Jx hJ hy A h0
    refine labels_seq l hl (H.length + 5) (H.length + 6 + 2) (by omega) k J Jx (fun i A h => ?_) hy A h0
    obtain ⟨h1, A0, b, rfl, h2, h3⟩ := hJ i A h
    exact ⟨h1, get_app_old h3 b⟩
  · rintro i A ⟨rfl, -⟩
    exact ⟨by simp [opM], by simp [opM]⟩
  · rintro ex A ⟨-, t, rfl, -⟩
    simp [opM]
  · rintro i A B e he ⟨rfl, hnd⟩
    rw [List.getElem?_map] at he
    obtain ⟨⟨lab, at_⟩, hp, rfl⟩ := Option.map_eq_some_iff.1 he
    have hi : i < (labsA l 0).length := (List.getElem?_eq_some_iff.1 hp).1
    have hkl : (keysA l).length = (labsA l 0).length := by simp [keysA]
    have hki : (keysA l)[i]? = some lab := by rw [keysA, List.getElem?_map, hp]; rfl
    refine awpW_of_vc (hn := fun _ => false) (od := fun _ => none) (by kernel_rfl) ?_
    simp -dsimp
    intro B'
    refine awpW_of_vc (hn := fun _ => false) (od := fun _ => none) (by kernel_rfl) ?_
    have hf := tab_find lab ((labsA l 0).take i)
    have hs := tab_set lab at_ ((labsA l 0).take i)
    have hgd := getDI (List.lookup lab ((labsA l 0).take i))
    have hsm := isSomeI (List.lookup lab ((labsA l 0).take i))
    simp -dsimp [opM, hf, hs, hgd, hsm]
    have hkt : ((keysA l).take i).length = i := by simp; omega
    cases hlk : List.lookup lab ((labsA l 0).take i) with
    | some v =>
      have hnn : ¬ (keysA l).Nodup := by
        have hmem : lab ∈ (keysA l).take i := by
          rw [← keys]
          exact Classical.byContradiction fun h => by rw [lookup_none.2 h] at hlk; cases hlk
        intro hnd'
        have h2 : ((keysA l).take (i + 1)).Nodup := hnd'.sublist (List.take_sublist _ _)
        rw [List.take_succ_eq_append_getElem (by omega), List.nodup_append] at h2
        refine h2.2.2 lab hmem (keysA l)[i] (by simp) ?_
        rw [← Option.some.injEq, ← List.getElem?_eq_getElem, hki]
      simp -dsimp [hlk]
      exact roundEnd_of (opM H l (.v (.pointer none)) (Bo false) ((labsA l 0).take i)) [] (by simp [opM]) (by simpa using ⟨⟨_, rfl⟩, hnn⟩)
    | none =>
      have hnm := lookup_none.1 hlk
      rw [keys] at hnm
      have hput : putT ((labsA l 0).take i) lab at_ = (labsA l 0).take (i + 1) := by
        rw [putT_new _ _ _ (fun p hp e => lookup_none.1 hlk (by rw [← e]; exact List.mem_map.2 ⟨p, hp, rfl⟩)), List.take_succ_eq_append_getElem hi]
        congr 2
        rw [← Option.some.injEq, ← List.getElem?_eq_getElem, hp]
      have hnd2 : ((keysA l).take (i + 1)).Nodup := by
        rw [List.take_succ_eq_append_getElem (by omega), List.nodup_append]
        refine ⟨hnd, by simp, fun a ha b hb => ?_⟩
        rw [List.mem_singleton] at hb
        subst hb
        intro e
        subst e
        apply hnm
        have : (keysA l)[i] = lab := by rw [← Option.some.injEq, ← List.getElem?_eq_getElem, hki]
        rw [← this]; exact ha
      simp -dsimp [hlk, hs, hput]
      exact roundEnd_of (opM H l (.v (.pointer none)) (Bo false) ((labsA l 0).take (i + 1))) [] (by simp [opM]) ⟨rfl, hnd2⟩
  · rintro A C ⟨rfl, hnd⟩
    have pt := fun H => parts_ok H
    have e1 : (labsA l 0).take ((labsA l 0).map fun p => [I p.1, I p.2]).length = labsA l 0 := by rw [List.length_map, List.take_length]
    have hnd' : (keysA l).Nodup := by
      have : ((labsA l 0).map fun p => [I p.1, I p.2]).length = (keysA l).length := by simp [keysA]
      rw [this, List.take_length] at hnd; exact hnd
    rw [e1]
    obtain ⟨N, hN⟩ : ∃ N, N = opM H l (.v (.pointer none)) (Bo false) (labsA l 0) ++ .dfr true :: C := ⟨_, rfl⟩
    obtain ⟨K, hK⟩ : ∃ K, K = N.length := ⟨_, rfl⟩
    have q2 : ∀ X, mapEs (N ++ X) (.hm (H.length + 2)) = some (tabM (labsA l 0)) := by intro X; rw [hN]; simp [mapEs, opM]
    have q3 : ∀ X, (N ++ X)[H.length + 3]? = some (.box 137 [Amd.sl l, .hm (H.length + 2)]) := by intro X; rw [hN]; simp [opM]
    have q4 : ∀ X, (N ++ X)[H.length + 4]? = some (.box 83 [.bp (H.length + 3) 0]) := by intro X; rw [hN]; simp [opM]
    rw [← hN]
    simp -dsimp
    refine acallsW_of (pt _) (fun e H' hq => ?_)
    obtain ⟨rfl, rfl⟩ := hq
    simp -dsimp
    obtain ⟨N2, hN2⟩ : ∃ N2, N2 = N ++ [.map (tabM partsT)] := ⟨_, rfl⟩
    have r2 : ∀ X, mapEs (N2 ++ X) (.hm (H.length + 2)) = some (tabM (labsA l 0)) := by intro X; rw [hN2, List.append_assoc]; exact q2 _
    have r3 : ∀ X, (N2 ++ X)[H.length + 3]? = some (.box 137 [Amd.sl l, .hm (H.length + 2)]) := by intro X; rw [hN2, List.append_assoc]; exact q3 _
    have r4 : ∀ X, (N2 ++ X)[H.length + 4]? = some (.box 83 [.bp (H.length + 3) 0]) := by intro X; rw [hN2, List.append_assoc]; exact q4 _
    have rp : ∀ X, (N2 ++ X)[K]? = some (.map (tabM partsT)) := by intro X; rw [hN2, hK]; simp
    rw [← hN2, ← hK]
    refine loop_rule (hn := fun _ => false) (od := fun _ => none) (fun (i : Nat) f H' => (∃ X, H' = N2 ++ X) ∧ f 0 = Amd.sl l ∧ f 2 = .bp H.length 0 ∧ f 3 = .bp (H.length + 1) 0 ∧ f 4 = .bp (H.length + 4) 0 ∧ f 9 = .hm K ∧ f 42 = Amd.sl l ∧ f 43 = I l.length ∧ f 44 = I i ∧ i ≤ l.length ∧
      (l.drop i).all (goodA l) = l.all (goodA l)) (fun i => l.length - i) (by kernel_rfl) 0 (by refine ⟨⟨[], by simp⟩, ?_⟩; simp) ?_
    rintro i f H' ⟨⟨X, rfl⟩, f0, f2, f3, f4, f9, f42, f43, f44, hi, hall⟩
    simp -dsimp [f0, f2, f3, f4, f9, f42, f43, f44]
    refine condVW_introD (fun hlt => ?_) (fun hlt => ?_)
    · have hg : l[i]? = some l[i] := List.getElem?_eq_getElem hlt
      have mo := fun X => mayOne_ok l[i] K (N2 ++ X) (rp X)
      have hf := tab_find l[i].label (labsA l 0)
      have hgd := getDI (List.lookup l[i].label (labsA l 0))
      have hsm := isSomeI (List.lookup l[i].label (labsA l 0))
      simp only [Amd.cells] at mo
      rw [drop_cons hlt, List.all_cons] at hall
      simp -dsimp [f0, f2, f3, f4, f9, f42, f43, f44, hg, r2, r3, r4, hf, hgd, hsm]
      refine acallsW_det (mo _) ?_
      have fail : Hid (goodA l l[i] = false → mayA l = false) := ⟨fun h => by rw [h, Bool.false_and] at hall; simp [mayA, ← hall]⟩
      have next : Hid (goodA l l[i] = true → ∃ y, l.length - y < l.length - i ∧ IntKind.i64.wrap ((i : Int) + 1) = (y : Int) ∧ y ≤ l.length ∧ (l.drop y).all (goodA l) = l.all (goodA l)) := ⟨fun h => by
        rw [h, Bool.true_and] at hall
        exact ⟨i + 1, by omega, wrapS (by omega), by omega, hall⟩⟩
      have hlk : (List.lookup l[i].label (labsA l 0)).isSome = decide (l[i].label ∈ keysA l) := by
        rw [keysA, Bool.eq_iff_iff, decide_eq_true_eq]
        cases hq : List.lookup l[i].label (labsA l 0) with
        | none => simpa using lookup_none.1 hq
        | some v => simp; exact Classical.byContradiction fun h => by rw [lookup_none.2 (by simpa using h)] at hq; cases hq
      replace hall := Hid.mk hall
      replace hN := Hid.mk hN
      replace hN2 := Hid.mk hN2
      replace hK := Hid.mk hK
      replace hnd' := Hid.mk hnd'
      replace e1 := Hid.mk e1
      clear mo hf hgd hsm q2 q3 q4 r2 r3 r4 rp pt lb hnd
      generalize hmo : mayOne l[i] = m at *
      generalize hle : decide (l[i].label ∈ keysA l) = le at *
      cases m <;> cases le
      all_goals simp -dsimp [hlk]
      all_goals repeat' ((with_reducible first | refine And.intro ?_ ?_ | refine guardVW_introTD (fun _ => ?_) (fun _ => ?_) | refine guardVW_introFD (fun _ => ?_) (fun _ => ?_) | refine condVW_introD (fun _ => ?_) (fun _ => ?_) | refine guardVW_introTE (fun _ => ?_) (fun _ _ _ => ?_) | refine guardVW_introFE (fun _ => ?_) (fun _ _ _ => ?_) | refine condVW_introE (fun _ => ?_) (fun _ _ _ => ?_) | refine guardVW_introTNE (fun _ _ _ => ?_) (fun _ => ?_) | refine guardVW_introFNE (fun _ _ _ => ?_) (fun _ => ?_) | refine condVW_introNE (fun _ _ _ => ?_) (fun _ => ?_) | refine guardVW_introTB (fun _ => ?_) (fun _ => ?_) | refine guardVW_introFB (fun _ => ?_) (fun _ => ?_) | refine condVW_introB (fun _ => ?_) (fun _ => ?_) | refine guardVW_introT (fun _ => ?_) (fun _ => ?_) | refine guardVW_introF (fun _ => ?_) (fun _ => ?_) | refine condVW_intro (fun _ => ?_) (fun _ => ?_)) <;> simp -dsimp [*])
      all_goals first
        | (refine next.out ?_; simp [goodA, hmo, hle, *]; done)
        | (have hm := fail.out (by simp [goodA, hmo, hle, *])
           rw [hN2.out, hN.out]
           simp -dsimp [f2, f3, opM, hm]
           exact ⟨_, rfl⟩)
        | trace_state
    · rw [drop_end hlt] at hall
      have hmt : mayA l = true := by simp [mayA, hl2, hnd', ← hall]
      rw [hN2, hN]
      simp -dsimp [f0, f2, f3, f4, f9, f42, f43, f44, opM, hmt]
  · rintro ex A C ⟨rfl, t, rfl, hnd⟩ - -
    have hm : mayA l = false := by simp [mayA, hnd]
    simp -dsimp [opM]
    exact ⟨hm, t, ⟨hm, rfl⟩, by simp [hm]⟩
end Go.Proofs.Lm
