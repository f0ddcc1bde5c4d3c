/- Functions of Go's library as they stand in this program: laid by the kit's own tool. -/
import Derived.Test.YtklgcajfkkoacaaFwGrow
import Derived.Test.YtklgcajfkkoacaaProg
import Derived.Test.YtklgcajfkkoacaaFwUtoCV5
set_option linter.unusedVariables false
set_option linter.unusedSimpArgs false
set_option maxHeartbeats 4000000
set_option maxRecDepth 100000
namespace Go.Proofs
open Go.Shelf
def Try.growI_ren : Go.Shelf.Ren := ⟨fun | 4 => 89 | n => n, fun | 22 => 22 | 25 => 3 | 3 => 3 | 4 => 4 | 9 => 9 | 20 => 20 | 0 => 0 | n => n, fun | n => n⟩
theorem Try.growI : Go.Proofs.Lays8.n4 Try.prog Try.growI_ren := {
  mixed := by kernel_rfl
  f4 := ⟨Try.f89.name, by decide, Try.func89.trans (congrArg some (by kernel_rfl))⟩
  t0 := Try.underlying0
  a0 := Try.isAgg0
  z0 := Try.sizeOf0
  v0 := Try.zeroValue0
  t3 := Try.underlying3
  a3 := Try.isAgg3
  z3 := Try.sizeOf3
  v3 := Try.zeroValue3
  t4 := Try.underlying4
  a4 := Try.isAgg4
  z4 := Try.sizeOf4
  v4 := Try.zeroValue4
  t9 := Try.underlying9
  a9 := Try.isAgg9
  z9 := Try.sizeOf9
  v9 := Try.zeroValue9
  t20 := Try.underlying20
  a20 := Try.isAgg20
  z20 := Try.sizeOf20
  v20 := Try.zeroValue20
  t22 := Try.underlying22
  a22 := Try.isAgg22
  z22 := Try.sizeOf22
  v22 := Try.zeroValue22 }
end Go.Proofs
namespace Go.Proofs
open Go.Mu
theorem grow0_ok (H : List Blk) : ACalls Try.prog 89 [nilS, I 0] H (fun e H' => e = .ret nilS ∧ H' = H) := by
  intro B w0 cx vals hR hH hA
  subst hH
  obtain ⟨v1, vs1, rfl, r1, hA1⟩ := hA.cons_inv
  obtain ⟨v2, vs2, rfl, r2, hA2⟩ := hA1.cons_inv
  obtain rfl := hA2.nil_inv
  obtain rfl := r1.v_inv
  obtain rfl := r2.v_inv
  refine (Any8.slices_Grow_room Try.growI none 0 0 0 cx.w (by omega) (by omega) (by omega) (by omega)).mono ?_
  rintro e w' ⟨rfl, rfl⟩
  exact ⟨cx, nilS, rfl, hR, Le.refl _, .v _, rfl, rfl⟩
theorem grow_ok (n : Nat) (h0 : 0 < n) (hn : n ≤ 2^40) (H : List Blk) : ACalls Try.prog 89 [nilS, I n] H (fun e H' => e = .ret (.hs H.length 0 0 n) ∧ H' = H ++ [intR (List.replicate n 0)]) := by
  have hs : slbOf Try.prog 22 = some (3, 1, [Value.int .i64 0], 8) := by simp
  obtain ⟨ie, z, hu, hi, hz, hzs, his, hp, hzc, hby⟩ := slbOf_spec hs
  have ez : z.cells = #[Value.int .i64 0] := Array.toList_inj.1 hzc
  have := acalls_grow (P := Try.prog) (H := H) (g := 89) (te := 3) n hn fun w => by
    have q := Any8.slices_Grow_grow Try.growI ie z hi hz (by omega) none 0 0 n [] w (by omega) (by omega) (by rw [hby]; omega) (by omega) (by simp) (fun _ => rfl) (fun a h => by cases h)
    have e3 : Try.growI_ren.t 25 = 3 := rfl
    have e89 : Try.growI_ren.f 4 = 89 := rfl
    rw [ez, e3, e89] at q
    simpa using q
  have e : List.replicate n [AV.v (.int .i64 0)] = (List.replicate n (0 : Int)).map fun n => [I n] := by simp
  rw [e] at this
  exact this
theorem flat_take {α : Type} {ls : List (List α)} {i : Nat} {x : List α} (h : ls[i]? = some x) : (ls.take (i + 1)).flatten = (ls.take i).flatten ++ x := by
  obtain ⟨hi, rfl⟩ := List.getElem?_eq_some_iff.1 h
  rw [List.take_succ_eq_append_getElem hi, List.flatten_append]; simp
theorem flat_take_le {α : Type} (ls : List (List α)) (i : Nat) : (ls.take i).flatten.length ≤ ls.flatten.length := by
  have : ls.flatten = (ls.take i).flatten ++ (ls.drop i).flatten := by rw [← List.flatten_append, List.take_append_drop]
  rw [this, List.length_append]; omega
def CatI (H : List Blk) (N : Nat) (l : List Int) (a : AV) (M : List Blk) : Prop :=
  (N = 0 ∧ M = H ∧ a = nilS) ∨ ∃ tl : List Int, M = H ++ [intR tl] ∧ l.length ≤ tl.length ∧ tl.length ≤ N ∧ tl.take l.length = l ∧ a = .hs H.length 0 l.length tl.length
theorem concat_ok (ls : List (List Int)) (hl : ls.length ≤ 2^36) (hf : ls.flatten.length ≤ 2^38) (H : List Blk) : ACalls Try.prog 45 [Ints.sl ls] H (SortR H ls.flatten) := by
  refine acalls_of_vc (hn := fun d => d == 33 || d == 24) (od := fun _ => none) Try.func45 rfl (by kernel_rfl) ?_
  obtain ⟨L, hL⟩ : ∃ L : Nat → List Int, ∀ i, L i = (ls.take i).flatten := ⟨fun i => (ls.take i).flatten, fun i => rfl⟩
  have hL0 : L 0 = [] := by rw [hL]; simp
  have hL1 : ∀ i x, ls[i]? = some x → L (i + 1) = L i ++ x := fun i x h => by rw [hL, hL]; exact flat_take h
  have hLn : L ls.length = ls.flatten := by rw [hL, List.take_length]
  have hLl : ∀ i, (L i).length ≤ ls.flatten.length := fun i => by rw [hL]; exact flat_take_le ls i
  rw [← hLn] at hf hLl ⊢
  clear hL hLn
  have hLl := Hid.mk hLl
  have hL1 := Hid.mk hL1
  have hf := Hid.mk hf
  simp -dsimp
  refine loop_rule (hn := fun d => d == 33 || d == 24) (od := fun _ => none) (fun (i : Nat) f M => H = M ∧ f 0 = Ints.sl ls ∧ f 9 = Ints.sl ls ∧ f 10 = I ls.length ∧ f 11 = I i ∧ f 3 = I (L i).length ∧ i ≤ ls.length) (fun i => ls.length - i) (by kernel_rfl) 0 (by refine ⟨by simp, by simp, by simp, by simp, by simp, by simp [hL0], by omega⟩) ?_
  rintro i f _ ⟨rfl, f0, f9, f10, f11, f3, hi⟩
  simp -dsimp [f0, f3, f9, f10, f11]
  refine condVW_introD (fun hlt => ?_) (fun hlt => ?_)
  · have hlt' : i < ls.length := by omega
    have hx := List.getElem?_eq_getElem hlt'
    obtain ⟨x, hxe⟩ : ∃ x, x = ls[i] := ⟨_, rfl⟩
    rw [← hxe] at hx
    have hnew := hL1.out i x hx
    have hle := hLl.out (i + 1)
    have hf' := hf.out
    have hlen : (L (i + 1)).length = (L i).length + x.length := by rw [hnew, List.length_append]
    clear hnew hxe
    have hw : IntKind.i64.wrap (((L i).length : Int) + (x.length : Int)) = ((L i).length : Int) + (x.length : Int) := wrapI (by omega) (by omega)
    have hd : decide (((L i).length : Int) + (x.length : Int) < 0) = false := decide_eq_false (by omega)
    replace hlen := Hid.mk hlen
    simp -dsimp [f0, f3, f9, f10, f11, hx, hw, hd]
    exact ⟨i + 1, by omega, wrapS (by omega), by rw [hlen.out]; rfl, by omega⟩
  · have hi' : i = ls.length := by omega
    subst hi'
    obtain ⟨N, hN⟩ : ∃ N, N = (L ls.length).length := ⟨_, rfl⟩
    have hf' := hf.out
    rw [← hN] at f3 hf'
    by_cases h0 : N = 0
    · subst h0
      simp -dsimp [f0, f3]
      refine acallsW_det (grow0_ok H) ?_
      simp -dsimp [f0]
      refine loop_rule (hn := fun d => d == 33 || d == 24) (od := fun _ => none) (fun (i : Nat) f M => H = M ∧ f 6 = nilS ∧ f 25 = Ints.sl ls ∧ f 26 = I ls.length ∧ f 27 = I i ∧ i ≤ ls.length) (fun i => ls.length - i) (by kernel_rfl) 0 (by refine ⟨by simp, by simp, by simp, by simp, by simp, by omega⟩) ?_
      clear f0 f3 f9 f10 f11
      clear f
      rintro i f _ ⟨rfl, f6, f25, f26, f27, hi⟩
      simp -dsimp [f6, f25, f26, f27]
      refine condVW_introD (fun hlt => ?_) (fun hlt => ?_)
      · have hlt' : i < ls.length := by omega
        have hx := List.getElem?_eq_getElem hlt'
        obtain ⟨x, hxe⟩ : ∃ x, x = ls[i] := ⟨_, rfl⟩
        rw [← hxe] at hx
        have hnew := hL1.out i x hx
        have hle := hLl.out (i + 1)
        have hx0 : x = [] := by
          rw [hnew, List.length_append] at hle
          exact List.eq_nil_of_length_eq_zero (by omega)
        subst hx0
        simp -dsimp [f6, f25, f26, f27, hx]
        refine appendVW_nil (by simp) (by simp) (fun _ => ?_) (fun hy => absurd rfl hy)
        simp -dsimp [f25, f26, f27]
        exact ⟨i + 1, by omega, wrapS (by omega), by omega⟩
      · simp -dsimp [f6]
        refine ⟨none, ?_, ?_⟩
        · rfl
        · have : L ls.length = [] := List.eq_nil_of_length_eq_zero hN.symm
          rw [this]; exact .nil1 _ _ _
    · simp -dsimp [f0, f3]
      refine acallsW_of (grow_ok N (by omega) (by omega) H) ?_
      rintro e M ⟨rfl, hM⟩
      subst hM
      simp -dsimp [f0]
      refine loop_rule (hn := fun d => d == 33 || d == 24) (od := fun _ => none) (fun (i : Nat) f M => f 25 = Ints.sl ls ∧ f 26 = I ls.length ∧ f 27 = I i ∧ i ≤ ls.length ∧ CatI H N (L i) (f 6) M) (fun i => ls.length - i) (by kernel_rfl) 0 (by refine ⟨by simp, by simp, by simp, by omega, .inr ⟨List.replicate N 0, by simp, by rw [hL0]; simp, by simp, by rw [hL0]; simp, by rw [hL0]; simp⟩⟩) ?_
      clear f0 f3 f9 f10 f11
      clear f
      rintro i f M ⟨f25, f26, f27, hi, hc⟩
      obtain ⟨tl, rfl, h1, h2, h3, f6⟩ := hc.resolve_left (fun h => h0 h.1)
      simp -dsimp [f6, f25, f26, f27]
      refine condVW_introD (fun hlt => ?_) (fun hlt => ?_)
      · have hlt' : i < ls.length := by omega
        have hx := List.getElem?_eq_getElem hlt'
        obtain ⟨x, hxe⟩ : ∃ x, x = ls[i] := ⟨_, rfl⟩
        rw [← hxe] at hx
        have hnew := hL1.out i x hx
        have hle := hLl.out (i + 1)
        rw [← hN] at hle
        have hlen : (L (i + 1)).length = (L i).length + x.length := by rw [hnew, List.length_append]
        replace hnew := Hid.mk hnew
        have h1 := Hid.mk h1
        have h2 := Hid.mk h2
        have h3 := Hid.mk h3
        replace hle := Hid.mk hle
        replace hlen := Hid.mk hlen
        simp -dsimp [f6, f25, f26, f27, hx]
        refine app_cutI (k := H.length) (tl := tl) (by simp) rfl h1.out rfl rfl (by have := hle.out; have := hlen.out; simp; omega) (by have := hle.out; have := hlen.out; omega) ?_
        intro tl' e1 e2 e3
        simp -dsimp [f25, f26, f27]
        refine ⟨i + 1, by omega, wrapS (by omega), by omega, .inr ⟨tl', rfl, ?_, ?_, ?_, ?_⟩⟩
        · rw [hlen.out]; exact e1
        · have := hle.out; have := hlen.out; have := h2.out; omega
        · rw [hlen.out, e2, h3.out, hnew.out]
        · rw [hlen.out]
      · have hi' : i = ls.length := by omega
        subst hi'
        have e : tl = L ls.length := by rw [← h3, List.take_of_length_le (by omega)]
        simp -dsimp [f6]
        subst e
        refine ⟨some H.length, rfl, ⟨_, rfl⟩, fun k hk => ?_, fun h => (by cases h), fun k hk => by cases hk; exact Nat.le_refl _⟩
        cases hk
        simp
end Go.Proofs
namespace Go.Proofs
open Go.Mu
theorem concat_ownU (ls : List (List Int)) (hl : ls.length ≤ 2^36) (hf : ls.flatten.length ≤ 2^38) (H : List Blk) : ACalls Try.prog 45 [Ints.sl ls] H (fun e M => SortR H ls.flatten e M ∧ underH H.length H = true) :=
  acalls_under fun hu _ => (concat_ok ls hl hf H).mono fun e M h => ⟨h, hu⟩
end Go.Proofs
