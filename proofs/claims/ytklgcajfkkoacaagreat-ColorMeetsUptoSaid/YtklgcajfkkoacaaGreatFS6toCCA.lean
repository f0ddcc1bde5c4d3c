/- Functions of Go's library as they stand in this program: laid by the kit's own tool. -/
import Derived.Test.YtklgcajfkkoacaaGreatFwGrow
import Derived.Test.YtklgcajfkkoacaaGreatProg
import Derived.Test.YtklgcajfkkoacaaGreatFwUtoCV3
import Derived.Test.YtklgcajfkkoacaaGreatCW4toCW5
set_option linter.unusedVariables false
set_option linter.unusedSimpArgs false
set_option maxHeartbeats 4000000
set_option maxRecDepth 100000
namespace Go.Proofs
open Go.Shelf
def Tryz.growI_ren : Go.Shelf.Ren := ⟨fun | 4 => 130 | n => n, fun | 22 => 22 | 25 => 3 | 3 => 3 | 4 => 4 | 9 => 9 | 20 => 20 | 0 => 0 | n => n, fun | n => n⟩
theorem Tryz.growI : Go.Proofs.Lays8.n4 Tryz.prog Tryz.growI_ren := {
  mixed := by kernel_rfl
  f4 := ⟨Tryz.f130.name, by decide, Tryz.func130.trans (congrArg some (by kernel_rfl))⟩
  t0 := Tryz.underlying0
  a0 := Tryz.isAgg0
  z0 := Tryz.sizeOf0
  v0 := Tryz.zeroValue0
  t3 := Tryz.underlying3
  a3 := Tryz.isAgg3
  z3 := Tryz.sizeOf3
  v3 := Tryz.zeroValue3
  t4 := Tryz.underlying4
  a4 := Tryz.isAgg4
  z4 := Tryz.sizeOf4
  v4 := Tryz.zeroValue4
  t9 := Tryz.underlying9
  a9 := Tryz.isAgg9
  z9 := Tryz.sizeOf9
  v9 := Tryz.zeroValue9
  t20 := Tryz.underlying20
  a20 := Tryz.isAgg20
  z20 := Tryz.sizeOf20
  v20 := Tryz.zeroValue20
  t22 := Tryz.underlying22
  a22 := Tryz.isAgg22
  z22 := Tryz.sizeOf22
  v22 := Tryz.zeroValue22 }
end Go.Proofs
namespace Go.Proofs
open Go.Mu
theorem grow0_ok (H : List Blk) : ACalls Tryz.prog 130 [nilS, I 0] H (fun e H' => e = .ret nilS ∧ H' = H) := by
  intro B w0 cx vals hR hH hA
  subst hH
  obtain ⟨v1, vs1, rfl, r1, hA1⟩ := hA.cons_inv
  obtain ⟨v2, vs2, rfl, r2, hA2⟩ := hA1.cons_inv
  obtain rfl := hA2.nil_inv
  obtain rfl := r1.v_inv
  obtain rfl := r2.v_inv
  refine (Any8.slices_Grow_room Tryz.growI none 0 0 0 cx.w (by omega) (by omega) (by omega) (by omega)).mono ?_
  rintro e w' ⟨rfl, rfl⟩
  exact ⟨cx, nilS, rfl, hR, Le.refl _, .v _, rfl, rfl⟩
theorem grow_ok (n : Nat) (h0 : 0 < n) (hn : n ≤ 2^40) (H : List Blk) : ACalls Tryz.prog 130 [nilS, I n] H (fun e H' => e = .ret (.hs H.length 0 0 n) ∧ H' = H ++ [intR (List.replicate n 0)]) := by
  have hs : slbOf Tryz.prog 22 = some (3, 1, [Value.int .i64 0], 8) := by simp
  obtain ⟨ie, z, hu, hi, hz, hzs, his, hp, hzc, hby⟩ := slbOf_spec hs
  have ez : z.cells = #[Value.int .i64 0] := Array.toList_inj.1 hzc
  have := acalls_grow (P := Tryz.prog) (H := H) (g := 130) (te := 3) n hn fun w => by
    have q := Any8.slices_Grow_grow Tryz.growI ie z hi hz (by omega) none 0 0 n [] w (by omega) (by omega) (by rw [hby]; omega) (by omega) (by simp) (fun _ => rfl) (fun a h => by cases h)
    have e3 : Tryz.growI_ren.t 25 = 3 := rfl
    have e89 : Tryz.growI_ren.f 4 = 130 := rfl
    rw [ez, e3, e89] at q
    simpa using q
  have e : List.replicate n [AV.v (.int .i64 0)] = (List.replicate n (0 : Int)).map fun n => [I n] := by simp
  rw [e] at this
  exact this
theorem flat_take {α : Type} {ls : List (List α)} {i : Nat} {x : List α} (h : ls[i]? = some x) : (ls.take (i + 1)).flatten = (ls.take i).flatten ++ x := by
  obtain ⟨hi, rfl⟩ := List.getElem?_eq_some_iff.1 h
  rw [List.take_succ_eq_append_getElem hi, List.flatten_append]; simp
theorem flat_take_le {α : Type} (ls : List (List α)) (i : Nat) : (ls.take i).flatten.length ≤ ls.flatten.length := by
  have : ls.flatten = (ls.take i).flatten ++ (ls.drop i).flatten := by rw [← List.flatten_append, List.take_append_drop]
  rw [this, List.length_append]; omega
def CatI (H : List Blk) (N : Nat) (l : List Int) (a : AV) (M : List Blk) : Prop :=
  (N = 0 ∧ M = H ∧ a = nilS) ∨ ∃ tl : List Int, M = H ++ [intR tl] ∧ l.length ≤ tl.length ∧ tl.length ≤ N ∧ tl.take l.length = l ∧ a = .hs H.length 0 l.length tl.length
theorem concat_ok (ls : List (List Int)) (hl : ls.length ≤ 2^36) (hf : ls.flatten.length ≤ 2^38) (H : List Blk) : ACalls Tryz.prog 98 [Ints.sl ls] H (SortR H ls.flatten) := by
  refine acalls_of_vc (hn := fun d => d == 33 || d == 24) (od := fun _ => none) Tryz.func98 rfl (by kernel_rfl) ?_
  obtain ⟨L, hL⟩ : ∃ L : Nat → List Int, ∀ i, L i = (ls.take i).flatten := ⟨fun i => (ls.take i).flatten, fun i => rfl⟩
  have hL0 : L 0 = [] := by rw [hL]; simp
  have hL1 : ∀ i x, ls[i]? = some x → L (i + 1) = L i ++ x := fun i x h => by rw [hL, hL]; exact flat_take h
  have hLn : L ls.length = ls.flatten := by rw [hL, List.take_length]
  have hLl : ∀ i, (L i).length ≤ ls.flatten.length := fun i => by rw [hL]; exact flat_take_le ls i
  rw [← hLn] at hf hLl ⊢
  clear hL hLn
  have hLl := Hid.mk hLl
  have hL1 := Hid.mk hL1
  have hf := Hid.mk hf
  simp -dsimp
  refine loop_rule (hn := fun d => d == 33 || d == 24) (od := fun _ => none) (fun (i : Nat) f M => H = M ∧ f 0 = Ints.sl ls ∧ f 9 = Ints.sl ls ∧ f 10 = I ls.length ∧ f 11 = I i ∧ f 3 = I (L i).length ∧ i ≤ ls.length) (fun i => ls.length - i) (by kernel_rfl) 0 (by refine ⟨by simp, by simp, by simp, by simp, by simp, by simp [hL0], by omega⟩) ?_
  rintro i f _ ⟨rfl, f0, f9, f10, f11, f3, hi⟩
  simp -dsimp [f0, f3, f9, f10, f11]
  refine condVW_introD (fun hlt => ?_) (fun hlt => ?_)
  · have hlt' : i < ls.length := by omega
    have hx := List.getElem?_eq_getElem hlt'
    obtain ⟨x, hxe⟩ : ∃ x, x = ls[i] := ⟨_, rfl⟩
    rw [← hxe] at hx
    have hnew := hL1.out i x hx
    have hle := hLl.out (i + 1)
    have hf' := hf.out
    have hlen : (L (i + 1)).length = (L i).length + x.length := by rw [hnew, List.length_append]
    clear hnew hxe
    have hw : IntKind.i64.wrap (((L i).length : Int) + (x.length : Int)) = ((L i).length : Int) + (x.length : Int) := wrapI (by omega) (by omega)
    have hd : decide (((L i).length : Int) + (x.length : Int) < 0) = false := decide_eq_false (by omega)
    replace hlen := Hid.mk hlen
    simp -dsimp [f0, f3, f9, f10, f11, hx, hw, hd]
    exact ⟨i + 1, by omega, wrapS (by omega), by rw [hlen.out]; rfl, by omega⟩
  · have hi' : i = ls.length := by omega
    subst hi'
    obtain ⟨N, hN⟩ : ∃ N, N = (L ls.length).length := ⟨_, rfl⟩
    have hf' := hf.out
    rw [← hN] at f3 hf'
    by_cases h0 : N = 0
    · subst h0
      simp -dsimp [f0, f3]
      refine acallsW_det (grow0_ok H) ?_
      simp -dsimp [f0]
      refine loop_rule (hn := fun d => d == 33 || d == 24) (od := fun _ => none) (fun (i : Nat) f M => H = M ∧ f 6 = nilS ∧ f 25 = Ints.sl ls ∧ f 26 = I ls.length ∧ f 27 = I i ∧ i ≤ ls.length) (fun i => ls.length - i) (by kernel_rfl) 0 (by refine ⟨by simp, by simp, by simp, by simp, by simp, by omega⟩) ?_
      clear f0 f3 f9 f10 f11
      clear f
      rintro i f _ ⟨rfl, f6, f25, f26, f27, hi⟩
      simp -dsimp [f6, f25, f26, f27]
      refine condVW_introD (fun hlt => ?_) (fun hlt => ?_)
      · have hlt' : i < ls.length := by omega
        have hx := List.getElem?_eq_getElem hlt'
        obtain ⟨x, hxe⟩ : ∃ x, x = ls[i] := ⟨_, rfl⟩
        rw [← hxe] at hx
        have hnew := hL1.out i x hx
        have hle := hLl.out (i + 1)
        have hx0 : x = [] := by
          rw [hnew, List.length_append] at hle
          exact List.eq_nil_of_length_eq_zero (by omega)
        subst hx0
        simp -dsimp [f6, f25, f26, f27, hx]
        refine appendVW_nil (by simp) (by simp) (fun _ => ?_) (fun hy => absurd rfl hy)
        simp -dsimp [f25, f26, f27]
        exact ⟨i + 1, by omega, wrapS (by omega), by omega⟩
      · simp -dsimp [f6]
        refine ⟨none, ?_, ?_⟩
        · rfl
        · have : L ls.length = [] := List.eq_nil_of_length_eq_zero hN.symm
          rw [this]; exact .nil1 _ _ _
    · simp -dsimp [f0, f3]
      refine acallsW_of (grow_ok N (by omega) (by omega) H) ?_
      rintro e M ⟨rfl, hM⟩
      subst hM
      simp -dsimp [f0]
      refine loop_rule (hn := fun d => d == 33 || d == 24) (od := fun _ => none) (fun (i : Nat) f M => f 25 = Ints.sl ls ∧ f 26 = I ls.length ∧ f 27 = I i ∧ i ≤ ls.length ∧ CatI H N (L i) (f 6) M) (fun i => ls.length - i) (by kernel_rfl) 0 (by refine ⟨by simp, by simp, by simp, by omega, .inr ⟨List.replicate N 0, by simp, by rw [hL0]; simp, by simp, by rw [hL0]; simp, by rw [hL0]; simp⟩⟩) ?_
      clear f0 f3 f9 f10 f11
      clear f
      rintro i f M ⟨f25, f26, f27, hi, hc⟩
      obtain ⟨tl, rfl, h1, h2, h3, f6⟩ := hc.resolve_left (fun h => h0 h.1)
      simp -dsimp [f6, f25, f26, f27]
      refine condVW_introD (fun hlt => ?_) (fun hlt => ?_)
      · have hlt' : i < ls.length := by omega
        have hx := List.getElem?_eq_getElem hlt'
        obtain ⟨x, hxe⟩ : ∃ x, x = ls[i] := ⟨_, rfl⟩
        rw [← hxe] at hx
        have hnew := hL1.out i x hx
        have hle := hLl.out (i + 1)
        rw [← hN] at hle
        have hlen : (L (i + 1)).length = (L i).length + x.length := by rw [hnew, List.length_append]
        replace hnew := Hid.mk hnew
        have h1 := Hid.mk h1
        have h2 := Hid.mk h2
        have h3 := Hid.mk h3
        replace hle := Hid.mk hle
        replace hlen := Hid.mk hlen
        simp -dsimp [f6, f25, f26, f27, hx]
        refine app_cutI (k := H.length) (tl := tl) (by simp) rfl h1.out rfl rfl (by have := hle.out; have := hlen.out; simp; omega) (by have := hle.out; have := hlen.out; omega) ?_
        intro tl' e1 e2 e3
        simp -dsimp [f25, f26, f27]
        refine ⟨i + 1, by omega, wrapS (by omega), by omega, .inr ⟨tl', rfl, ?_, ?_, ?_, ?_⟩⟩
        · rw [hlen.out]; exact e1
        · have := hle.out; have := hlen.out; have := h2.out; omega
        · rw [hlen.out, e2, h3.out, hnew.out]
        · rw [hlen.out]
      · have hi' : i = ls.length := by omega
        subst hi'
        have e : tl = L ls.length := by rw [← h3, List.take_of_length_le (by omega)]
        simp -dsimp [f6]
        subst e
        refine ⟨some H.length, rfl, ⟨_, rfl⟩, fun k hk => ?_, fun h => (by cases h), fun k hk => by cases hk; exact Nat.le_refl _⟩
        cases hk
        simp
theorem concat_ownU (ls : List (List Int)) (hl : ls.length ≤ 2^36) (hf : ls.flatten.length ≤ 2^38) (H : List Blk) : ACalls Tryz.prog 98 [Ints.sl ls] H (fun e M => SortR H ls.flatten e M ∧ underH H.length H = true) :=
  acalls_under fun hu _ => (concat_ok ls hl hf H).mono fun e M h => ⟨h, hu⟩
end Go.Proofs
namespace Go.Proofs
open Go.Mu
def SeqI (g b : Nat) (blk : Blk) (t : List Int) : Prop := ∀ base, b < base → ASeqN Tryz.prog g [.bp b 0] (t.map fun x => [I x]) base (fun A => A[b]? = some blk)
theorem gappseq_ok (t : List Int) (g b : Nat) (blk : Blk) (ht : t.length ≤ 2^40) (hq : SeqI g b blk t) (hok : okFn Tryz.prog g = true) (H : List Blk) (hb : H[b]? = some blk) :
    ACalls Tryz.prog 134 [nilS, .fn (.func g) [] [.bp b 0]] H (fun e H' => ∃ ns, ns.Perm t ∧ e = .ret (intS H.length ns) ∧ H' = H ++ [intB ns]) := by
  refine acalls_under fun hu _ => acalls_tidy (acalls_spare 1 (acalls_of_vcM (hn := fun d => d == 11) (od := fun _ => none) Tryz.func134 rfl (by kernel_rfl) ?_))
  have hbl := lt_of_get hb
  obtain ⟨G, hG⟩ : ∃ G : List Int → List Blk, ∀ l, G l = H ++ [intB l, .box 22 [intS H.length l]] := ⟨_, fun _ => rfl⟩
  have hG0 : H ++ [Blk.pend, .box 22 [nilS]] = G [] := by rw [hG]; simp [ownB, ownS]
  have gl : ∀ l, (G l).length = H.length + 2 := fun l => by rw [hG]; simp
  have g0 : ∀ l L, (G l ++ L)[H.length]? = some (intB l) := fun l L => by rw [hG]; simp
  have g1 : ∀ l L, (G l ++ L)[H.length + 1]? = some (.box 22 [intS H.length l]) := fun l L => by rw [hG]; simp
  have gs : ∀ l l' L, ((G l ++ L).set H.length (intB l')).set (H.length + 1) (.box 22 [intS H.length l']) = G l' ++ L := fun l l' L => by rw [hG, hG]; simp
  have gg : ∀ l l' L, ((G l ++ L).set H.length (intB l'))[H.length + 1]? = some (.box 22 [intS H.length l]) := fun l l' L => by rw [List.getElem?_set_ne (by omega)]; exact g1 l L
  have go : ∀ l i x, H[i]? = some x → (G l)[i]? = some x := fun l i x h => by rw [hG]; exact get_app_old h _
  simp -dsimp
  rw [hG0]
  refine awp_rangeN (t.map fun x => [I x]) (fun A => A[b]? = some blk) (fun s A => A = G (insOf t s) ∧ s.length ≤ t.length) (fun _ _ => False) (by simp only [hok, Bool.and_true]; kernel_rfl) rfl (by simp only [List.mem_map]; rintro e ⟨p, _, rfl⟩; rfl) ?_ ⟨rfl, Nat.zero_le _⟩ ?_ ?_ ?_ ?_ ?_
  · rw [gl]
    intro k J Jx hJ hy A h0
    refine hq (H.length + 2 + 2) (by omega) k J Jx (fun s A h => ?_) hy A h0
    obtain ⟨h1, A0, bb, rfl, h2, h3⟩ := hJ s A h
    exact ⟨h1, get_app_old h3 _⟩
  · rintro s A ⟨rfl, _⟩
    exact ⟨by rw [gl, gl], go _ _ _ hb⟩
  · rintro ex A h
    exact h.elim
  · rintro s j A B e hs1 hs2 hj he ⟨rfl, hsl⟩
    rw [List.getElem?_map] at he
    obtain ⟨n, hp, rfl⟩ := Option.map_eq_some_iff.1 he
    have hjl : j < t.length := (List.getElem?_eq_some_iff.1 hp).1
    simp only [List.length_map] at hs2
    have hlt := nodup_less hs1 hs2 hj hjl
    have hns : insOf t (s ++ [j]) = insOf t s ++ [n] := by unfold insOf; simp [hp]
    have hnl : (insOf t s).length = s.length := by unfold insOf; simp
    refine awpW_of_vc (hn := fun _ => false) (od := fun _ => none) (by kernel_rfl) ?_
    simp -dsimp
    intro B' hB'
    refine awpW_of_vc (hn := fun d => d == 11) (od := fun _ => none) (by kernel_rfl) ?_
    obtain ⟨W, hW⟩ : ∃ W, W = insOf t s := ⟨_, rfl⟩
    rw [← hW] at hns hnl ⊢
    simp -dsimp [g1]
    refine appendVW_own (k := H.length) (es := W.map fun s => [I s]) (g0 W B') (by simp; omega) (by simp; omega) ?_
    have e : (W.map fun s => [I s]) ++ [[I n]] = (W ++ [n]).map fun s => [I s] := by simp
    rw [e]
    have gg' := gg W (W ++ [n]) B'
    have gs' := gs W (W ++ [n]) B'
    obtain ⟨V, hV⟩ : ∃ V, V = (G W ++ B').set H.length (intB (W ++ [n])) := ⟨_, rfl⟩
    obtain ⟨sx, hsx⟩ : ∃ sx, sx = ownS H.length ((W ++ [n]).map fun s => [I s]) := ⟨_, rfl⟩
    have gs'' : V.set (H.length + 1) (.box 22 [ownS H.length ((W ++ [n]).map fun s => [I s])]) = G (W ++ [n]) ++ B' := by rw [hV]; exact gs'
    rw [← hsx] at gs''
    rw [← hV, ← hsx]
    rw [← hV] at gg'
    have o1 : AV.one sx = true := by rw [hsx]; exact one_ownS _ _
    have o2 : avCells sx = some [sx] := by rw [hsx]; exact avCells_ownS _ _
    simp -dsimp [gg', gs'', o1, o2]
    exact roundEnd_of (G (W ++ [n])) [] (by simp) ⟨by rw [hns], by omega⟩
  · rintro s A C hs1 hs2 hs3 ⟨rfl, _⟩
    simp only [List.length_map] at hs2 hs3
    have hperm := insOf_perm hs1 hs2 hs3
    obtain ⟨W, hW⟩ : ∃ W, W = insOf t s := ⟨_, rfl⟩
    rw [← hW] at hperm ⊢
    have d0 : (G W ++ .dfr true :: C)[H.length + 2]? = some (.dfr true) := by rw [hG]; simp
    have d1 : (G W ++ .dfr true :: C).set (H.length + 2) (.dfr false) = G W ++ .dfr false :: C := by rw [hG]; simp
    have hGl := gl []
    simp -dsimp [g1, gl, d0, d1]
    rw [hG]
    have e : H ++ [intB W, Blk.box 22 [intS H.length W]] ++ .dfr false :: C = (H ++ [intB W]) ++ (.box 22 [intS H.length W] :: .dfr false :: C) := by simp
    rw [e]
    exact tidy_to (by simp) (fun h => underH_appF (n := H.length) (by simp) hu (fun b hb => by
      obtain rfl := List.mem_singleton.1 hb
      exact under_ownB_plain (int_frzB _))) (under_ownS _ _ _ (by simp)) ⟨W, hperm, rfl, rfl⟩
  · rintro ex A C h
    exact h.elim
theorem gcollect_ok (t : List Int) (g b : Nat) (blk : Blk) (ht : t.length ≤ 2^40) (hq : SeqI g b blk t) (hok : okFn Tryz.prog g = true) (H : List Blk) (hb : H[b]? = some blk) :
    ACalls Tryz.prog 109 [.fn (.func g) [] [.bp b 0]] H (fun e H' => ∃ ns, ns.Perm t ∧ e = .ret (intS H.length ns) ∧ H' = H ++ [intB ns]) := by
  refine acalls_of_vc (hn := fun _ => false) (od := fun _ => none) Tryz.func109 rfl (by kernel_rfl) ?_
  simp -dsimp
  refine acallsW_of (gappseq_ok t g b blk ht hq hok H hb) ?_
  rintro e _ ⟨ns, hp, rfl, rfl⟩
  simp -dsimp
  exact ⟨ns, hp, rfl, rfl⟩
theorem gsorted_ok (t : List Int) (g b : Nat) (blk : Blk) (ht : t.length ≤ 2^40) (hq : SeqI g b blk t) (hok : okFn Tryz.prog g = true) (H : List Blk) (hb : H[b]? = some blk) :
    ACalls Tryz.prog 72 [.fn (.func g) [] [.bp b 0]] H (fun e H' => ∃ ns, ns.Perm t ∧ e = .ret (intS H.length (sortI ns)) ∧ H' = H ++ [intB (sortI ns)]) := by
  refine acalls_of_vc (hn := fun _ => false) (od := fun _ => none) Tryz.func72 rfl (by kernel_rfl) ?_
  simp -dsimp
  refine acallsW_of (gcollect_ok t g b blk ht hq hok H hb) ?_
  rintro e _ ⟨ns, hp, rfl, rfl⟩
  have hnl : ns.length = t.length := hp.length_eq
  by_cases hne : ns = []
  · subst hne
    have e0 : sortI [] = [] := by unfold sortI; simp
    have c := fun H => isorts0_ok H
    simp -dsimp
    refine acallsW_det (c _) ?_
    simp -dsimp
    exact ⟨[], hp, by rw [e0], by rw [e0]⟩
  · have hne2 : sortI ns ≠ [] := fun h => hne (by have := (sortI_perm ns).length_eq; rw [h] at this; exact List.eq_nil_of_length_eq_zero this.symm)
    have hb1 : intB ns = .row 3 1 (ns.map fun s => [I s]) := by simp [ownB, hne]
    have hb2 : intB (sortI ns) = .row 3 1 ((sortI ns).map fun s => [I s]) := by simp [ownB, hne2]
    have hs1 : intS H.length ns = .hs H.length 0 ns.length ns.length := by simp [ownS, hne]
    have hs2 : intS H.length (sortI ns) = .hs H.length 0 ns.length ns.length := by simp [ownS, hne2, (sortI_perm ns).length_eq]
    have c := isorts_ok ns (by omega) H.length (H ++ [intB ns]) (by rw [hb1]; simp)
    rw [hs1]
    simp -dsimp
    refine acallsW_of c ?_
    rintro e _ ⟨rfl, rfl⟩
    simp -dsimp
    exact ⟨ns, hp, hs2.symm, by rw [hb2]⟩
theorem values_seq (l : List Int) (hll : l.length ≤ 2^40) (b : Nat) : SeqI 171 b (.box 22 [Int.sl l]) l := by
  intro base hbb k J Jx hJ hy A h0
  have hl : (l.map fun x => [I x]).length = l.length := by simp
  rw [hl] at hy ⊢
  refine acalls_of_vc (hn := fun _ => false) (od := fun _ => none) Tryz.func171 rfl (by kernel_rfl) ?_
  obtain ⟨a0, a1⟩ := hJ [] A h0
  simp -dsimp [a1]
  refine loop_rule (hn := fun _ => false) (od := fun _ => none) (fun (i : Nat) f H' => (∃ A' B, H' = A' ++ B ∧ J (List.range i) A') ∧ f 0 = .yl k ∧ f 5 = Int.sl l ∧ f 6 = I l.length ∧ f 7 = I i ∧ i ≤ l.length) (fun i => l.length - i) (by kernel_rfl) 0
    ⟨⟨A, [], by simp, by simpa using h0⟩, by simp, by simp, by simp, by simp, by omega⟩ ?_
  rintro i f _ ⟨⟨A', B, rfl, hjs⟩, f0, f5, f6, f7, hi⟩
  simp -dsimp [f0, f5, f6, f7]
  refine condVW_introD (fun hlt => ?_) (fun hlt => ?_)
  · have hlt' : i < l.length := by omega
    have hx := List.getElem?_eq_getElem hlt'
    obtain ⟨x, hxe⟩ : ∃ x, x = l[i] := ⟨_, rfl⟩
    rw [← hxe] at hx
    have hyi := hy (List.range i) i A' B [I x] List.nodup_range (fun j hj => by have := List.mem_range.1 hj; omega) (by simp) (by rw [List.getElem?_map, hx]; rfl) hjs
    simp -dsimp [f0, f5, f6, f7, hx]
    refine ayieldW_of hyi ?_
    rintro e M ⟨A2, C, rfl, ⟨rfl, h1⟩ | ⟨rfl, h2⟩⟩
    · simp -dsimp [f0, f5, f6, f7]
      exact ⟨i + 1, by omega, ⟨A2, ⟨_, rfl⟩, by rw [List.range_succ]; exact h1⟩, wrapS (by omega), by omega⟩
    · simp -dsimp
      exact ⟨A2, ⟨_, rfl⟩, .inr h2⟩
  · have hi' : i = l.length := by omega
    subst hi'
    simp -dsimp
    exact ⟨A', ⟨_, rfl⟩, .inl ⟨List.range l.length, List.nodup_range, fun j hj => List.mem_range.1 hj, fun j hj => List.mem_range.2 hj, hjs⟩⟩
theorem values_ok (l : List Int) (H : List Blk) : ACalls Tryz.prog 131 [Int.sl l] H (fun e H' => e = .ret (.fn (.func 171) [] [.bp H.length 0]) ∧ H' = H ++ [.box 22 [Int.sl l]]) := by
  refine acalls_of_vc (hn := fun _ => false) (od := fun _ => none) Tryz.func131 rfl (by kernel_rfl) ?_
  simp -dsimp
theorem riseI_perm {ns l : List Int} (h : ns.Perm l) : Lib.compact (sortI ns) = riseL l := by
  rw [compact_sort]
  exact sorted_ext (riseL_rise _) (riseL_rise _) fun x => by rw [riseL_mem, riseL_mem]; exact h.mem_iff
theorem own_intS (H : List Blk) (l : List Int) : ∃ h, intS H.length l = hrow h l.length ∧ OwnI H (H ++ [intB l]) h l := by
  by_cases he : l = []
  · subst he; exact ⟨none, rfl, .nil0 _ _ _ _⟩
  · exact ⟨some H.length, by simp [ownS, he, hrow], ⟨_, rfl⟩, fun k hk => by (cases hk; simp [ownB, he]), fun h => by (cases h), fun k hk => by cases hk; exact Nat.le_refl _⟩
def RisR (H : List Blk) (E : List Int) (e : AE) (M : List Blk) : Prop := ∃ h es m, e = .ret (cutS h m es.length) ∧ OwnI H M h es ∧ m ≤ es.length ∧ es.take m = E
theorem rising_own (l : List Int) (hl : l.length ≤ 2^39) (H : List Blk) : ACalls Tryz.prog 99 [Int.sl l] H (RisR H (riseL l)) := by
  refine acalls_of_vc (hn := fun _ => false) (od := fun _ => none) Tryz.func99 rfl (by kernel_rfl) ?_
  have c1 := fun H => values_ok l H
  have c2 := gsorted_ok l 171 H.length (.box 22 [Int.sl l]) (by omega) (values_seq l (by omega) H.length) (by kernel_rfl) (H ++ [.box 22 [Int.sl l]]) (by simp)
  simp -dsimp
  refine acallsW_of (c1 _) ?_
  rintro e _ ⟨rfl, rfl⟩
  simp -dsimp
  refine acallsW_of c2 ?_
  rintro e _ ⟨ns, hp, rfl, rfl⟩
  have hnl := hp.length_eq
  have hsl := (sortI_perm ns).length_eq
  obtain ⟨h, e1, ow⟩ := own_intS (H ++ [.box 22 [Int.sl l]]) (sortI ns)
  rw [e1]
  obtain ⟨M1, hM1⟩ : ∃ M1, M1 = H ++ [.box 22 [Int.sl l]] ++ [intB (sortI ns)] := ⟨_, rfl⟩
  rw [← hM1] at ow ⊢
  clear hM1
  have c3 := icompact_h (sortI ns) (by omega) h _ ow.at'
  simp -dsimp
  refine acallsW_of c3 ?_
  rintro e M2 ⟨rfl, r2, s2⟩
  have ow2 : OwnI (H ++ [.box 22 [Int.sl l]]) M2 h (compRow (sortI ns)) := ow.step r2 s2
  simp -dsimp
  exact ⟨h, compRow (sortI ns), (Lib.compact (sortI ns)).length, by rw [compRow_len], ow2.less, by rw [compRow_len]; exact compact_len _, by rw [compRow_take, riseI_perm hp]⟩
theorem rising_ok (l : List Int) (hl : l.length ≤ 2^39) (H : List Blk) : ACalls Tryz.prog 99 [Int.sl l] H (fun e H' => e = .ret (Int.sl (riseL l)) ∧ H' = H) := by
  refine acalls_under fun hu _ => acalls_weakE (acalls_tidy ((rising_own l hl H).mono ?_))
  rintro e M ⟨h, es, m, rfl, ow, hm, ht⟩
  refine tidy_row1 hu ow (int_frzB _) (map_len _).symm ⟨?_, rfl⟩
  rw [← List.map_take, ht]
theorem rising_arg (l : List Int) (hl : l.length ≤ 2^39) (B M : List Blk) (h : Option Nat) (hu : underH B.length B = true) (o : OwnI B M h l) : ACalls Tryz.prog 99 [hrow h l.length] M (RisR B (riseL l)) := by
  cases h with
  | none =>
    have : l = [] := List.map_eq_nil_iff.1 (o.nil rfl)
    subst this
    refine acalls_weak (args := [hrow none ([] : List Int).length]) (args' := [Int.sl []]) (.cons (.nil 1) .nil) ((rising_own [] hl M).mono ?_)
    rintro e M' ⟨h', es, m, rfl, ow, h1, h2⟩
    obtain ⟨L, rfl⟩ := o.pre
    exact ⟨h', es, m, rfl, ow.less, h1, h2⟩
  | some j =>
    obtain ⟨L, rfl⟩ := o.pre
    obtain ⟨q, rfl⟩ : ∃ q, j = B.length + q := ⟨j - B.length, by have := o.new j rfl; omega⟩
    have hj := o.row _ rfl
    refine acalls_give (B.length + q) 1 3 (l.map fun n => [I n]) hj (int_frzB l) ?_
    rw [frzH_app q hu]
    have e : frzL (B.length + q) 1 (l.map fun n => [I n]) [hrow (some (B.length + q)) l.length] = [Int.sl l] := by
      simp [frzL, hrow, AV.frz]
      rw [List.take_of_length_le (by simp)]
    rw [e]
    refine (rising_own l hl _).mono ?_
    rintro e M' ⟨h', es, m, rfl, ow, h1, h2⟩
    exact ⟨h', es, m, rfl, ow.less, h1, h2⟩
end Go.Proofs
namespace Go.Proofs
open Go.Mu
theorem behRaw_rise {l : Linear} (ho : LinOk l) {i : Nat} {x : Line} (hx : l.code[i]? = some x) : riseL (behRaw l i x) = behL l i := by
  refine sorted_ext (riseL_rise _) (riseL_rise _) fun v => ?_
  rw [riseL_mem, behRaw_mem ho hx]
theorem nexts_okU (l : Linear) (hs : l.Sm) (hok : l.ok = true) (i : Nat) (hi : i < l.code.length) (H : List Blk) : ACalls Tryz.prog 129 [.agg l.cells, I i] H (fun e H' => (e = .ret (.tup [Int.sl (nxt l i), I 0]) ∧ H' = H) ∧ underH H.length H = true) :=
  acalls_under fun hu _ => (nexts_ok l hs hok i hi H).mono fun e M h => ⟨h, hu⟩
noncomputable def behTw (l : Linear) (i q : Nat) : List Int := ((nxt l i).take q).flatMap fun k => if k.toNat = l.code.length then l.rets else liveL l k.toNat
theorem behTw_succ {l : Linear} {i q : Nat} {k : Int} (h : (nxt l i)[q]? = some k) : behTw l i (q + 1) = behTw l i q ++ (if k.toNat = l.code.length then l.rets else liveL l k.toNat) := by
  unfold behTw
  rw [List.take_add_one, h, List.flatMap_append]
  simp
theorem colbeh_ok (l : Linear) (hs : l.Sm) (hok : l.ok = true) (i : Nat) (hi : i < l.code.length) (H : List Blk) : ACalls Tryz.prog 97 [.agg l.cells, Ints.sl (lvL l), I i] H (fun e H' => e = .ret (Int.sl (behL l i)) ∧ H' = H) := by
  have ho := ((ok_iff l).1 hok).1
  refine acalls_under fun hu _ => acalls_weakE (acalls_tidy (acalls_of_vc (hn := fun d => d == 42 || d == 48) (od := fun _ => none) Tryz.func97 rfl (by kernel_rfl) ?_))
  have hx := List.getElem?_eq_getElem hi
  obtain ⟨x, hxe⟩ : ∃ x, x = l.code[i] := ⟨_, rfl⟩
  rw [← hxe] at hx
  have hrise := behRaw_rise ho hx
  have hc := hs.code
  have cn := nexts_okU l hs hok i hi (H ++ [.box 25 l.cells])
  simp only [Linear.cells] at cn
  have nl := nxt_len l i
  have hll : (lvL l).length = l.code.length := by unfold lvL; simp
  have g41 : (l.code.map Line.cells)[i]? = some x.cells := by rw [List.getElem?_map, hx]; rfl
  clear hxe hx
  obtain ⟨E, hE⟩ : ∃ E, E = behL l i := ⟨_, rfl⟩
  rw [← hE] at hrise ⊢
  by_cases h5 : x.kind = 5
  · have hkb : (x.kind == 5) = true := by simpa using h5
    have e : behRaw l i x = l.rets := by unfold behRaw; rw [if_pos h5]
    rw [e] at hrise
    have cr := fun H => rising_ok l.rets (by have := hs.rets; omega) H
    rw [hrise] at cr
    obtain ⟨kind, ins, var, label⟩ := x
    simp only at hkb h5
    replace hE := Hid.mk hE
    simp -dsimp [g41, hkb]
    refine acallsW_det (cr _) ?_
    simp -dsimp
    exact tidy_same rfl ⟨_, .refl _, rfl, rfl⟩
  have hkb : (x.kind == 5) = false := by simpa using h5
  have e : behRaw l i x = behTw l i (nxt l i).length := by unfold behRaw behTw; rw [if_neg h5, List.take_length]
  rw [e] at hrise
  have hbl := fun q => behRaw_len l hs ho i x q
  obtain ⟨kind, ins, var, label⟩ := x
  simp only at hkb h5
  clear e h5
  replace hE := Hid.mk hE
  have hrise := Hid.mk hrise
  have hi2 := Hid.mk hi
  have hll := Hid.mk hll
  obtain ⟨B, hB⟩ : ∃ B, B = H ++ [.box 25 [I l.vars, Int.sl l.params, Int.sl l.rets, I l.frame, Line.sl l.code]] := ⟨_, rfl⟩
  have hb : B[H.length]? = some (.box 25 [I l.vars, Int.sl l.params, Int.sl l.rets, I l.frame, Line.sl l.code]) := by rw [hB]; simp
  rw [← hB] at cn
  simp -dsimp [g41, hkb]
  rw [← hB]
  refine acallsW_of cn ?_
  rintro e M0 ⟨⟨rfl, hM0⟩, huB⟩
  rw [hM0]
  have huB := Hid.mk huB
  simp -dsimp
  refine loop_rule (hn := fun d => d == 42 || d == 48) (od := fun _ => none) (fun (q : Nat) f M => f 1 = Ints.sl (lvL l) ∧ f 3 = .bp H.length 0 ∧ f 28 = Int.sl (nxt l i) ∧ f 29 = I (nxt l i).length ∧ f 30 = I q ∧ q ≤ (nxt l i).length ∧ ∃ h, f 7 = hrow h (behTw l i q).length ∧ OwnI B M h (behTw l i q)) (fun q => (nxt l i).length - q) (by kernel_rfl) 0 (by refine ⟨by simp, by simp, by simp, by simp, by simp, by omega, none, by simp; rfl, .nil1 _ _ _⟩) ?_
  replace hB := Hid.mk hB
  rintro q f M ⟨f1, f3, f28, f29, f30, hq, h, f7, ow⟩
  have r1 := ow.old hb
  simp -dsimp [f1, f3, f28, f29, f30]
  refine condVW_introD (fun hlt => ?_) (fun hlt => ?_)
  · have hlt' : q < (nxt l i).length := by omega
    have hgk := List.getElem?_eq_getElem hlt'
    have hkm : (nxt l i)[q] ∈ nxt l i := List.getElem_mem hlt'
    have hki := nxt_in ho hkm
    obtain ⟨kz, hkz⟩ : ∃ kz, kz = (nxt l i)[q] := ⟨_, rfl⟩
    rw [← hkz] at hgk hkm hki
    clear hkz
    have hsucc := behTw_succ hgk
    have b0 : (behTw l i q).length ≤ 2^38 := hbl q
    obtain ⟨j, rfl⟩ : ∃ j : Nat, kz = j := ⟨kz.toNat, by omega⟩
    rw [Int.toNat_natCast] at hsucc
    obtain ⟨pr, hpr⟩ : ∃ pr, pr = behTw l i q := ⟨_, rfl⟩
    rw [← hpr] at hsucc ow f7 b0
    by_cases hj : j = l.code.length
    · have dj : (j == l.code.length) = true := by simpa using hj
      have djz : ((j : Int) == (l.code.length : Int)) = true := by rw [hj]; simp
      rw [if_pos hj] at hsucc
      have hrl := hs.rets
      have hsucc := Hid.mk hsucc
      have hpr := Hid.mk hpr
      simp -dsimp [f1, f3, f7, f28, f29, f30, hgk, r1, dj, djz]
      refine app_own ow (by simp) rfl rfl (by simp; omega) (by simp; omega) ?_
      intro h' M' ow' _
      have ow2 : OwnI B M' h' (pr ++ l.rets) := by unfold OwnI; rw [List.map_append]; exact ow'
      have e : (pr.map (fun n => [I n]) ++ l.rets.map (fun n => [I n])).length = (pr ++ l.rets).length := by simp
      rw [e]
      rw [← hsucc.out] at ow2 ⊢
      simp -dsimp [f1, f3, f28, f29, f30]
      exact ⟨q + 1, by omega, wrapS (by omega), by omega, h', rfl, ow2⟩
    · have dj : (j == l.code.length) = false := by simpa using hj
      have djz : ((j : Int) == (l.code.length : Int)) = false := by
        have : (j : Int) ≠ l.code.length := by omega
        simpa using this
      rw [if_neg hj] at hsucc
      have gl : (lvL l)[j]? = some (liveL l j) := by unfold lvL; rw [List.getElem?_map, List.getElem?_range (by omega)]; rfl
      have hlv := liveL_len l j
      have hvv := ho.vars
      obtain ⟨ad, had⟩ : ∃ ad, ad = liveL l j := ⟨_, rfl⟩
      rw [← had] at hsucc gl hlv
      have hsucc := Hid.mk hsucc
      have hpr := Hid.mk hpr
      have had := Hid.mk had
      have gl2 : ((lvL l).map fun x => [Int.sl x])[j]? = some [Int.sl ad] := by rw [List.getElem?_map, gl]; rfl
      simp -dsimp [f1, f3, f7, f28, f29, f30, hgk, r1, dj, djz, gl]
      refine app_own ow (by simp) rfl rfl (by simp; omega) (by simp; omega) ?_
      intro h' M' ow' _
      have ow2 : OwnI B M' h' (pr ++ ad) := by unfold OwnI; rw [List.map_append]; exact ow'
      have e : (pr.map (fun n => [I n]) ++ ad.map (fun n => [I n])).length = (pr ++ ad).length := by simp
      rw [e]
      rw [← hsucc.out] at ow2 ⊢
      simp -dsimp [f1, f3, f28, f29, f30]
      exact ⟨q + 1, by omega, wrapS (by omega), by omega, h', rfl, ow2⟩
  · have hq' : q = (nxt l i).length := by omega
    subst hq'
    have hbl2 : (behTw l i (nxt l i).length).length ≤ 2^38 := hbl _
    have cr := rising_arg (behTw l i (nxt l i).length) (by omega) B M h huB.out ow
    rw [hrise.out] at cr
    obtain ⟨pr, hpr⟩ : ∃ pr, pr = behTw l i (nxt l i).length := ⟨_, rfl⟩
    rw [← hpr] at cr f7
    clear hpr
    simp -dsimp [f7]
    refine acallsW_of cr ?_
    rintro e M2 ⟨h2, es, m, rfl, ow2, hm, ht⟩
    have ow3 : OwnI H M2 h2 es := by rw [hB.out] at ow2; exact ow2.less
    simp -dsimp
    refine tidy_row1 hu ow3 (int_frzB _) (map_len _).symm ⟨?_, rfl⟩
    rw [← List.map_take, ht]
end Go.Proofs
namespace Go.Proofs
open Go.Mu
def cnTo (l : Linear) (i : Nat) : List Int := l.params ++ l.rets ++ (l.code.take i).flatMap fun x => x.uses ++ x.defs
theorem cnTo_succ {l : Linear} {i : Nat} {x : Line} (hx : l.code[i]? = some x) : cnTo l (i + 1) = cnTo l i ++ x.uses ++ x.defs := by
  unfold cnTo
  rw [List.take_add_one, hx, List.flatMap_append]
  simp
theorem cnTo_len {l : Linear} (hs : l.Sm) {i : Nat} (hi : i ≤ l.code.length) : (cnTo l i).length ≤ 2^38 + 2^37 := by
  have h1 : ∀ c : List Line, (c.flatMap fun x => x.uses ++ x.defs).length ≤ 4 * c.length := by
    intro c
    induction c with
    | nil => simp
    | cons x c ih =>
      have h2 := raw_len x
      have h3 := defs_len x
      have h4 : x.uses.length ≤ x.raw.length := riseL_len _
      rw [List.flatMap_cons, List.length_append, List.length_cons, List.length_append]
      omega
  have := h1 (l.code.take i)
  have h5 := hs.code
  have h6 := hs.params
  have h7 := hs.rets
  unfold cnTo
  rw [List.length_append, List.length_append]
  rw [List.length_take] at this
  omega
theorem cnTo_all (l : Linear) : riseL (cnTo l l.code.length) = cntL l := by
  unfold cnTo cntL cntRaw
  rw [List.take_of_length_le (Nat.le_refl _)]
  refine sorted_ext (riseL_rise _) (riseL_rise _) fun v => ?_
  rw [riseL_mem, riseL_mem]
  simp only [List.mem_append, List.mem_flatMap, Line.uses, riseL_mem]
theorem counts_ok (l : Linear) (hs : l.Sm) (H : List Blk) : ACalls Tryz.prog 57 [.agg l.cells] H (fun e H' => e = .ret (Int.sl (cntL l)) ∧ H' = H) := by
  refine acalls_under fun hu _ => acalls_weakE (acalls_tidy (acalls_of_vc (hn := fun d => d == 28 || d == 30) (od := fun _ => none) Tryz.func57 rfl (by kernel_rfl) ?_))
  have hpl := hs.params
  have hrl := hs.rets
  have hc := hs.code
  obtain ⟨B, hB⟩ : ∃ B, B = H ++ [.box 25 [I l.vars, Int.sl l.params, Int.sl l.rets, I l.frame, Line.sl l.code]] := ⟨_, rfl⟩
  have hb : B[H.length]? = some (.box 25 [I l.vars, Int.sl l.params, Int.sl l.rets, I l.frame, Line.sl l.code]) := by rw [hB]; simp
  have e1 := concat_ownU [l.params, l.rets] (by simp) (by simp; omega) B
  have ef : [l.params, l.rets].flatten = cnTo l 0 := by unfold cnTo; simp
  rw [ef] at e1
  have hall := cnTo_all l
  obtain ⟨E, hE⟩ : ∃ E, E = cntL l := ⟨_, rfl⟩
  rw [← hE] at hall ⊢
  replace hE := Hid.mk hE
  have hall := Hid.mk hall
  simp -dsimp
  rw [← hB]
  replace hB := Hid.mk hB
  refine acallsW_of e1 ?_
  rintro e M ⟨⟨h2, rfl, ow⟩, huB⟩
  have huB := Hid.mk huB
  have r1 := ow.old hb
  obtain ⟨p0, hp0⟩ : ∃ p0, p0 = cnTo l 0 := ⟨_, rfl⟩
  rw [← hp0] at ow ⊢
  simp -dsimp [r1]
  refine loop_rule (hn := fun d => d == 28 || d == 30) (od := fun _ => none) (fun (i : Nat) f M => f 15 = Line.sl l.code ∧ f 16 = I l.code.length ∧ f 17 = I i ∧ i ≤ l.code.length ∧ ∃ h, f 3 = hrow h (cnTo l i).length ∧ OwnI B M h (cnTo l i)) (fun i => l.code.length - i) (by kernel_rfl) 0 (by refine ⟨by simp, by simp, by simp, by omega, h2, by simp [hp0], by rw [← hp0]; exact ow⟩) ?_
  clear r1 ow h2 hp0 p0 M e1 ef
  rintro i f M ⟨f15, f16, f17, hi, h, f3, ow⟩
  simp -dsimp [f15, f16, f17]
  refine condVW_introD (fun hlt => ?_) (fun hlt => ?_)
  · have hlt' : i < l.code.length := by omega
    have hx := List.getElem?_eq_getElem hlt'
    obtain ⟨x, hxe⟩ : ∃ x, x = l.code[i] := ⟨_, rfl⟩
    rw [← hxe] at hx
    clear hxe
    have g41 : (l.code.map Line.cells)[i]? = some x.cells := by rw [List.getElem?_map, hx]; rfl
    have hul := cnTo_len hs (i := i) hi
    have hnew := cnTo_succ hx
    have hud : x.uses.length ≤ 3 := Nat.le_trans (riseL_len _) (raw_len x)
    have hdl := defs_len x
    have cu := fun H => uses_ok x H
    obtain ⟨pr, hpr⟩ : ∃ pr, pr = cnTo l i := ⟨_, rfl⟩
    rw [← hpr] at f3 ow hul hnew
    obtain ⟨nx, hnx⟩ : ∃ nx, nx = cnTo l (i + 1) := ⟨_, rfl⟩
    rw [← hnx] at hnew
    obtain ⟨us, hus⟩ : ∃ us, us = x.uses := ⟨_, rfl⟩
    obtain ⟨dl, hdf⟩ : ∃ dl, dl = x.defs := ⟨_, rfl⟩
    rw [← hus, ← hdf] at cu hnew
    rw [← hus] at hud
    rw [← hdf] at hdl
    clear hpr hus hdf hx
    obtain ⟨kind, ⟨ik, op, d, a, b, c, word, stack⟩, var, label⟩ := x
    simp only [Line.cells] at cu
    have hnew := Hid.mk hnew
    have hnx := Hid.mk hnx
    simp -dsimp [f3, f15, f16, f17, g41]
    refine acallsW_det (cu _) ?_
    simp -dsimp [f3, f15, f16, f17]
    refine app_own (ow.app _) (by simp) rfl rfl (by simp; omega) (by simp; omega) ?_
    intro h5 M5 ow5 _
    have e : (pr.map (fun n => [I n]) ++ us.map (fun n => [I n])).length = (pr ++ us).length := by simp
    have e' : pr.map (fun n => [I n]) ++ us.map (fun n => [I n]) = (pr ++ us).map fun n => [I n] := by simp
    rw [e] 
    rw [e'] at ow5
    obtain ⟨pu, hpu⟩ : ∃ pu, pu = pr ++ us := ⟨_, rfl⟩
    have hpl2 : pu.length ≤ 2^38 + 2^37 + 3 := by rw [hpu, List.length_append]; omega
    have hnew2 : nx = pu ++ dl := by rw [hnew.out, hpu]
    rw [← hpu] at ow5 ⊢
    clear hpu
    have hnew2 := Hid.mk hnew2
    simp -dsimp [f3, f15, f16, f17]
    refine app_own ow5 (by simp) rfl rfl (by simp; omega) (by simp; omega) ?_
    intro h6 M6 ow6 _
    have ow7 : OwnI B M6 h6 (pu ++ dl) := by unfold OwnI; rw [List.map_append]; exact ow6
    have e : (pu.map (fun n => [I n]) ++ dl.map (fun n => [I n])).length = (pu ++ dl).length := by simp
    rw [e]
    rw [← hnew2.out] at ow7 ⊢
    simp -dsimp [f15, f16, f17]
    refine ⟨i + 1, by omega, wrapS (by omega), by omega, h6, ?_, ?_⟩
    · rw [← hnx.out]
    · rw [← hnx.out]; exact ow7
  · have hi' : i = l.code.length := by omega
    subst hi'
    have hul := cnTo_len hs (i := l.code.length) (Nat.le_refl _)
    have cr := rising_arg (cnTo l l.code.length) (by omega) B M h huB.out ow
    rw [hall.out] at cr
    obtain ⟨pr, hpr⟩ : ∃ pr, pr = cnTo l l.code.length := ⟨_, rfl⟩
    rw [← hpr] at cr f3
    clear hpr
    simp -dsimp [f3]
    refine acallsW_of cr ?_
    rintro e M2 ⟨h2, es, m, rfl, ow2, hm, ht⟩
    have ow3 : OwnI H M2 h2 es := by rw [hB.out] at ow2; exact ow2.less
    simp -dsimp
    refine tidy_row1 hu ow3 (int_frzB _) (map_len _).symm ⟨?_, rfl⟩
    rw [← List.map_take, ht]
noncomputable def cntE (l : Linear) : AE := if l.ok = true then .ret (.tup [Int.sl (cntL l), I 0]) else .ret (.tup [Int.sl [], I 2])
theorem colCounts_ok (l : Linear) (hs : l.Sm) (H : List Blk) : ACalls Tryz.prog 21 [.agg l.cells] H (fun e H' => e = cntE l ∧ H' = H) := by
  refine acalls_under fun hu _ => acalls_weakE (acalls_tidy (acalls_of_vc (hn := fun _ => false) (od := fun _ => none) Tryz.func21 rfl (by kernel_rfl) ?_))
  have c1 := fun H => linear_ok l (by have := hs.params; omega) (by have := hs.rets; omega) (by have := hs.code; omega) H
  have c2 := fun H => counts_ok l hs H
  simp only [Linear.cells] at c1 c2
  unfold cntE
  cases hok : l.ok
  · simp only [hok] at c1
    simp -dsimp
    refine acallsW_det (c1 _) ?_
    simp -dsimp
    exact tidy_same rfl ⟨_, .tupL (.cons (.nil 1) (.cons (.refl _) .nil)), rfl, rfl⟩
  · simp only [hok] at c1
    simp -dsimp
    refine acallsW_det (c1 _) ?_
    simp -dsimp
    refine acallsW_det (c2 _) ?_
    simp -dsimp
    exact tidy_same rfl ⟨_, .refl _, rfl, rfl⟩
end Go.Proofs
namespace Go.Proofs
open Go.Mu
abbrev iiK : List TypeDesc := [.int .i64, .int .i64]
abbrev prV (p : Pr) : Value := .agg #[.int .i64 p.1, .int .i64 p.2]
def standP (ps : List Pr) : List (Value × AV) := ps.map fun p => (prV p, .agg [Bo true])
theorem okK_pr (p : Pr) : okK iiK (prV p) = true := by simp [okK, okKs, sameNow_i64]
theorem cmpK_pr (p q : Pr) : cmpK iiK (prV p) (prV q) = some (decide (p = q)) := by
  have : decide (p = q) = ((p.1 == q.1) && (p.2 == q.2)) := by
    rw [Bool.eq_iff_iff]
    simp only [decide_eq_true_eq, Bool.and_eq_true, beq_iff_eq]
    exact ⟨fun h => by rw [h]; exact ⟨rfl, rfl⟩, fun h => Prod.ext h.1 h.2⟩
  rw [this]
  simp [cmpK, sameKs, sameNow_i64]
def putSP (p : Pr) (ps : List Pr) : List Pr := if p ∈ ps then ps else ps ++ [p]
theorem standP_in (p : Pr) : ∀ (ps : List Pr), p ∈ ps → msetK iiK (prV p) (.agg [Bo true]) (standP ps) = some (standP ps)
  | [], h => by simp at h
  | a :: ps, h => by
    have : standP (a :: ps) = (prV a, .agg [Bo true]) :: standP ps := rfl
    rw [this, msetK, cmpK_pr]
    by_cases e : p = a
    · subst e; simp
    · rw [decide_eq_false e]
      rcases List.mem_cons.1 h with h | h
      · exact absurd h e
      · simp only [standP_in p ps h]; rfl
theorem standP_out (p : Pr) : ∀ (ps : List Pr), p ∉ ps → msetK iiK (prV p) (.agg [Bo true]) (standP ps) = some (standP (ps ++ [p]))
  | [], _ => rfl
  | a :: ps, h => by
    have : standP (a :: ps) = (prV a, .agg [Bo true]) :: standP ps := rfl
    rw [this, msetK, cmpK_pr, decide_eq_false (fun e => h (by rw [e]; exact List.mem_cons_self ..))]
    simp only [standP_out p ps (fun hp => h (List.mem_cons_of_mem _ hp))]
    rfl
theorem standP_put (p : Pr) (ps : List Pr) : msetK iiK (prV p) (.agg [Bo true]) (standP ps) = some (standP (putSP p ps)) := by
  unfold putSP
  by_cases h : p ∈ ps
  · rw [if_pos h]; exact standP_in p ps h
  · rw [if_neg h]; exact standP_out p ps h
theorem putSP_nodup {p : Pr} {ps : List Pr} (h : ps.Nodup) : (putSP p ps).Nodup := by
  unfold putSP
  split
  · exact h
  · rename_i hp
    rw [List.nodup_append]
    exact ⟨h, by simp, fun a ha b hb e => hp (by rw [List.mem_singleton] at hb; rw [← hb, ← e]; exact ha)⟩
theorem putSP_mem {p q : Pr} {ps : List Pr} : q ∈ putSP p ps ↔ q ∈ ps ∨ q = p := by
  unfold putSP
  split
  · rename_i h; exact ⟨.inl, fun x => x.elim id (fun e => e ▸ h)⟩
  · simp
def addP (a b : Int) (ps : List Pr) : List Pr := if a = b then ps else putSP (min a b, max a b) ps
theorem addP_nodup {a b : Int} {ps : List Pr} (h : ps.Nodup) : (addP a b ps).Nodup := by unfold addP; split <;> first | exact h | exact putSP_nodup h
theorem addP_mem {a b : Int} {q : Pr} {ps : List Pr} : q ∈ addP a b ps ↔ q ∈ ps ∨ q ∈ prs a b := by
  unfold addP prs
  split
  · simp
  · rw [putSP_mem, List.mem_singleton]
theorem setGet_self {α : Type} {l : List α} {k : Nat} {x : α} (h : l[k]? = some x) : l.set k x = l := by
  apply List.ext_getElem?
  intro j
  by_cases e : j = k
  · subst e; rw [List.getElem?_set_self (List.getElem?_eq_some_iff.1 h).1, h]
  · rw [List.getElem?_set_ne (fun q => e q.symm)]
theorem add_ok (a b : Int) (ps : List Pr) (k : Nat) (H : List Blk) (hk : H[k]? = some (.map (standP ps))) : ACalls Tryz.prog 96 [.hm k, I a, I b] H (fun e H' => e = .ret (.tup []) ∧ H' = H.set k (.map (standP (addP a b ps)))) := by
  refine acalls_of_vc (hn := fun _ => false) (od := fun _ => none) Tryz.func96 rfl (by kernel_rfl) ?_
  by_cases h : a = b
  · subst h
    have e : H.set k (.map (standP (addP a a ps))) = H := by
      unfold addP
      rw [if_pos rfl]
      exact setGet_self hk
    simp -dsimp
    exact e.symm
  · have d : (a != b) = true := by simpa using h
    have e : addP a b ps = putSP (min a b, max a b) ps := by unfold addP; rw [if_neg h]
    have hp := standP_put (min a b, max a b) ps
    have hok := okK_pr (min a b, max a b)
    rw [← e] at hp
    have h1 : (if b < a then b else a) = min a b := by omega
    have h2 : (if a < b then b else a) = max a b := by omega
    have hkey : ∀ x y : Int, keyG (.agg [I x, I y]) = some (prV (x, y)) := fun x y => rfl
    simp -dsimp [d, hk, h1, h2, hkey, hp, hok]
end Go.Proofs
namespace Go.Proofs
open Go.Mu
theorem concat_give (ls : List (List Int)) (hl : ls.length ≤ 2^36) (hf : ls.flatten.length ≤ 2^38) (H : List Blk) : ACalls Tryz.prog 98 [Ints.sl ls] H (fun e H' => e = .ret (Int.sl ls.flatten) ∧ H' = H) := by
  refine acalls_under fun hu _ => acalls_weakE (acalls_tidy ((concat_ok ls hl hf H).mono ?_))
  rintro e M ⟨h, rfl, ow⟩
  exact tidy_rowA hu ow (int_frzB _) (map_len _).symm ⟨rfl, rfl⟩
structure PSet (ps raw : List Pr) : Prop where
  nd : ps.Nodup
  mem : ∀ p, p ∈ ps ↔ p ∈ raw
theorem PSet.add {ps raw : List Pr} (h : PSet ps raw) (a b : Int) : PSet (addP a b ps) (raw ++ prs a b) := ⟨addP_nodup h.nd, fun p => by rw [addP_mem, List.mem_append, h.mem]⟩
theorem PSet.of {ps raw raw' : List Pr} (h : PSet ps raw) (e : ∀ p, p ∈ raw' ↔ p ∈ raw) : PSet ps raw' := ⟨h.nd, fun p => by rw [h.mem, e]⟩
def bhTo (x : Line) (d : Int) (bs : List Int) : List Pr := bs.flatMap fun b => if mvB x b = true then [] else prs d b
theorem bhTo_snoc (x : Line) (d : Int) (bs : List Int) (b : Int) : bhTo x d (bs ++ [b]) = bhTo x d bs ++ (if mvB x b = true then [] else prs d b) := by unfold bhTo; rw [List.flatMap_append]; simp
noncomputable def dfTo (l : Linear) (i : Nat) (x : Line) (j : Nat) : List Pr := (x.defs.take j).flatMap fun d => bhTo x d (behL l i)
theorem dfTo_succ {l : Linear} {i : Nat} {x : Line} {j : Nat} {d : Int} (h : x.defs[j]? = some d) : dfTo l i x (j + 1) = dfTo l i x j ++ bhTo x d (behL l i) := by unfold dfTo; rw [List.take_add_one, h, List.flatMap_append]; simp
noncomputable def lnTo (l : Linear) (i : Nat) : List Pr := (List.range i).flatMap (meetAt l)
theorem lnTo_succ {l : Linear} {i : Nat} {x : Line} (h : l.code[i]? = some x) : lnTo l (i + 1) = lnTo l i ++ dfTo l i x x.defs.length := by
  unfold lnTo dfTo meetAt bhTo
  rw [List.range_succ, List.flatMap_append, List.take_length]
  simp [h]
def paTo (a : Int) (bs : List Int) : List Pr := bs.flatMap fun b => prs a b
theorem paTo_snoc (a : Int) (bs : List Int) (b : Int) : paTo a (bs ++ [b]) = paTo a bs ++ prs a b := by unfold paTo; rw [List.flatMap_append]; simp
def plTo (us bs : List Int) : List Pr := us.flatMap fun a => paTo a bs
theorem plTo_snoc (us bs : List Int) (a : Int) : plTo (us ++ [a]) bs = plTo us bs ++ paTo a bs := by unfold plTo; rw [List.flatMap_append]; simp
def Mm (l : Linear) (H : List Blk) (ps : List Pr) (L : List Blk) : List Blk := H ++ .box 25 [I l.vars, Int.sl l.params, Int.sl l.rets, I l.frame, Line.sl l.code] :: .map (standP ps) :: L
theorem mm_box (l : Linear) (H : List Blk) (ps : List Pr) (L : List Blk) : (Mm l H ps L)[H.length]? = some (.box 25 [I l.vars, Int.sl l.params, Int.sl l.rets, I l.frame, Line.sl l.code]) := by simp [Mm]
theorem mm_map (l : Linear) (H : List Blk) (ps : List Pr) (L : List Blk) : (Mm l H ps L)[H.length + 1]? = some (.map (standP ps)) := by simp [Mm]
theorem mm_app (l : Linear) (H : List Blk) (ps : List Pr) (L L' : List Blk) : Mm l H ps L ++ L' = Mm l H ps (L ++ L') := by simp [Mm]
theorem mm_set (l : Linear) (H : List Blk) (ps ps' : List Pr) (L : List Blk) : (Mm l H ps L).set (H.length + 1) (.map (standP ps')) = Mm l H ps' L := by simp [Mm]
theorem mm_new (l : Linear) (H : List Blk) (ps : List Pr) (L : List Blk) (b : Blk) (L' : List Blk) : (Mm l H ps (L ++ b :: L'))[(Mm l H ps L).length]? = some b := by
  have : Mm l H ps (L ++ b :: L') = Mm l H ps L ++ (b :: L') := (mm_app ..).symm
  rw [this]; simp
def meR (l : Linear) (H : List Blk) (e : AE) (M : List Blk) : Prop := ∃ ps L, e = .ret (.hm (H.length + 1)) ∧ M = Mm l H ps L ∧ PSet ps (meetL l)
abbrev adF (k : Nat) : AV := .fn (.func 96) [.hm k] []
def MmI (l : Linear) (H L : List Blk) (raw : List Pr) (M : List Blk) : Prop := ∃ ps L', M = Mm l H ps (L ++ L') ∧ PSet ps raw
theorem MmI.mk' {l : Linear} {H L L' : List Blk} {raw raw' : List Pr} {ps : List Pr} (h : PSet ps raw) (e : raw' = raw) : MmI l H L raw' (Mm l H ps (L ++ L')) := ⟨ps, L', rfl, by rw [e]; exact h⟩
theorem MmI.mk2 {l : Linear} {H L L' : List Blk} {lb : Blk} {raw raw' : List Pr} {ps : List Pr} (h : PSet ps raw) (e : raw' = raw) : MmI l H (L ++ [lb]) raw' (Mm l H ps (L ++ lb :: L')) := ⟨ps, L', by simp, by rw [e]; exact h⟩
theorem MmI.out {l : Linear} {H L : List Blk} {lb : Blk} {raw : List Pr} {M : List Blk} (h : MmI l H (L ++ [lb]) raw M) : ∃ ps L', M = Mm l H ps (L ++ lb :: L') ∧ PSet ps raw := by
  obtain ⟨ps, L', rfl, h⟩ := h
  exact ⟨ps, L', by simp, h⟩
theorem meet_ok (l : Linear) (hs : l.Sm) (hok : l.ok = true) (H : List Blk) : ACalls Tryz.prog 56 [.agg l.cells, Ints.sl (lvL l)] H (meR l H) := by
  have ho := ((ok_iff l).1 hok).1
  refine acalls_of_vc (hn := fun _ => false) (od := fun _ => none) Tryz.func56 rfl (by kernel_rfl) ?_
  have hpl := hs.params
  have hrl := hs.rets
  have hc := hs.code
  have ca := fun a b ps L => add_ok a b ps (H.length + 1) (Mm l H ps L) (mm_map ..)
  have cb := fun i (hi : i < l.code.length) H => colbeh_ok l hs hok i hi H
  simp only [Linear.cells] at cb
  have hM0 : H ++ [.box 25 [I l.vars, Int.sl l.params, Int.sl l.rets, I l.frame, Line.sl l.code], .map []] = Mm l H [] [] := rfl
  simp -dsimp [hM0, mm_box]
  refine loop_rule (hn := fun _ => false) (od := fun _ => none) (fun (i : Nat) f M => f 1 = Ints.sl (lvL l) ∧ f 2 = .bp H.length 0 ∧ f 5 = .hm (H.length + 1) ∧ f 6 = adF (H.length + 1) ∧ f 24 = Line.sl l.code ∧ f 25 = I l.code.length ∧ f 26 = I i ∧ i ≤ l.code.length ∧ MmI l H [] (lnTo l i) M) (fun i => l.code.length - i) (by kernel_rfl) 0 (by refine ⟨by simp, by simp, by simp, by simp, by simp, by simp, by simp, by omega, .mk' (L := []) (L' := []) ⟨List.nodup_nil, fun p => Iff.rfl⟩ (by simp [lnTo])⟩) ?_
  rintro i f M ⟨f1, f2, f5, f6, f24, f25, f26, hi, ps, L, rfl, hps⟩
  rw [List.nil_append]
  simp -dsimp [f1, f2, f5, f6, f24, f25, f26]
  refine condVW_introD (fun hlt => ?_) (fun hlt => ?_)
  · have hlt' : i < l.code.length := by omega
    have hx := List.getElem?_eq_getElem hlt'
    obtain ⟨x, hxe⟩ : ∃ x, x = l.code[i] := ⟨_, rfl⟩
    rw [← hxe] at hx
    clear hxe
    have g41 : (l.code.map Line.cells)[i]? = some x.cells := by rw [List.getElem?_map, hx]; rfl
    have hnew := lnTo_succ hx
    have hds := fun j d h => dfTo_succ (l := l) (i := i) (x := x) (j := j) (d := d) h
    have hd0 : dfTo l i x 0 = [] := by unfold dfTo; simp
    have hdl := defs_len x
    have cu := fun H => uses_ok x H
    obtain ⟨us, hus⟩ : ∃ us, us = x.uses := ⟨_, rfl⟩
    obtain ⟨dl, hdf⟩ : ∃ dl, dl = x.defs := ⟨_, rfl⟩
    obtain ⟨D, hD⟩ : ∃ D, D = dfTo l i x := ⟨_, rfl⟩
    obtain ⟨BT, hBT⟩ : ∃ BT, BT = bhTo x := ⟨_, rfl⟩
    obtain ⟨mv, hmv⟩ : ∃ mv, mv = mvB x := ⟨_, rfl⟩
    have hbs := fun d bs b => bhTo_snoc x d bs b
    have hb0 : ∀ d, bhTo x d [] = [] := fun d => rfl
    have hmB : ∀ b, mvB x b = (decide (x.ins.kind = 2) && decide (x.ins.a = b)) := fun b => rfl
    rw [← hus, ← hdf] at cu
    rw [← hdf, ← hD] at hnew
    rw [← hdf] at hds hdl
    simp only [← hD, ← hBT] at hds hd0
    simp only [← hBT, ← hmv] at hbs hb0
    simp only [← hmv] at hmB
    clear hus hdf hD hBT hmv hx
    obtain ⟨kind, ⟨ik, op, d, a, b, c, word, stack⟩, var, label⟩ := x
    simp only [Line.cells] at cu g41
    simp only at hmB
    have hnew := Hid.mk hnew
    have hds := Hid.mk hds
    have hbs := Hid.mk hbs
    have hmB := Hid.mk hmB
    have hd0 := Hid.mk hd0
    have hb0 := Hid.mk hb0
    simp -dsimp [f1, f2, f5, f6, f24, f25, f26, g41]
    refine acallsW_det (cu _) ?_
    have bx : ∀ ps' L', (Mm l H ps' (L ++ .box 67 [I kind, I ik, I op, I d, I a, I b, I c, U word, Bo stack, I var, I label] :: L'))[(Mm l H ps L).length]? = some (.box 67 [I kind, I ik, I op, I d, I a, I b, I c, U word, Bo stack, I var, I label]) := fun ps' L' => by
      have e : (Mm l H ps L).length = (Mm l H ps' L).length := by simp [Mm]
      rw [e]; exact mm_new ..
    obtain ⟨k8, hk8⟩ : ∃ k8, k8 = (Mm l H ps L).length := ⟨_, rfl⟩
    rw [← hk8] at bx ⊢
    clear hk8
    obtain ⟨lb, hlb⟩ : ∃ lb, lb = Blk.box 67 [I kind, I ik, I op, I d, I a, I b, I c, U word, Bo stack, I var, I label] := ⟨_, rfl⟩
    simp -dsimp [f1, f2, f5, f6, f24, f25, f26]
    rw [mm_app, ← hlb]
    have bx : ∀ ps' L', (Mm l H ps' (L ++ lb :: L'))[k8]? = some (.box 67 [I kind, I ik, I op, I d, I a, I b, I c, U word, Bo stack, I var, I label]) := fun ps' L' => by rw [hlb]; exact bx ps' L'
    refine loop_rule (hn := fun _ => false) (od := fun _ => none) (fun (j : Nat) f M => f 1 = Ints.sl (lvL l) ∧ f 2 = .bp H.length 0 ∧ f 5 = .hm (H.length + 1) ∧ f 6 = adF (H.length + 1) ∧ f 7 = I i ∧ f 8 = .bp k8 0 ∧ f 24 = Line.sl l.code ∧ f 25 = I l.code.length ∧ f 26 = I i ∧ f 36 = Int.sl dl ∧ f 37 = I dl.length ∧ f 38 = I j ∧ j ≤ dl.length ∧ MmI l H (L ++ [lb]) (lnTo l i ++ D j) M) (fun j => dl.length - j) (by kernel_rfl) 0 (by refine ⟨by simp [f1], by simp [f2], by simp [f5], by simp [f6], by simp, by simp, by simp [f24], by simp [f25], by simp [f26], by simp, by simp, by simp, by omega, MmI.mk2 (raw' := lnTo l i ++ D 0) hps (by rw [hd0.out]; simp)⟩) ?_
    clear f1 f2 f5 f6 f24 f25 f26 hps ps f
    rintro j f M ⟨f1, f2, f5, f6, f7, f8, f24, f25, f26, f36, f37, f38, hj, hmm⟩
    obtain ⟨ps, L', rfl, hps⟩ := hmm.out
    simp -dsimp [f1, f2, f5, f6, f7, f8, f24, f25, f26, f36, f37, f38]
    refine condVW_introD (fun hlt2 => ?_) (fun hlt2 => ?_)
    · have hlt2' : j < dl.length := by omega
      have hdx := List.getElem?_eq_getElem hlt2'
      obtain ⟨dd, hdd⟩ : ∃ dd, dd = dl[j] := ⟨_, rfl⟩
      rw [← hdd] at hdx
      clear hdd
      have hdn := hds.out j dd hdx
      have cbi := fun M => cb i hlt' M
      obtain ⟨bh, hbh⟩ : ∃ bh, bh = behL l i := ⟨_, rfl⟩
      have hbl : bh.length ≤ 2^40 := by
        have h1 := rising_len (a := 0) (b := l.vars) (l := behL l i) (riseL_rise _) (fun x hx => behL_in ho hx)
        have h2 := ho.vars
        rw [hbh]; omega
      rw [← hbh] at hdn cbi
      clear hbh
      have hdn := Hid.mk hdn
      simp -dsimp [f1, f2, f5, f6, f7, f8, f24, f25, f26, f36, f37, f38, hdx, mm_box]
      refine acallsW_det (cbi _) ?_
      simp -dsimp [f1, f2, f5, f6, f7, f8, f24, f25, f26, f36, f37, f38]
      refine loop_rule (hn := fun _ => false) (od := fun _ => none) (fun (k : Nat) f M => f 1 = Ints.sl (lvL l) ∧ f 2 = .bp H.length 0 ∧ f 5 = .hm (H.length + 1) ∧ f 6 = adF (H.length + 1) ∧ f 7 = I i ∧ f 8 = .bp k8 0 ∧ f 24 = Line.sl l.code ∧ f 25 = I l.code.length ∧ f 26 = I i ∧ f 36 = Int.sl dl ∧ f 37 = I dl.length ∧ f 38 = I j ∧ f 12 = I dd ∧ f 45 = Int.sl bh ∧ f 46 = I bh.length ∧ f 47 = I k ∧ k ≤ bh.length ∧ MmI l H (L ++ [lb]) (lnTo l i ++ D j ++ BT dd (bh.take k)) M) (fun k => bh.length - k) (by kernel_rfl) 0 (by refine ⟨by simp [f1], by simp [f2], by simp [f5], by simp [f6], by simp [f7], by simp [f8], by simp [f24], by simp [f25], by simp [f26], by simp [f36], by simp [f37], by simp [f38], by simp, by simp, by simp, by simp, by omega, MmI.mk2 (raw' := lnTo l i ++ D j ++ BT dd (bh.take 0)) hps (by rw [List.take_zero, hb0.out]; simp)⟩) ?_
      clear f1 f2 f5 f6 f7 f8 f24 f25 f26 f36 f37 f38 hmm hps ps L' f
      rintro k f M ⟨f1, f2, f5, f6, f7, f8, f24, f25, f26, f36, f37, f38, f12, f45, f46, f47, hk, hmm⟩
      obtain ⟨ps, L', rfl, hps⟩ := hmm.out
      simp -dsimp [f1, f2, f5, f6, f7, f8, f24, f25, f26, f36, f37, f38, f12, f45, f46, f47]
      refine condVW_introD (fun hlt3 => ?_) (fun hlt3 => ?_)
      · have hlt3' : k < bh.length := by omega
        have hbx := List.getElem?_eq_getElem hlt3'
        obtain ⟨bb, hbb⟩ : ∃ bb, bb = bh[k] := ⟨_, rfl⟩
        have htk : bh.take (k + 1) = bh.take k ++ [bb] := by rw [hbb]; exact List.take_succ_eq_append_getElem hlt3'
        rw [← hbb] at hbx
        clear hbb
        have hbn := hbs.out dd (bh.take k) bb
        rw [← htk] at hbn
        have hm := hmB.out bb
        clear htk
        by_cases hk2 : ik = 2
        · have q1 : (ik != 2) = false := by simpa using hk2
          by_cases ha2 : a = bb
          · have q2 : (a != bb) = false := by simpa using ha2
            have hmv : mv bb = true := by rw [hm]; simp [hk2, ha2]
            rw [if_pos hmv, List.append_nil] at hbn
            have hbn := Hid.mk hbn
            simp -dsimp [f1, f2, f5, f6, f7, f8, f24, f25, f26, f36, f37, f38, f12, f45, f46, f47, hbx, bx, q1, q2]
            exact ⟨k + 1, by omega, wrapS (by omega), by omega, .mk2 hps (by rw [hbn.out]; simp)⟩
          · have q2 : (a != bb) = true := by simpa using ha2
            have hmv : mv bb = false := by rw [hm]; simp [hk2, ha2]
            rw [hmv, if_neg (by decide)] at hbn
            have hbn := Hid.mk hbn
            simp -dsimp [f1, f2, f5, f6, f7, f8, f24, f25, f26, f36, f37, f38, f12, f45, f46, f47, hbx, bx, q1, q2]
            refine acallsW_of (ca dd bb ps _) ?_
            rintro e M ⟨rfl, rfl⟩
            rw [mm_set]
            simp -dsimp [f1, f2, f5, f6, f7, f8, f24, f25, f26, f36, f37, f38, f12, f45, f46, f47]
            exact ⟨k + 1, by omega, wrapS (by omega), by omega, .mk2 (hps.add dd bb) (by rw [hbn.out]; simp)⟩
        · have q1 : (ik != 2) = true := by simpa using hk2
          have hmv : mv bb = false := by rw [hm]; simp [hk2]
          rw [hmv, if_neg (by decide)] at hbn
          have hbn := Hid.mk hbn
          simp -dsimp [f1, f2, f5, f6, f7, f8, f24, f25, f26, f36, f37, f38, f12, f45, f46, f47, hbx, bx, q1]
          refine acallsW_of (ca dd bb ps _) ?_
          rintro e M ⟨rfl, rfl⟩
          rw [mm_set]
          simp -dsimp [f1, f2, f5, f6, f7, f8, f24, f25, f26, f36, f37, f38, f12, f45, f46, f47]
          exact ⟨k + 1, by omega, wrapS (by omega), by omega, .mk2 (hps.add dd bb) (by rw [hbn.out]; simp)⟩
      · rw [List.take_of_length_le (by omega)] at hps
        simp -dsimp [f1, f2, f5, f6, f7, f8, f24, f25, f26, f36, f37, f38]
        refine ⟨j + 1, by omega, wrapS (by omega), by omega, .mk2 hps (by rw [hdn.out]; simp)⟩
    · have hj' : j = dl.length := by omega
      subst hj'
      simp -dsimp [f1, f2, f5, f6, f24, f25, f26]
      refine ⟨i + 1, by omega, wrapS (by omega), by omega, ps, L ++ [lb] ++ L', by simp, by rw [hnew.out]; exact hps⟩
  · have hi' : i = l.code.length := by omega
    subst hi'
    obtain ⟨fs, hfs⟩ : ∃ fs, fs = if l.code.length = 0 then l.rets else liveL l 0 := ⟨_, rfl⟩
    have hfm : ∀ v, v ∈ fs ↔ v ∈ liveL l 0 := fun v => by
      rw [hfs]
      by_cases h : l.code.length = 0
      · rw [if_pos h, ← h, liveL_end ho, riseL_mem]
      · rw [if_neg h]
    have hfl : fs.length ≤ 2^36 := by
      rw [hfs]
      have h1 := liveL_len l 0
      have h2 := ho.vars
      split <;> omega
    have hcon := fun H => concat_give [l.params, fs] (by simp) (by simp; omega) H
    have ef : [l.params, fs].flatten = l.params ++ fs := by simp
    rw [ef] at hcon
    have hmeet : ∀ p, p ∈ meetL l ↔ p ∈ lnTo l l.code.length ++ plTo l.params (l.params ++ fs) := fun p => by
      unfold meetL meetRaw lnTo plTo paTo
      rw [riseP_mem, List.mem_append, List.mem_append]
      refine or_congr Iff.rfl ?_
      simp only [List.mem_flatMap, List.mem_append, hfm]
    obtain ⟨K, hK⟩ : ∃ K, K = lnTo l l.code.length := ⟨_, rfl⟩
    rw [← hK] at hps hmeet
    clear hK ef
    obtain ⟨C, hC⟩ : ∃ C, C = l.params ++ fs := ⟨_, rfl⟩
    have hCl : C.length ≤ 2^37 := by rw [hC, List.length_append]; omega
    rw [← hC] at hcon hmeet
    clear hC
    have hll : (lvL l).length = l.code.length := by unfold lvL; simp
    have hll := Hid.mk hll
    have hmeet := Hid.mk hmeet
    have hfm := Hid.mk hfm
    have step : ∀ (f : Fr), True := fun _ => trivial
    have hps0 : PSet ps (K ++ plTo (l.params.take 0) C) := by rw [List.take_zero]; unfold plTo; simpa using hps
    clear hps
    by_cases h0 : l.code.length = 0
    · have hd : decide (0 < l.code.length) = false := decide_eq_false (by omega)
      have hfe : fs = l.rets := by rw [hfs, if_pos h0]
      have h0 := Hid.mk h0
      rw [hfe] at hcon
      have hfs := Hid.mk hfs
      have hfe := Hid.mk hfe
      simp -dsimp [f1, f2, f5, f6, mm_box, hll.out, hd]
      refine loop_rule (hn := fun _ => false) (od := fun _ => none) (fun (i : Nat) f M => f 2 = .bp H.length 0 ∧ f 5 = .hm (H.length + 1) ∧ f 6 = adF (H.length + 1) ∧ f 15 = Int.sl l.rets ∧ f 78 = Int.sl l.params ∧ f 79 = I l.params.length ∧ f 80 = I i ∧ i ≤ l.params.length ∧ MmI l H [] (K ++ plTo (l.params.take i) C) M) (fun i => l.params.length - i) (by kernel_rfl) 0 (by refine ⟨by simp [f2], by simp [f5], by simp [f6], by simp, by simp, by simp, by simp, by omega, ps, L, rfl, hps0⟩) ?_
      clear f1 f2 f5 f6 f24 f25 f26 hps0 ps L hM0 f
      rintro i f M ⟨f2, f5, f6, f15, f78, f79, f80, hi, ps, L, rfl, hps⟩
      rw [List.nil_append]
      simp -dsimp [f2, f5, f6, f15, f78, f79, f80]
      refine condVW_introD (fun hlt => ?_) (fun hlt => ?_)
      · have hlt' : i < l.params.length := by omega
        have hx := List.getElem?_eq_getElem hlt'
        obtain ⟨x, hxe⟩ : ∃ x, x = l.params[i] := ⟨_, rfl⟩
        have htk : l.params.take (i + 1) = l.params.take i ++ [x] := by rw [hxe]; exact List.take_succ_eq_append_getElem hlt'
        rw [← hxe] at hx
        clear hxe
        have hnew := plTo_snoc (l.params.take i) C x
        rw [← htk] at hnew
        clear htk
        obtain ⟨Q, hQ⟩ : ∃ Q, Q = K ++ plTo (l.params.take i) C := ⟨_, rfl⟩
        have hQn : K ++ plTo (l.params.take (i + 1)) C = Q ++ paTo x C := by rw [hnew, hQ, List.append_assoc]
        rw [← hQ] at hps
        clear hQ hnew
        have hQn := Hid.mk hQn
        have hps0 : PSet ps (Q ++ paTo x (C.take 0)) := by rw [List.take_zero]; unfold paTo; simpa using hps
        clear hps
        simp -dsimp [f2, f5, f6, f15, f78, f79, f80, hx, mm_box]
        refine acallsW_det (hcon _) ?_
        simp -dsimp [f2, f5, f6, f15, f78, f79, f80]
        refine loop_rule (hn := fun _ => false) (od := fun _ => none) (fun (k : Nat) f M => f 2 = .bp H.length 0 ∧ f 5 = .hm (H.length + 1) ∧ f 6 = adF (H.length + 1) ∧ f 15 = Int.sl l.rets ∧ f 78 = Int.sl l.params ∧ f 79 = I l.params.length ∧ f 80 = I i ∧ f 17 = I x ∧ f 88 = Int.sl C ∧ f 89 = I C.length ∧ f 90 = I k ∧ k ≤ C.length ∧ MmI l H [] (Q ++ paTo x (C.take k)) M) (fun k => C.length - k) (by kernel_rfl) 0 (by refine ⟨by simp [f2], by simp [f5], by simp [f6], by simp [f15], by simp [f78], by simp [f79], by simp [f80], by simp, by simp, by simp, by simp, by omega, ps, L, rfl, hps0⟩) ?_
        clear f2 f5 f6 f15 f78 f79 f80 hps0 ps L f
        rintro k f M ⟨f2, f5, f6, f15, f78, f79, f80, f17, f88, f89, f90, hk, ps, L, rfl, hps⟩
        rw [List.nil_append]
        simp -dsimp [f2, f5, f6, f15, f78, f79, f80, f17, f88, f89, f90]
        refine condVW_introD (fun hlt2 => ?_) (fun hlt2 => ?_)
        · have hlt2' : k < C.length := by omega
          have hy := List.getElem?_eq_getElem hlt2'
          obtain ⟨y, hye⟩ : ∃ y, y = C[k] := ⟨_, rfl⟩
          have htk : C.take (k + 1) = C.take k ++ [y] := by rw [hye]; exact List.take_succ_eq_append_getElem hlt2'
          rw [← hye] at hy
          clear hye
          have hnew := paTo_snoc x (C.take k) y
          rw [← htk] at hnew
          clear htk
          have hps2 := hps.add x y
          rw [List.append_assoc, ← hnew] at hps2
          clear hnew hps
          simp -dsimp [f2, f5, f6, f15, f78, f79, f80, f17, f88, f89, f90, hy]
          refine acallsW_of (ca x y ps _) ?_
          rintro e M ⟨rfl, rfl⟩
          rw [mm_set]
          simp -dsimp [f2, f5, f6, f15, f78, f79, f80, f17, f88, f89, f90]
          exact ⟨k + 1, by omega, wrapS (by omega), by omega, _, L, rfl, hps2⟩
        · rw [List.take_of_length_le (by omega)] at hps
          simp -dsimp [f2, f5, f6, f15, f78, f79, f80]
          exact ⟨i + 1, by omega, wrapS (by omega), by omega, ps, L, rfl, by rw [hQn.out]; exact hps⟩
      · rw [List.take_of_length_le (by omega)] at hps
        simp -dsimp [f5]
        exact ⟨ps, L, rfl, rfl, hps.of hmeet.out⟩
    · have hd : decide (0 < l.code.length) = true := decide_eq_true (by omega)
      have hfe : fs = liveL l 0 := by rw [hfs, if_neg h0]
      have gl : (lvL l)[0]? = some (liveL l 0) := by unfold lvL; rw [List.getElem?_map, List.getElem?_range (by omega)]; rfl
      rw [← hfe] at gl
      have h0 := Hid.mk h0
      have hfs := Hid.mk hfs
      have hfe := Hid.mk hfe
      simp -dsimp [f1, f2, f5, f6, mm_box, hll.out, hd, gl]
      refine loop_rule (hn := fun _ => false) (od := fun _ => none) (fun (i : Nat) f M => f 2 = .bp H.length 0 ∧ f 5 = .hm (H.length + 1) ∧ f 6 = adF (H.length + 1) ∧ f 15 = Int.sl fs ∧ f 78 = Int.sl l.params ∧ f 79 = I l.params.length ∧ f 80 = I i ∧ i ≤ l.params.length ∧ MmI l H [] (K ++ plTo (l.params.take i) C) M) (fun i => l.params.length - i) (by kernel_rfl) 0 (by refine ⟨by simp [f2], by simp [f5], by simp [f6], by simp, by simp, by simp, by simp, by omega, ps, L, rfl, hps0⟩) ?_
      clear f1 f2 f5 f6 f24 f25 f26 hps0 ps L hM0 f
      rintro i f M ⟨f2, f5, f6, f15, f78, f79, f80, hi, ps, L, rfl, hps⟩
      rw [List.nil_append]
      simp -dsimp [f2, f5, f6, f15, f78, f79, f80]
      refine condVW_introD (fun hlt => ?_) (fun hlt => ?_)
      · have hlt' : i < l.params.length := by omega
        have hx := List.getElem?_eq_getElem hlt'
        obtain ⟨x, hxe⟩ : ∃ x, x = l.params[i] := ⟨_, rfl⟩
        have htk : l.params.take (i + 1) = l.params.take i ++ [x] := by rw [hxe]; exact List.take_succ_eq_append_getElem hlt'
        rw [← hxe] at hx
        clear hxe
        have hnew := plTo_snoc (l.params.take i) C x
        rw [← htk] at hnew
        clear htk
        obtain ⟨Q, hQ⟩ : ∃ Q, Q = K ++ plTo (l.params.take i) C := ⟨_, rfl⟩
        have hQn : K ++ plTo (l.params.take (i + 1)) C = Q ++ paTo x C := by rw [hnew, hQ, List.append_assoc]
        rw [← hQ] at hps
        clear hQ hnew
        have hQn := Hid.mk hQn
        have hps0 : PSet ps (Q ++ paTo x (C.take 0)) := by rw [List.take_zero]; unfold paTo; simpa using hps
        clear hps
        simp -dsimp [f2, f5, f6, f15, f78, f79, f80, hx, mm_box]
        refine acallsW_det (hcon _) ?_
        simp -dsimp [f2, f5, f6, f15, f78, f79, f80]
        refine loop_rule (hn := fun _ => false) (od := fun _ => none) (fun (k : Nat) f M => f 2 = .bp H.length 0 ∧ f 5 = .hm (H.length + 1) ∧ f 6 = adF (H.length + 1) ∧ f 15 = Int.sl fs ∧ f 78 = Int.sl l.params ∧ f 79 = I l.params.length ∧ f 80 = I i ∧ f 17 = I x ∧ f 88 = Int.sl C ∧ f 89 = I C.length ∧ f 90 = I k ∧ k ≤ C.length ∧ MmI l H [] (Q ++ paTo x (C.take k)) M) (fun k => C.length - k) (by kernel_rfl) 0 (by refine ⟨by simp [f2], by simp [f5], by simp [f6], by simp [f15], by simp [f78], by simp [f79], by simp [f80], by simp, by simp, by simp, by simp, by omega, ps, L, rfl, hps0⟩) ?_
        clear f2 f5 f6 f15 f78 f79 f80 hps0 ps L f
        rintro k f M ⟨f2, f5, f6, f15, f78, f79, f80, f17, f88, f89, f90, hk, ps, L, rfl, hps⟩
        rw [List.nil_append]
        simp -dsimp [f2, f5, f6, f15, f78, f79, f80, f17, f88, f89, f90]
        refine condVW_introD (fun hlt2 => ?_) (fun hlt2 => ?_)
        · have hlt2' : k < C.length := by omega
          have hy := List.getElem?_eq_getElem hlt2'
          obtain ⟨y, hye⟩ : ∃ y, y = C[k] := ⟨_, rfl⟩
          have htk : C.take (k + 1) = C.take k ++ [y] := by rw [hye]; exact List.take_succ_eq_append_getElem hlt2'
          rw [← hye] at hy
          clear hye
          have hnew := paTo_snoc x (C.take k) y
          rw [← htk] at hnew
          clear htk
          have hps2 := hps.add x y
          rw [List.append_assoc, ← hnew] at hps2
          clear hnew hps
          simp -dsimp [f2, f5, f6, f15, f78, f79, f80, f17, f88, f89, f90, hy]
          refine acallsW_of (ca x y ps _) ?_
          rintro e M ⟨rfl, rfl⟩
          rw [mm_set]
          simp -dsimp [f2, f5, f6, f15, f78, f79, f80, f17, f88, f89, f90]
          exact ⟨k + 1, by omega, wrapS (by omega), by omega, _, L, rfl, hps2⟩
        · rw [List.take_of_length_le (by omega)] at hps
          simp -dsimp [f2, f5, f6, f15, f78, f79, f80]
          exact ⟨i + 1, by omega, wrapS (by omega), by omega, ps, L, rfl, by rw [hQn.out]; exact hps⟩
      · rw [List.take_of_length_le (by omega)] at hps
        simp -dsimp [f5]
        exact ⟨ps, L, rfl, rfl, hps.of hmeet.out⟩
end Go.Proofs
namespace Go.Proofs
open Go.Mu
theorem mul64_ok (n : Nat) (hn : n < 2^32) (H : List Blk) : ACalls Tryz.prog 184 [U 1, U n] H (fun e H' => e = .ret (.tup [U 0, U n]) ∧ H' = H) := by
  refine acalls_of_vc (hn := fun _ => false) (od := fun _ => none) Tryz.func184 rfl (by kernel_rfl) ?_
  have hb : IntKind.u64.bits = 64 := rfl
  have A : IntKind.u64.wrap ((n % 2 ^ IntKind.u64.bits &&& 4294967295 % 2 ^ IntKind.u64.bits : Nat) : Int) = n := by
    rw [hb]
    have h1 : n % 2 ^ 64 &&& 4294967295 % 2 ^ 64 = n := by
      rw [Nat.mod_eq_of_lt (by omega), show 4294967295 % 2 ^ 64 = 2 ^ 32 - 1 from by decide, Nat.and_two_pow_sub_one_eq_mod, Nat.mod_eq_of_lt hn]
    rw [h1, IntKind.wrap_u64]; omega
  have B : IntKind.u64.wrap ((1 % 2 ^ IntKind.u64.bits &&& 4294967295 % 2 ^ IntKind.u64.bits : Nat) : Int) = 1 := by decide +kernel
  have C : (n : Int).fdiv (2 ^ min 32 IntKind.u64.bits) = 0 := by
    rw [hb, show min 32 64 = 32 from rfl, Int.fdiv_eq_ediv_of_nonneg _ (by decide)]
    omega
  have D : Int.fdiv 1 (2 ^ min 32 IntKind.u64.bits) = 0 := by decide +kernel
  have W0 : IntKind.u64.wrap 0 = 0 := by decide +kernel
  have Wn : IntKind.u64.wrap (n : Int) = n := by rw [IntKind.wrap_u64]; omega
  have Z : Int.fdiv 0 (2 ^ min 32 IntKind.u64.bits) = 0 := by decide +kernel
  have Y : IntKind.u64.wrap (((0 % 2 ^ IntKind.u64.bits : Int).toNat &&& 4294967295 % 2 ^ IntKind.u64.bits : Nat) : Int) = 0 := by decide +kernel
  simp -dsimp
  simp only [A, B, C, D, Int.zero_mul, Int.one_mul, Int.mul_zero, Int.add_zero, Int.zero_add, W0, Wn, Z, Y, and_self]
theorem mul_ok (n : Nat) (hn : n < 2^32) (H : List Blk) : ACalls Tryz.prog 160 [U 1, U n] H (fun e H' => e = .ret (.tup [U 0, U n]) ∧ H' = H) := by
  refine acalls_of_vc (hn := fun _ => false) (od := fun _ => none) Tryz.func160 rfl (by kernel_rfl) ?_
  simp -dsimp
  refine acallsW_det (mul64_ok n hn _) ?_
  simp -dsimp
def rowJ (n j : Nat) : List (List AV) := List.replicate j [I (-1)] ++ List.replicate (n - j) [I 0]
theorem rowJ_len {n j : Nat} (h : j ≤ n) : (rowJ n j).length = n := by unfold rowJ; simp; omega
theorem rowJ_step {n j : Nat} (h : j ≤ n) : (rowJ n j).take j ++ (List.replicate j [I (-1)]).take (n - j) ++ (rowJ n j).drop (j + min j (n - j)) = rowJ n (j + min j (n - j)) := by
  unfold rowJ
  rw [List.take_left' (by simp), List.drop_append, List.take_replicate, List.drop_replicate, List.drop_replicate, List.length_replicate]
  rw [show j - (j + min j (n - j)) = 0 by omega, List.replicate_zero, List.nil_append, Nat.min_comm (n - j) j, List.replicate_append_replicate]
  congr 2
  omega
theorem rep_ok (n : Nat) (hn : n < 2^32) (H : List Blk) : ACalls Tryz.prog 122 [Int.sl [-1], I n] H (fun e M => e = .ret (.hs H.length 0 n n) ∧ M = H ++ [intR (List.replicate n (-1))]) := by
  refine acalls_of_vc (hn := fun _ => false) (od := fun _ => none) Tryz.func122 rfl (by kernel_rfl) ?_
  have h0 : decide ((n : Int) < 0) = false := decide_eq_false (by omega)
  have w1 : IntKind.u64.wrap 1 = 1 := by decide +kernel
  have wn : IntKind.u64.wrap (n : Int) = n := by rw [IntKind.wrap_u64]; omega
  have wi : IntKind.i64.wrap (n : Int) = n := wrapI (by omega) (by omega)
  have hbig : decide ((9223372036854775807 : Int) < (n : Int)) = false := decide_eq_false (by omega)
  simp -dsimp [h0, w1, wn]
  refine acallsW_det (mul_ok n hn _) ?_
  obtain ⟨R, hR⟩ : ∃ R, R = List.replicate n [AV.v (.int .i64 0)] := ⟨_, rfl⟩
  have hRl : R.length = n := by rw [hR]; simp
  have hfirst : List.take n [[AV.v (.int .i64 (-1))]] ++ List.drop (min 1 n) R = rowJ n (min 1 n) := by
    rw [hR]; unfold rowJ
    cases n with
    | zero => simp
    | succ k => rw [Nat.min_eq_left (by omega)]; simp
  have hR' := hR.symm
  have hR := Hid.mk hR
  have hRl' := Hid.mk hRl
  simp -dsimp [hbig, wi]
  refine ⟨by omega, ?_⟩
  simp -dsimp [hR', hRl, hfirst]
  refine loop_rule (hn := fun _ => false) (od := fun _ => none) (fun (j : Nat) f M => f 7 = .hs H.length 0 n n ∧ f 8 = I j ∧ j ≤ n ∧ (0 < n → 0 < j) ∧ M = H ++ [.row 3 1 (rowJ n j)]) (fun j => n - j) (by kernel_rfl) (min 1 n) (by refine ⟨by simp, by simp, by omega, by omega, rfl⟩) ?_
  clear hR' hfirst hRl
  rintro j f _ ⟨f7, f8, hj, hpos, rfl⟩
  have rl := rowJ_len hj
  have tk : (rowJ n j).take j = List.replicate j [I (-1)] := by unfold rowJ; rw [List.take_left' (by simp)]
  have stp := rowJ_step hj
  obtain ⟨Y, hY⟩ : ∃ Y, Y = List.replicate j [AV.v (.int .i64 (-1))] := ⟨_, rfl⟩
  have hYl : Y.length = j := by rw [hY]; simp
  rw [← hY] at tk stp
  rw [tk] at stp
  obtain ⟨E, hE⟩ : ∃ E, E = rowJ n j := ⟨_, rfl⟩
  rw [← hE] at rl tk stp ⊢
  simp -dsimp [f7, f8, rl]
  refine condVW_introD (fun hlt => ?_) (fun hlt => ?_)
  · have hlt' : j < n := by omega
    have hE := Hid.mk hE
    have hY := Hid.mk hY
    simp -dsimp [f7, f8, rl]
    refine ⟨⟨hj, .inr hlt'⟩, ?_⟩
    simp -dsimp [f7, f8, rl]
    refine ⟨hj, ?_⟩
    have hsrc : srcEs (H ++ [.row 3 1 E]) 1 (.hs H.length 0 j n) = some Y := by simp [srcEs, rl, tk]
    have hfit : j + (n - j) ≤ n := by omega
    simp -dsimp [f7, f8, rl, hsrc, hfit, hYl, stp]
    exact ⟨j + min j (n - j), by omega, wrapI (by omega) (by omega), by omega, by omega, by rw [tk]; rw [List.append_assoc] at stp; exact stp⟩
  · have hj' : j = n := by omega
    subst hj'
    simp -dsimp [f7]
    rw [hE]
    unfold rowJ
    simp
end Go.Proofs
namespace Go.Proofs
open Go.Mu
abbrev hsN (k n : Nat) : AV := .hs k 0 n n
def nearE (ks : List Int) (κ : Int → Nat) (c : Int → List Int) : List (Value × AV) := ks.map fun v => (.int .i64 v, hsN (κ v) (c v).length)
def updF {α : Type} (f : Int → α) (v : Int) (a : α) : Int → α := fun u => if u = v then a else f u
theorem updF_same {α : Type} (f : Int → α) (v : Int) (a : α) : updF f v a v = a := if_pos rfl
theorem updF_ne {α : Type} (f : Int → α) {v u : Int} (h : u ≠ v) (a : α) : updF f v a u = f u := if_neg h
theorem near_find (κ : Int → Nat) (c : Int → List Int) (v : Int) : ∀ ks : List Int, mfind (.int .i64) (.int .i64 v) (nearE ks κ c) = some (if v ∈ ks then some (hsN (κ v) (c v).length) else none)
  | [] => rfl
  | u :: ks => by
    have : nearE (u :: ks) κ c = (.int .i64 u, hsN (κ u) (c u).length) :: nearE ks κ c := rfl
    rw [this, mfind, sameNow_i64]
    by_cases e : v = u
    · subst e; simp
    · have e' : (v == u) = false := by simp [e]
      rw [e']
      simp only [near_find κ c v ks, List.mem_cons, e, false_or]
theorem near_same1 {ks : List Int} {κ : Int → Nat} {c : Int → List Int} {v : Int} (hv : v ∉ ks) (a : List Int) : nearE ks κ (updF c v a) = nearE ks κ c := by
  unfold nearE
  refine List.map_congr_left fun u hu => ?_
  have : u ≠ v := fun e => hv (e ▸ hu)
  rw [updF_ne _ this]
theorem near_set_in (κ : Int → Nat) (c : Int → List Int) (v : Int) (a : List Int) : ∀ ks : List Int, ks.Nodup → v ∈ ks → mset (.int .i64) (.int .i64 v) (hsN (κ v) a.length) (nearE ks κ c) = some (nearE ks κ (updF c v a))
  | [], _, h => by simp at h
  | u :: ks, hn, h => by
    obtain ⟨n1, n2⟩ := List.nodup_cons.1 hn
    have e1 : ∀ c, nearE (u :: ks) κ c = (.int .i64 u, hsN (κ u) (c u).length) :: nearE ks κ c := fun _ => rfl
    rw [e1, e1, mset, sameNow_i64]
    by_cases e : v = u
    · subst e
      rw [near_same1 n1, updF_same]; simp
    · have e' : (v == u) = false := by simp [e]
      rw [e']
      rcases List.mem_cons.1 h with h | h
      · exact absurd h e
      · simp only [near_set_in κ c v a ks n2 h]
        rw [updF_ne _ (fun q => e q.symm)]; rfl
theorem near_set_out (κ : Int → Nat) (c : Int → List Int) (v : Int) (k : Nat) (a : List Int) : ∀ ks : List Int, v ∉ ks → mset (.int .i64) (.int .i64 v) (hsN k a.length) (nearE ks κ c) = some (nearE (ks ++ [v]) (updF κ v k) (updF c v a))
  | [], _ => by simp [nearE, mset, updF_same]
  | u :: ks, h => by
    have e : v ≠ u := fun e => h (by rw [e]; exact List.mem_cons_self ..)
    have hk : v ∉ ks := fun q => h (List.mem_cons_of_mem _ q)
    have e1 : nearE (u :: ks) κ c = (.int .i64 u, hsN (κ u) (c u).length) :: nearE ks κ c := rfl
    have e2 : nearE (u :: ks ++ [v]) (updF κ v k) (updF c v a) = (.int .i64 u, hsN (κ u) (c u).length) :: nearE (ks ++ [v]) (updF κ v k) (updF c v a) := by
      show (_, _) :: _ = _
      rw [updF_ne _ (fun q => e q.symm), updF_ne _ (fun q => e q.symm)]; rfl
    rw [e1, e2, mset, sameNow_i64]
    have e' : (v == u) = false := by simp [e]
    rw [e']
    simp only [near_set_out κ c v k a ks hk]; rfl
structure NearM (M : List Blk) (km base : Nat) (ks : List Int) (κ : Int → Nat) (c : Int → List Int) : Prop where
  map : M[km]? = some (.map (nearE ks κ c))
  nd : ks.Nodup
  row : ∀ v ∈ ks, M[κ v]? = some (intR (c v))
  inj : ∀ a ∈ ks, ∀ b ∈ ks, κ a = κ b → a = b
  lo : ∀ v ∈ ks, base ≤ κ v
  kb : km < base
  len : base ≤ M.length
theorem NearM.set {M : List Blk} {km base k : Nat} {ks : List Int} {κ : Int → Nat} {c : Int → List Int} {b : Blk} (h : NearM M km base ks κ c) (hk : k < base) (hne : k ≠ km) : NearM (M.set k b) km base ks κ c :=
  ⟨by rw [List.getElem?_set_ne hne]; exact h.map, h.nd, fun v hv => by rw [List.getElem?_set_ne (by have := h.lo v hv; omega)]; exact h.row v hv, h.inj, h.lo, h.kb, by rw [List.length_set]; exact h.len⟩
theorem NearM.app {M : List Blk} {km base : Nat} {ks : List Int} {κ : Int → Nat} {c : Int → List Int} (h : NearM M km base ks κ c) (L : List Blk) : NearM (M ++ L) km base ks κ c :=
  ⟨get_app_old h.map L, h.nd, fun v hv => get_app_old (h.row v hv) L, h.inj, h.lo, h.kb, by rw [List.length_append]; have := h.len; omega⟩
theorem NearM.old {M : List Blk} {km base : Nat} {ks : List Int} {κ : Int → Nat} {c : Int → List Int} (h : NearM M km base ks κ c) {v : Int} (hv : v ∈ ks) (a : List Int) : NearM ((M.set (κ v) (intR a)).set km (.map (nearE ks κ (updF c v a)))) km base ks κ (updF c v a) := by
  have hk := h.lo v hv
  have hb := h.kb
  have hkl := (List.getElem?_eq_some_iff.1 (h.row v hv)).1
  refine ⟨by rw [List.getElem?_set_self (by rw [List.length_set]; exact (List.getElem?_eq_some_iff.1 h.map).1)], h.nd, fun u hu => ?_, h.inj, h.lo, h.kb, by rw [List.length_set, List.length_set]; exact h.len⟩
  have hl := h.lo u hu
  rw [List.getElem?_set_ne (by omega)]
  by_cases e : u = v
  · subst e; rw [List.getElem?_set_self hkl, updF_same]
  · rw [List.getElem?_set_ne (fun q => e (h.inj u hu v hv q.symm)), updF_ne _ e]; exact h.row u hu
theorem NearM.fresh {M : List Blk} {km base : Nat} {ks : List Int} {κ : Int → Nat} {c : Int → List Int} (h : NearM M km base ks κ c) {v : Int} (hv : v ∉ ks) (a : List Int) : NearM ((M ++ [intR a]).set km (.map (nearE (ks ++ [v]) (updF κ v M.length) (updF c v a)))) km base (ks ++ [v]) (updF κ v M.length) (updF c v a) := by
  have hb := h.kb
  have hml := (List.getElem?_eq_some_iff.1 h.map).1
  have hin : ∀ u ∈ ks, u ≠ v := fun u hu e => hv (e ▸ hu)
  have hkl : ∀ u ∈ ks, κ u < M.length := fun u hu => (List.getElem?_eq_some_iff.1 (h.row u hu)).1
  refine ⟨by rw [List.getElem?_set_self (by rw [List.length_append]; simp; omega)], ?_, fun u hu => ?_, fun a' ha b' hb' e => ?_, fun u hu => ?_, h.kb, by rw [List.length_set, List.length_append]; have := h.len; omega⟩
  · rw [List.nodup_append]; exact ⟨h.nd, by simp, fun a ha b hb e => hin a ha (by rw [List.mem_singleton] at hb; rw [e, hb])⟩
  · rcases List.mem_append.1 hu with hu | hu
    · have hl := h.lo u hu
      rw [updF_ne _ (hin u hu), updF_ne _ (hin u hu), List.getElem?_set_ne (by omega)]
      exact get_app_old (h.row u hu) _
    · rw [List.mem_singleton] at hu; subst hu
      rw [updF_same, updF_same, List.getElem?_set_ne (by omega)]; simp
  · rcases List.mem_append.1 ha with q1 | q1 <;> rcases List.mem_append.1 hb' with q2 | q2
    · rw [updF_ne _ (hin _ q1), updF_ne _ (hin _ q2)] at e; exact h.inj _ q1 _ q2 e
    · rw [List.mem_singleton] at q2; rw [q2] at e
      rw [updF_ne _ (hin _ q1), updF_same] at e
      have := hkl _ q1; omega
    · rw [List.mem_singleton] at q1; rw [q1] at e
      rw [updF_ne _ (hin _ q2), updF_same] at e
      have := hkl _ q2; omega
    · rw [List.mem_singleton] at q1 q2; rw [q1, q2]
  · rcases List.mem_append.1 hu with hu | hu
    · rw [updF_ne _ (hin u hu)]; exact h.lo u hu
    · rw [List.mem_singleton] at hu; subst hu; rw [updF_same]; exact h.len
structure NearP (ps : List Pr) (s : List Nat) (ks : List Int) (c : Int → List Int) : Prop where
  mem : ∀ v w, (v ∈ ks ∧ w ∈ c v) ↔ ∃ j ∈ s, ps[j]? = some (w, v)
  len : ∀ v ∈ ks, (c v).length ≤ s.length
theorem NearP.nil (ps : List Pr) (c : Int → List Int) : NearP ps [] [] c := ⟨fun v w => by simp, fun v h => by simp at h⟩
theorem NearP.old {ps : List Pr} {s : List Nat} {ks : List Int} {c : Int → List Int} (h : NearP ps s ks c) {j : Nat} {w v : Int} (hj : ps[j]? = some (w, v)) (hv : v ∈ ks) : NearP ps (s ++ [j]) ks (updF c v (c v ++ [w])) := by
  refine ⟨fun v' w' => ?_, fun u hu => ?_⟩
  · by_cases e : v' = v
    · subst e
      rw [updF_same, List.mem_append, List.mem_singleton]
      constructor
      · rintro ⟨_, hw | hw⟩
        · obtain ⟨i, hi, q⟩ := (h.mem v' w').1 ⟨hv, hw⟩; exact ⟨i, List.mem_append_left _ hi, q⟩
        · subst hw; exact ⟨j, by simp, hj⟩
      · rintro ⟨i, hi, q⟩
        rcases List.mem_append.1 hi with hi | hi
        · exact ⟨hv, .inl ((h.mem v' w').2 ⟨i, hi, q⟩).2⟩
        · rw [List.mem_singleton] at hi; subst hi
          rw [hj] at q; cases q; exact ⟨hv, .inr rfl⟩
    · rw [updF_ne _ e, h.mem]
      constructor
      · rintro ⟨i, hi, q⟩; exact ⟨i, List.mem_append_left _ hi, q⟩
      · rintro ⟨i, hi, q⟩
        rcases List.mem_append.1 hi with hi | hi
        · exact ⟨i, hi, q⟩
        · rw [List.mem_singleton] at hi; subst hi
          rw [hj] at q; cases q; exact absurd rfl e
  · have := h.len u hu
    by_cases e : u = v
    · subst e; rw [updF_same, List.length_append, List.length_append]; simp; omega
    · rw [updF_ne _ e, List.length_append]; omega
theorem NearP.fresh {ps : List Pr} {s : List Nat} {ks : List Int} {c : Int → List Int} (h : NearP ps s ks c) {j : Nat} {w v : Int} (hj : ps[j]? = some (w, v)) (hv : v ∉ ks) : NearP ps (s ++ [j]) (ks ++ [v]) (updF c v [w]) := by
  refine ⟨fun v' w' => ?_, fun u hu => ?_⟩
  · by_cases e : v' = v
    · subst e
      rw [updF_same, List.mem_singleton]
      constructor
      · rintro ⟨_, hw⟩; subst hw; exact ⟨j, by simp, hj⟩
      · rintro ⟨i, hi, q⟩
        rcases List.mem_append.1 hi with hi | hi
        · exact absurd ((h.mem v' w').2 ⟨i, hi, q⟩).1 hv
        · rw [List.mem_singleton] at hi; subst hi
          rw [hj] at q; cases q; exact ⟨by simp, rfl⟩
    · rw [updF_ne _ e]
      have : (v' ∈ ks ++ [v] ∧ w' ∈ c v') ↔ (v' ∈ ks ∧ w' ∈ c v') := by simp [e]
      rw [this, h.mem]
      constructor
      · rintro ⟨i, hi, q⟩; exact ⟨i, List.mem_append_left _ hi, q⟩
      · rintro ⟨i, hi, q⟩
        rcases List.mem_append.1 hi with hi | hi
        · exact ⟨i, hi, q⟩
        · rw [List.mem_singleton] at hi; subst hi
          rw [hj] at q; cases q; exact absurd rfl e
  · rcases List.mem_append.1 hu with hu | hu
    · have := h.len u hu
      rw [updF_ne _ (fun e => hv (by rw [← e]; exact hu)), List.length_append]; omega
    · rw [List.mem_singleton] at hu; subst hu; rw [updF_same, List.length_append]; simp
end Go.Proofs
namespace Go.Proofs
open Go.Mu
theorem int_indexFo (l : List Int) (p : Int → Bool) (g : FuncId) (cap : List AV) (k : Nat) (hok : okFn Tryz.prog g = true) (hl : l.length ≤ 2^40) (H : List Blk) (q : H[k]? = some (intR l)) (hg : ∀ x ∈ l, ACalls Tryz.prog g (I x :: cap) H (fun e H' => e = .ret (Bo (p x)) ∧ H' = H)) :
    ACalls Tryz.prog 115 [hsN k l.length, .fn (.func g) [] cap] H (fun e H' => e = .ret (I (idxP p l 0)) ∧ H' = H) := by
  refine acalls_of_vc (hn := fun _ => false) (od := fun _ => none) Tryz.func115 rfl (by kernel_rfl) ?_
  simp -dsimp [q]
  refine loop_rule (hn := fun _ => false) (od := fun _ => none) (fun (i : Nat) f H' => H = H' ∧ f 0 = hsN k l.length ∧ f 1 = .fn (.func g) [] cap ∧ f 7 = I l.length ∧ f 8 = I i ∧ i ≤ l.length ∧ idxP p (l.drop i) i = idxP p l 0) (fun i => l.length - i) (by kernel_rfl) 0 (by simp) ?_
  rintro i f _ ⟨rfl, h0, h1, h7, h8, hi, hinv⟩
  simp -dsimp [h0, h1, h7, h8]
  refine condVW_introD (fun hlt => ?_) (fun hlt => ?_)
  · have hlt' : i < l.length := by omega
    rw [drop_cons hlt', idxP] at hinv
    have hx := hg l[i] (List.getElem_mem hlt')
    have gx : (l.map fun n => [I n])[i]? = some [I l[i]] := by rw [List.getElem?_map, List.getElem?_eq_getElem hlt']; rfl
    simp -dsimp [h0, h1, h7, h8, q, gx, hlt', hok]
    refine acallsW_det hx ?_
    simp -dsimp
    refine condVW_intro (fun hp => ?_) (fun hp => ?_)
    · simp -dsimp
      rw [if_pos hp] at hinv
      exact hinv.symm ▸ rfl
    · simp -dsimp [h0, h1, h7, h8]
      rw [if_neg (by simp [hp])] at hinv
      exact ⟨i + 1, by omega, wrapS (by omega), by omega, by simpa using hinv⟩
  · simp -dsimp
    rw [drop_end hlt, idxP] at hinv
    exact hinv.symm ▸ rfl
theorem int_containsFo (l : List Int) (p : Int → Bool) (g : FuncId) (cap : List AV) (k : Nat) (hok : okFn Tryz.prog g = true) (hl : l.length ≤ 2^40) (H : List Blk) (q : H[k]? = some (intR l)) (hg : ∀ x ∈ l, ACalls Tryz.prog g (I x :: cap) H (fun e H' => e = .ret (Bo (p x)) ∧ H' = H)) :
    ACalls Tryz.prog 80 [hsN k l.length, .fn (.func g) [] cap] H (fun e H' => e = .ret (Bo (l.any p)) ∧ H' = H) := by
  refine acalls_of_vc (hn := fun _ => false) (od := fun _ => none) Tryz.func80 rfl (by kernel_rfl) ?_
  simp -dsimp
  refine acallsW_det (int_indexFo l p g cap k hok hl _ q hg) ?_
  simp -dsimp
  rw [idxP_any _ _ _ (Int.le_refl 0)]
theorem pro11_ok (regs : List Int) (w n : Int) (b8 bn kr : Nat) (hw : 0 ≤ w ∧ w < regs.length) (M : List Blk) (h8 : M[b8]? = some (.box 22 [hsN kr regs.length])) (hr : M[kr]? = some (intR regs)) (hn : M[bn]? = some (.box 3 [I n])) :
    ACalls Tryz.prog 124 [I w, .bp b8 0, .bp bn 0] M (fun e M' => e = .ret (Bo (decide (rg regs w = n))) ∧ M' = M) := by
  refine acalls_of_vc (hn := fun _ => false) (od := fun _ => none) Tryz.func124 rfl (by kernel_rfl) ?_
  have hg := rg_get hw.1 hw.2
  have hz := hw.1
  have gx : (regs.map fun n => [I n])[w.toNat]? = some [I (rg regs w)] := by rw [List.getElem?_map, hg]; rfl
  have hd : decide (rg regs w = n) = (rg regs w == n) := rfl
  rw [hd]
  have hlt : w.toNat < regs.length := by omega
  have hw2 := hw.2
  have hge : regs[w.toNat] = rg regs w := (List.getElem?_eq_some_iff.1 hg).2
  simp -dsimp [h8, hr, hn, gx, hz, hlt, hw2, hge]
def nearOf (ks : List Int) (c : Int → List Int) (v : Int) : List Int := if v ∈ ks then c v else []
theorem pro1_ok (regs : List Int) (v : Int) (n : Nat) (b6 b10 b8 kr km base : Nat) (ks : List Int) (κ : Int → Nat) (c : Int → List Int) (M : List Blk)
    (h6 : M[b6]? = some (.box 182 [.hm km])) (h10 : M[b10]? = some (.box 3 [I v])) (h8 : M[b8]? = some (.box 22 [hsN kr regs.length])) (hr : M[kr]? = some (intR regs)) (hN : NearM M km base ks κ c)
    (hin : ∀ w ∈ nearOf ks c v, 0 ≤ w ∧ w < regs.length) (hl : (nearOf ks c v).length ≤ 2^40) :
    ACalls Tryz.prog 123 [I n, .bp b6 0, .bp b10 0, .bp b8 0] M (fun e M' => e = .ret (Bo (!(nearOf ks c v).any fun w => decide (rg regs w = n))) ∧ M' = M) := by
  refine acalls_tidy (acalls_of_vc (hn := fun _ => false) (od := fun _ => none) Tryz.func123 rfl (by kernel_rfl) ?_)
  have hf := near_find κ c v ks
  have hg : ∀ w ∈ nearOf ks c v, ACalls Tryz.prog 124 [I w, .bp b8 0, .bp M.length 0] (M ++ [.box 3 [I n]]) (fun e M' => e = .ret (Bo (decide (rg regs w = n))) ∧ M' = M ++ [.box 3 [I n]]) := fun w hw =>
    pro11_ok regs w n b8 M.length kr (hin w hw) _ (get_app_old h8 _) (get_app_old hr _) (by simp)
  have hm := get_app_old hN.map [.box 3 [I n]]
  have h6' := get_app_old h6 [.box 3 [I n]]
  have h10' := get_app_old h10 [.box 3 [I n]]
  obtain ⟨E, hE⟩ : ∃ E, E = (nearOf ks c v).any fun w => decide (rg regs w = n) := ⟨_, rfl⟩
  by_cases hv : v ∈ ks
  · have e : nearOf ks c v = c v := if_pos hv
    rw [e] at hE hg hl
    rw [if_pos hv] at hf
    have cc := int_containsFo (c v) (fun w => decide (rg regs w = n)) 124 [.bp b8 0, .bp M.length 0] (κ v) (by kernel_rfl) hl (M ++ [.box 3 [I n]]) (get_app_old (hN.row v hv) _) hg
    rw [← hE] at cc
    rw [e, ← hE]
    clear hE hg hin e
    simp -dsimp [h6', h10', hm, hf]
    refine acallsW_det cc ?_
    simp -dsimp
    exact tidy_same rfl ⟨rfl, rfl⟩
  · have e : nearOf ks c v = [] := if_neg hv
    rw [e] at hE
    rw [if_neg hv] at hf
    have cc := acalls_weak (args := [nilS, .fn (.func 124) [] [.bp b8 0, .bp M.length 0]]) (.cons (.nil 1) (.cons (.refl _) .nil)) (int_containsF [] (fun w => decide (rg regs w = n)) 124 [.bp b8 0, .bp M.length 0] (by kernel_rfl) (by simp) (M ++ [.box 3 [I n]]) (fun x hx => by simp at hx))
    rw [← hE] at cc
    rw [e, ← hE]
    clear hE hg hin e
    simp -dsimp [h6', h10', hm, hf]
    refine acallsW_det cc ?_
    simp -dsimp
    exact tidy_same rfl ⟨rfl, rfl⟩
end Go.Proofs
namespace Go.Proofs
open Go.Mu
theorem meet_in {l : Linear} (h : LinOk l) {p : Pr} (hp : p ∈ meetL l) : p.1 < p.2 ∧ (0 ≤ p.1 ∧ p.1 < l.vars) ∧ 0 ≤ p.2 ∧ p.2 < l.vars := by
  obtain ⟨h1, h2, h3⟩ := meet_cnt h hp
  exact ⟨h1, cnt_in h h2, cnt_in h h3⟩
theorem pset_len {l : Linear} (h : LinOk l) {ps : List Pr} (hp : PSet ps (meetL l)) : ps.length ≤ 2^28 := by
  have hv := h.vars
  have hin : ∀ p ∈ ps, (0 ≤ p.1 ∧ p.1 < 16384) ∧ 0 ≤ p.2 ∧ p.2 < 16384 := fun p hq => by
    have := meet_in h ((hp.mem p).1 hq); omega
  have hnd : (ps.map fun p => (p.1 * 16384 + p.2).toNat).Nodup := by
    unfold List.Nodup
    refine List.Pairwise.map _ ?_ (List.Pairwise.and_mem.1 hp.nd)
    rintro a b ⟨ha, hb, hab⟩ e
    have h1 := hin a ha
    have h2 := hin b hb
    refine hab (Prod.ext ?_ ?_) <;> omega
  have := nodup_len (2^28) _ hnd (fun j hj => by
    obtain ⟨p, hq, rfl⟩ := List.mem_map.1 hj
    have := hin p hq
    omega)
  rwa [List.length_map] at this
theorem near_mem {l : Linear} {ps : List Pr} {s : List Nat} {ks : List Int} {c : Int → List Int} (hps : PSet ps (meetL l)) (hn : NearP ps s ks c) (hall : ∀ j, j < ps.length → j ∈ s) (v w : Int) : w ∈ nearOf ks c v ↔ (w, v) ∈ meetL l := by
  rw [← hps.mem]
  have h1 : w ∈ nearOf ks c v ↔ (v ∈ ks ∧ w ∈ c v) := by unfold nearOf; split <;> rename_i h <;> simp [h]
  rw [h1, hn.mem]
  constructor
  · rintro ⟨j, _, q⟩; exact List.mem_of_getElem? q
  · intro hq
    obtain ⟨j, hj, q⟩ := List.getElem_of_mem hq
    exact ⟨j, hall j hj, by rw [List.getElem?_eq_getElem hj, q]⟩
theorem free_near {l : Linear} {ks : List Int} {c : Int → List Int} (h : ∀ v w, w ∈ nearOf ks c v ↔ (w, v) ∈ meetL l) (r : List Int) (v : Int) (n : Nat) : (!(nearOf ks c v).any fun w => decide (rg r w = n)) = freeR l r v n := by
  unfold freeR
  rw [Bool.eq_iff_iff]
  simp only [Bool.not_eq_true', List.any_eq_false, decide_eq_true_eq, List.all_eq_true, Bool.or_eq_true, decide_eq_false_iff_not]
  constructor
  · intro q p hp
    by_cases e : p.2 = v
    · right
      refine q p.1 ((h v p.1).2 ?_)
      rw [← e]; exact hp
    · exact .inl e
  · intro q w hw
    rcases q _ ((h v w).1 hw) with e | e
    · exact absurd rfl e
    · exact e
theorem NearM.of {M M' : List Blk} {km base : Nat} {ks : List Int} {κ : Int → Nat} {c : Int → List Int} (h : NearM M km base ks κ c) (hs : ∀ i, i < M.length → M'[i]? = M[i]?) (hl : M.length ≤ M'.length) : NearM M' km base ks κ c :=
  ⟨by rw [hs _ (List.getElem?_eq_some_iff.1 h.map).1]; exact h.map, h.nd, fun v hv => by rw [hs _ (List.getElem?_eq_some_iff.1 (h.row v hv)).1]; exact h.row v hv, h.inj, h.lo, h.kb, Nat.le_trans h.len hl⟩
theorem propGo_step {l : Linear} {cs r0 r : List Int} {k : Nat} {v : Int} (hv : cs[k]? = some v) (h : propGo l (cs.take k) r0 = some r) : propGo l (cs.take (k + 1)) r0 = ((List.range 11).find? (freeR l r v)).map fun n : Nat => r.set v.toNat (n : Int) := by
  rw [List.take_add_one, hv, propGo_app, h]
  simp only [Option.bind_some, Option.toList]
  rw [propGo]
  split
  · rename_i q; rw [q]; rfl
  · rename_i n q; rw [q]; rfl
theorem propGo_len {l : Linear} : ∀ {vs r r' : List Int}, propGo l vs r = some r' → r'.length = r.length
  | [], r, r', h => by simp only [propGo, Option.some.injEq] at h; rw [h]
  | v :: vs, r, r', h => by
    rw [propGo] at h
    split at h
    · cases h
    · rw [propGo_len h, List.length_set]
theorem propGo_none {l : Linear} {cs r0 : List Int} {k : Nat} (h : propGo l (cs.take k) r0 = none) : propGo l cs r0 = none := by
  rw [← List.take_append_drop k cs, propGo_app, h]; rfl
noncomputable def propE (l : Linear) : AE := if l.ok = true then (match propL l with | none => .ret (.tup [Int.sl [], I 5]) | some r => .ret (.tup [Int.sl r, I 0])) else .ret (.tup [Int.sl [], I 2])
structure PrS (l : Linear) (H M : List Blk) (ps : List Pr) (kit : Nat) (s : List Nat) : Prop where
  pre : ∃ L, M = H ++ L
  box : M[H.length]? = some (.box 25 [I l.vars, Int.sl l.params, Int.sl l.rets, I l.frame, Line.sl l.code])
  nbx : M[H.length + 2]? = some (.box 182 [.hm (H.length + 1)])
  prs : M[H.length + 4]? = some (.map (standP ps))
  it : M[kit]? = some (.it (some (H.length + 4)) ps.length s)
  k5 : H.length + 4 < kit
  near : ∃ ks κ c, NearM M (H.length + 1) (kit + 1) ks κ c ∧ NearP ps s ks c
  nd : s.Nodup
  lt : ∀ j ∈ s, j < ps.length
structure Pr2 (M Mx : List Blk) (n : Nat) (r : List Int) : Prop where
  lo : ∀ i, i < M.length → Mx[i]? = M[i]?
  row : Mx[M.length]? = some (intR r)
  box : Mx[M.length + 1]? = some (.box 22 [hsN M.length n])
theorem Pr2.len {M Mx : List Blk} {n : Nat} {r : List Int} (h : Pr2 M Mx n r) : M.length + 1 < Mx.length := (List.getElem?_eq_some_iff.1 h.box).1
theorem Pr2.app {M Mx : List Blk} {n : Nat} {r : List Int} (h : Pr2 M Mx n r) (L : List Blk) : Pr2 M (Mx ++ L) n r :=
  ⟨fun i hi => by rw [List.getElem?_append_left (by have := h.len; omega)]; exact h.lo i hi, get_app_old h.row L, get_app_old h.box L⟩
theorem Pr2.set {M Mx : List Blk} {n : Nat} {r r' : List Int} (h : Pr2 M Mx n r) : Pr2 M (Mx.set M.length (intR r')) n r' :=
  ⟨fun i hi => by rw [List.getElem?_set_ne (by omega)]; exact h.lo i hi, by rw [List.getElem?_set_self (by have := h.len; omega)], by rw [List.getElem?_set_ne (by omega)]; exact h.box⟩
theorem awp_scopeG {P : Program} {n : Nat} {c : Code} {Q : AQ} {f : Fr} {H : List Blk} {ds : List ADef} (hq : ∀ l f H ds, Q (.goto l) f H ds = False) (h : AWP P n c Q f H ds) : AWP P n (.scope c) Q f H ds := by
  refine awp_scope ?_
  refine Eq.mpr (congrArg (fun Q => AWP P n c Q f H ds) (a₂ := Q) ?_) h
  funext x f H ds
  cases x <;> first | rfl | exact (hq _ _ _ _).symm
end Go.Proofs
namespace Go.Proofs
open Go.Mu
def prOd (i : Nat) : Option OPlan := if i = 8 then some [(0, []), (1, []), (2, []), (3, []), (4, []), (5, []), (6, []), (7, []), (8, []), (9, []), (10, [0, 1, 2]), (11, [])] else none
theorem propose_ok (l : Linear) (hs : l.Sm) (H : List Blk) : ACalls Tryz.prog 91 [.agg l.cells] H (fun e H' => e = propE l ∧ H' = H) := by
  refine acalls_under fun hu _ => acalls_weakE (acalls_tidy (acalls_of_vc (hn := fun d => d == 40) (od := prOd) Tryz.func91 rfl (by kernel_rfl) ?_))
  obtain ⟨E, hE⟩ : ∃ E, E = propE l := ⟨_, rfl⟩
  rw [← hE]
  unfold propE at hE
  cases hok : l.ok
  · have cl := fun H => live_no l hs hok H
    simp only [Linear.cells] at cl
    rw [hok, if_neg (by decide)] at hE
    simp -dsimp
    refine acallsW_det (cl _) ?_
    simp -dsimp
    exact tidy_same rfl ⟨_, .tupL (.cons (.nil 1) (.cons (.refl _) .nil)), by rw [hE]; rfl, rfl⟩
  rw [hok, if_pos rfl] at hE
  have ho := ((ok_iff l).1 hok).1
  have cl := fun H => live_ok l hs hok H
  have cm := fun H => meet_ok l hs hok H
  have cc := fun H => counts_ok l hs H
  simp only [Linear.cells] at cl cm cc
  simp -dsimp
  refine acallsW_det (cl _) ?_
  simp -dsimp
  refine acallsW_of (cm _) ?_
  rintro e _ ⟨ps, L, rfl, rfl, hps⟩
  have hpl := pset_len ho hps
  have sml : (standP ps).length = ps.length := by unfold standP; simp
  obtain ⟨H3, hH3⟩ : ∃ H3, H3 = H ++ [.box 25 [I l.vars, Int.sl l.params, Int.sl l.rets, I l.frame, Line.sl l.code], .map [], .box 182 [.hm (H.length + 1)]] := ⟨_, rfl⟩
  rw [← hH3]
  have hl3 : H3.length = H.length + 3 := by rw [hH3]; simp
  have mp := mm_map l H3 ps L
  simp -dsimp [mp, sml]
  obtain ⟨kit, hkit⟩ : ∃ kit, kit = (Mm l H3 ps L).length := ⟨_, rfl⟩
  have hk5 : H.length + 4 < kit := by rw [hkit]; simp [Mm]; omega
  have init : PrS l H (Mm l H3 ps L ++ [.it (some (H.length + 4)) ps.length []]) ps kit [] := by
    refine ⟨⟨_, by rw [hH3]; simp [Mm]; rfl⟩, ?_, ?_, ?_, by rw [hkit]; simp, hk5, ⟨[], fun _ => 0, fun _ => [], ⟨?_, List.nodup_nil, fun v h => by simp at h, fun v h => by simp at h, fun v h => by simp at h, by omega, by rw [hkit]; simp⟩, .nil _ _⟩, List.nodup_nil, fun j h => by simp at h⟩
    · rw [hH3]; simp [Mm]
    · rw [hH3]; simp [Mm]
    · have := get_app_old mp [.it (some (H.length + 4)) ps.length []]
      rw [hl3] at this
      exact this
    · rw [hH3]; simp [Mm, nearE]
  rw [hl3]
  clear cm
  refine loop_rule (hn := fun d => d == 40) (od := prOd) (fun (s : List Nat) f M => f 1 = .bp H.length 0 ∧ f 6 = .bp (H.length + 2) 0 ∧ f 25 = .hi kit ∧ PrS l H M ps kit s) (fun s => ps.length - s.length) (by kernel_rfl) [] (by refine ⟨by simp, by simp, by simp [hkit], init⟩) ?_
  clear init hkit mp hl3 hH3 H3 L
  rintro s f M ⟨f1, f6, f25, S⟩
  simp -dsimp [f1, f6, f25]
  refine nextVW_intro (m := H.length + 4) (n := ps.length) (seen := s) (es := standP ps) S.it S.prs sml (fun j p hj hp => ?_) (fun hall => ?_)
  · have hp' := hp
    simp only [standP, List.getElem?_map] at hp'
    obtain ⟨⟨w, v⟩, hx, rfl⟩ := Option.map_eq_some_iff.1 hp'
    have hjl : j < ps.length := (List.getElem?_eq_some_iff.1 hx).1
    have hkl := (List.getElem?_eq_some_iff.1 S.it).1
    have hk5' := S.k5
    simp -dsimp [f1, f6, f25]
    refine entryVW_intro (m := H.length + 4) (n := ps.length) (seen := s) (es := standP ps) (j := j) (by rw [List.getElem?_set_self hkl]) (by rw [List.getElem?_set_ne (by omega)]; exact S.prs) sml hp ?_
    obtain ⟨q1, q2⟩ := nodup_snoc S.nd S.lt hj hjl
    have hsl := nodup_less S.nd S.lt hj hjl
    obtain ⟨ks, κ, c, nm, np⟩ := S.near
    obtain ⟨M2, hM2⟩ : ∃ M2, M2 = M.set kit (.it (some (H.length + 4)) ps.length (s ++ [j])) := ⟨_, rfl⟩
    have g : ∀ i, i ≠ kit → M2[i]? = M[i]? := fun i hi => by rw [hM2, List.getElem?_set_ne (fun e => hi e.symm)]
    have git : M2[kit]? = some (.it (some (H.length + 4)) ps.length (s ++ [j])) := by rw [hM2, List.getElem?_set_self hkl]
    have nm2 : NearM M2 (H.length + 1) (kit + 1) ks κ c := by rw [hM2]; exact nm.set (by omega) (by omega)
    have m1 : ∀ L, (M2 ++ L)[H.length]? = some (.box 25 [I l.vars, Int.sl l.params, Int.sl l.rets, I l.frame, Line.sl l.code]) := fun L => get_app_old (by rw [g _ (by omega)]; exact S.box) L
    have m6 : ∀ L, (M2 ++ L)[H.length + 2]? = some (.box 182 [.hm (H.length + 1)]) := fun L => get_app_old (by rw [g _ (by omega)]; exact S.nbx) L
    have mk : ∀ L, (M2 ++ L)[H.length + 1]? = some (.map (nearE ks κ c)) := fun L => get_app_old nm2.map L
    have mp : ∀ L, (M2 ++ L)[H.length + 4]? = some (.map (standP ps)) := fun L => get_app_old (by rw [g _ (by omega)]; exact S.prs) L
    have mit : ∀ L, (M2 ++ L)[kit]? = some (.it (some (H.length + 4)) ps.length (s ++ [j])) := fun L => get_app_old git L
    have pre2 : ∃ L, M2 = H ++ L := ext_pre (by have := nm2.len; omega) (fun i hi => by
      rw [g i (by omega)]; obtain ⟨L, rfl⟩ := S.pre; rw [List.getElem?_append_left hi])
    rw [← hM2]
    have hf := near_find κ c v ks
    have hav : avCells (.v (prV (w, v))) = some [I w, I v] := rfl
    clear hM2 g git hp hp'
    have fin : ∀ (M3 : List Blk) ks' κ' c', M3[H.length]? = some (.box 25 [I l.vars, Int.sl l.params, Int.sl l.rets, I l.frame, Line.sl l.code]) → M3[H.length + 2]? = some (.box 182 [.hm (H.length + 1)]) → M3[H.length + 4]? = some (.map (standP ps)) →
        M3[kit]? = some (.it (some (H.length + 4)) ps.length (s ++ [j])) → M2.length ≤ M3.length → (∀ i, i < H.length → M3[i]? = M2[i]?) → NearM (M3.set (H.length + 1) (.map (nearE ks' κ' c'))) (H.length + 1) (kit + 1) ks' κ' c' → NearP ps (s ++ [j]) ks' c' → PrS l H (M3.set (H.length + 1) (.map (nearE ks' κ' c'))) ps kit (s ++ [j]) := fun M3 ks' κ' c' a1 a2 a3 a4 a5 a6 a7 a8 => by
      refine ⟨?_, ?_, ?_, ?_, ?_, S.k5, ⟨ks', κ', c', a7, a8⟩, q1, q2⟩
      · refine ext_pre (by rw [List.length_set]; have := nm2.len; omega) fun i hi => ?_
        rw [List.getElem?_set_ne (by omega), a6 i hi]
        obtain ⟨L, rfl⟩ := pre2
        rw [List.getElem?_append_left hi]
      · rw [List.getElem?_set_ne (by omega)]; exact a1
      · rw [List.getElem?_set_ne (by omega)]; exact a2
      · rw [List.getElem?_set_ne (by omega)]; exact a3
      · rw [List.getElem?_set_ne (by omega)]; exact a4
    by_cases hv : v ∈ ks
    · rw [if_pos hv] at hf
      have hcl := np.len v hv
      have hset := near_set_in κ c v (c v ++ [w]) ks nm2.nd hv
      have hkv := nm2.lo v hv
      have hkl2 := (List.getElem?_eq_some_iff.1 (nm2.row v hv)).1
      simp -dsimp [f1, f6, f25, prOd, m6, mk, hf, hav]
      refine appendVW_hs (es := (c v).map fun n => [I n]) (get_app_old (nm2.row v hv) _) (by simp) (by simp) (by simp; omega) (by simp; omega) ?_
      have eL : ((c v).map fun n => [I n]) ++ [[I w]] = (c v ++ [w]).map fun n => [I n] := by simp
      have elen : (c v).length + [[I w]].length = (c v ++ [w]).length := by simp
      rw [eL]
      have nm3 := (nm2.app [Blk.box 58 [I w, I v]]).old hv (c v ++ [w])
      obtain ⟨M3, hM3⟩ : ∃ M3, M3 = (M2 ++ [Blk.box 58 [I w, I v]]).set (κ v) (intR (c v ++ [w])) := ⟨_, rfl⟩
      rw [← hM3] at nm3
      have g3 : ∀ i, i ≠ κ v → M3[i]? = (M2 ++ [Blk.box 58 [I w, I v]])[i]? := fun i hi => by rw [hM3, List.getElem?_set_ne (fun e => hi e.symm)]
      have n1 := g3 (H.length) (by omega)
      have n6 := g3 (H.length + 2) (by omega)
      have nk := g3 (H.length + 1) (by omega)
      have np4 := g3 (H.length + 4) (by omega)
      have nit := g3 kit (by omega)
      have nb := g3 M2.length (by omega)
      rw [m1] at n1
      rw [m6] at n6
      rw [mk] at nk
      rw [mp] at np4
      rw [mit] at nit
      rw [blk_get0] at nb
      rw [← hM3]
      have nb : M3[M2.length]? = some (.box 58 [I w, I v]) := nb
      rw [List.length_append, List.length_singleton] at hset
      obtain ⟨c', hc'⟩ : ∃ c', c' = updF c v (c v ++ [w]) := ⟨_, rfl⟩
      have np' := np.old hx hv
      rw [← hc'] at nm3 hset np'
      have hl3 : M2.length ≤ M3.length := by rw [hM3]; simp
      have fin : PrS l H (M3.set (H.length + 1) (.map (nearE ks κ c'))) ps kit (s ++ [j]) := fin M3 ks κ c' n1 n6 np4 nit hl3 (fun i hi => by rw [g3 i (by omega), List.getElem?_append_left (by have := nm2.len; omega)]) nm3 np'
      clear hM3 hc'
      simp -dsimp [f1, f6, f25, n6, nk, nb, hset]
      exact ⟨s ++ [j], by simp; omega, fin⟩
    · rw [if_neg hv] at hf
      have hset := near_set_out κ c v (M2.length + 1) [w] ks hv
      simp -dsimp [f1, f6, f25, prOd, m6, mk, hf, hav]
      refine appendVW_nil (by simp) (by simp) (fun hy => by cases hy) (fun _ => ?_)
      have nm3 := (nm2.app [Blk.box 58 [I w, I v]]).fresh hv [w]
      have e1 : (M2 ++ [Blk.box 58 [I w, I v]]).length = M2.length + 1 := by simp
      rw [e1] at nm3 ⊢
      obtain ⟨M3, hM3⟩ : ∃ M3, M3 = M2 ++ [Blk.box 58 [I w, I v]] ++ [intR [w]] := ⟨_, rfl⟩
      rw [← hM3] at nm3
      have g3 : ∀ i b, (M2 ++ [Blk.box 58 [I w, I v]])[i]? = some b → M3[i]? = some b := fun i b hi => by rw [hM3]; exact get_app_old hi _
      have n1 := g3 _ _ (m1 [Blk.box 58 [I w, I v]])
      have n6 := g3 _ _ (m6 [Blk.box 58 [I w, I v]])
      have nk := g3 _ _ (mk [Blk.box 58 [I w, I v]])
      have np4 := g3 _ _ (mp [Blk.box 58 [I w, I v]])
      have nit := g3 _ _ (mit [Blk.box 58 [I w, I v]])
      have nb : M3[M2.length]? = some (.box 58 [I w, I v]) := g3 _ _ (by simp)
      have hM3' : M2 ++ [Blk.box 58 [I w, I v]] ++ [Blk.row (3, 1, [Value.int .i64 0], 8).1 (3, 1, [Value.int .i64 0], 8).2.1 [[AV.v (.int .i64 w)]]] = M3 := hM3.symm
      rw [hM3']
      obtain ⟨c', hc'⟩ : ∃ c', c' = updF c v [w] := ⟨_, rfl⟩
      obtain ⟨κ', hκ'⟩ : ∃ κ', κ' = updF κ v (M2.length + 1) := ⟨_, rfl⟩
      have np' := np.fresh hx hv
      rw [← hc', ← hκ'] at nm3 hset
      rw [← hc'] at np'
      have hl3 : M2.length ≤ M3.length := by rw [hM3]; simp
      have fin : PrS l H (M3.set (H.length + 1) (.map (nearE (ks ++ [v]) κ' c'))) ps kit (s ++ [j]) := fin M3 (ks ++ [v]) κ' c' n1 n6 np4 nit hl3 (fun i hi => by
        have := nm2.len
        rw [hM3, List.append_assoc, List.getElem?_append_left (by omega)]) nm3 np'
      have hset : mset (.int .i64) (.int .i64 v) (.hs (M2.length + 1) 0 1 1) (nearE ks κ c) = some (nearE (ks ++ [v]) κ' c') := hset
      clear hM3 hc' hκ' hM3'
      simp -dsimp [f1, f6, f25, n6, nk, nb, hset]
      exact ⟨s ++ [j], by simp; omega, fin⟩
  · obtain ⟨ks, κ, c, nm, np⟩ := S.near
    have hnear := near_mem hps np hall
    have hcl : ∀ v, (nearOf ks c v).length ≤ 2^40 := fun v => by
      unfold nearOf
      split
      · rename_i hv
        have h1 := np.len v hv
        have h2 := nodup_len _ _ S.nd S.lt
        omega
      · simp
    have sbox := S.box
    have snbx := S.nbx
    have pre := S.pre
    have hml : H.length + 2 < M.length := (List.getElem?_eq_some_iff.1 snbx).1
    clear np hall S sml
    have hvr := ho.vars
    obtain ⟨n, hn⟩ : ∃ n : Nat, l.vars = n := ⟨l.vars.toNat, by omega⟩
    have hrep := rep_ok n (by omega) M
    rw [← hn] at hrep
    simp -dsimp [f1, f6, sbox]
    refine acallsW_of hrep ?_
    rintro e _ ⟨rfl, rfl⟩
    have hM1 : ∀ b L, (M ++ b :: L)[H.length]? = some (.box 25 [I l.vars, Int.sl l.params, Int.sl l.rets, I l.frame, Line.sl l.code]) := fun b L => get_app_old sbox _
    obtain ⟨cs, hcs⟩ : ∃ cs, cs = cntL l := ⟨_, rfl⟩
    have hcsl := cntL_len ho
    have hcin : ∀ v ∈ cs, 0 ≤ v ∧ v < l.vars := fun v hv => cnt_in ho (by rw [hcs] at hv; unfold cntL at hv; rwa [riseL_mem] at hv)
    rw [← hcs] at cc hcsl
    obtain ⟨r0, hr0⟩ : ∃ r0 : List Int, r0 = List.replicate n (-1) := ⟨_, rfl⟩
    have hr0l : r0.length = n := by rw [hr0]; simp
    have hprop : propL l = propGo l cs r0 := by unfold propL; rw [hcs, hr0, hn]; rfl
    rw [hprop] at hE
    rw [← hr0]
    clear hr0 hcs hprop hrep
    have hE := Hid.mk hE
    have hn' := Hid.mk hn
    simp -dsimp [f1, f6, hM1]
    refine acallsW_det (cc _) ?_
    simp -dsimp [f1, f6]
    refine loop_rule (hn := fun d => d == 40) (od := prOd) (fun (k : Nat) f Mx => f 6 = .bp (H.length + 2) 0 ∧ f 8 = .bp (M.length + 1) 0 ∧ f 46 = Int.sl cs ∧ f 47 = I cs.length ∧ f 48 = I k ∧ k ≤ cs.length ∧ ∃ r, Hid (propGo l (cs.take k) r0 = some r) ∧ Pr2 M Mx n r) (fun k => cs.length - k) (by kernel_rfl) 0 (by refine ⟨by simp [f6], by simp, by simp, by simp, by simp, by omega, r0, ⟨by rw [List.take_zero]; rfl⟩, ⟨fun i hi => List.getElem?_append_left hi, by simp, by simp⟩⟩) ?_
    clear f1 f6 f25 f hM1
    rintro k f Mx ⟨f6, f8, f46, f47, f48, hk, r, hpg, R⟩
    simp -dsimp [f6, f8, f46, f47, f48]
    refine condVW_introD (fun hlt => ?_) (fun hlt => ?_)
    · have hlt' : k < cs.length := by omega
      have hx := List.getElem?_eq_getElem hlt'
      have hxm : cs[k] ∈ cs := List.getElem_mem hlt'
      obtain ⟨v, hve⟩ : ∃ v, v = cs[k] := ⟨_, rfl⟩
      rw [← hve] at hx hxm
      clear hve
      have hv := hcin v hxm
      have hstep := propGo_step hx hpg.out
      have hrl : r.length = n := by rw [propGo_len hpg.out, hr0l]
      have hstep := Hid.mk hstep
      have hnear := Hid.mk hnear
      simp -dsimp [f6, f8, f46, f47, f48, hx]
      refine awp_scopeG (fun l f H ds => rfl) ?_
      refine awp_all (fun d => d == 40) prOd (by kernel_rfl) ?_
      have R2 := R.app [Blk.box 3 [I v]]
      obtain ⟨My, hMy⟩ : ∃ My, My = Mx ++ [Blk.box 3 [I v]] := ⟨_, rfl⟩
      have hb10 : My[Mx.length]? = some (.box 3 [I v]) := by rw [hMy]; simp
      have hb10l : M.length + 1 < Mx.length := R.len
      rw [← hMy] at R2 ⊢
      clear hMy
      have nmy := nm.of R2.lo (by have := R2.len; omega)
      have h6 : My[H.length + 2]? = some (.box 182 [.hm (H.length + 1)]) := by rw [R2.lo _ hml]; exact snbx
      have cf := fun m : Nat => pro1_ok r v m (H.length + 2) Mx.length (M.length + 1) M.length (H.length + 1) (kit + 1) ks κ c My h6 hb10 (by rw [hrl]; exact R2.box) R2.row nmy (fun w hw => by have := meet_in ho ((hnear.out v w).1 hw); have := hn'.out; omega) (hcl v)
      simp only [free_near hnear.out] at cf
      obtain ⟨F, hF⟩ : ∃ F : Nat → Bool, F = freeR l r v := ⟨_, rfl⟩
      rw [← hF] at cf hstep
      clear hF
      simp -dsimp [f6, f8, f46, f47, f48]
      refine loop_rule (hn := fun d => d == 40) (od := prOd) (fun (m : Nat) f M' => My = M' ∧ f 6 = .bp (H.length + 2) 0 ∧ f 8 = .bp (M.length + 1) 0 ∧ f 10 = .bp Mx.length 0 ∧ f 11 = .fn (.func 123) [] [.bp (H.length + 2) 0, .bp Mx.length 0, .bp (M.length + 1) 0] ∧ f 12 = I m ∧ f 46 = Int.sl cs ∧ f 47 = I cs.length ∧ f 48 = I k ∧ m ≤ 11 ∧ Hid (∀ q, q < m → F q = false)) (fun m => 11 - m) (by kernel_rfl) 0 (by refine ⟨rfl, by simp [f6], by simp [f8], by simp, by simp, by simp, by simp [f46], by simp [f47], by simp [f48], by omega, ⟨fun q hq => by omega⟩⟩) ?_
      clear f6 f8 f46 f47 f48 f
      rintro m f _ ⟨rfl, f6, f8, f10, f11, f12, f46, f47, f48, hm, hall⟩
      simp -dsimp [f6, f8, f10, f11, f12, f46, f47, f48]
      refine condVW_introD (fun hlt2 => ?_) (fun hlt2 => ?_)
      · have hm11 : m < 11 := by omega
        cases hFm : F m
        · have cfm := cf m
          rw [hFm] at cfm
          simp -dsimp [f6, f8, f10, f11, f12, f46, f47, f48]
          refine acallsW_det cfm ?_
          simp -dsimp [f6, f8, f10, f11, f12, f46, f47, f48]
          refine ⟨m + 1, by omega, wrapS (by omega), by omega, ⟨fun q hq => ?_⟩⟩
          by_cases e : q = m
          · rw [e, hFm]
          · exact hall.out q (by omega)
        · have cfm := cf m
          rw [hFm] at cfm
          have hfind : (List.range 11).find? F = some m := by
            rw [List.find?_range_eq_some]
            exact ⟨hFm, List.mem_range.2 hm11, fun q hq => by rw [hall.out q hq]; rfl⟩
          have hst := hstep.out
          rw [hfind] at hst
          have hst := Hid.mk hst
          have d11 : (m == 11) = false := by simp; omega
          have d11z : ((m : Int) == 11) = false := by simp; omega
          have hbx := R2.box
          have hrw := R2.row
          simp -dsimp [f6, f8, f10, f11, f12, f46, f47, f48]
          refine acallsW_det cfm ?_
          simp -dsimp [f6, f8, f10, f11, f12, f46, f47, f48, d11, d11z, hbx, hb10, hrw]
          have hvn : 0 ≤ v ∧ v < (n : Int) := by have := hn'.out; omega
          refine ⟨⟨hrl, hvn⟩, ?_⟩
          have hge : (r.map fun n => [I n])[v.toNat]? = some [I (rg r v)] := by rw [List.getElem?_map, rg_get hvn.1 (by omega)]; rfl
          have hst1 : astore My (.rp M.length n v.toNat 0) [I m] = some (My.set M.length (intR (r.set v.toNat (m : Int)))) := by
            rw [astore_one hrw (by simp [hrl]) hge]
            congr 2
            show Blk.row 3 1 _ = Blk.row 3 1 _
            rw [List.map_set]
          have R3 := R2.set (r' := r.set v.toNat (m : Int))
          obtain ⟨Mz, hMz⟩ : ∃ Mz, Mz = My.set M.length (intR (r.set v.toNat (m : Int))) := ⟨_, rfl⟩
          rw [← hMz] at hst1 R3
          clear hMz
          simp -dsimp [f6, f8, f10, f11, f12, f46, f47, f48, hst1]
          refine ⟨k + 1, by omega, wrapS (by omega), by omega, _, hst, R3⟩
      · have hm11 : m = 11 := by omega
        subst hm11
        have hfind : (List.range 11).find? F = none := by
          rw [List.find?_eq_none]
          intro q hq
          rw [hall.out q (List.mem_range.1 hq)]; decide
        have hst := hstep.out
        rw [hfind] at hst
        have hst2 := propGo_none hst
        have hE' := hE.out
        rw [hst2] at hE'
        obtain ⟨L1, hL1⟩ : ∃ L, My = H ++ L := ext_pre (by have := R2.len; omega) (fun i hi => by
          rw [R2.lo i (by omega)]; obtain ⟨L, rfl⟩ := pre; rw [List.getElem?_append_left hi])
        simp -dsimp [f12]
        rw [hL1]
        exact tidy_same rfl ⟨_, .tupL (.cons (.nil 1) (.cons (.refl _) .nil)), by rw [hE']; rfl, rfl⟩
    · have hk' : k = cs.length := by omega
      subst hk'
      have hpg' := hpg.out
      rw [List.take_length] at hpg'
      have hE' := hE.out
      rw [hpg'] at hE'
      have hrl : r.length = n := by rw [propGo_len hpg', hr0l]
      have hbx := R.box
      obtain ⟨L1, hL1⟩ : ∃ L, Mx = H ++ L := ext_pre (by have := R.len; omega) (fun i hi => by
          rw [R.lo i (by omega)]; obtain ⟨L, rfl⟩ := pre; rw [List.getElem?_append_left hi])
      have ow : OwnI H Mx (some M.length) r := ⟨⟨L1, hL1⟩, fun q hq => by cases hq; exact R.row, fun h => by (cases h), fun q hq => by cases hq; omega⟩
      clear hpg hpg'
      simp -dsimp [f8, hbx]
      have := tidy_rowAV (n := n) (y := .int .i64 0) (R := fun e H' => e = E ∧ H' = H) hu ow (int_frzB _) (by simp [hrl]) ⟨by rw [hE'], rfl⟩
      exact this
end Go.Proofs
