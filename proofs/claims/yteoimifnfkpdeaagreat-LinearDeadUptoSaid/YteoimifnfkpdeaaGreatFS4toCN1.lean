/- Functions of Go's library as they stand in this program: laid by the kit's own tool. -/
import Derived.Test.YteoimifnfkpdeaaGreatFwSortM
import Derived.Test.YteoimifnfkpdeaaGreatProg
import Derived.Test.YteoimifnfkpdeaaGreatCW1toCW3
import Derived.Test.YteoimifnfkpdeaaGreatFwCompacttoCN2
import Derived.Test.YteoimifnfkpdeaaGreatFwRgtoFwSeqN
set_option linter.unusedVariables false
set_option linter.unusedSimpArgs false
set_option maxHeartbeats 4000000
set_option maxRecDepth 100000
namespace Go.Proofs
open Go.Shelf
def Tryz.sortInt_ren : Go.Shelf.Ren := ⟨fun | 5 => 77 | 8 => 117 | 7 => 116 | 19 => 143 | 20 => 144 | 10 => 134 | 11 => 135 | 12 => 136 | 13 => 137 | 14 => 138 | 15 => 139 | 16 => 140 | 17 => 141 | 18 => 142 | 30 => 176 | 31 => 177 | 32 => 178 | 33 => 179 | 34 => 180 | 35 => 181 | 40 => 193 | n => n, fun | 23 => 22 | 25 => 3 | 3 => 3 | 32 => 184 | 22 => 22 | 0 => 0 | 44 => 245 | 46 => 29 | 4 => 4 | 36 => 239 | 35 => 238 | 41 => 202 | 5 => 5 | 9 => 9 | 53 => 263 | 57 => 267 | 63 => 272 | 64 => 252 | n => n, fun | n => n⟩
theorem Tryz.sortInt : Go.Proofs.SlLaysM.n5 Tryz.prog Tryz.sortInt_ren := {
  mixed := by kernel_rfl
  f5 := ⟨Tryz.f77.name, by decide, Tryz.func77.trans (congrArg some (by kernel_rfl))⟩
  f7 := ⟨Tryz.f116.name, by decide, Tryz.func116.trans (congrArg some (by kernel_rfl))⟩
  f8 := Tryz.func117.trans (congrArg some (by kernel_rfl))
  f10 := ⟨Tryz.f134.name, by decide, Tryz.func134.trans (congrArg some (by kernel_rfl))⟩
  f11 := ⟨Tryz.f135.name, by decide, Tryz.func135.trans (congrArg some (by kernel_rfl))⟩
  f12 := ⟨Tryz.f136.name, by decide, Tryz.func136.trans (congrArg some (by kernel_rfl))⟩
  f13 := ⟨Tryz.f137.name, by decide, Tryz.func137.trans (congrArg some (by kernel_rfl))⟩
  f14 := ⟨Tryz.f138.name, by decide, Tryz.func138.trans (congrArg some (by kernel_rfl))⟩
  f15 := ⟨Tryz.f139.name, by decide, Tryz.func139.trans (congrArg some (by kernel_rfl))⟩
  f16 := ⟨Tryz.f140.name, by decide, Tryz.func140.trans (congrArg some (by kernel_rfl))⟩
  f17 := ⟨Tryz.f141.name, by decide, Tryz.func141.trans (congrArg some (by kernel_rfl))⟩
  f18 := ⟨Tryz.f142.name, by decide, Tryz.func142.trans (congrArg some (by kernel_rfl))⟩
  f19 := Tryz.func143.trans (congrArg some (by kernel_rfl))
  f20 := Tryz.func144.trans (congrArg some (by kernel_rfl))
  f30 := ⟨Tryz.f176.name, by decide, Tryz.func176.trans (congrArg some (by kernel_rfl))⟩
  f31 := Tryz.func177.trans (congrArg some (by kernel_rfl))
  f32 := Tryz.func178.trans (congrArg some (by kernel_rfl))
  f33 := ⟨Tryz.f179.name, by decide, Tryz.func179.trans (congrArg some (by kernel_rfl))⟩
  f34 := ⟨Tryz.f180.name, by decide, Tryz.func180.trans (congrArg some (by kernel_rfl))⟩
  f35 := ⟨Tryz.f181.name, by decide, Tryz.func181.trans (congrArg some (by kernel_rfl))⟩
  f40 := ⟨Tryz.f193.name, by decide, Tryz.func193.trans (congrArg some (by kernel_rfl))⟩
  t0 := Tryz.underlying0
  a0 := Tryz.isAgg0
  z0 := Tryz.sizeOf0
  v0 := Tryz.zeroValue0
  t3 := Tryz.underlying3
  a3 := Tryz.isAgg3
  z3 := Tryz.sizeOf3
  v3 := Tryz.zeroValue3
  t4 := Tryz.underlying4
  a4 := Tryz.isAgg4
  z4 := Tryz.sizeOf4
  v4 := Tryz.zeroValue4
  t5 := Tryz.underlying5
  a5 := Tryz.isAgg5
  z5 := Tryz.sizeOf5
  v5 := Tryz.zeroValue5
  t9 := Tryz.underlying9
  a9 := Tryz.isAgg9
  z9 := Tryz.sizeOf9
  v9 := Tryz.zeroValue9
  t22 := Tryz.underlying22
  a22 := Tryz.isAgg22
  z22 := Tryz.sizeOf22
  v22 := Tryz.zeroValue22
  t23 := Tryz.underlying22
  a23 := Tryz.isAgg22
  z23 := Tryz.sizeOf22
  v23 := Tryz.zeroValue22
  t25 := Tryz.underlying3
  a25 := Tryz.isAgg3
  z25 := Tryz.sizeOf3
  v25 := Tryz.zeroValue3
  t32 := Tryz.underlying184
  a32 := Tryz.isAgg184
  z32 := Tryz.sizeOf184
  v32 := Tryz.zeroValue184
  t35 := Tryz.underlying238
  a35 := Tryz.isAgg238
  z35 := Tryz.sizeOf238
  v35 := Tryz.zeroValue238
  t36 := Tryz.underlying239
  a36 := Tryz.isAgg239
  z36 := Tryz.sizeOf239
  v36 := Tryz.zeroValue239
  t41 := Tryz.underlying202
  a41 := Tryz.isAgg202
  z41 := Tryz.sizeOf202
  v41 := Tryz.zeroValue202
  t44 := Tryz.underlying245
  a44 := Tryz.isAgg245
  z44 := Tryz.sizeOf245
  v44 := Tryz.zeroValue245
  t46 := Tryz.underlying29
  a46 := Tryz.isAgg29
  z46 := Tryz.sizeOf29
  v46 := Tryz.zeroValue29
  t53 := Tryz.underlying263
  a53 := Tryz.isAgg263
  z53 := Tryz.sizeOf263
  v53 := Tryz.zeroValue263
  t57 := Tryz.underlying267
  a57 := Tryz.isAgg267
  z57 := Tryz.sizeOf267
  v57 := Tryz.zeroValue267
  t63 := Tryz.underlying272
  a63 := Tryz.isAgg272
  z63 := Tryz.sizeOf272
  v63 := Tryz.zeroValue272
  t64 := Tryz.underlying252
  a64 := Tryz.isAgg252
  z64 := Tryz.sizeOf252
  v64 := Tryz.zeroValue252 }
end Go.Proofs
namespace Go.Proofs
open Go.Mu
theorem map_frzI (l : List Int) : (l.map fun s => [I s]).flatten.all AV.frzB = true := by
  induction l with
  | nil => rfl
  | cons x l ih => rw [List.map_cons, List.flatten_cons, List.all_append, ih]; simp [AV.frzB]
theorem nodup_len : ∀ (n : Nat) (s : List Nat), s.Nodup → (∀ j ∈ s, j < n) → s.length ≤ n
  | 0, s, _, h => by cases s with
    | nil => simp
    | cons x s => have := h x (List.mem_cons_self ..); omega
  | n + 1, s, hs, h => by
    by_cases hn : n ∈ s
    · have h1 := nodup_len n (s.erase n) (hs.erase n) (fun j hj => by
        have hm := (hs.mem_erase_iff.1 hj)
        have := h j hm.2
        have := hm.1
        omega)
      rw [List.length_erase_of_mem hn] at h1
      omega
    · have := nodup_len n s hs (fun j hj => by have := h j hj; have : j ≠ n := fun e => hn (e ▸ hj); omega)
      omega
theorem nodup_less {n j : Nat} {s : List Nat} (hs : s.Nodup) (h : ∀ j ∈ s, j < n) (hj : j ∉ s) (hn : j < n) : s.length < n := by
  have := nodup_len n (j :: s) (List.nodup_cons.2 ⟨hj, hs⟩) (fun i hi => by
    rcases List.mem_cons.1 hi with rfl | hi
    · exact hn
    · exact h i hi)
  simp only [List.length_cons] at this
  omega
theorem nodup_snoc {s : List Nat} {n j : Nat} (hs : s.Nodup) (h : ∀ j ∈ s, j < n) (hj : j ∉ s) (hn : j < n) : (s ++ [j]).Nodup ∧ ∀ i ∈ s ++ [j], i < n := by
  refine ⟨?_, fun i hi => ?_⟩
  · rw [List.nodup_append]; exact ⟨hs, by simp, fun i hi k hk e => hj (by rw [List.mem_singleton] at hk; rw [← hk, ← e]; exact hi)⟩
  · rcases List.mem_append.1 hi with hi | hi
    · exact h i hi
    · simp at hi; subst hi; exact hn
abbrev intB (l : List Int) : Blk := ownB 3 1 (l.map fun s => [I s])
abbrev intS (k : Nat) (l : List Int) : AV := ownS k (l.map fun s => [I s])
theorem int_frzB (l : List Int) : (l.map fun s => [I s]).flatten.all AV.frzB = true := map_frzI l
theorem imkeys_ok (km : Nat) (H : List Blk) : ACalls Tryz.prog 46 [.hm km] H (fun e H' => e = .ret (.fn (.func 81) [] [.bp H.length 0]) ∧ H' = H ++ [.box 120 [.hm km]]) := by
  refine acalls_of_vc (hn := fun _ => false) (od := fun _ => none) Tryz.func46 rfl (by kernel_rfl) ?_
  simp -dsimp
theorem imkeys_seq (t : List Int) (km b base : Nat) (h1 : km < base) (h2 : b < base) : ASeqN Tryz.prog 81 [.bp b 0] (t.map fun x => [I x]) base (fun A => A[b]? = some (.box 120 [.hm km]) ∧ A[km]? = some (.map (stand t))) := by
  intro k J Jx hJ hy A h0
  have hl : (t.map fun x => [I x]).length = t.length := by simp
  rw [hl] at hy ⊢
  refine acalls_of_vc (hn := fun _ => false) (od := fun _ => none) Tryz.func81 rfl (by kernel_rfl) ?_
  obtain ⟨a0, a1, a2⟩ := hJ [] A h0
  have sml : (stand t).length = t.length := by simp [stand]
  simp -dsimp [a1, a2]
  refine loop_rule (hn := fun _ => false) (od := fun _ => none) (fun (s : List Nat) f H' => (∃ A' B, H' = A' ++ .it (some km) t.length s :: B ∧ J s A') ∧ f 0 = .yl k ∧ f 5 = .hi base ∧ s.Nodup ∧ (∀ j ∈ s, j < t.length)) (fun s => t.length - s.length) (by kernel_rfl) []
    ⟨⟨A, [], by rw [sml], h0⟩, by simp, by simp [a0], List.nodup_nil, fun j hj => by cases hj⟩ ?_
  rintro s f _ ⟨⟨A', B, rfl, hjs⟩, f0, f5, hs1, hs2⟩
  obtain ⟨b0, b1, b2⟩ := hJ s A' hjs
  simp -dsimp [f0, f5]
  refine nextVW_intro (m := km) (n := t.length) (seen := s) (es := stand t) (by rw [← b0]; simp) (get_app_old b2 _) sml (fun j p hj hp => ?_) (fun hall => ?_)
  · have hp' := hp
    simp only [stand, List.getElem?_map] at hp'
    obtain ⟨n, hx, rfl⟩ := Option.map_eq_some_iff.1 hp'
    have hjl : j < t.length := (List.getElem?_eq_some_iff.1 hx).1
    have e1 : (A' ++ Blk.it (some km) t.length s :: B).set base (.it (some km) t.length (s ++ [j])) = A' ++ .it (some km) t.length (s ++ [j]) :: B := by rw [← b0]; simp
    rw [e1]
    simp -dsimp [f0, f5]
    refine entryVW_intro (m := km) (n := t.length) (seen := s) (es := stand t) (j := j) (by rw [← b0]; simp) (get_app_old b2 _) sml hp ?_
    simp -dsimp [f0, f5]
    refine ayieldW_of (hy s j A' (.it (some km) t.length (s ++ [j]) :: B) [I n] hs1 hs2 hj (by rw [List.getElem?_map, hx]; rfl) hjs) ?_
    rintro e M ⟨A2, C, rfl, ⟨rfl, h1⟩ | ⟨rfl, h2⟩⟩
    · simp -dsimp [f0, f5]
      have := nodup_less hs1 hs2 hj hjl
      obtain ⟨q1, q2⟩ := nodup_snoc hs1 hs2 hj hjl
      exact ⟨s ++ [j], by rw [List.length_append]; simp; omega, ⟨A2, ⟨B ++ C, rfl⟩, h1⟩, q1, q2⟩
    · simp -dsimp
      exact ⟨A2, ⟨_, rfl⟩, .inr h2⟩
  · simp -dsimp
    exact ⟨A', ⟨_, rfl⟩, .inl ⟨s, hs1, hs2, hall, hjs⟩⟩
def insOf (t : List Int) (s : List Nat) : List Int := s.map fun j => (t[j]?).getD 0
theorem insOf_perm {t : List Int} {s : List Nat} (hs : s.Nodup) (h1 : ∀ j ∈ s, j < t.length) (h2 : ∀ j, j < t.length → j ∈ s) : (insOf t s).Perm t := by
  have hp : s.Perm (List.range t.length) := (List.perm_ext_iff_of_nodup hs List.nodup_range).2 fun j => ⟨fun h => List.mem_range.2 (h1 j h), fun h => h2 j (List.mem_range.1 h)⟩
  have e : (List.range t.length).map (fun j => (t[j]?).getD 0) = t := by
    apply List.ext_getElem?
    intro j
    rw [List.getElem?_map]
    by_cases hj : j < t.length
    · rw [List.getElem?_range hj]; simp [hj]
    · rw [List.getElem?_eq_none (by simp; omega), List.getElem?_eq_none (by omega)]; rfl
  have q := hp.map (fun j => (t[j]?).getD 0)
  rw [e] at q
  exact q
theorem iappseq_ok (t : List Int) (km b : Nat) (ht : t.length ≤ 2^40) (H : List Blk) (hb : H[b]? = some (.box 120 [.hm km])) (hk : H[km]? = some (.map (stand t))) :
    ACalls Tryz.prog 118 [nilS, .fn (.func 81) [] [.bp b 0]] H (fun e H' => ∃ ns, ns.Perm t ∧ e = .ret (intS H.length ns) ∧ H' = H ++ [intB ns]) := by
  refine acalls_under fun hu _ => acalls_tidy (acalls_spare 1 (acalls_of_vcM (hn := fun d => d == 11) (od := fun _ => none) Tryz.func118 rfl (by kernel_rfl) ?_))
  have hbl := lt_of_get hb
  have hkl := lt_of_get hk
  obtain ⟨G, hG⟩ : ∃ G : List Int → List Blk, ∀ l, G l = H ++ [intB l, .box 22 [intS H.length l]] := ⟨_, fun _ => rfl⟩
  have hG0 : H ++ [Blk.pend, .box 22 [nilS]] = G [] := by rw [hG]; simp [ownB, ownS]
  have gl : ∀ l, (G l).length = H.length + 2 := fun l => by rw [hG]; simp
  have g0 : ∀ l L, (G l ++ L)[H.length]? = some (intB l) := fun l L => by rw [hG]; simp
  have g1 : ∀ l L, (G l ++ L)[H.length + 1]? = some (.box 22 [intS H.length l]) := fun l L => by rw [hG]; simp
  have gs : ∀ l l' L, ((G l ++ L).set H.length (intB l')).set (H.length + 1) (.box 22 [intS H.length l']) = G l' ++ L := fun l l' L => by rw [hG, hG]; simp
  have gg : ∀ l l' L, ((G l ++ L).set H.length (intB l'))[H.length + 1]? = some (.box 22 [intS H.length l]) := fun l l' L => by rw [List.getElem?_set_ne (by omega)]; exact g1 l L
  have go : ∀ l i x, H[i]? = some x → (G l)[i]? = some x := fun l i x h => by rw [hG]; exact get_app_old h _
  simp -dsimp
  rw [hG0]
  refine awp_rangeN (t.map fun x => [I x]) (fun A => A[b]? = some (.box 120 [.hm km]) ∧ A[km]? = some (.map (stand t))) (fun s A => A = G (insOf t s) ∧ s.length ≤ t.length) (fun _ _ => False) (by kernel_rfl) rfl (by simp only [List.mem_map]; rintro e ⟨p, _, rfl⟩; rfl) ?_ ⟨rfl, Nat.zero_le _⟩ ?_ ?_ ?_ ?_ ?_
  · rw [gl]
    intro k J Jx hJ hy A h0
    refine imkeys_seq t km b (H.length + 2 + 2) (by omega) (by omega) k J Jx (fun s A h => ?_) hy A h0
    obtain ⟨h1, A0, bb, rfl, h2, h3, h4⟩ := hJ s A h
    exact ⟨h1, get_app_old h3 _, get_app_old h4 _⟩
  · rintro s A ⟨rfl, _⟩
    exact ⟨by rw [gl, gl], go _ _ _ hb, go _ _ _ hk⟩
  · rintro ex A h
    exact h.elim
  · rintro s j A B e hs1 hs2 hj he ⟨rfl, hsl⟩
    rw [List.getElem?_map] at he
    obtain ⟨n, hp, rfl⟩ := Option.map_eq_some_iff.1 he
    have hjl : j < t.length := (List.getElem?_eq_some_iff.1 hp).1
    simp only [List.length_map] at hs2
    have hlt := nodup_less hs1 hs2 hj hjl
    have hns : insOf t (s ++ [j]) = insOf t s ++ [n] := by unfold insOf; simp [hp]
    have hnl : (insOf t s).length = s.length := by unfold insOf; simp
    refine awpW_of_vc (hn := fun _ => false) (od := fun _ => none) (by kernel_rfl) ?_
    simp -dsimp
    intro B' hB'
    refine awpW_of_vc (hn := fun d => d == 11) (od := fun _ => none) (by kernel_rfl) ?_
    obtain ⟨W, hW⟩ : ∃ W, W = insOf t s := ⟨_, rfl⟩
    rw [← hW] at hns hnl ⊢
    simp -dsimp [g1]
    refine appendVW_own (k := H.length) (es := W.map fun s => [I s]) (g0 W B') (by simp; omega) (by simp; omega) ?_
    have e : (W.map fun s => [I s]) ++ [[I n]] = (W ++ [n]).map fun s => [I s] := by simp
    rw [e]
    have gg' := gg W (W ++ [n]) B'
    have gs' := gs W (W ++ [n]) B'
    obtain ⟨V, hV⟩ : ∃ V, V = (G W ++ B').set H.length (intB (W ++ [n])) := ⟨_, rfl⟩
    obtain ⟨sx, hsx⟩ : ∃ sx, sx = ownS H.length ((W ++ [n]).map fun s => [I s]) := ⟨_, rfl⟩
    have gs'' : V.set (H.length + 1) (.box 22 [ownS H.length ((W ++ [n]).map fun s => [I s])]) = G (W ++ [n]) ++ B' := by rw [hV]; exact gs'
    rw [← hsx] at gs''
    rw [← hV, ← hsx]
    rw [← hV] at gg'
    have o1 : AV.one sx = true := by rw [hsx]; exact one_ownS _ _
    have o2 : avCells sx = some [sx] := by rw [hsx]; exact avCells_ownS _ _
    simp -dsimp [gg', gs'', o1, o2]
    exact roundEnd_of (G (W ++ [n])) [] (by simp) ⟨by rw [hns], by omega⟩
  · rintro s A C hs1 hs2 hs3 ⟨rfl, _⟩
    simp only [List.length_map] at hs2 hs3
    have hperm := insOf_perm hs1 hs2 hs3
    obtain ⟨W, hW⟩ : ∃ W, W = insOf t s := ⟨_, rfl⟩
    rw [← hW] at hperm ⊢
    have d0 : (G W ++ .dfr true :: C)[H.length + 2]? = some (.dfr true) := by rw [hG]; simp
    have d1 : (G W ++ .dfr true :: C).set (H.length + 2) (.dfr false) = G W ++ .dfr false :: C := by rw [hG]; simp
    have hGl := gl []
    simp -dsimp [g1, gl, d0, d1]
    rw [hG]
    have e : H ++ [intB W, Blk.box 22 [intS H.length W]] ++ .dfr false :: C = (H ++ [intB W]) ++ (.box 22 [intS H.length W] :: .dfr false :: C) := by simp
    rw [e]
    exact tidy_to (by simp) (fun h => underH_appF (n := H.length) (by simp) hu (fun b hb => by
      obtain rfl := List.mem_singleton.1 hb
      exact under_ownB_plain (int_frzB _))) (under_ownS _ _ _ (by simp)) ⟨W, hperm, rfl, rfl⟩
  · rintro ex A C h
    exact h.elim
theorem icollect_ok (t : List Int) (km b : Nat) (ht : t.length ≤ 2^40) (H : List Blk) (hb : H[b]? = some (.box 120 [.hm km])) (hk : H[km]? = some (.map (stand t))) :
    ACalls Tryz.prog 80 [.fn (.func 81) [] [.bp b 0]] H (fun e H' => ∃ ns, ns.Perm t ∧ e = .ret (intS H.length ns) ∧ H' = H ++ [intB ns]) := by
  refine acalls_of_vc (hn := fun _ => false) (od := fun _ => none) Tryz.func80 rfl (by kernel_rfl) ?_
  simp -dsimp
  refine acallsW_of (iappseq_ok t km b ht H hb hk) ?_
  rintro e _ ⟨ns, hp, rfl, rfl⟩
  simp -dsimp
  exact ⟨ns, hp, rfl, rfl⟩
theorem isorts_ok (l : List Int) (hl : l.length ≤ 2^40) (k : Nat) (H : List Blk) (hK : H[k]? = some (.row 3 1 (l.map fun s => [I s]))) : ACalls Tryz.prog 77 [.hs k 0 l.length l.length] H (fun e H' => e = .ret (.tup []) ∧ H' = H.set k (.row 3 1 ((sortI l).map fun s => [I s]))) := by
  refine acalls_sort1 (enc := Value.int .i64) (fun x => rfl) l (sortI l) (List.length_mergeSort _) (fun blk cap w hH hb => ?_) hK
  exact AnyM.slices_Sort_int Tryz.sortInt blk 0 cap l w hH hb (by omega)
theorem isorts0_ok (H : List Blk) : ACalls Tryz.prog 77 [nilS] H (fun e H' => e = .ret (.tup []) ∧ H' = H) := by
  intro B w0 cx vals hR hH hA
  subst hH
  obtain ⟨v1, vs1, rfl, r1, hA1⟩ := hA.cons_inv
  obtain rfl := hA1.nil_inv
  obtain rfl := r1.v_inv
  refine (AnyM.slices_Sort_int_none Tryz.sortInt none 0 cx.w).mono ?_
  rintro e w' ⟨rfl, rfl⟩
  exact ⟨cx, .tup [], rfl, hR, Le.refl _, tup_nil_undef _ _, rfl, rfl⟩
theorem isorted_ok (t : List Int) (km b : Nat) (ht : t.length ≤ 2^40) (H : List Blk) (hb : H[b]? = some (.box 120 [.hm km])) (hk : H[km]? = some (.map (stand t))) :
    ACalls Tryz.prog 45 [.fn (.func 81) [] [.bp b 0]] H (fun e H' => ∃ ns, ns.Perm t ∧ e = .ret (intS H.length (sortI ns)) ∧ H' = H ++ [intB (sortI ns)]) := by
  refine acalls_of_vc (hn := fun _ => false) (od := fun _ => none) Tryz.func45 rfl (by kernel_rfl) ?_
  simp -dsimp
  refine acallsW_of (icollect_ok t km b ht H hb hk) ?_
  rintro e _ ⟨ns, hp, rfl, rfl⟩
  have hnl : ns.length = t.length := hp.length_eq
  by_cases hne : ns = []
  · subst hne
    have e0 : sortI [] = [] := by unfold sortI; simp
    have c := fun H => isorts0_ok H
    simp -dsimp
    refine acallsW_det (c _) ?_
    simp -dsimp
    exact ⟨[], hp, by rw [e0], by rw [e0]⟩
  · have hne2 : sortI ns ≠ [] := fun h => hne (by have := (sortI_perm ns).length_eq; rw [h] at this; exact List.eq_nil_of_length_eq_zero this.symm)
    have hb1 : intB ns = .row 3 1 (ns.map fun s => [I s]) := by simp [ownB, hne]
    have hb2 : intB (sortI ns) = .row 3 1 ((sortI ns).map fun s => [I s]) := by simp [ownB, hne2]
    have hs1 : intS H.length ns = .hs H.length 0 ns.length ns.length := by simp [ownS, hne]
    have hs2 : intS H.length (sortI ns) = .hs H.length 0 ns.length ns.length := by simp [ownS, hne2, (sortI_perm ns).length_eq]
    have c := isorts_ok ns (by omega) H.length (H ++ [intB ns]) (by rw [hb1]; simp)
    rw [hs1]
    simp -dsimp
    refine acallsW_of c ?_
    rintro e _ ⟨rfl, rfl⟩
    simp -dsimp
    exact ⟨ns, hp, hs2.symm, by rw [hb2]⟩
end Go.Proofs
