/- Functions of Go's library as they stand in this program: laid by the kit's own tool. -/
import Derived.Test.YtklgcajfkkoacaaFwSortM
import Derived.Test.YtklgcajfkkoacaaProg
import Derived.Test.YtklgcajfkkoacaaCL2toCW3
import Derived.Test.YtklgcajfkkoacaaFwCompacttoCN2
import Derived.Test.YtklgcajfkkoacaaFwRgtoFwSeqN
set_option linter.unusedVariables false
set_option linter.unusedSimpArgs false
set_option maxHeartbeats 4000000
set_option maxRecDepth 100000
namespace Go.Proofs
open Go.Shelf
def Try.sortInt_ren : Go.Shelf.Ren := ⟨fun | 5 => 47 | 8 => 91 | 7 => 90 | 19 => 127 | 20 => 128 | 10 => 118 | 11 => 119 | 12 => 120 | 13 => 121 | 14 => 122 | 15 => 123 | 16 => 124 | 17 => 125 | 18 => 126 | 30 => 140 | 31 => 141 | 32 => 142 | 33 => 143 | 34 => 144 | 35 => 132 | 40 => 155 | n => n, fun | 23 => 22 | 25 => 3 | 3 => 3 | 32 => 126 | 22 => 22 | 0 => 0 | 44 => 159 | 46 => 37 | 4 => 4 | 36 => 153 | 35 => 152 | 41 => 150 | 5 => 5 | 9 => 9 | 53 => 174 | 57 => 178 | 63 => 186 | 64 => 31 | n => n, fun | n => n⟩
theorem Try.sortInt : Go.Proofs.SlLaysM.n5 Try.prog Try.sortInt_ren := {
  mixed := by kernel_rfl
  f5 := ⟨Try.f47.name, by decide, Try.func47.trans (congrArg some (by kernel_rfl))⟩
  f7 := ⟨Try.f90.name, by decide, Try.func90.trans (congrArg some (by kernel_rfl))⟩
  f8 := Try.func91.trans (congrArg some (by kernel_rfl))
  f10 := ⟨Try.f118.name, by decide, Try.func118.trans (congrArg some (by kernel_rfl))⟩
  f11 := ⟨Try.f119.name, by decide, Try.func119.trans (congrArg some (by kernel_rfl))⟩
  f12 := ⟨Try.f120.name, by decide, Try.func120.trans (congrArg some (by kernel_rfl))⟩
  f13 := ⟨Try.f121.name, by decide, Try.func121.trans (congrArg some (by kernel_rfl))⟩
  f14 := ⟨Try.f122.name, by decide, Try.func122.trans (congrArg some (by kernel_rfl))⟩
  f15 := ⟨Try.f123.name, by decide, Try.func123.trans (congrArg some (by kernel_rfl))⟩
  f16 := ⟨Try.f124.name, by decide, Try.func124.trans (congrArg some (by kernel_rfl))⟩
  f17 := ⟨Try.f125.name, by decide, Try.func125.trans (congrArg some (by kernel_rfl))⟩
  f18 := ⟨Try.f126.name, by decide, Try.func126.trans (congrArg some (by kernel_rfl))⟩
  f19 := Try.func127.trans (congrArg some (by kernel_rfl))
  f20 := Try.func128.trans (congrArg some (by kernel_rfl))
  f30 := ⟨Try.f140.name, by decide, Try.func140.trans (congrArg some (by kernel_rfl))⟩
  f31 := Try.func141.trans (congrArg some (by kernel_rfl))
  f32 := Try.func142.trans (congrArg some (by kernel_rfl))
  f33 := ⟨Try.f143.name, by decide, Try.func143.trans (congrArg some (by kernel_rfl))⟩
  f34 := ⟨Try.f144.name, by decide, Try.func144.trans (congrArg some (by kernel_rfl))⟩
  f35 := ⟨Try.f132.name, by decide, Try.func132.trans (congrArg some (by kernel_rfl))⟩
  f40 := ⟨Try.f155.name, by decide, Try.func155.trans (congrArg some (by kernel_rfl))⟩
  t0 := Try.underlying0
  a0 := Try.isAgg0
  z0 := Try.sizeOf0
  v0 := Try.zeroValue0
  t3 := Try.underlying3
  a3 := Try.isAgg3
  z3 := Try.sizeOf3
  v3 := Try.zeroValue3
  t4 := Try.underlying4
  a4 := Try.isAgg4
  z4 := Try.sizeOf4
  v4 := Try.zeroValue4
  t5 := Try.underlying5
  a5 := Try.isAgg5
  z5 := Try.sizeOf5
  v5 := Try.zeroValue5
  t9 := Try.underlying9
  a9 := Try.isAgg9
  z9 := Try.sizeOf9
  v9 := Try.zeroValue9
  t22 := Try.underlying22
  a22 := Try.isAgg22
  z22 := Try.sizeOf22
  v22 := Try.zeroValue22
  t23 := Try.underlying22
  a23 := Try.isAgg22
  z23 := Try.sizeOf22
  v23 := Try.zeroValue22
  t25 := Try.underlying3
  a25 := Try.isAgg3
  z25 := Try.sizeOf3
  v25 := Try.zeroValue3
  t32 := Try.underlying126
  a32 := Try.isAgg126
  z32 := Try.sizeOf126
  v32 := Try.zeroValue126
  t35 := Try.underlying152
  a35 := Try.isAgg152
  z35 := Try.sizeOf152
  v35 := Try.zeroValue152
  t36 := Try.underlying153
  a36 := Try.isAgg153
  z36 := Try.sizeOf153
  v36 := Try.zeroValue153
  t41 := Try.underlying150
  a41 := Try.isAgg150
  z41 := Try.sizeOf150
  v41 := Try.zeroValue150
  t44 := Try.underlying159
  a44 := Try.isAgg159
  z44 := Try.sizeOf159
  v44 := Try.zeroValue159
  t46 := Try.underlying37
  a46 := Try.isAgg37
  z46 := Try.sizeOf37
  v46 := Try.zeroValue37
  t53 := Try.underlying174
  a53 := Try.isAgg174
  z53 := Try.sizeOf174
  v53 := Try.zeroValue174
  t57 := Try.underlying178
  a57 := Try.isAgg178
  z57 := Try.sizeOf178
  v57 := Try.zeroValue178
  t63 := Try.underlying186
  a63 := Try.isAgg186
  z63 := Try.sizeOf186
  v63 := Try.zeroValue186
  t64 := Try.underlying31
  a64 := Try.isAgg31
  z64 := Try.sizeOf31
  v64 := Try.zeroValue31 }
end Go.Proofs
namespace Go.Proofs
open Go.Mu
theorem map_frzI (l : List Int) : (l.map fun s => [I s]).flatten.all AV.frzB = true := by
  induction l with
  | nil => rfl
  | cons x l ih => rw [List.map_cons, List.flatten_cons, List.all_append, ih]; simp [AV.frzB]
theorem nodup_len : ∀ (n : Nat) (s : List Nat), s.Nodup → (∀ j ∈ s, j < n) → s.length ≤ n
  | 0, s, _, h => by cases s with
    | nil => simp
    | cons x s => have := h x (List.mem_cons_self ..); omega
  | n + 1, s, hs, h => by
    by_cases hn : n ∈ s
    · have h1 := nodup_len n (s.erase n) (hs.erase n) (fun j hj => by
        have hm := (hs.mem_erase_iff.1 hj)
        have := h j hm.2
        have := hm.1
        omega)
      rw [List.length_erase_of_mem hn] at h1
      omega
    · have := nodup_len n s hs (fun j hj => by have := h j hj; have : j ≠ n := fun e => hn (e ▸ hj); omega)
      omega
theorem nodup_less {n j : Nat} {s : List Nat} (hs : s.Nodup) (h : ∀ j ∈ s, j < n) (hj : j ∉ s) (hn : j < n) : s.length < n := by
  have := nodup_len n (j :: s) (List.nodup_cons.2 ⟨hj, hs⟩) (fun i hi => by
    rcases List.mem_cons.1 hi with rfl | hi
    · exact hn
    · exact h i hi)
  simp only [List.length_cons] at this
  omega
theorem nodup_snoc {s : List Nat} {n j : Nat} (hs : s.Nodup) (h : ∀ j ∈ s, j < n) (hj : j ∉ s) (hn : j < n) : (s ++ [j]).Nodup ∧ ∀ i ∈ s ++ [j], i < n := by
  refine ⟨?_, fun i hi => ?_⟩
  · rw [List.nodup_append]; exact ⟨hs, by simp, fun i hi k hk e => hj (by rw [List.mem_singleton] at hk; rw [← hk, ← e]; exact hi)⟩
  · rcases List.mem_append.1 hi with hi | hi
    · exact h i hi
    · simp at hi; subst hi; exact hn
abbrev intB (l : List Int) : Blk := ownB 3 1 (l.map fun s => [I s])
abbrev intS (k : Nat) (l : List Int) : AV := ownS k (l.map fun s => [I s])
theorem int_frzB (l : List Int) : (l.map fun s => [I s]).flatten.all AV.frzB = true := map_frzI l
theorem imkeys_ok (km : Nat) (H : List Blk) : ACalls Try.prog 82 [.hm km] H (fun e H' => e = .ret (.fn (.func 113) [] [.bp H.length 0]) ∧ H' = H ++ [.box 111 [.hm km]]) := by
  refine acalls_of_vc (hn := fun _ => false) (od := fun _ => none) Try.func82 rfl (by kernel_rfl) ?_
  simp -dsimp
theorem imkeys_seq (t : List Int) (km b base : Nat) (h1 : km < base) (h2 : b < base) : ASeqN Try.prog 113 [.bp b 0] (t.map fun x => [I x]) base (fun A => A[b]? = some (.box 111 [.hm km]) ∧ A[km]? = some (.map (stand t))) := by
  intro k J Jx hJ hy A h0
  have hl : (t.map fun x => [I x]).length = t.length := by simp
  rw [hl] at hy ⊢
  refine acalls_of_vc (hn := fun _ => false) (od := fun _ => none) Try.func113 rfl (by kernel_rfl) ?_
  obtain ⟨a0, a1, a2⟩ := hJ [] A h0
  have sml : (stand t).length = t.length := by simp [stand]
  simp -dsimp [a1, a2]
  refine loop_rule (hn := fun _ => false) (od := fun _ => none) (fun (s : List Nat) f H' => (∃ A' B, H' = A' ++ .it (some km) t.length s :: B ∧ J s A') ∧ f 0 = .yl k ∧ f 5 = .hi base ∧ s.Nodup ∧ (∀ j ∈ s, j < t.length)) (fun s => t.length - s.length) (by kernel_rfl) []
    ⟨⟨A, [], by rw [sml], h0⟩, by simp, by simp [a0], List.nodup_nil, fun j hj => by cases hj⟩ ?_
  rintro s f _ ⟨⟨A', B, rfl, hjs⟩, f0, f5, hs1, hs2⟩
  obtain ⟨b0, b1, b2⟩ := hJ s A' hjs
  simp -dsimp [f0, f5]
  refine nextVW_intro (m := km) (n := t.length) (seen := s) (es := stand t) (by rw [← b0]; simp) (get_app_old b2 _) sml (fun j p hj hp => ?_) (fun hall => ?_)
  · have hp' := hp
    simp only [stand, List.getElem?_map] at hp'
    obtain ⟨n, hx, rfl⟩ := Option.map_eq_some_iff.1 hp'
    have hjl : j < t.length := (List.getElem?_eq_some_iff.1 hx).1
    have e1 : (A' ++ Blk.it (some km) t.length s :: B).set base (.it (some km) t.length (s ++ [j])) = A' ++ .it (some km) t.length (s ++ [j]) :: B := by rw [← b0]; simp
    rw [e1]
    simp -dsimp [f0, f5]
    refine entryVW_intro (m := km) (n := t.length) (seen := s) (es := stand t) (j := j) (by rw [← b0]; simp) (get_app_old b2 _) sml hp ?_
    simp -dsimp [f0, f5]
    refine ayieldW_of (hy s j A' (.it (some km) t.length (s ++ [j]) :: B) [I n] hs1 hs2 hj (by rw [List.getElem?_map, hx]; rfl) hjs) ?_
    rintro e M ⟨A2, C, rfl, ⟨rfl, h1⟩ | ⟨rfl, h2⟩⟩
    · simp -dsimp [f0, f5]
      have := nodup_less hs1 hs2 hj hjl
      obtain ⟨q1, q2⟩ := nodup_snoc hs1 hs2 hj hjl
      exact ⟨s ++ [j], by rw [List.length_append]; simp; omega, ⟨A2, ⟨B ++ C, rfl⟩, h1⟩, q1, q2⟩
    · simp -dsimp
      exact ⟨A2, ⟨_, rfl⟩, .inr h2⟩
  · simp -dsimp
    exact ⟨A', ⟨_, rfl⟩, .inl ⟨s, hs1, hs2, hall, hjs⟩⟩
def insOf (t : List Int) (s : List Nat) : List Int := s.map fun j => (t[j]?).getD 0
theorem insOf_perm {t : List Int} {s : List Nat} (hs : s.Nodup) (h1 : ∀ j ∈ s, j < t.length) (h2 : ∀ j, j < t.length → j ∈ s) : (insOf t s).Perm t := by
  have hp : s.Perm (List.range t.length) := (List.perm_ext_iff_of_nodup hs List.nodup_range).2 fun j => ⟨fun h => List.mem_range.2 (h1 j h), fun h => h2 j (List.mem_range.1 h)⟩
  have e : (List.range t.length).map (fun j => (t[j]?).getD 0) = t := by
    apply List.ext_getElem?
    intro j
    rw [List.getElem?_map]
    by_cases hj : j < t.length
    · rw [List.getElem?_range hj]; simp [hj]
    · rw [List.getElem?_eq_none (by simp; omega), List.getElem?_eq_none (by omega)]; rfl
  have q := hp.map (fun j => (t[j]?).getD 0)
  rw [e] at q
  exact q
theorem iappseq_ok (t : List Int) (km b : Nat) (ht : t.length ≤ 2^40) (H : List Blk) (hb : H[b]? = some (.box 111 [.hm km])) (hk : H[km]? = some (.map (stand t))) :
    ACalls Try.prog 139 [nilS, .fn (.func 113) [] [.bp b 0]] H (fun e H' => ∃ ns, ns.Perm t ∧ e = .ret (intS H.length ns) ∧ H' = H ++ [intB ns]) := by
  refine acalls_under fun hu _ => acalls_tidy (acalls_spare 1 (acalls_of_vcM (hn := fun d => d == 11) (od := fun _ => none) Try.func139 rfl (by kernel_rfl) ?_))
  have hbl := lt_of_get hb
  have hkl := lt_of_get hk
  obtain ⟨G, hG⟩ : ∃ G : List Int → List Blk, ∀ l, G l = H ++ [intB l, .box 22 [intS H.length l]] := ⟨_, fun _ => rfl⟩
  have hG0 : H ++ [Blk.pend, .box 22 [nilS]] = G [] := by rw [hG]; simp [ownB, ownS]
  have gl : ∀ l, (G l).length = H.length + 2 := fun l => by rw [hG]; simp
  have g0 : ∀ l L, (G l ++ L)[H.length]? = some (intB l) := fun l L => by rw [hG]; simp
  have g1 : ∀ l L, (G l ++ L)[H.length + 1]? = some (.box 22 [intS H.length l]) := fun l L => by rw [hG]; simp
  have gs : ∀ l l' L, ((G l ++ L).set H.length (intB l')).set (H.length + 1) (.box 22 [intS H.length l']) = G l' ++ L := fun l l' L => by rw [hG, hG]; simp
  have gg : ∀ l l' L, ((G l ++ L).set H.length (intB l'))[H.length + 1]? = some (.box 22 [intS H.length l]) := fun l l' L => by rw [List.getElem?_set_ne (by omega)]; exact g1 l L
  have go : ∀ l i x, H[i]? = some x → (G l)[i]? = some x := fun l i x h => by rw [hG]; exact get_app_old h _
  simp -dsimp
  rw [hG0]
  refine awp_rangeN (t.map fun x => [I x]) (fun A => A[b]? = some (.box 111 [.hm km]) ∧ A[km]? = some (.map (stand t))) (fun s A => A = G (insOf t s) ∧ s.length ≤ t.length) (fun _ _ => False) (by kernel_rfl) rfl (by simp only [List.mem_map]; rintro e ⟨p, _, rfl⟩; rfl) ?_ ⟨rfl, Nat.zero_le _⟩ ?_ ?_ ?_ ?_ ?_
  · rw [gl]
    intro k J Jx hJ hy A h0
    refine imkeys_seq t km b (H.length + 2 + 2) (by omega) (by omega) k J Jx (fun s A h => ?_) hy A h0
    obtain ⟨h1, A0, bb, rfl, h2, h3, h4⟩ := hJ s A h
    exact ⟨h1, get_app_old h3 _, get_app_old h4 _⟩
  · rintro s A ⟨rfl, _⟩
    exact ⟨by rw [gl, gl], go _ _ _ hb, go _ _ _ hk⟩
  · rintro ex A h
    exact h.elim
  · rintro s j A B e hs1 hs2 hj he ⟨rfl, hsl⟩
    rw [List.getElem?_map] at he
    obtain ⟨n, hp, rfl⟩ := Option.map_eq_some_iff.1 he
    have hjl : j < t.length := (List.getElem?_eq_some_iff.1 hp).1
    simp only [List.length_map] at hs2
    have hlt := nodup_less hs1 hs2 hj hjl
    have hns : insOf t (s ++ [j]) = insOf t s ++ [n] := by unfold insOf; simp [hp]
    have hnl : (insOf t s).length = s.length := by unfold insOf; simp
    refine awpW_of_vc (hn := fun _ => false) (od := fun _ => none) (by kernel_rfl) ?_
    simp -dsimp
    intro B' hB'
    refine awpW_of_vc (hn := fun d => d == 11) (od := fun _ => none) (by kernel_rfl) ?_
    obtain ⟨W, hW⟩ : ∃ W, W = insOf t s := ⟨_, rfl⟩
    rw [← hW] at hns hnl ⊢
    simp -dsimp [g1]
    refine appendVW_own (k := H.length) (es := W.map fun s => [I s]) (g0 W B') (by simp; omega) (by simp; omega) ?_
    have e : (W.map fun s => [I s]) ++ [[I n]] = (W ++ [n]).map fun s => [I s] := by simp
    rw [e]
    have gg' := gg W (W ++ [n]) B'
    have gs' := gs W (W ++ [n]) B'
    obtain ⟨V, hV⟩ : ∃ V, V = (G W ++ B').set H.length (intB (W ++ [n])) := ⟨_, rfl⟩
    obtain ⟨sx, hsx⟩ : ∃ sx, sx = ownS H.length ((W ++ [n]).map fun s => [I s]) := ⟨_, rfl⟩
    have gs'' : V.set (H.length + 1) (.box 22 [ownS H.length ((W ++ [n]).map fun s => [I s])]) = G (W ++ [n]) ++ B' := by rw [hV]; exact gs'
    rw [← hsx] at gs''
    rw [← hV, ← hsx]
    rw [← hV] at gg'
    have o1 : AV.one sx = true := by rw [hsx]; exact one_ownS _ _
    have o2 : avCells sx = some [sx] := by rw [hsx]; exact avCells_ownS _ _
    simp -dsimp [gg', gs'', o1, o2]
    exact roundEnd_of (G (W ++ [n])) [] (by simp) ⟨by rw [hns], by omega⟩
  · rintro s A C hs1 hs2 hs3 ⟨rfl, _⟩
    simp only [List.length_map] at hs2 hs3
    have hperm := insOf_perm hs1 hs2 hs3
    obtain ⟨W, hW⟩ : ∃ W, W = insOf t s := ⟨_, rfl⟩
    rw [← hW] at hperm ⊢
    have d0 : (G W ++ .dfr true :: C)[H.length + 2]? = some (.dfr true) := by rw [hG]; simp
    have d1 : (G W ++ .dfr true :: C).set (H.length + 2) (.dfr false) = G W ++ .dfr false :: C := by rw [hG]; simp
    have hGl := gl []
    simp -dsimp [g1, gl, d0, d1]
    rw [hG]
    have e : H ++ [intB W, Blk.box 22 [intS H.length W]] ++ .dfr false :: C = (H ++ [intB W]) ++ (.box 22 [intS H.length W] :: .dfr false :: C) := by simp
    rw [e]
    exact tidy_to (by simp) (fun h => underH_appF (n := H.length) (by simp) hu (fun b hb => by
      obtain rfl := List.mem_singleton.1 hb
      exact under_ownB_plain (int_frzB _))) (under_ownS _ _ _ (by simp)) ⟨W, hperm, rfl, rfl⟩
  · rintro ex A C h
    exact h.elim
theorem icollect_ok (t : List Int) (km b : Nat) (ht : t.length ≤ 2^40) (H : List Blk) (hb : H[b]? = some (.box 111 [.hm km])) (hk : H[km]? = some (.map (stand t))) :
    ACalls Try.prog 112 [.fn (.func 113) [] [.bp b 0]] H (fun e H' => ∃ ns, ns.Perm t ∧ e = .ret (intS H.length ns) ∧ H' = H ++ [intB ns]) := by
  refine acalls_of_vc (hn := fun _ => false) (od := fun _ => none) Try.func112 rfl (by kernel_rfl) ?_
  simp -dsimp
  refine acallsW_of (iappseq_ok t km b ht H hb hk) ?_
  rintro e _ ⟨ns, hp, rfl, rfl⟩
  simp -dsimp
  exact ⟨ns, hp, rfl, rfl⟩
theorem isorts_ok (l : List Int) (hl : l.length ≤ 2^40) (k : Nat) (H : List Blk) (hK : H[k]? = some (.row 3 1 (l.map fun s => [I s]))) : ACalls Try.prog 47 [.hs k 0 l.length l.length] H (fun e H' => e = .ret (.tup []) ∧ H' = H.set k (.row 3 1 ((sortI l).map fun s => [I s]))) := by
  refine acalls_sort1 (enc := Value.int .i64) (fun x => rfl) l (sortI l) (List.length_mergeSort _) (fun blk cap w hH hb => ?_) hK
  exact AnyM.slices_Sort_int Try.sortInt blk 0 cap l w hH hb (by omega)
theorem isorts0_ok (H : List Blk) : ACalls Try.prog 47 [nilS] H (fun e H' => e = .ret (.tup []) ∧ H' = H) := by
  intro B w0 cx vals hR hH hA
  subst hH
  obtain ⟨v1, vs1, rfl, r1, hA1⟩ := hA.cons_inv
  obtain rfl := hA1.nil_inv
  obtain rfl := r1.v_inv
  refine (AnyM.slices_Sort_int_none Try.sortInt none 0 cx.w).mono ?_
  rintro e w' ⟨rfl, rfl⟩
  exact ⟨cx, .tup [], rfl, hR, Le.refl _, tup_nil_undef _ _, rfl, rfl⟩
theorem isorted_ok (t : List Int) (km b : Nat) (ht : t.length ≤ 2^40) (H : List Blk) (hb : H[b]? = some (.box 111 [.hm km])) (hk : H[km]? = some (.map (stand t))) :
    ACalls Try.prog 81 [.fn (.func 113) [] [.bp b 0]] H (fun e H' => ∃ ns, ns.Perm t ∧ e = .ret (intS H.length (sortI ns)) ∧ H' = H ++ [intB (sortI ns)]) := by
  refine acalls_of_vc (hn := fun _ => false) (od := fun _ => none) Try.func81 rfl (by kernel_rfl) ?_
  simp -dsimp
  refine acallsW_of (icollect_ok t km b ht H hb hk) ?_
  rintro e _ ⟨ns, hp, rfl, rfl⟩
  have hnl : ns.length = t.length := hp.length_eq
  by_cases hne : ns = []
  · subst hne
    have e0 : sortI [] = [] := by unfold sortI; simp
    have c := fun H => isorts0_ok H
    simp -dsimp
    refine acallsW_det (c _) ?_
    simp -dsimp
    exact ⟨[], hp, by rw [e0], by rw [e0]⟩
  · have hne2 : sortI ns ≠ [] := fun h => hne (by have := (sortI_perm ns).length_eq; rw [h] at this; exact List.eq_nil_of_length_eq_zero this.symm)
    have hb1 : intB ns = .row 3 1 (ns.map fun s => [I s]) := by simp [ownB, hne]
    have hb2 : intB (sortI ns) = .row 3 1 ((sortI ns).map fun s => [I s]) := by simp [ownB, hne2]
    have hs1 : intS H.length ns = .hs H.length 0 ns.length ns.length := by simp [ownS, hne]
    have hs2 : intS H.length (sortI ns) = .hs H.length 0 ns.length ns.length := by simp [ownS, hne2, (sortI_perm ns).length_eq]
    have c := isorts_ok ns (by omega) H.length (H ++ [intB ns]) (by rw [hb1]; simp)
    rw [hs1]
    simp -dsimp
    refine acallsW_of c ?_
    rintro e _ ⟨rfl, rfl⟩
    simp -dsimp
    exact ⟨ns, hp, hs2.symm, by rw [hb2]⟩
end Go.Proofs
