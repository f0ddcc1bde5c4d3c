/- Functions of Go's library as they stand in this program: laid by the kit's own tool. -/
import Derived.Test.YtpibcbilkpoomaaGreatFwSortM
import Derived.Test.YtpibcbilkpoomaaGreatProg
import Derived.Test.YtpibcbilkpoomaaGreatFwRgtoFO6
import Derived.Test.YtpibcbilkpoomaaGreatFwSeqN
set_option linter.unusedVariables false
set_option linter.unusedSimpArgs false
set_option maxHeartbeats 4000000
set_option maxRecDepth 100000
namespace Go.Proofs
open Go.Shelf
def Tryz.sortStr_ren : Go.Shelf.Ren := ⟨fun | 6 => 89 | 8 => 140 | 9 => 139 | 19 => 216 | 20 => 217 | 21 => 207 | 22 => 208 | 23 => 209 | 24 => 210 | 25 => 211 | 26 => 212 | 27 => 213 | 28 => 214 | 29 => 215 | 36 => 241 | 31 => 242 | 32 => 243 | 37 => 244 | 38 => 245 | 39 => 246 | 41 => 253 | n => n, fun | 27 => 54 | 29 => 9 | 3 => 3 | 32 => 222 | 26 => 54 | 0 => 0 | 44 => 264 | 46 => 48 | 4 => 4 | 36 => 256 | 35 => 255 | 41 => 261 | 5 => 5 | 9 => 9 | 53 => 290 | 57 => 294 | 63 => 302 | 64 => 296 | n => n, fun | n => n⟩
theorem Tryz.sortStr : Go.Proofs.SlLaysM.n6 Tryz.prog Tryz.sortStr_ren := {
  mixed := by kernel_rfl
  f6 := ⟨Tryz.f89.name, by decide, Tryz.func89.trans (congrArg some (by kernel_rfl))⟩
  f8 := Tryz.func140.trans (congrArg some (by kernel_rfl))
  f9 := ⟨Tryz.f139.name, by decide, Tryz.func139.trans (congrArg some (by kernel_rfl))⟩
  f19 := Tryz.func216.trans (congrArg some (by kernel_rfl))
  f20 := Tryz.func217.trans (congrArg some (by kernel_rfl))
  f21 := ⟨Tryz.f207.name, by decide, Tryz.func207.trans (congrArg some (by kernel_rfl))⟩
  f22 := ⟨Tryz.f208.name, by decide, Tryz.func208.trans (congrArg some (by kernel_rfl))⟩
  f23 := ⟨Tryz.f209.name, by decide, Tryz.func209.trans (congrArg some (by kernel_rfl))⟩
  f24 := ⟨Tryz.f210.name, by decide, Tryz.func210.trans (congrArg some (by kernel_rfl))⟩
  f25 := ⟨Tryz.f211.name, by decide, Tryz.func211.trans (congrArg some (by kernel_rfl))⟩
  f26 := ⟨Tryz.f212.name, by decide, Tryz.func212.trans (congrArg some (by kernel_rfl))⟩
  f27 := ⟨Tryz.f213.name, by decide, Tryz.func213.trans (congrArg some (by kernel_rfl))⟩
  f28 := ⟨Tryz.f214.name, by decide, Tryz.func214.trans (congrArg some (by kernel_rfl))⟩
  f29 := ⟨Tryz.f215.name, by decide, Tryz.func215.trans (congrArg some (by kernel_rfl))⟩
  f31 := Tryz.func242.trans (congrArg some (by kernel_rfl))
  f32 := Tryz.func243.trans (congrArg some (by kernel_rfl))
  f36 := ⟨Tryz.f241.name, by decide, Tryz.func241.trans (congrArg some (by kernel_rfl))⟩
  f37 := ⟨Tryz.f244.name, by decide, Tryz.func244.trans (congrArg some (by kernel_rfl))⟩
  f38 := ⟨Tryz.f245.name, by decide, Tryz.func245.trans (congrArg some (by kernel_rfl))⟩
  f39 := ⟨Tryz.f246.name, by decide, Tryz.func246.trans (congrArg some (by kernel_rfl))⟩
  f41 := ⟨Tryz.f253.name, by decide, Tryz.func253.trans (congrArg some (by kernel_rfl))⟩
  t0 := Tryz.underlying0
  a0 := Tryz.isAgg0
  z0 := Tryz.sizeOf0
  v0 := Tryz.zeroValue0
  t3 := Tryz.underlying3
  a3 := Tryz.isAgg3
  z3 := Tryz.sizeOf3
  v3 := Tryz.zeroValue3
  t4 := Tryz.underlying4
  a4 := Tryz.isAgg4
  z4 := Tryz.sizeOf4
  v4 := Tryz.zeroValue4
  t5 := Tryz.underlying5
  a5 := Tryz.isAgg5
  z5 := Tryz.sizeOf5
  v5 := Tryz.zeroValue5
  t9 := Tryz.underlying9
  a9 := Tryz.isAgg9
  z9 := Tryz.sizeOf9
  v9 := Tryz.zeroValue9
  t26 := Tryz.underlying54
  a26 := Tryz.isAgg54
  z26 := Tryz.sizeOf54
  v26 := Tryz.zeroValue54
  t27 := Tryz.underlying54
  a27 := Tryz.isAgg54
  z27 := Tryz.sizeOf54
  v27 := Tryz.zeroValue54
  t29 := Tryz.underlying9
  a29 := Tryz.isAgg9
  z29 := Tryz.sizeOf9
  v29 := Tryz.zeroValue9
  t32 := Tryz.underlying222
  a32 := Tryz.isAgg222
  z32 := Tryz.sizeOf222
  v32 := Tryz.zeroValue222
  t35 := Tryz.underlying255
  a35 := Tryz.isAgg255
  z35 := Tryz.sizeOf255
  v35 := Tryz.zeroValue255
  t36 := Tryz.underlying256
  a36 := Tryz.isAgg256
  z36 := Tryz.sizeOf256
  v36 := Tryz.zeroValue256
  t41 := Tryz.underlying261
  a41 := Tryz.isAgg261
  z41 := Tryz.sizeOf261
  v41 := Tryz.zeroValue261
  t44 := Tryz.underlying264
  a44 := Tryz.isAgg264
  z44 := Tryz.sizeOf264
  v44 := Tryz.zeroValue264
  t46 := Tryz.underlying48
  a46 := Tryz.isAgg48
  z46 := Tryz.sizeOf48
  v46 := Tryz.zeroValue48
  t53 := Tryz.underlying290
  a53 := Tryz.isAgg290
  z53 := Tryz.sizeOf290
  v53 := Tryz.zeroValue290
  t57 := Tryz.underlying294
  a57 := Tryz.isAgg294
  z57 := Tryz.sizeOf294
  v57 := Tryz.zeroValue294
  t63 := Tryz.underlying302
  a63 := Tryz.isAgg302
  z63 := Tryz.sizeOf302
  v63 := Tryz.zeroValue302
  t64 := Tryz.underlying296
  a64 := Tryz.isAgg296
  z64 := Tryz.sizeOf296
  v64 := Tryz.zeroValue296 }
end Go.Proofs
namespace Go.Proofs
open Go.Mu
theorem nodup_len : ∀ (n : Nat) (s : List Nat), s.Nodup → (∀ j ∈ s, j < n) → s.length ≤ n
  | 0, s, _, h => by cases s with
    | nil => simp
    | cons x s => have := h x (List.mem_cons_self ..); omega
  | n + 1, s, hs, h => by
    by_cases hn : n ∈ s
    · have h1 := nodup_len n (s.erase n) (hs.erase n) (fun j hj => by
        have hm := (hs.mem_erase_iff.1 hj)
        have := h j hm.2
        have := hm.1
        omega)
      rw [List.length_erase_of_mem hn] at h1
      omega
    · have := nodup_len n s hs (fun j hj => by have := h j hj; have : j ≠ n := fun e => hn (e ▸ hj); omega)
      omega
theorem nodup_less {n j : Nat} {s : List Nat} (hs : s.Nodup) (h : ∀ j ∈ s, j < n) (hj : j ∉ s) (hn : j < n) : s.length < n := by
  have := nodup_len n (j :: s) (List.nodup_cons.2 ⟨hj, hs⟩) (fun i hi => by
    rcases List.mem_cons.1 hi with rfl | hi
    · exact hn
    · exact h i hi)
  simp only [List.length_cons] at this
  omega
theorem nodup_snoc {s : List Nat} {n j : Nat} (hs : s.Nodup) (h : ∀ j ∈ s, j < n) (hj : j ∉ s) (hn : j < n) : (s ++ [j]).Nodup ∧ ∀ i ∈ s ++ [j], i < n := by
  refine ⟨?_, fun i hi => ?_⟩
  · rw [List.nodup_append]; exact ⟨hs, by simp, fun i hi k hk e => hj (by rw [List.mem_singleton] at hk; rw [← hk, ← e]; exact hi)⟩
  · rcases List.mem_append.1 hi with hi | hi
    · exact h i hi
    · simp at hi; subst hi; exact hn
abbrev stsB (l : List ByteArray) : Blk := ownB 9 1 (l.map fun s => [St s])
abbrev stsS (k : Nat) (l : List ByteArray) : AV := ownS k (l.map fun s => [St s])
theorem sts_frzB (l : List ByteArray) : (l.map fun s => [St s]).flatten.all AV.frzB = true := map_frzB _ (fun x => by simp [AV.frzB]) l
abbrev KeyT := List (ByteArray × Bool)
theorem mkeys_ok (km : Nat) (H : List Blk) : ACalls Tryz.prog 47 [.hm km] H (fun e H' => e = .ret (.fn (.func 90) [] [.bp H.length 0]) ∧ H' = H ++ [.box 107 [.hm km]]) := by
  refine acalls_of_vc (hn := fun _ => false) (od := fun _ => none) Tryz.func47 rfl (by kernel_rfl) ?_
  simp -dsimp
theorem mkeys_seq (t : KeyT) (km b base : Nat) (h1 : km < base) (h2 : b < base) : ASeqN Tryz.prog 90 [.bp b 0] (t.map fun x => [St x.1]) base (fun A => A[b]? = some (.box 107 [.hm km]) ∧ A[km]? = some (.map (strM okA t))) := by
  intro k J Jx hJ hy A h0
  have hl : (t.map fun x => [St x.1]).length = t.length := by simp
  rw [hl] at hy ⊢
  refine acalls_of_vc (hn := fun _ => false) (od := fun _ => none) Tryz.func90 rfl (by kernel_rfl) ?_
  obtain ⟨a0, a1, a2⟩ := hJ [] A h0
  have sml : (strM okA t).length = t.length := by simp [strM]
  simp -dsimp [a1, a2]
  refine loop_rule (hn := fun _ => false) (od := fun _ => none) (fun (s : List Nat) f H' => (∃ A' B, H' = A' ++ .it (some km) t.length s :: B ∧ J s A') ∧ f 0 = .yl k ∧ f 5 = .hi base ∧ s.Nodup ∧ (∀ j ∈ s, j < t.length)) (fun s => t.length - s.length) (by kernel_rfl) []
    ⟨⟨A, [], by rw [sml], h0⟩, by simp, by simp [a0], List.nodup_nil, fun j hj => by cases hj⟩ ?_
  rintro s f _ ⟨⟨A', B, rfl, hjs⟩, f0, f5, hs1, hs2⟩
  obtain ⟨b0, b1, b2⟩ := hJ s A' hjs
  simp -dsimp [f0, f5]
  refine nextVW_intro (m := km) (n := t.length) (seen := s) (es := strM okA t) (by rw [← b0]; simp) (get_app_old b2 _) sml (fun j p hj hp => ?_) (fun hall => ?_)
  · have hp' := hp
    simp only [strM, List.getElem?_map] at hp'
    obtain ⟨⟨n, x⟩, hx, rfl⟩ := Option.map_eq_some_iff.1 hp'
    have hjl : j < t.length := (List.getElem?_eq_some_iff.1 hx).1
    have e1 : (A' ++ Blk.it (some km) t.length s :: B).set base (.it (some km) t.length (s ++ [j])) = A' ++ .it (some km) t.length (s ++ [j]) :: B := by rw [← b0]; simp
    rw [e1]
    simp -dsimp [f0, f5]
    refine entryVW_intro (m := km) (n := t.length) (seen := s) (es := strM okA t) (j := j) (by rw [← b0]; simp) (get_app_old b2 _) sml hp ?_
    simp -dsimp [f0, f5]
    refine ayieldW_of (hy s j A' (.it (some km) t.length (s ++ [j]) :: B) [St n] hs1 hs2 hj (by rw [List.getElem?_map, hx]; rfl) hjs) ?_
    rintro e M ⟨A2, C, rfl, ⟨rfl, h1⟩ | ⟨rfl, h2⟩⟩
    · simp -dsimp [f0, f5]
      have := nodup_less hs1 hs2 hj hjl
      obtain ⟨q1, q2⟩ := nodup_snoc hs1 hs2 hj hjl
      exact ⟨s ++ [j], by rw [List.length_append]; simp; omega, ⟨A2, ⟨B ++ C, rfl⟩, h1⟩, q1, q2⟩
    · simp -dsimp
      exact ⟨A2, ⟨_, rfl⟩, .inr h2⟩
  · simp -dsimp
    exact ⟨A', ⟨_, rfl⟩, .inl ⟨s, hs1, hs2, hall, hjs⟩⟩
def nsOf (t : KeyT) (s : List Nat) : List ByteArray := s.map fun j => (t[j]?.map (·.1)).getD ByteArray.empty
theorem nsOf_perm {t : KeyT} {s : List Nat} (hs : s.Nodup) (h1 : ∀ j ∈ s, j < t.length) (h2 : ∀ j, j < t.length → j ∈ s) : (nsOf t s).Perm (t.map (·.1)) := by
  have hp : s.Perm (List.range t.length) := (List.perm_ext_iff_of_nodup hs List.nodup_range).2 fun j => ⟨fun h => List.mem_range.2 (h1 j h), fun h => h2 j (List.mem_range.1 h)⟩
  have e : (List.range t.length).map (fun j => (t[j]?.map (·.1)).getD ByteArray.empty) = t.map (·.1) := by
    apply List.ext_getElem?
    intro j
    rw [List.getElem?_map, List.getElem?_map]
    by_cases hj : j < t.length
    · rw [List.getElem?_range hj]; simp [hj]
    · rw [List.getElem?_eq_none (by simp; omega), List.getElem?_eq_none (by omega)]; rfl
  exact e ▸ hp.map _
theorem appseq_ok (t : KeyT) (km b : Nat) (ht : t.length ≤ 2^40) (H : List Blk) (hb : H[b]? = some (.box 107 [.hm km])) (hk : H[km]? = some (.map (strM okA t))) :
    ACalls Tryz.prog 138 [nilS, .fn (.func 90) [] [.bp b 0]] H (fun e H' => ∃ ns, ns.Perm (t.map (·.1)) ∧ e = .ret (stsS H.length ns) ∧ H' = H ++ [stsB ns]) := by
  refine acalls_under fun hu _ => acalls_tidy (acalls_spare 1 (acalls_of_vcM (hn := fun d => d == 11) (od := fun _ => none) Tryz.func138 rfl (by kernel_rfl) ?_))
  have hbl := lt_of_get hb
  have hkl := lt_of_get hk
  obtain ⟨G, hG⟩ : ∃ G : List ByteArray → List Blk, ∀ l, G l = H ++ [stsB l, .box 54 [stsS H.length l]] := ⟨_, fun _ => rfl⟩
  have hG0 : H ++ [Blk.pend, .box 54 [nilS]] = G [] := by rw [hG]; simp [ownB, ownS]
  have gl : ∀ l, (G l).length = H.length + 2 := fun l => by rw [hG]; simp
  have g0 : ∀ l L, (G l ++ L)[H.length]? = some (stsB l) := fun l L => by rw [hG]; simp
  have g1 : ∀ l L, (G l ++ L)[H.length + 1]? = some (.box 54 [stsS H.length l]) := fun l L => by rw [hG]; simp
  have gs : ∀ l l' L, ((G l ++ L).set H.length (stsB l')).set (H.length + 1) (.box 54 [stsS H.length l']) = G l' ++ L := fun l l' L => by rw [hG, hG]; simp
  have gg : ∀ l l' L, ((G l ++ L).set H.length (stsB l'))[H.length + 1]? = some (.box 54 [stsS H.length l]) := fun l l' L => by rw [List.getElem?_set_ne (by omega)]; exact g1 l L
  have go : ∀ l i x, H[i]? = some x → (G l)[i]? = some x := fun l i x h => by rw [hG]; exact get_app_old h _
  simp -dsimp
  rw [hG0]
  refine awp_rangeN (t.map fun x => [St x.1]) (fun A => A[b]? = some (.box 107 [.hm km]) ∧ A[km]? = some (.map (strM okA t))) (fun s A => A = G (nsOf t s) ∧ s.length ≤ t.length) (fun _ _ => False) (by kernel_rfl) rfl (by simp only [List.mem_map]; rintro e ⟨p, _, rfl⟩; rfl) ?_ ⟨rfl, Nat.zero_le _⟩ ?_ ?_ ?_ ?_ ?_
  · rw [gl]
    intro k J Jx hJ hy A h0
    refine mkeys_seq t km b (H.length + 2 + 2) (by omega) (by omega) k J Jx (fun s A h => ?_) hy A h0
    obtain ⟨h1, A0, bb, rfl, h2, h3, h4⟩ := hJ s A h
    exact ⟨h1, get_app_old h3 _, get_app_old h4 _⟩
  · rintro s A ⟨rfl, _⟩
    exact ⟨by rw [gl, gl], go _ _ _ hb, go _ _ _ hk⟩
  · rintro ex A h
    exact h.elim
  · rintro s j A B e hs1 hs2 hj he ⟨rfl, hsl⟩
    rw [List.getElem?_map] at he
    obtain ⟨⟨n, x⟩, hp, rfl⟩ := Option.map_eq_some_iff.1 he
    have hjl : j < t.length := (List.getElem?_eq_some_iff.1 hp).1
    simp only [List.length_map] at hs2
    have hlt := nodup_less hs1 hs2 hj hjl
    have hns : nsOf t (s ++ [j]) = nsOf t s ++ [n] := by unfold nsOf; simp [hp]
    have hnl : (nsOf t s).length = s.length := by unfold nsOf; simp
    refine awpW_of_vc (hn := fun _ => false) (od := fun _ => none) (by kernel_rfl) ?_
    simp -dsimp
    intro B' hB'
    refine awpW_of_vc (hn := fun d => d == 11) (od := fun _ => none) (by kernel_rfl) ?_
    obtain ⟨W, hW⟩ : ∃ W, W = nsOf t s := ⟨_, rfl⟩
    rw [← hW] at hns hnl ⊢
    simp -dsimp [g1]
    refine appendVW_own (k := H.length) (es := W.map fun s => [St s]) (g0 W B') (by simp; omega) (by simp; omega) ?_
    have e : (W.map fun s => [St s]) ++ [[St n]] = (W ++ [n]).map fun s => [St s] := by simp
    rw [e]
    have gg' := gg W (W ++ [n]) B'
    have gs' := gs W (W ++ [n]) B'
    obtain ⟨V, hV⟩ : ∃ V, V = (G W ++ B').set H.length (stsB (W ++ [n])) := ⟨_, rfl⟩
    obtain ⟨sx, hsx⟩ : ∃ sx, sx = ownS H.length ((W ++ [n]).map fun s => [St s]) := ⟨_, rfl⟩
    have gs'' : V.set (H.length + 1) (.box 54 [ownS H.length ((W ++ [n]).map fun s => [St s])]) = G (W ++ [n]) ++ B' := by rw [hV]; exact gs'
    rw [← hsx] at gs''
    rw [← hV, ← hsx]
    rw [← hV] at gg'
    have o1 : AV.one sx = true := by rw [hsx]; exact one_ownS _ _
    have o2 : avCells sx = some [sx] := by rw [hsx]; exact avCells_ownS _ _
    simp -dsimp [gg', gs'', o1, o2]
    exact roundEnd_of (G (W ++ [n])) [] (by simp) ⟨by rw [hns], by omega⟩
  · rintro s A C hs1 hs2 hs3 ⟨rfl, _⟩
    simp only [List.length_map] at hs2 hs3
    have hperm := nsOf_perm hs1 hs2 hs3
    obtain ⟨W, hW⟩ : ∃ W, W = nsOf t s := ⟨_, rfl⟩
    rw [← hW] at hperm ⊢
    have d0 : (G W ++ .dfr true :: C)[H.length + 2]? = some (.dfr true) := by rw [hG]; simp
    have d1 : (G W ++ .dfr true :: C).set (H.length + 2) (.dfr false) = G W ++ .dfr false :: C := by rw [hG]; simp
    have hGl := gl []
    simp -dsimp [g1, gl, d0, d1]
    rw [hG]
    have e : H ++ [stsB W, Blk.box 54 [stsS H.length W]] ++ .dfr false :: C = (H ++ [stsB W]) ++ (.box 54 [stsS H.length W] :: .dfr false :: C) := by simp
    rw [e]
    exact tidy_to (by simp) (fun h => underH_appF (n := H.length) (by simp) hu (fun b hb => by
      obtain rfl := List.mem_singleton.1 hb
      exact under_ownB_plain (sts_frzB _))) (under_ownS _ _ _ (by simp)) ⟨W, hperm, rfl, rfl⟩
  · rintro ex A C h
    exact h.elim
theorem collect_ok (t : KeyT) (km b : Nat) (ht : t.length ≤ 2^40) (H : List Blk) (hb : H[b]? = some (.box 107 [.hm km])) (hk : H[km]? = some (.map (strM okA t))) :
    ACalls Tryz.prog 88 [.fn (.func 90) [] [.bp b 0]] H (fun e H' => ∃ ns, ns.Perm (t.map (·.1)) ∧ e = .ret (stsS H.length ns) ∧ H' = H ++ [stsB ns]) := by
  refine acalls_of_vc (hn := fun _ => false) (od := fun _ => none) Tryz.func88 rfl (by kernel_rfl) ?_
  simp -dsimp
  refine acallsW_of (appseq_ok t km b ht H hb hk) ?_
  rintro e _ ⟨ns, hp, rfl, rfl⟩
  simp -dsimp
  exact ⟨ns, hp, rfl, rfl⟩
def sortB (l : List ByteArray) : List ByteArray := ((l.map fun n => n.data.toList).mergeSort fun x y => decide (x ≤ y)).map fun x => ⟨x.toArray⟩
theorem sortB_perm (l : List ByteArray) : (sortB l).Perm l := by
  have h := (List.mergeSort_perm (l.map fun n => n.data.toList) (fun x y => decide (x ≤ y))).map fun x : List UInt8 => (⟨x.toArray⟩ : ByteArray)
  have e : (l.map fun n => n.data.toList).map (fun x : List UInt8 => (⟨x.toArray⟩ : ByteArray)) = l := by
    rw [List.map_map]
    conv => rhs; rw [← List.map_id l]
    exact List.map_congr_left fun n _ => by simp
  unfold sortB
  rw [e] at h
  exact h
theorem oneE_sts (l : List (List UInt8)) : Mu.oneE encStr l = (l.map fun x => (⟨x.toArray⟩ : ByteArray)).map fun s => [St s] := by
  unfold Mu.oneE; rw [List.map_map]; rfl
theorem sorts_ok (l : List ByteArray) (hl : l.length ≤ 2^40) (k : Nat) (H : List Blk) (hK : H[k]? = some (.row 9 1 (l.map fun s => [St s]))) : ACalls Tryz.prog 89 [.hs k 0 l.length l.length] H (fun e H' => e = .ret (.tup []) ∧ H' = H.set k (.row 9 1 ((sortB l).map fun s => [St s]))) := by
  obtain ⟨xs, hxs⟩ : ∃ xs, xs = l.map fun n => n.data.toList := ⟨_, rfl⟩
  have hxl : xs.length = l.length := by rw [hxs]; simp
  have e1 : l = xs.map fun x => (⟨x.toArray⟩ : ByteArray) := by
    rw [hxs, List.map_map]
    conv => lhs; rw [← List.map_id l]
    exact (List.map_congr_left fun n _ => by simp)
  have e2 : (sortB l).map (fun s => [St s]) = Mu.oneE encStr (xs.mergeSort fun x y => decide (x ≤ y)) := by rw [oneE_sts, sortB, hxs]
  have e3 : (l.map fun s => [St s]) = Mu.oneE encStr xs := by rw [oneE_sts, ← e1]
  rw [e2, ← hxl]
  rw [e3] at hK
  refine acalls_sort1 (enc := encStr) (fun x => rfl) xs (xs.mergeSort fun x y => decide (x ≤ y)) (List.length_mergeSort _) (fun blk cap w hH hb => ?_) hK
  exact AnyM.slices_Sort_string Tryz.sortStr blk 0 cap xs w hH hb (by omega)
theorem sorts0_ok (H : List Blk) : ACalls Tryz.prog 89 [nilS] H (fun e H' => e = .ret (.tup []) ∧ H' = H) := by
  intro B w0 cx vals hR hH hA
  subst hH
  obtain ⟨v1, vs1, rfl, r1, hA1⟩ := hA.cons_inv
  obtain rfl := hA1.nil_inv
  obtain rfl := r1.v_inv
  refine (AnyM.slices_Sort_string_none Tryz.sortStr none 0 cx.w).mono ?_
  rintro e w' ⟨rfl, rfl⟩
  exact ⟨cx, .tup [], rfl, hR, Le.refl _, tup_nil_undef _ _, rfl, rfl⟩
theorem sorted_ok (t : KeyT) (km b : Nat) (ht : t.length ≤ 2^40) (H : List Blk) (hb : H[b]? = some (.box 107 [.hm km])) (hk : H[km]? = some (.map (strM okA t))) :
    ACalls Tryz.prog 46 [.fn (.func 90) [] [.bp b 0]] H (fun e H' => ∃ ns, ns.Perm (t.map (·.1)) ∧ e = .ret (stsS H.length (sortB ns)) ∧ H' = H ++ [stsB (sortB ns)]) := by
  refine acalls_of_vc (hn := fun _ => false) (od := fun _ => none) Tryz.func46 rfl (by kernel_rfl) ?_
  simp -dsimp
  refine acallsW_of (collect_ok t km b ht H hb hk) ?_
  rintro e _ ⟨ns, hp, rfl, rfl⟩
  have hnl : ns.length = t.length := by rw [hp.length_eq]; simp
  by_cases hne : ns = []
  · subst hne
    have e0 : sortB [] = [] := by unfold sortB; simp
    have c := fun H => sorts0_ok H
    simp -dsimp
    refine acallsW_det (c _) ?_
    simp -dsimp
    exact ⟨[], hp, by rw [e0], by rw [e0]⟩
  · have hne2 : sortB ns ≠ [] := fun h => hne (by have := (sortB_perm ns).length_eq; rw [h] at this; exact List.eq_nil_of_length_eq_zero this.symm)
    have hb1 : stsB ns = .row 9 1 (ns.map fun s => [St s]) := by simp [ownB, hne]
    have hb2 : stsB (sortB ns) = .row 9 1 ((sortB ns).map fun s => [St s]) := by simp [ownB, hne2]
    have hs1 : stsS H.length ns = .hs H.length 0 ns.length ns.length := by simp [ownS, hne]
    have hs2 : stsS H.length (sortB ns) = .hs H.length 0 ns.length ns.length := by simp [ownS, hne2, (sortB_perm ns).length_eq]
    have c := sorts_ok ns (by omega) H.length (H ++ [stsB ns]) (by rw [hb1]; simp)
    rw [hs1]
    simp -dsimp
    refine acallsW_of c ?_
    rintro e _ ⟨rfl, rfl⟩
    simp -dsimp
    exact ⟨ns, hp, hs2.symm, by rw [hb2]⟩
end Go.Proofs
