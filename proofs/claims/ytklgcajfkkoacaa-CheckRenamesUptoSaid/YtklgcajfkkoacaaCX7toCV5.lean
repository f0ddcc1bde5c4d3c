/- The document: what is asked of registers first. -/
import Derived.Test.YtklgcajfkkoacaaFwUtoCX6
set_option linter.unusedVariables false
set_option linter.unusedSimpArgs false
set_option maxHeartbeats 4000000
set_option maxRecDepth 100000
namespace Go.Proofs
open Go.Mu
theorem snoc_all {α : Type} {p : α → Prop} {l : List α} {n : Nat} {w : α} (hw : l[n]? = some w) (h : ∀ u ∈ l.take n, p u) (hp : p w) : ∀ u ∈ l.take (n + 1), p u := by
  intro u hu
  rw [List.take_add_one, hw] at hu
  rcases List.mem_append.1 hu with hu | hu
  · exact h u hu
  · have : u = w := by simpa using hu
    subst this; exact hp
theorem rg_at {regs : List Int} {l : Linear} (hl : (regs.length : Int) = l.vars) {v : Int} (h : 0 ≤ v ∧ v < l.vars) : regs[v.toNat]? = some (rg regs v) ∧ 0 ≤ v ∧ v < regs.length := ⟨rg_get h.1 (by omega), h.1, by omega⟩
structure RBeg (l : Linear) (regs : List Int) : Prop where
  len : (regs.length : Int) = l.vars
  rng : ∀ n ∈ regs, -1 ≤ n ∧ n < 11
  has : ∀ p ∈ l.params, 0 ≤ rg regs p
  once : ∀ (i k : Nat) (p q : Int), l.params[i]? = some p → l.params[k]? = some q → k ≠ i → rg regs q ≠ rg regs p
  live : ∀ v ∈ liveL l 0, v ∉ l.params → 0 ≤ rg regs v ∧ ∀ p ∈ l.params, rg regs p ≠ rg regs v
theorem beg_iff {l : Linear} (ho : LinOk l) {regs : List Int} : begOk l regs = true ↔ RBeg l regs := by
  unfold begOk
  simp only [Bool.and_eq_true, decide_eq_true_eq, List.all_eq_true, Bool.or_eq_true]
  constructor
  · rintro ⟨⟨⟨⟨⟨h1, h2⟩, h3⟩, h4⟩, h5⟩, h6⟩
    refine ⟨h1, h2, h3, fun i k p q hp hq hne he => ?_, fun v hv hvp => ⟨h4 v hv, fun p hp => ?_⟩⟩
    · have e1 : (l.params.map (rg regs))[i]? = some (rg regs p) := by rw [List.getElem?_map, hp]; rfl
      have e2 : (l.params.map (rg regs))[k]? = some (rg regs p) := by rw [List.getElem?_map, hq, ← he]; rfl
      obtain ⟨a1, a2⟩ := List.getElem?_eq_some_iff.1 e1
      obtain ⟨b1, b2⟩ := List.getElem?_eq_some_iff.1 e2
      exact hne ((List.getElem_inj h5).1 (b2.trans a2.symm))
    · rcases h6 v hv p hp with e | e
      · subst e; exact absurd hp hvp
      · exact e
  · rintro ⟨h1, h2, h3, h4, h5⟩
    refine ⟨⟨⟨⟨⟨h1, h2⟩, h3⟩, fun v hv => ?_⟩, ?_⟩, fun v hv p hp => ?_⟩
    · by_cases hvp : v ∈ l.params
      · exact h3 v hvp
      · exact (h5 v hv hvp).1
    · rw [List.nodup_iff_pairwise_ne, List.pairwise_iff_getElem]
      intro i k hi hk hik he
      simp only [List.length_map] at hi hk
      rw [List.getElem_map, List.getElem_map] at he
      exact h4 i k _ _ (List.getElem?_eq_getElem hi) (List.getElem?_eq_getElem hk) (by omega) he.symm
    · by_cases hvp : v ∈ l.params
      · by_cases e : p = v
        · exact .inl e
        · right
          obtain ⟨i, hi⟩ := List.mem_iff_getElem?.1 hvp
          obtain ⟨k, hk⟩ := List.mem_iff_getElem?.1 hp
          exact h4 i k v p hi hk (fun e2 => e (by rw [e2, hi, Option.some.injEq] at hk; exact hk.symm))
      · exact .inr ((h5 v hv hvp).2 p hp)
theorem rbeg_ok (l : Linear) (hs : l.Sm) (ho : LinOk l) (regs : List Int) (hrl : regs.length ≤ 2^36) (H : List Blk) : ACalls Try.prog 40 [.agg l.cells, Int.sl regs, Ints.sl (lvL l)] H (fun e H' => e = .ret (Bo (begOk l regs)) ∧ H' = H) := by
  refine acalls_tidy (acalls_of_vc (hn := fun _ => false) (od := fun _ => none) Try.func40 rfl (by kernel_rfl) ?_)
  have cf := fun H => first_ok l hs ho H
  simp only [Linear.cells] at cf
  have hv := ho.vars
  have hpl := hs.params
  have hlv := liveL_len l 0
  have pin := ho.params
  have lin := fun v (hv : v ∈ liveL l 0) => ((liveL_mem l 0 v).1 hv).1
  obtain ⟨E, hE⟩ : ∃ E, E = begOk l regs := ⟨_, rfl⟩
  have yes : RBeg l regs → ∀ L, Tidy H (fun e H' => e = .ret (Bo E) ∧ H' = H) (.ret (Bo true)) (H ++ L) := fun h L => by
    have : E = true := by rw [hE]; exact (beg_iff ho).2 h
    rw [this]; exact tidy_same rfl ⟨rfl, rfl⟩
  have no : ¬ RBeg l regs → ∀ L, Tidy H (fun e H' => e = .ret (Bo E) ∧ H' = H) (.ret (Bo false)) (H ++ L) := fun h L => by
    have : E = false := by rw [hE, Bool.eq_false_iff]; exact fun q => h ((beg_iff ho).1 q)
    rw [this]; exact tidy_same rfl ⟨rfl, rfl⟩
  rw [← hE]
  replace yes := Hid.mk yes
  replace no := Hid.mk no
  have pin := Hid.mk pin
  have lin := Hid.mk lin
  clear hE
  obtain ⟨li, hli⟩ : ∃ li, li = liveL l 0 := ⟨_, rfl⟩
  rw [← hli] at cf hlv lin
  obtain ⟨B, hB⟩ : ∃ B, B = H ++ [.box 25 [I l.vars, Int.sl l.params, Int.sl l.rets, I l.frame, Line.sl l.code]] := ⟨_, rfl⟩
  have hb : B[H.length]? = some (.box 25 [I l.vars, Int.sl l.params, Int.sl l.rets, I l.frame, Line.sl l.code]) := by rw [hB]; simp
  have hli := Hid.mk hli
  simp -dsimp
  rw [← hB]
  by_cases hlen : (regs.length : Int) = l.vars
  rotate_left
  · have hlb : ((regs.length : Int) != l.vars) = true := by simpa using hlen
    simp -dsimp [hb, hlb]
    rw [hB]
    exact no.out (fun h => hlen h.len) _
  have hlb : ((regs.length : Int) != l.vars) = false := by simpa using hlen
  simp -dsimp [hb, hlb]
  have hlen := Hid.mk hlen
  replace hB := Hid.mk hB
  -- each is a register's number, or none
  refine loop_rule (hn := fun _ => false) (od := fun _ => none) (fun (n : Nat) f M => B = M ∧ f 1 = Int.sl regs ∧ f 2 = Ints.sl (lvL l) ∧ f 3 = .bp H.length 0 ∧ f 7 = I n ∧ n ≤ regs.length ∧ Hid (∀ u ∈ regs.take n, -1 ≤ u ∧ u < 11)) (fun n => regs.length - n) (by kernel_rfl) 0 ⟨rfl, by simp, by simp, by simp, by simp, by omega, ⟨by simp⟩⟩ ?_
  rintro n f _ ⟨rfl, f1, f2, f3, f7, hn, hall⟩
  simp -dsimp [f1, f2, f3, f7]
  refine condVW_introD (fun hlt => ?_) (fun hlt => ?_)
  · have hlt' : n < regs.length := by omega
    have hx := List.getElem?_eq_getElem hlt'
    have hm := List.getElem_mem hlt'
    obtain ⟨w, hw⟩ : ∃ w, w = regs[n] := ⟨_, rfl⟩
    rw [← hw] at hx hm
    clear hw
    have hm := Hid.mk hm
    have nx := fun hp => snoc_all hx hall.out hp
    replace nx := Hid.mk nx
    simp -dsimp [f1, f2, f3, f7, hx]
    by_cases h1 : w < -1
    · have d1 : decide (w < -1) = true := decide_eq_true h1
      simp -dsimp [f1, f2, f3, f7, hx, d1]
      rw [hB.out]
      exact no.out (fun h => by have := h.rng w hm.out; omega) _
    · have d1 : decide (w < -1) = false := decide_eq_false h1
      simp -dsimp [f1, f2, f3, f7, hx, d1]
      refine condVW_introD (fun h2 => ?_) (fun h2 => ?_)
      · simp -dsimp [f1, f2, f3, f7, hx]
        rw [hB.out]
        exact no.out (fun h => by have := h.rng w hm.out; omega) _
      · simp -dsimp [f1, f2, f3, f7, hx]
        exact ⟨n + 1, by omega, wrapS (by omega), by omega, ⟨nx.out (by omega)⟩⟩
  have hrng : Hid (∀ u ∈ regs, -1 ≤ u ∧ u < 11) := ⟨fun u hu => hall.out u (by rw [List.take_of_length_le (by omega)]; exact hu)⟩
  clear hall
  simp -dsimp [f1, f2, f3, f7, hb]
  refine acallsW_det (cf _) ?_
  simp -dsimp [f1, f2, f3, f7, hb]
  clear cf
  have rgp := fun p hp => rg_at hlen.out (pin.out p hp)
  have rgl := fun v hv => rg_at hlen.out (lin.out v hv)
  replace rgp := Hid.mk rgp
  replace rgl := Hid.mk rgl
  -- parameters
  refine loop_rule (hn := fun _ => false) (od := fun _ => none) (fun (i : Nat) f M => B = M ∧ f 1 = Int.sl regs ∧ f 3 = .bp H.length 0 ∧ f 8 = Int.sl li ∧ f 9 = I i ∧ i ≤ l.params.length ∧ Hid ((∀ u ∈ l.params.take i, 0 ≤ rg regs u) ∧ ∀ (j k : Nat) (p q : Int), j < i → l.params[j]? = some p → l.params[k]? = some q → k ≠ j → rg regs q ≠ rg regs p)) (fun i => l.params.length - i) (by kernel_rfl) 0 ⟨rfl, by simp [f1], by simp [f3], by simp, by simp, by omega, ⟨by simp, fun j k p q h => by omega⟩⟩ ?_
  clear f1 f2 f3 f7 f
  rintro i f _ ⟨rfl, f1, f3, f8, f9, hi, hall⟩
  simp -dsimp [f1, f3, f8, f9, hb]
  refine condVW_introD (fun hlt => ?_) (fun hlt => ?_)
  · have hlt' : i < l.params.length := by omega
    have hx := List.getElem?_eq_getElem hlt'
    have hm := List.getElem_mem hlt'
    obtain ⟨p, hp⟩ : ∃ p, p = l.params[i] := ⟨_, rfl⟩
    rw [← hp] at hx hm
    clear hp
    obtain ⟨r1, r2, r3⟩ := rgp.out p hm
    have hm := Hid.mk hm
    have nx := fun hp => snoc_all hx hall.out.1 hp
    replace nx := Hid.mk nx
    simp -dsimp [f1, f3, f8, f9, hb, hx]
    refine ⟨r2, ?_⟩
    simp -dsimp [f1, f3, f8, f9, hb, hx, r1]
    refine condVW_introD (fun h1 => ?_) (fun h1 => ?_)
    · simp -dsimp [f1, f3, f8, f9, hb, hx, r1]
      rw [hB.out]
      exact no.out (fun h => by have := h.has p hm.out; omega) _
    simp -dsimp [f1, f3, f8, f9, hb, hx, r1]
    refine loop_rule (hn := fun _ => false) (od := fun _ => none) (fun (k : Nat) f M => B = M ∧ f 1 = Int.sl regs ∧ f 3 = .bp H.length 0 ∧ f 8 = Int.sl li ∧ f 9 = I i ∧ f 10 = I p ∧ f 11 = I k ∧ k ≤ l.params.length ∧ Hid (∀ (k' : Nat) (q : Int), k' < k → l.params[k']? = some q → k' ≠ i → rg regs q ≠ rg regs p)) (fun k => l.params.length - k) (by kernel_rfl) 0 ⟨rfl, by simp [f1], by simp [f3], by simp [f8], by simp [f9], by simp, by simp, by omega, ⟨fun k q h => by omega⟩⟩ ?_
    clear f1 f3 f8 f9 f
    rintro k f _ ⟨rfl, f1, f3, f8, f9, f10, f11, hk, hin⟩
    simp -dsimp [f1, f3, f8, f9, f10, f11, hb]
    refine condVW_introD (fun hlt2 => ?_) (fun hlt2 => ?_)
    · have hlt2' : k < l.params.length := by omega
      have hy := List.getElem?_eq_getElem hlt2'
      have hmy := List.getElem_mem hlt2'
      obtain ⟨q, hq⟩ : ∃ q, q = l.params[k] := ⟨_, rfl⟩
      rw [← hq] at hy hmy
      clear hq
      obtain ⟨s1, s2, s3⟩ := rgp.out q hmy
      have hmy := Hid.mk hmy
      have nxk : (k ≠ i → rg regs q ≠ rg regs p) → ∀ (k' : Nat) (q : Int), k' < k + 1 → l.params[k']? = some q → k' ≠ i → rg regs q ≠ rg regs p := fun h k' q' hk' hq' hne => by
        by_cases e : k' = k
        · subst e
          rw [hy, Option.some.injEq] at hq'
          subst hq'; exact h hne
        · exact hin.out k' q' (by omega) hq' hne
      replace nxk := Hid.mk nxk
      by_cases hki : k = i
      · subst hki
        simp -dsimp [f1, f3, f8, f9, f10, f11, hb, hy]
        exact ⟨k + 1, by omega, wrapS (by omega), by omega, ⟨nxk.out (fun h => absurd rfl h)⟩⟩
      · have hkb : ((k : Int) != (i : Int)) = true := by simp; omega
        have hkb2 : (k != i) = true := by simpa using hki
        simp -dsimp [f1, f3, f8, f9, f10, f11, hb, hy, hkb, hkb2]
        refine ⟨s2, ?_⟩
        simp -dsimp [f1, f3, f8, f9, f10, f11, hb, hy, hkb, hkb2, s1]
        refine ⟨r2, ?_⟩
        simp -dsimp [f1, f3, f8, f9, f10, f11, hb, hy, hkb, hkb2, s1, r1]
        refine condVW_introEq (fun he => ?_) (fun hne => ?_)
        · simp -dsimp [f1]
          rw [hB.out]
          exact no.out (fun h => h.once i k p q hx hy hki he) _
        · simp -dsimp [f1, f3, f8, f9, f10, f11]
          exact ⟨k + 1, by omega, wrapS (by omega), by omega, ⟨nxk.out (fun _ => hne)⟩⟩
    · simp -dsimp [f1, f3, f8, f9, f10, f11]
      refine ⟨i + 1, by omega, wrapS (by omega), by omega, ⟨nx.out (by omega), fun j k' p' q hj hp' hq hne => ?_⟩⟩
      by_cases e : j = i
      · subst e
        rw [hx, Option.some.injEq] at hp'
        subst hp'
        exact hin.out k' q (by have := (List.getElem?_eq_some_iff.1 hq).1; omega) hq hne
      · exact hall.out.2 j k' p' q (by omega) hp' hq hne
  have hhas : Hid (∀ p ∈ l.params, 0 ≤ rg regs p) := ⟨fun u hu => hall.out.1 u (by rw [List.take_of_length_le (by omega)]; exact hu)⟩
  have honce : Hid (∀ (i k : Nat) (p q : Int), l.params[i]? = some p → l.params[k]? = some q → k ≠ i → rg regs q ≠ rg regs p) := ⟨fun j k p q hp hq hne => hall.out.2 j k p q (by have := (List.getElem?_eq_some_iff.1 hp).1; omega) hp hq hne⟩
  clear hall
  simp -dsimp [f1, f3, f8]
  -- what is live
  refine loop_rule (hn := fun _ => false) (od := fun _ => none) (fun (n : Nat) f M => B = M ∧ f 1 = Int.sl regs ∧ f 3 = .bp H.length 0 ∧ f 8 = Int.sl li ∧ f 12 = I n ∧ n ≤ li.length ∧ Hid (∀ v ∈ li.take n, v ∉ l.params → 0 ≤ rg regs v ∧ ∀ p ∈ l.params, rg regs p ≠ rg regs v)) (fun n => li.length - n) (by kernel_rfl) 0 ⟨rfl, by simp [f1], by simp [f3], by simp [f8], by simp, by omega, ⟨by simp⟩⟩ ?_
  clear f1 f3 f8 f9 f
  rintro n f _ ⟨rfl, f1, f3, f8, f12, hn, hall⟩
  simp -dsimp [f1, f3, f8, f12]
  refine condVW_introD (fun hlt => ?_) (fun hlt => ?_)
  · have hlt' : n < li.length := by omega
    have hx := List.getElem?_eq_getElem hlt'
    have hm := List.getElem_mem hlt'
    obtain ⟨w, hw⟩ : ∃ w, w = li[n] := ⟨_, rfl⟩
    rw [← hw] at hx hm
    clear hw
    obtain ⟨r1, r2, r3⟩ := rgl.out w hm
    have hm := Hid.mk hm
    have nx := fun hp => snoc_all hx hall.out hp
    replace nx := Hid.mk nx
    simp -dsimp [f1, f3, f8, f12, hx, hb]
    -- is it a parameter?
    refine loop_rule (hn := fun _ => false) (od := fun _ => none) (fun (k : Nat) f M => B = M ∧ f 1 = Int.sl regs ∧ f 3 = .bp H.length 0 ∧ f 8 = Int.sl li ∧ f 12 = I n ∧ f 13 = I w ∧ f 14 = Bo (decide (w ∈ l.params.take k)) ∧ f 15 = I k ∧ k ≤ l.params.length) (fun k => l.params.length - k) (by kernel_rfl) 0 (by simp [f1, f3, f8, f12]) ?_
    clear f1 f3 f8 f12 f
    rintro k f _ ⟨rfl, f1, f3, f8, f12, f13, f14, f15, hk⟩
    simp -dsimp [f1, f3, f8, f12, f13, f14, f15, hb]
    refine condVW_introD (fun hlt2 => ?_) (fun hlt2 => ?_)
    · have hlt2' : k < l.params.length := by omega
      have hy := List.getElem?_eq_getElem hlt2'
      have htk : l.params.take (k + 1) = l.params.take k ++ [l.params[k]] := List.take_succ_eq_append_getElem hlt2'
      obtain ⟨q, hq⟩ : ∃ q, q = l.params[k] := ⟨_, rfl⟩
      rw [← hq] at hy htk
      clear hq
      have hsn : decide (w ∈ l.params.take (k + 1)) = (decide (w ∈ l.params.take k) || q == w) := by
        rw [htk, Bool.eq_iff_iff]
        simp only [List.mem_append, List.mem_singleton, decide_eq_true_eq, Bool.or_eq_true, beq_iff_eq]
        exact ⟨fun h => h.imp id Eq.symm, fun h => h.imp id Eq.symm⟩
      by_cases hin : w ∈ l.params.take k
      · have hd : decide (w ∈ l.params.take k) = true := decide_eq_true hin
        rw [hd] at f14
        rw [hd, Bool.true_or] at hsn
        simp -dsimp [f1, f3, f8, f12, f13, f14, f15, hb, hy]
        exact ⟨k + 1, by omega, of_decide_eq_true hsn, wrapS (by omega), by omega⟩
      · have hd : decide (w ∈ l.params.take k) = false := decide_eq_false hin
        rw [hd] at f14
        rw [hd, Bool.false_or] at hsn
        simp -dsimp [f1, f3, f8, f12, f13, f14, f15, hb, hy]
        exact ⟨k + 1, by omega, hsn.symm, wrapS (by omega), by omega⟩
    · have hall2 : l.params.take k = l.params := List.take_of_length_le (by omega)
      rw [hall2] at f14
      by_cases hwp : w ∈ l.params
      · simp -dsimp [f1, f3, f8, f12, f13, f14, f15, hb, hwp]
        exact ⟨n + 1, by omega, wrapS (by omega), by omega, ⟨nx.out (fun h => absurd hwp h)⟩⟩
      · simp -dsimp [f1, f3, f8, f12, f13, f14, f15, hb, hwp]
        refine ⟨r2, ?_⟩
        simp -dsimp [f1, f3, f8, f12, f13, f14, f15, hb, r1]
        refine condVW_introD (fun h1 => ?_) (fun h1 => ?_)
        · simp -dsimp [f1]
          rw [hB.out]
          exact no.out (fun h => by have := (h.live w (by rw [← hli.out]; exact hm.out) hwp).1; omega) _
        simp -dsimp [f1, f3, f8, f12, f13, f14, f15, hb, r1]
        refine loop_rule (hn := fun _ => false) (od := fun _ => none) (fun (k : Nat) f M => B = M ∧ f 1 = Int.sl regs ∧ f 3 = .bp H.length 0 ∧ f 8 = Int.sl li ∧ f 12 = I n ∧ f 13 = I w ∧ f 16 = I k ∧ k ≤ l.params.length ∧ Hid (∀ u ∈ l.params.take k, rg regs u ≠ rg regs w)) (fun k => l.params.length - k) (by kernel_rfl) 0 ⟨rfl, by simp [f1], by simp [f3], by simp [f8], by simp [f12], by simp [f13], by simp, by omega, ⟨by simp⟩⟩ ?_
        clear f1 f3 f8 f12 f13 f14 f15 hk hlt2 hall2 k f
        rintro k f _ ⟨rfl, f1, f3, f8, f12, f13, f16, hk, hin⟩
        simp -dsimp [f1, f3, f8, f12, f13, f16, hb]
        refine condVW_introD (fun hlt2 => ?_) (fun hlt2 => ?_)
        · have hlt2' : k < l.params.length := by omega
          have hy := List.getElem?_eq_getElem hlt2'
          have hmy := List.getElem_mem hlt2'
          obtain ⟨q, hq⟩ : ∃ q, q = l.params[k] := ⟨_, rfl⟩
          rw [← hq] at hy hmy
          clear hq
          obtain ⟨s1, s2, s3⟩ := rgp.out q hmy
          have hmy := Hid.mk hmy
          have nxk := fun hp => snoc_all hy hin.out hp
          replace nxk := Hid.mk nxk
          simp -dsimp [f1, f3, f8, f12, f13, f16, hb, hy]
          refine ⟨s2, ?_⟩
          simp -dsimp [f1, f3, f8, f12, f13, f16, hb, hy, s1]
          refine ⟨r2, ?_⟩
          simp -dsimp [f1, f3, f8, f12, f13, f16, hb, hy, s1, r1]
          refine condVW_introEq (fun he => ?_) (fun hne => ?_)
          · simp -dsimp [f1]
            rw [hB.out]
            exact no.out (fun h => (h.live w (by rw [← hli.out]; exact hm.out) hwp).2 q hmy.out he) _
          · simp -dsimp [f1, f3, f8, f12, f13, f16]
            exact ⟨k + 1, by omega, wrapS (by omega), by omega, ⟨nxk.out hne⟩⟩
        · simp -dsimp [f1, f3, f8, f12, f13, f16]
          exact ⟨n + 1, by omega, wrapS (by omega), by omega, ⟨nx.out (fun _ => ⟨by omega, fun p hp => hin.out p (by rw [List.take_of_length_le (by omega)]; exact hp)⟩)⟩⟩
  · simp -dsimp [f1, f3, f8]
    rw [hB.out]
    exact yes.out ⟨hlen.out, hrng.out, hhas.out, honce.out, fun v hv => hall.out v (by rw [List.take_of_length_le (by omega), hli.out]; exact hv)⟩ _
end Go.Proofs
namespace Go.Proofs
open Go.Mu
structure RRight (l : Linear) (regs : List Int) (i : Nat) (x : Line) : Prop where
  uses : ∀ v ∈ x.uses, 0 ≤ rg regs v
  defs : ∀ d ∈ x.defs, 0 ≤ rg regs d ∧ ∀ b ∈ behL l i, b ≠ d → rg regs b = rg regs d → x.ins.kind = 2 ∧ x.ins.a = b
theorem right_iff {l : Linear} {regs : List Int} {i : Nat} {x : Line} (hx : l.code[i]? = some x) : rightOk l regs i = true ↔ RRight l regs i x := by
  unfold rightOk
  rw [hx]
  simp only [Bool.and_eq_true, decide_eq_true_eq, List.all_eq_true, Bool.or_eq_true]
  constructor
  · rintro ⟨⟨h1, h2⟩, h3⟩
    refine ⟨h1, fun d hd => ⟨h2 d hd, fun b hb hne he => ?_⟩⟩
    rcases h3 d hd b hb with (e | e) | e
    · exact absurd e hne
    · exact e
    · exact absurd he e
  · rintro ⟨h1, h2⟩
    refine ⟨⟨h1, fun d hd => (h2 d hd).1⟩, fun d hd b hb => ?_⟩
    by_cases e1 : b = d
    · exact .inl (.inl e1)
    · by_cases e2 : rg regs b = rg regs d
      · exact .inl (.inr ((h2 d hd).2 b hb e1 e2))
      · exact .inr e2
theorem behL_len {l : Linear} (ho : LinOk l) (i : Nat) : (behL l i).length ≤ l.vars.toNat := by
  have := rising_len (a := 0) (b := l.vars) (l := behL l i) (riseL_rise _) fun y hy => behL_in ho hy
  omega
theorem rright_ok (l : Linear) (hs : l.Sm) (ho : LinOk l) (regs : List Int) (hrl : regs.length ≤ 2^36) (hlen : (regs.length : Int) = l.vars) (i : Nat) (hi : i < l.code.length) (H : List Blk) : ACalls Try.prog 41 [.agg l.cells, Int.sl regs, Ints.sl (lvL l), I i] H (fun e H' => e = .ret (Bo (rightOk l regs i)) ∧ H' = H) := by
  refine acalls_tidy (acalls_of_vc (hn := fun _ => false) (od := fun _ => none) Try.func41 rfl (by kernel_rfl) ?_)
  obtain ⟨x, hx⟩ : ∃ x, l.code[i]? = some x := ⟨_, List.getElem?_eq_getElem hi⟩
  have hlx := ho.lines x (List.mem_of_getElem? hx)
  have cu := fun H => ruses_ok x l.vars hlx H
  have cb := fun H => rbehind_ok l hs ho i hi H
  simp only [Linear.cells, Line.cells] at cu cb
  have hv := ho.vars
  have ul := uses_len x
  have dl := defs_len x
  obtain ⟨_, ui, di⟩ := line_in hlx
  have uin := fun v (hv : v ∈ x.uses) => rg_at hlen (ui v ((riseL_mem _ _).1 hv))
  have din := fun v (hv : v ∈ x.defs) => rg_at hlen (di v hv)
  have bin := fun v (hv : v ∈ behL l i) => rg_at hlen (behL_in ho hv)
  have bll := behL_len ho i
  obtain ⟨E, hE⟩ : ∃ E, E = rightOk l regs i := ⟨_, rfl⟩
  have yes : RRight l regs i x → ∀ L, Tidy H (fun e H' => e = .ret (Bo E) ∧ H' = H) (.ret (Bo true)) (H ++ L) := fun h L => by
    have : E = true := by rw [hE]; exact (right_iff hx).2 h
    rw [this]; exact tidy_same rfl ⟨rfl, rfl⟩
  have no : ¬ RRight l regs i x → ∀ L, Tidy H (fun e H' => e = .ret (Bo E) ∧ H' = H) (.ret (Bo false)) (H ++ L) := fun h L => by
    have : E = false := by rw [hE, Bool.eq_false_iff]; exact fun q => h ((right_iff hx).1 q)
    rw [this]; exact tidy_same rfl ⟨rfl, rfl⟩
  rw [← hE]
  replace yes := Hid.mk yes
  replace no := Hid.mk no
  have uin := Hid.mk uin
  have din := Hid.mk din
  have bin := Hid.mk bin
  have ui := Hid.mk ui
  have di := Hid.mk di
  clear hE
  obtain ⟨us, hus⟩ : ∃ us, us = x.uses := ⟨_, rfl⟩
  obtain ⟨df, hdf⟩ : ∃ df, df = x.defs := ⟨_, rfl⟩
  obtain ⟨bh, hbh⟩ : ∃ bh, bh = behL l i := ⟨_, rfl⟩
  rw [← hus, ← hdf] at cu
  rw [← hbh] at cb bin bll
  rw [← hus] at uin ul
  rw [← hdf] at din dl
  obtain ⟨B, hB⟩ : ∃ B, B = H ++ [.box 25 [I l.vars, Int.sl l.params, Int.sl l.rets, I l.frame, Line.sl l.code]] := ⟨_, rfl⟩
  have hb : ∀ L, (B ++ L)[H.length]? = some (.box 25 [I l.vars, Int.sl l.params, Int.sl l.rets, I l.frame, Line.sl l.code]) := fun L => by rw [hB]; simp
  have hb0 := hb []
  rw [List.append_nil] at hb0
  have hBH : ∀ L, B ++ L = H ++ (.box 25 [I l.vars, Int.sl l.params, Int.sl l.rets, I l.frame, Line.sl l.code] :: L) := fun L => by rw [hB]; simp
  have hus := Hid.mk hus
  have hdf := Hid.mk hdf
  have hbh := Hid.mk hbh
  have hBH := Hid.mk hBH
  have hi2 := Hid.mk hi
  simp -dsimp
  rw [← hB]
  have hB := Hid.mk hB
  simp -dsimp [hb0, hx]
  refine acallsW_det (cu _) ?_
  simp -dsimp [hb0, hx]
  -- what it reads
  refine loop_rule (hn := fun _ => false) (od := fun _ => none) (fun (n : Nat) f M => B = M ∧ f 1 = Int.sl regs ∧ f 2 = Ints.sl (lvL l) ∧ f 3 = I i ∧ f 4 = .bp H.length 0 ∧ f 9 = Int.sl us ∧ f 10 = Int.sl df ∧ f 11 = I n ∧ n ≤ us.length ∧ Hid (∀ u ∈ us.take n, 0 ≤ rg regs u)) (fun n => us.length - n) (by kernel_rfl) 0 ⟨rfl, by simp, by simp, by simp, by simp, by simp, by simp, by simp, by omega, ⟨by simp⟩⟩ ?_
  rintro n f _ ⟨rfl, f1, f2, f3, f4, f9, f10, f11, hn, hall⟩
  simp -dsimp [f1, f2, f3, f4, f9, f10, f11]
  refine condVW_introD (fun hlt => ?_) (fun hlt => ?_)
  · have hlt' : n < us.length := by omega
    have hxn := List.getElem?_eq_getElem hlt'
    have hm := List.getElem_mem hlt'
    obtain ⟨w, hw⟩ : ∃ w, w = us[n] := ⟨_, rfl⟩
    rw [← hw] at hxn hm
    clear hw
    obtain ⟨r1, r2, r3⟩ := uin.out w hm
    have hm := Hid.mk hm
    have nx := fun hp => snoc_all hxn hall.out hp
    replace nx := Hid.mk nx
    simp -dsimp [f1, f2, f3, f4, f9, f10, f11, hxn]
    refine ⟨r2, ?_⟩
    simp -dsimp [f1, f2, f3, f4, f9, f10, f11, hxn, r1]
    refine condVW_introD (fun h1 => ?_) (fun h1 => ?_)
    · simp -dsimp [f1]
      rw [hB.out]
      exact no.out (fun h => by have := h.uses w (by rw [← hus.out]; exact hm.out); omega) _
    · simp -dsimp [f1, f2, f3, f4, f9, f10, f11]
      exact ⟨n + 1, by omega, wrapS (by omega), by omega, ⟨nx.out (by omega)⟩⟩
  have huses : Hid (∀ u ∈ us, 0 ≤ rg regs u) := ⟨fun u hu => hall.out u (by rw [List.take_of_length_le (by omega)]; exact hu)⟩
  clear hall
  simp -dsimp [f1, f2, f3, f4, f9, f10]
  -- what it sets
  refine loop_rule (hn := fun _ => false) (od := fun _ => none) (fun (n : Nat) f M => (∃ L, M = B ++ L) ∧ f 1 = Int.sl regs ∧ f 2 = Ints.sl (lvL l) ∧ f 3 = I i ∧ f 4 = .bp H.length 0 ∧ f 10 = Int.sl df ∧ f 12 = I n ∧ n ≤ df.length ∧ Hid (∀ d ∈ df.take n, 0 ≤ rg regs d ∧ ∀ b ∈ bh, b ≠ d → rg regs b = rg regs d → x.ins.kind = 2 ∧ x.ins.a = b)) (fun n => df.length - n) (by kernel_rfl) 0 ⟨⟨[], by simp⟩, by simp [f1], by simp [f2], by simp [f3], by simp [f4], by simp [f10], by simp, by omega, ⟨by simp⟩⟩ ?_
  clear f1 f2 f3 f4 f9 f10 f11 f
  rintro n f _ ⟨⟨L, rfl⟩, f1, f2, f3, f4, f10, f12, hn, hall⟩
  simp -dsimp [f1, f2, f3, f4, f10, f12]
  refine condVW_introD (fun hlt => ?_) (fun hlt => ?_)
  · have hlt' : n < df.length := by omega
    have hxn := List.getElem?_eq_getElem hlt'
    have hm := List.getElem_mem hlt'
    obtain ⟨d, hd⟩ : ∃ d, d = df[n] := ⟨_, rfl⟩
    rw [← hd] at hxn hm
    clear hd
    obtain ⟨r1, r2, r3⟩ := din.out d hm
    have hm := Hid.mk hm
    have nx := fun hp => snoc_all hxn hall.out hp
    replace nx := Hid.mk nx
    simp -dsimp [f1, f2, f3, f4, f10, f12, hxn]
    refine ⟨r2, ?_⟩
    simp -dsimp [f1, f2, f3, f4, f10, f12, hxn, r1]
    refine condVW_introD (fun h1 => ?_) (fun h1 => ?_)
    · simp -dsimp [f1]
      rw [hBH.out]
      exact no.out (fun h => by have := (h.defs d (by rw [← hdf.out]; exact hm.out)).1; omega) _
    simp -dsimp [f1, f2, f3, f4, f10, f12, hb]
    refine acallsW_det (cb _) ?_
    simp -dsimp [f1, f2, f3, f4, f10, f12, hb]
    refine loop_rule (hn := fun _ => false) (od := fun _ => none) (fun (k : Nat) f M => (∃ L, M = B ++ L) ∧ f 1 = Int.sl regs ∧ f 2 = Ints.sl (lvL l) ∧ f 3 = I i ∧ f 4 = .bp H.length 0 ∧ f 10 = Int.sl df ∧ f 12 = I n ∧ f 13 = I d ∧ f 14 = Int.sl bh ∧ f 15 = I k ∧ k ≤ bh.length ∧ Hid (∀ b ∈ bh.take k, b ≠ d → rg regs b = rg regs d → x.ins.kind = 2 ∧ x.ins.a = b)) (fun k => bh.length - k) (by kernel_rfl) 0 ⟨⟨L, rfl⟩, by simp [f1], by simp [f2], by simp [f3], by simp [f4], by simp [f10], by simp [f12], by simp, by simp, by simp, by omega, ⟨by simp⟩⟩ ?_
    clear f1 f2 f3 f4 f10 f12 f L
    rintro k f _ ⟨⟨L, rfl⟩, f1, f2, f3, f4, f10, f12, f13, f14, f15, hk, hin⟩
    simp -dsimp [f1, f2, f3, f4, f10, f12, f13, f14, f15]
    refine condVW_introD (fun hlt2 => ?_) (fun hlt2 => ?_)
    · have hlt2' : k < bh.length := by omega
      have hy := List.getElem?_eq_getElem hlt2'
      have hmy := List.getElem_mem hlt2'
      obtain ⟨b, hbb⟩ : ∃ b, b = bh[k] := ⟨_, rfl⟩
      rw [← hbb] at hy hmy
      clear hbb
      obtain ⟨s1, s2, s3⟩ := bin.out b hmy
      have hmy := Hid.mk hmy
      have nxk := fun hp => snoc_all hy hin.out hp
      replace nxk := Hid.mk nxk
      simp -dsimp [f1, f2, f3, f4, f10, f12, f13, f14, f15, hb, hx, hy]
      by_cases hbd : b = d
      · have e1 : (b != d) = false := by simp [hbd]
        simp -dsimp [f1, f2, f3, f4, f10, f12, f13, f14, f15, hb, hx, hy, e1]
        exact ⟨k + 1, by omega, wrapS (by omega), by omega, ⟨nxk.out (fun h => absurd hbd h)⟩⟩
      have e1 : (b != d) = true := by simpa using hbd
      simp -dsimp [f1, f2, f3, f4, f10, f12, f13, f14, f15, hb, hx, hy, e1]
      refine ⟨s2, ?_⟩
      simp -dsimp [f1, f2, f3, f4, f10, f12, f13, f14, f15, hb, hx, hy, e1, s1]
      refine ⟨r2, ?_⟩
      by_cases hrr : rg regs b = rg regs d
      rotate_left
      · have e2 : (rg regs b == rg regs d) = false := by simpa using hrr
        simp -dsimp [f1, f2, f3, f4, f10, f12, f13, f14, f15, hb, hx, hy, e1, s1, r1, e2]
        exact ⟨k + 1, by omega, wrapS (by omega), by omega, ⟨nxk.out (fun _ h => absurd h hrr)⟩⟩
      have e2 : (rg regs b == rg regs d) = true := by simpa using hrr
      have bad : ¬ (x.ins.kind = 2 ∧ x.ins.a = b) → ¬ RRight l regs i x := fun h q => h ((q.defs d (by rw [← hdf.out]; exact hm.out)).2 b (by rw [← hbh.out]; exact hmy.out) hbd hrr)
      replace bad := Hid.mk bad
      by_cases hk2 : x.ins.kind = 2
      rotate_left
      · have e3 : (x.ins.kind == 2) = false := by simpa using hk2
        simp -dsimp [f1, f2, f3, f4, f10, f12, f13, f14, f15, hb, hx, hy, e1, s1, r1, e2, e3]
        rw [hBH.out]
        exact no.out (bad.out (fun h => hk2 h.1)) _
      have e3 : (x.ins.kind == 2) = true := by simpa using hk2
      by_cases hab : x.ins.a = b
      · have e4 : (x.ins.a == b) = true := by simpa using hab
        simp -dsimp [f1, f2, f3, f4, f10, f12, f13, f14, f15, hb, hx, hy, e1, s1, r1, e2, e3, e4]
        exact ⟨k + 1, by omega, wrapS (by omega), by omega, ⟨nxk.out (fun _ _ => ⟨hk2, hab⟩)⟩⟩
      · have e4 : (x.ins.a == b) = false := by simpa using hab
        simp -dsimp [f1, f2, f3, f4, f10, f12, f13, f14, f15, hb, hx, hy, e1, s1, r1, e2, e3, e4]
        rw [hBH.out]
        exact no.out (bad.out (fun h => hab h.2)) _
    · simp -dsimp [f1, f2, f3, f4, f10, f12, f13, f14, f15]
      exact ⟨n + 1, by omega, wrapS (by omega), by omega, ⟨nx.out ⟨by omega, fun b hb => hin.out b (by rw [List.take_of_length_le (by omega)]; exact hb)⟩⟩⟩
  · simp -dsimp [f1]
    rw [hBH.out]
    exact yes.out ⟨fun v hv => huses.out v (by rw [hus.out]; exact hv), fun d hd => by
      have := hall.out d (by rw [List.take_of_length_le (by omega), hdf.out]; exact hd)
      rw [hbh.out] at this; exact this⟩ _
end Go.Proofs
namespace Go.Proofs
open Go.Mu
theorem rcheck_ok (l : Linear) (hs : l.Sm) (regs : List Int) (hrl : regs.length ≤ 2^36) (H : List Blk) : ACalls Try.prog 14 [.agg l.cells, Int.sl regs] H (fun e H' => e = .ret (.tup [I (chkM l regs).1, I (chkM l regs).2]) ∧ H' = H) := by
  refine acalls_tidy (acalls_of_vc (hn := fun _ => false) (od := fun _ => none) Try.func14 rfl (by kernel_rfl) ?_)
  have hcl := hs.code
  have hrt := hs.rets
  have c1 := fun H => rmay16_ok l (by have := hs.params; omega) (by omega) (by omega) H
  simp only [Linear.cells] at c1
  obtain ⟨E, hE⟩ : ∃ E, E = chkM l regs := ⟨_, rfl⟩
  rw [← hE]
  unfold chkM at hE
  have fin : ∀ (a b : Int) L, E = (a, b) → Tidy H (fun e H' => e = .ret (.tup [I E.1, I E.2]) ∧ H' = H) (.ret (.tup [I a, I b])) (H ++ L) := fun a b L h => by
    rw [h]; exact tidy_same rfl ⟨rfl, rfl⟩
  obtain ⟨B, hB⟩ : ∃ B, B = H ++ [.box 25 [I l.vars, Int.sl l.params, Int.sl l.rets, I l.frame, Line.sl l.code]] := ⟨_, rfl⟩
  have hb : B[H.length]? = some (.box 25 [I l.vars, Int.sl l.params, Int.sl l.rets, I l.frame, Line.sl l.code]) := by rw [hB]; simp
  replace fin := Hid.mk fin
  simp -dsimp
  rw [← hB]
  have hB := Hid.mk hB
  refine acallsW_det (c1 _) ?_
  cases hok : l.ok
  · rw [if_pos hok] at hE
    have hE := Hid.mk hE
    simp -dsimp [hb]
    rw [hB.out]
    exact fin.out _ _ _ hE.out
  have ho := ((ok_iff l).1 hok).1
  rw [if_neg (by rw [hok]; decide)] at hE
  have c2 := fun H => lives_ok l hs ho H
  have c3 := fun H => rbeg_ok l hs ho regs hrl H
  simp only [Linear.cells] at c2 c3
  have hE := Hid.mk hE
  simp -dsimp [hb]
  refine acallsW_det (c2 _) ?_
  simp -dsimp [hb]
  refine acallsW_det (c3 _) ?_
  cases hbg : begOk l regs
  · simp -dsimp [hb]
    rw [hB.out]
    exact fin.out _ _ _ (by rw [hE.out, if_pos hbg])
  have hlen := ((beg_iff ho).1 hbg).len
  have c4 := fun i hi H => rright_ok l hs ho regs hrl hlen i hi H
  simp only [Linear.cells] at c4
  replace hE : Hid (E = match (List.range l.code.length).find? fun i => !rightOk l regs i with | some i => ((i : Int), 16) | none => if l.rets.all (fun v => decide (0 ≤ rg regs v)) = true then (0, 0) else ((l.code.length : Int), 16)) := ⟨by rw [hE.out, if_neg (by rw [hbg]; decide)]; rfl⟩
  have rin := fun v (hv : v ∈ l.rets) => rg_at hlen (ho.rets v hv)
  replace rin := Hid.mk rin
  have hlen := Hid.mk hlen
  simp -dsimp [hb]
  refine loop_rule (hn := fun _ => false) (od := fun _ => none) (fun (n : Nat) f M => B = M ∧ f 1 = Int.sl regs ∧ f 2 = .bp H.length 0 ∧ f 6 = Ints.sl (lvL l) ∧ f 7 = I n ∧ n ≤ l.code.length ∧ Hid (∀ i, i < n → rightOk l regs i = true)) (fun n => l.code.length - n) (by kernel_rfl) 0 ⟨rfl, by simp, by simp, by simp, by simp, by omega, ⟨fun i hi => by omega⟩⟩ ?_
  rintro n f _ ⟨rfl, f1, f2, f6, f7, hn, hall⟩
  simp -dsimp [f1, f2, f6, f7, hb]
  refine condVW_introD (fun hlt => ?_) (fun hlt => ?_)
  · have hlt' : n < l.code.length := by omega
    simp -dsimp [f1, f2, f6, f7, hb]
    refine acallsW_det (c4 n hlt' _) ?_
    cases hr : rightOk l regs n
    · simp -dsimp [f1, f2, f6, f7, hb]
      rw [hB.out]
      refine fin.out _ _ _ ?_
      have hf : (List.range l.code.length).find? (fun i => !rightOk l regs i) = some n := by
        rw [List.find?_range_eq_some]
        exact ⟨by rw [hr]; rfl, List.mem_range.2 hlt', fun j hj => by rw [hall.out j hj]; rfl⟩
      rw [hE.out, hf]
    · simp -dsimp [f1, f2, f6, f7, hb]
      refine ⟨n + 1, by omega, wrapS (by omega), by omega, ⟨fun i hi => ?_⟩⟩
      by_cases e : i = n
      · rw [e, hr]
      · exact hall.out i (by omega)
  have hf : (List.range l.code.length).find? (fun i => !rightOk l regs i) = none := by
    rw [List.find?_eq_none]
    intro i hi
    rw [hall.out i (by have := List.mem_range.1 hi; omega)]; decide
  replace hE : Hid (E = if l.rets.all (fun v => decide (0 ≤ rg regs v)) = true then (0, 0) else ((l.code.length : Int), 16)) := ⟨by rw [hE.out, hf]⟩
  clear hf hall
  simp -dsimp [f1, f2, f6, hb]
  refine loop_rule (hn := fun _ => false) (od := fun _ => none) (fun (n : Nat) f M => B = M ∧ f 1 = Int.sl regs ∧ f 2 = .bp H.length 0 ∧ f 8 = I n ∧ n ≤ l.rets.length ∧ Hid (∀ u ∈ l.rets.take n, 0 ≤ rg regs u)) (fun n => l.rets.length - n) (by kernel_rfl) 0 ⟨rfl, by simp [f1], by simp [f2], by simp, by omega, ⟨by simp⟩⟩ ?_
  clear f1 f2 f6 f7 f
  rintro n f _ ⟨rfl, f1, f2, f8, hn, hall⟩
  simp -dsimp [f1, f2, f8, hb]
  refine condVW_introD (fun hlt => ?_) (fun hlt => ?_)
  · have hlt' : n < l.rets.length := by omega
    have hxn := List.getElem?_eq_getElem hlt'
    have hm := List.getElem_mem hlt'
    obtain ⟨w, hw⟩ : ∃ w, w = l.rets[n] := ⟨_, rfl⟩
    rw [← hw] at hxn hm
    clear hw
    obtain ⟨r1, r2, r3⟩ := rin.out w hm
    have hm := Hid.mk hm
    have nx := fun hp => snoc_all hxn hall.out hp
    replace nx := Hid.mk nx
    simp -dsimp [f1, f2, f8, hb, hxn]
    refine ⟨r2, ?_⟩
    simp -dsimp [f1, f2, f8, hb, hxn, r1]
    refine condVW_introD (fun h1 => ?_) (fun h1 => ?_)
    · simp -dsimp [f1, f2, f8, hb]
      rw [hB.out]
      refine fin.out _ _ _ ?_
      rw [hE.out, if_neg]
      intro h
      have := List.all_eq_true.1 h w hm.out
      simp at this; omega
    · simp -dsimp [f1, f2, f8, hb]
      exact ⟨n + 1, by omega, wrapS (by omega), by omega, ⟨nx.out (by omega)⟩⟩
  · simp -dsimp
    rw [hB.out]
    refine fin.out _ _ _ ?_
    rw [hE.out, if_pos]
    rw [List.all_eq_true]
    intro w hw
    exact decide_eq_true (hall.out w (by rw [List.take_of_length_le (by omega)]; exact hw))
end Go.Proofs
namespace Go.Proofs
open Go.Mu
abbrev ckB (l : Linear) (regs : List Int) (lv : AV) : Blk := .box 72 [I l.vars, Int.sl l.params, Int.sl l.rets, I l.frame, Line.sl l.code, Int.sl regs, lv]
abbrev wrongV (n : Int) : AV := .ifc 119 (.agg [I n])
def mustR (n : Int) (b : Bool) : AE := if b = true then .ret (.tup []) else .pan (wrongV n)
theorem cmust_ok (p : AV) (n : Int) (b : Bool) (H : List Blk) : ACalls Try.prog 86 [p, I n, Bo b] H (fun e H' => e = mustR n b ∧ H' = H) := by
  refine acalls_of_vc (hn := fun _ => false) (od := fun _ => none) Try.func86 rfl (by kernel_rfl) ?_
  cases b <;> simp -dsimp [mustR]
theorem chas1_ok (l : Linear) (regs : List Int) (lv : AV) (kp k tp : Nat) (v : Int) (hl : (regs.length : Int) = l.vars) (hv : 0 ≤ v ∧ v < l.vars) (H : List Blk) (hp : H[kp]? = some (.box tp [.bp k 0])) (hk : H[k]? = some (ckB l regs lv)) : ACalls Try.prog 117 [I v, .bp kp 0] H (fun e H' => e = .ret (Bo (decide (rg regs v < 0))) ∧ H' = H) := by
  refine acalls_of_vc (hn := fun _ => false) (od := fun _ => none) Try.func117 rfl (by kernel_rfl) ?_
  obtain ⟨r1, r2, r3⟩ := rg_at hl hv
  simp -dsimp [hp, hk]
  refine ⟨r2, ?_⟩
  simp -dsimp [hp, hk, r1]
theorem chas_ok (l : Linear) (regs : List Int) (lv : AV) (k : Nat) (vs : List Int) (hl : (regs.length : Int) = l.vars) (hv : ∀ v ∈ vs, 0 ≤ v ∧ v < l.vars) (hvl : vs.length ≤ 2^40) (H : List Blk) (hk : H[k]? = some (ckB l regs lv)) : ACalls Try.prog 87 [.bp k 0, Int.sl vs] H (fun e H' => e = .ret (Bo (vs.all fun v => decide (0 ≤ rg regs v))) ∧ H' = H) := by
  refine acalls_tidy (acalls_of_vc (hn := fun _ => false) (od := fun _ => none) Try.func87 rfl (by kernel_rfl) ?_)
  have hkl := lt_of_get hk
  have cf := int_containsF vs (fun v => decide (rg regs v < 0)) 117 [.bp H.length 0] (by kernel_rfl) hvl (H ++ [.box 70 [.bp k 0]]) (fun v hvm => chas1_ok l regs lv H.length k 70 v hl (hv v hvm) _ (by simp) (get_app_old hk _))
  have e : (vs.any fun v => decide (rg regs v < 0)) = !(vs.all fun v => decide (0 ≤ rg regs v)) := by
    rw [Bool.eq_iff_iff]
    simp only [List.any_eq_true, decide_eq_true_eq, Bool.not_eq_true', List.all_eq_false]
    exact ⟨fun ⟨x, hx, h⟩ => ⟨x, hx, by omega⟩, fun ⟨x, hx, h⟩ => ⟨x, hx, by omega⟩⟩
  rw [e] at cf
  simp -dsimp
  refine acallsW_det cf ?_
  simp -dsimp
  exact tidy_same rfl ⟨rfl, rfl⟩
theorem cahead_ok (l : Linear) (regs : List Int) (k : Nat) (i : Nat) (hi : i ≤ l.code.length) (H : List Blk) (hk : H[k]? = some (ckB l regs (Ints.sl (lvL l)))) : ACalls Try.prog 115 [.bp k 0, I i] H (fun e H' => e = .ret (Int.sl (if i = l.code.length then l.rets else liveL l i)) ∧ H' = H) := by
  refine acalls_of_vc (hn := fun _ => false) (od := fun _ => none) Try.func115 rfl (by kernel_rfl) ?_
  have hll : (lvL l).length = l.code.length := by unfold lvL; simp
  by_cases h : i = l.code.length
  · have hd : decide (l.code.length ≤ i) = true := decide_eq_true (by omega)
    rw [if_pos h]
    simp -dsimp [hk, hll, hd]
  · have hd : decide (l.code.length ≤ i) = false := decide_eq_false (by omega)
    have hg : (lvL l)[i]? = some (liveL l i) := by unfold lvL; rw [List.getElem?_map, List.getElem?_range (by omega)]; rfl
    rw [if_neg h]
    have hll := Hid.mk hll
    simp -dsimp [hk, hll.out, hd]
    simp -dsimp [hk, hg]
theorem cbeg1_ok (n : Int) (H : List Blk) : ACalls Try.prog 114 [I n] H (fun e H' => e = .ret (Bo (!(decide (-1 ≤ n) && decide (n < 11)))) ∧ H' = H) := by
  refine acalls_of_vc (hn := fun _ => false) (od := fun _ => none) Try.func114 rfl (by kernel_rfl) ?_
  by_cases h1 : n < -1
  · have d1 : decide (n < -1) = true := decide_eq_true h1
    have d2 : decide (-1 ≤ n) = false := decide_eq_false (by omega)
    simp -dsimp [d1, d2]
  · have d1 : decide (n < -1) = false := decide_eq_false h1
    have d2 : decide (-1 ≤ n) = true := decide_eq_true (by omega)
    have d3 : decide (11 ≤ n) = !decide (n < 11) := by rw [Bool.eq_iff_iff]; simp
    simp -dsimp [d1, d2, d3]
noncomputable def behRaw (l : Linear) (i : Nat) (x : Line) : List Int := if x.kind = 5 then l.rets else (nxt l i).flatMap fun k => if k.toNat = l.code.length then l.rets else liveL l k.toNat
theorem behRaw_mem {l : Linear} (ho : LinOk l) {i : Nat} {x : Line} (hx : l.code[i]? = some x) {v : Int} : v ∈ behRaw l i x ↔ v ∈ behL l i := by
  rw [behL_mem ho]
  unfold behRaw
  have hend : v ∈ l.rets ↔ LiveAt l l.code.length v := live_end.symm
  by_cases h5 : x.kind = 5
  · rw [if_pos h5]
    have : nxt l i = [(l.code.length : Int)] := by unfold nxt; rw [hx]; simp [h5]
    rw [this, hend]; simp
  · rw [if_neg h5, List.mem_flatMap]
    constructor
    · rintro ⟨k, hk, hv⟩
      refine ⟨k, hk, ?_⟩
      split at hv
      · rename_i e; rw [e]; exact hend.1 hv
      · exact (live_mem ho).1 hv
    · rintro ⟨k, hk, hv⟩
      refine ⟨k, hk, ?_⟩
      split
      · rename_i e; rw [e] at hv; exact hend.2 hv
      · exact (live_mem ho).2 hv
theorem behRaw_len (l : Linear) (hs : l.Sm) (ho : LinOk l) (i : Nat) (x : Line) (q : Nat) : (((nxt l i).take q).flatMap fun k => if k.toNat = l.code.length then l.rets else liveL l k.toNat).length ≤ 2^38 := by
  have h1 : ∀ (s : List Int), (s.flatMap fun k => if k.toNat = l.code.length then l.rets else liveL l k.toNat).length ≤ s.length * 2^36 := by
    intro s
    induction s with
    | nil => simp
    | cons a s ih =>
      have h2 : (if a.toNat = l.code.length then l.rets else liveL l a.toNat).length ≤ 2^36 := by
        split
        · exact hs.rets
        · have := liveL_len l a.toNat
          have := ho.vars
          omega
      rw [List.flatMap_cons, List.length_append, List.length_cons, Nat.succ_mul]
      omega
  have h3 := h1 ((nxt l i).take q)
  have h4 := nxt_len l i
  have h5 : ((nxt l i).take q).length ≤ 2 := by simp; omega
  have : ((nxt l i).take q).length * 2^36 ≤ 2 * 2^36 := Nat.mul_le_mul_right _ h5
  omega
theorem cbehind_ok (l : Linear) (hs : l.Sm) (hok : l.ok = true) (regs : List Int) (k : Nat) (i : Nat) (x : Line) (hx : l.code[i]? = some x) (H : List Blk) (hk : H[k]? = some (ckB l regs (Ints.sl (lvL l)))) : ACalls Try.prog 116 [.bp k 0, I i] H (fun e H' => e = .ret (Int.sl (behRaw l i x)) ∧ H' = H) := by
  have ho := ((ok_iff l).1 hok).1
  refine acalls_under fun hu _ => acalls_weakE (acalls_tidy (acalls_of_vc (hn := fun d => d == 44) (od := fun _ => none) Try.func116 rfl (by kernel_rfl) ?_))
  have hi : i < l.code.length := (List.getElem?_eq_some_iff.1 hx).1
  have hc := hs.code
  have cn := fun H => nexts_ok l hs hok i hi H
  simp only [Linear.cells] at cn
  have hi2 := Hid.mk hi
  have nl := nxt_len l i
  obtain ⟨E, hE⟩ : ∃ E, E = behRaw l i x := ⟨_, rfl⟩
  rw [← hE]
  unfold behRaw at hE
  by_cases h5 : x.kind = 5
  · have hkb : (x.kind == 5) = true := by simpa using h5
    rw [if_pos h5] at hE
    have hE := Hid.mk hE
    simp -dsimp [hk, hx, hkb]
    exact tidy_now rfl ⟨_, .refl _, by rw [hE.out], rfl⟩
  have hkb : (x.kind == 5) = false := by simpa using h5
  rw [if_neg h5] at hE
  have hE := Hid.mk hE
  simp -dsimp [hk, hx, hkb]
  refine acallsW_det (cn _) ?_
  simp -dsimp [hk, hx, hkb]
  refine loop_rule (hn := fun d => d == 44) (od := fun _ => none) (fun (q : Nat) f M => f 0 = .bp k 0 ∧ f 34 = Int.sl (nxt l i) ∧ f 35 = I (nxt l i).length ∧ f 36 = I q ∧ q ≤ (nxt l i).length ∧ ∃ h, f 7 = hrow h (((nxt l i).take q).flatMap fun k => if k.toNat = l.code.length then l.rets else liveL l k.toNat).length ∧ OwnI H M h (((nxt l i).take q).flatMap fun k => if k.toNat = l.code.length then l.rets else liveL l k.toNat)) (fun q => (nxt l i).length - q) (by kernel_rfl) 0 ⟨by simp, by simp, by simp, by simp, by omega, none, rfl, .nil1 _ _ _⟩ ?_
  rintro q f M ⟨f0, f34, f35, f36, hq, h, f7, ow⟩
  have r1 := ow.old hk
  simp -dsimp [f0, f34, f35, f36]
  refine condVW_introD (fun hlt => ?_) (fun hlt => ?_)
  · have hlt' : q < (nxt l i).length := by omega
    have hgk := List.getElem?_eq_getElem hlt'
    have hkm : (nxt l i)[q] ∈ nxt l i := List.getElem_mem hlt'
    have hki := nxt_in ho hkm
    have htk : (nxt l i).take (q + 1) = (nxt l i).take q ++ [(nxt l i)[q]] := List.take_succ_eq_append_getElem hlt'
    obtain ⟨kz, hkz⟩ : ∃ kz, kz = (nxt l i)[q] := ⟨_, rfl⟩
    rw [← hkz] at hgk hkm hki htk
    clear hkz
    obtain ⟨j, rfl⟩ : ∃ j : Nat, kz = j := ⟨kz.toNat, by omega⟩
    have ca := cahead_ok l regs k j (by omega) M r1
    have b0 := behRaw_len l hs ho i x q
    have b1 : (if j = l.code.length then l.rets else liveL l j).length ≤ 2^36 := by
      split
      · exact hs.rets
      · have := liveL_len l j
        have := ho.vars
        omega
    have hsucc : (((nxt l i).take (q + 1)).flatMap fun k => if k.toNat = l.code.length then l.rets else liveL l k.toNat) = (((nxt l i).take q).flatMap fun k => if k.toNat = l.code.length then l.rets else liveL l k.toNat) ++ (if j = l.code.length then l.rets else liveL l j) := by rw [htk]; simp
    obtain ⟨pr, hpr⟩ : ∃ pr, pr = ((nxt l i).take q).flatMap fun k => if k.toNat = l.code.length then l.rets else liveL l k.toNat := ⟨_, rfl⟩
    obtain ⟨ad, had⟩ : ∃ ad, ad = if j = l.code.length then l.rets else liveL l j := ⟨_, rfl⟩
    rw [← hpr, ← had] at hsucc
    rw [← hpr] at ow f7 b0
    rw [← had] at ca b1
    have hsucc := Hid.mk hsucc
    have hpr := Hid.mk hpr
    have had := Hid.mk had
    simp -dsimp [f0, f7, f34, f35, f36, hgk]
    refine acallsW_det ca ?_
    simp -dsimp [f0, f7, f34, f35, f36, hgk]
    refine app_own ow (by simp) rfl rfl (by simp; omega) (by simp; omega) ?_
    intro h' M' ow' _
    have ow2 : OwnI H M' h' (pr ++ ad) := by unfold OwnI; rw [List.map_append]; exact ow'
    have e : (pr.map (fun n => [I n]) ++ ad.map (fun n => [I n])).length = (pr ++ ad).length := by simp
    rw [e]
    rw [← hsucc.out] at ow2 ⊢
    simp -dsimp [f0, f34, f35, f36]
    exact ⟨q + 1, by omega, wrapS (by omega), by omega, h', rfl, ow2⟩
  · rw [List.take_of_length_le (by omega), ← hE.out] at ow f7
    simp -dsimp [f7]
    exact tidy_rowA hu ow (int_frzB _) (by simp) ⟨rfl, rfl⟩
end Go.Proofs
namespace Go.Proofs
open Go.Mu
def OfI (l : Linear) (regs : List Int) (i : Nat) (t : List (Int × Int)) : Prop := ∀ r p, ilook r t = some p ↔ p ∈ l.params.take i ∧ rg regs p = r
def OfM (l : Linear) (regs : List Int) (H : List Blk) (i : Nat) (M : List Blk) : Prop := ∃ t, M = H ++ [.map (atM t)] ∧ OfI l regs i t
theorem mustR_t (n : Int) : mustR n true = .ret (.tup []) := rfl
theorem mustR_f (n : Int) : mustR n false = .pan (wrongV n) := rfl
theorem cmust_to (p : AV) (n : Int) (b : Bool) (H : List Blk) : ACalls Try.prog 86 [p, I n, Bo b] H (fun e H' => e = mustR n b ∧ H = H') := (cmust_ok p n b H).mono fun e H' h => ⟨h.1, h.2.symm⟩
def BegR (l : Linear) (regs : List Int) (H : List Blk) (e : AE) (M : List Blk) : Prop := e = mustR (-1) (begOk l regs) ∧ ∃ L, M = H ++ L
theorem cbeg_ok (l : Linear) (hs : l.Sm) (hok : l.ok = true) (regs : List Int) (hrl : regs.length ≤ 2^36) (k : Nat) (H : List Blk) (hk : H[k]? = some (ckB l regs (Ints.sl (lvL l)))) : ACalls Try.prog 84 [.bp k 0] H (BegR l regs H) := by
  have ho := ((ok_iff l).1 hok).1
  refine acalls_of_vc (hn := fun d => d == 23) (od := fun _ => none) Try.func84 rfl (by kernel_rfl) ?_
  have hv := ho.vars
  have hp := hs.params
  have e23 : (fun d => d == 23 : Nat → Bool) 23 = true := rfl
  have cm := fun b H => cmust_to (.bp k 0) (-1) b H
  have hEQ := @beg_iff l ho regs
  obtain ⟨E, hE⟩ : ∃ E, E = begOk l regs := ⟨_, rfl⟩
  rw [← hE] at hEQ
  have yes : RBeg l regs → ∀ L, BegR l regs H (.ret (.tup [])) (H ++ L) := fun h L => ⟨by rw [← hE, hEQ.2 h]; rfl, L, rfl⟩
  have no : ¬ RBeg l regs → ∀ L, BegR l regs H (.pan (wrongV (-1))) (H ++ L) := fun h L => ⟨by
    have : E = false := by rw [Bool.eq_false_iff]; exact fun q => h (hEQ.1 q)
    rw [← hE, this]; rfl, L, rfl⟩
  have yes0 := fun h => yes h []
  have no0 := fun h => no h []
  rw [List.append_nil] at yes0 no0
  replace yes := Hid.mk yes
  replace no := Hid.mk no
  replace yes0 := Hid.mk yes0
  replace no0 := Hid.mk no0
  clear hEQ
  replace hE := Hid.mk hE
  simp -dsimp [hk]
  refine acallsW_of (cm _ _) ?_
  rintro e _ ⟨rfl, rfl⟩
  by_cases hlen : (regs.length : Int) = l.vars
  rotate_left
  · have hlb : ((regs.length : Int) == l.vars) = false := by simpa using hlen
    simp -dsimp [hlb, mustR_f]
    exact no0.out (fun h => hlen h.len)
  have hlb : ((regs.length : Int) == l.vars) = true := by simpa using hlen
  have hlen := Hid.mk hlen
  -- each is a register's number, or none
  have cf := fun H => int_containsF regs (fun n => !(decide (-1 ≤ n) && decide (n < 11))) 114 [] (by kernel_rfl) (by omega) H (fun n _ => cbeg1_ok n H)
  obtain ⟨R1, hR1⟩ : ∃ R1, R1 = regs.any fun n => !(decide (-1 ≤ n) && decide (n < 11)) := ⟨_, rfl⟩
  rw [← hR1] at cf
  simp -dsimp [hlb, mustR_t, hk]
  refine acallsW_det (cf _) ?_
  simp -dsimp [hk]
  refine acallsW_of (cm _ _) ?_
  rintro e _ ⟨rfl, rfl⟩
  cases R1
  rotate_left
  · simp -dsimp [mustR_f]
    refine no0.out (fun h => ?_)
    obtain ⟨n, hn, hb⟩ := List.any_eq_true.1 hR1.symm
    have := h.rng n hn
    simp at hb; omega
  have hrng : Hid (∀ n ∈ regs, -1 ≤ n ∧ n < 11) := ⟨fun n hn => by
    have := List.any_eq_false.1 hR1.symm n hn
    simpa using this⟩
  clear hR1 cf
  -- parameters have registers, and what is live
  have c1 := fun H h => chas_ok l regs (Ints.sl (lvL l)) k l.params hlen.out ho.params (by omega) H h
  have cah := cahead_ok l regs k 0 (by omega) H hk
  obtain ⟨li, hli⟩ : ∃ li, li = if 0 = l.code.length then l.rets else liveL l 0 := ⟨_, rfl⟩
  have hlm : ∀ v, v ∈ li ↔ v ∈ liveL l 0 := fun v => by
    rw [hli]
    split
    · rename_i h0
      rw [live_mem ho, h0]; exact live_end.symm
    · exact Iff.rfl
  have hlil : li.length ≤ 2^36 := by
    rw [hli]
    split
    · exact hs.rets
    · have := liveL_len l 0
      omega
  have hlin : ∀ v ∈ li, 0 ≤ v ∧ v < l.vars := fun v hv => ((liveL_mem l 0 v).1 ((hlm v).1 hv)).1
  rw [← hli] at cah
  have hliE := Hid.mk hli
  clear hli
  have c2 := fun H h => chas_ok l regs (Ints.sl (lvL l)) k li hlen.out hlin (by omega) H h
  have rgp := fun p hp => rg_at hlen.out (ho.params p hp)
  have rgl := fun v hv => rg_at hlen.out (hlin v hv)
  replace rgp := Hid.mk rgp
  replace rgl := Hid.mk rgl
  have hlm := Hid.mk hlm
  have hlin := Hid.mk hlin
  obtain ⟨P1, hP1⟩ : ∃ P1, P1 = l.params.all fun v => decide (0 ≤ rg regs v) := ⟨_, rfl⟩
  obtain ⟨P2, hP2⟩ : ∃ P2, P2 = li.all fun v => decide (0 ≤ rg regs v) := ⟨_, rfl⟩
  rw [← hP1] at c1
  rw [← hP2] at c2
  simp -dsimp [mustR_t, hk]
  refine acallsW_det (c1 _ hk) ?_
  cases P1
  · simp -dsimp [hk]
    refine acallsW_of (cm _ _) ?_
    rintro e _ ⟨rfl, rfl⟩
    simp -dsimp [mustR_f]
    refine no0.out (fun h => ?_)
    obtain ⟨p, hp, hb⟩ := List.all_eq_false.1 hP1.symm
    have := h.has p hp
    simp at hb; omega
  have hhas : Hid (∀ p ∈ l.params, 0 ≤ rg regs p) := ⟨fun p hp => by simpa using List.all_eq_true.1 hP1.symm p hp⟩
  clear hP1 c1
  simp -dsimp [hk]
  refine acallsW_det cah ?_
  simp -dsimp [hk]
  refine acallsW_det (c2 _ hk) ?_
  simp -dsimp [hk]
  refine acallsW_of (cm _ _) ?_
  rintro e _ ⟨rfl, rfl⟩
  cases P2
  · simp -dsimp [mustR_f]
    refine no0.out (fun h => ?_)
    obtain ⟨v, hv, hb⟩ := List.all_eq_false.1 hP2.symm
    have h2 : 0 ≤ rg regs v := by
      by_cases hvp : v ∈ l.params
      · exact h.has v hvp
      · exact (h.live v ((hlm.out v).1 hv) hvp).1
    simp at hb; omega
  have hlive : Hid (∀ v ∈ li, 0 ≤ rg regs v) := ⟨fun p hp => by simpa using List.all_eq_true.1 hP2.symm p hp⟩
  clear hP2 c2
  have hkL : ∀ X, (H ++ [X])[k]? = some (ckB l regs (Ints.sl (lvL l))) := fun X => get_app_old hk _
  simp -dsimp [mustR_t, hk, hkL]
  refine loop_rule (hn := fun d => d == 23) (od := fun _ => none) (fun (i : Nat) f M => OfM l regs H i M ∧ f 0 = .bp k 0 ∧ f 2 = .hm H.length ∧ f 52 = Int.sl l.params ∧ f 53 = I l.params.length ∧ f 54 = I i ∧ i ≤ l.params.length ∧ Hid ((l.params.take i).map (rg regs)).Nodup) (fun i => l.params.length - i) (by kernel_rfl) 0 (by refine ⟨⟨[], by simp [atM], fun r p => by simp [ilook]⟩, by simp, by simp, by simp, by simp, by simp, by omega, ⟨by simp⟩⟩) ?_
  rintro i f _ ⟨⟨t, rfl, hof⟩, f0, f2, f52, f53, f54, hi, hnd⟩
  have hme : ∀ t, mapEs (H ++ [.map (atM t)]) (.hm H.length) = some (atM t) := fun t => by simp [mapEs]
  have hset : ∀ X Y : Blk, (H ++ [X]).set H.length Y = H ++ [Y] := fun X Y => by simp
  simp -dsimp [f0, f2, f52, f53, f54]
  refine condVW_introD (fun hlt => ?_) (fun hlt => ?_)
  · have hlt' : i < l.params.length := by omega
    have hx := List.getElem?_eq_getElem hlt'
    have hm := List.getElem_mem hlt'
    have htk : l.params.take (i + 1) = l.params.take i ++ [l.params[i]] := List.take_succ_eq_append_getElem hlt'
    obtain ⟨p, hpp⟩ : ∃ p, p = l.params[i] := ⟨_, rfl⟩
    rw [← hpp] at hx hm htk
    clear hpp
    obtain ⟨r1, r2, r3⟩ := rgp.out p hm
    have hf := atM_find (rg regs p) t
    have hst := atM_set (rg regs p) p t
    have hm := Hid.mk hm
    simp -dsimp [f0, f2, f52, f53, f54, hx, hkL]
    refine ⟨r2, ?_⟩
    simp -dsimp [f0, f2, f52, f53, f54, hx, hkL, r1, hme, hf]
    refine acallsW_of (cm _ _) ?_
    rintro e _ ⟨rfl, rfl⟩
    cases hlk : ilook (rg regs p) t with
    | some q =>
      simp -dsimp [mustR_f]
      refine no.out (fun h => ?_) _
      obtain ⟨q1, q2⟩ := (hof _ _).1 hlk
      obtain ⟨j, hj⟩ := List.mem_iff_getElem?.1 q1
      have hji : j < i := by have := (List.getElem?_eq_some_iff.1 hj).1; simp at this; omega
      rw [List.getElem?_take_of_lt hji] at hj
      exact h.once i j p q hx hj (by omega) q2
    | none =>
      simp -dsimp [mustR_t, f0, f2, f52, f53, f54, hx, hkL]
      refine ⟨r2, ?_⟩
      simp -dsimp [f0, f2, f52, f53, f54, hx, hkL, r1, hme, hst, hset]
      refine ⟨i + 1, by omega, ⟨iset (rg regs p) p t, rfl, fun r q => ?_⟩, wrapS (by omega), by omega, ⟨?_⟩⟩
      · rw [ilook_set, htk]
        by_cases e : r = rg regs p
        · rw [if_pos e]
          constructor
          · intro h
            rw [Option.some.injEq] at h
            subst h; exact ⟨by simp, e.symm⟩
          · rintro ⟨h1, h2⟩
            rcases List.mem_append.1 h1 with h1 | h1
            · have := (hof r q).2 ⟨h1, h2⟩
              rw [e, hlk] at this; cases this
            · rw [List.mem_singleton] at h1; rw [h1]
        · rw [if_neg e, hof]
          constructor
          · exact fun h => ⟨List.mem_append_left _ h.1, h.2⟩
          · rintro ⟨h1, h2⟩
            rcases List.mem_append.1 h1 with h1 | h1
            · exact ⟨h1, h2⟩
            · rw [List.mem_singleton] at h1; subst h1; exact absurd h2.symm e
      · first | rw [← List.map_take] | skip
        rw [htk, List.map_append, List.nodup_append]
        refine ⟨hnd.out, by simp, fun a ha b hb e => ?_⟩
        obtain ⟨q, hq, rfl⟩ := List.mem_map.1 ha
        have := (hof (rg regs q) q).2 ⟨hq, rfl⟩
        simp only [List.map_cons, List.map_nil, List.mem_singleton] at hb
        rw [e, hb, hlk] at this; cases this
  have hond : Hid (l.params.map (rg regs)).Nodup := ⟨by have := hnd.out; rwa [List.take_of_length_le (by omega)] at this⟩
  replace hof : Hid (∀ r p, ilook r t = some p ↔ p ∈ l.params ∧ rg regs p = r) := ⟨fun r p => by have := hof r p; rwa [List.take_of_length_le (by omega)] at this⟩
  clear hnd
  have cah2 := cahead_ok l regs k 0 (by omega) (H ++ [.map (atM t)]) (hkL _)
  simp -dsimp [f0, f2]
  have cah3 : ACalls Try.prog 115 [.bp k 0, I 0] (H ++ [.map (atM t)]) (fun e H' => e = .ret (Int.sl li) ∧ H' = H ++ [.map (atM t)]) := by rw [← hliE.out] at cah2; exact cah2
  refine acallsW_det cah3 ?_
  simp -dsimp [f0, f2]
  refine loop_rule (hn := fun d => d == 23) (od := fun _ => none) (fun (n : Nat) f M => H ++ [.map (atM t)] = M ∧ f 0 = .bp k 0 ∧ f 2 = .hm H.length ∧ f 85 = Int.sl li ∧ f 86 = I li.length ∧ f 87 = I n ∧ n ≤ li.length ∧ Hid (∀ v ∈ li.take n, ∀ p, ilook (rg regs v) t = some p → p = v)) (fun n => li.length - n) (by kernel_rfl) 0 (by refine ⟨rfl, by simp [f0], by simp [f2], by simp, by simp, by simp, by omega, ⟨by simp⟩⟩) ?_
  clear f0 f2 f52 f53 f54 f
  rintro n f _ ⟨rfl, f0, f2, f85, f86, f87, hn, hall⟩
  simp -dsimp [f0, f2, f85, f86, f87]
  refine condVW_introD (fun hlt2 => ?_) (fun hlt2 => ?_)
  · have hlt2' : n < li.length := by omega
    have hx := List.getElem?_eq_getElem hlt2'
    have hm := List.getElem_mem hlt2'
    obtain ⟨v, hvv⟩ : ∃ v, v = li[n] := ⟨_, rfl⟩
    rw [← hvv] at hx hm
    clear hvv
    obtain ⟨r1, r2, r3⟩ := rgl.out v hm
    have hf := atM_find (rg regs v) t
    have hm := Hid.mk hm
    have nx := fun hp => snoc_all hx hall.out hp
    replace nx := Hid.mk nx
    simp -dsimp [f0, f2, f85, f86, f87, hx, hkL]
    refine ⟨r2, ?_⟩
    cases hlk : ilook (rg regs v) t with
    | none =>
      rw [hlk] at hf
      simp -dsimp [f0, f2, f85, f86, f87, hx, hkL, r1, hme, hf]
      refine acallsW_of (cm _ _) ?_
      rintro e _ ⟨rfl, rfl⟩
      simp -dsimp [mustR_t, f0, f2, f85, f86, f87]
      exact ⟨n + 1, by omega, wrapS (by omega), by omega, ⟨nx.out (fun p h => by rw [hlk] at h; cases h)⟩⟩
    | some p =>
      rw [hlk] at hf
      simp -dsimp [f0, f2, f85, f86, f87, hx, hkL, r1, hme, hf]
      refine acallsW_of (cm _ _) ?_
      rintro e _ ⟨rfl, rfl⟩
      by_cases hpv : p = v
      · have e1 : (p == v) = true := by simpa using hpv
        simp -dsimp [e1, mustR_t, f0, f2, f85, f86, f87]
        exact ⟨n + 1, by omega, wrapS (by omega), by omega, ⟨nx.out (fun q h => by rw [hlk, Option.some.injEq] at h; rw [← h]; exact hpv)⟩⟩
      · have e1 : (p == v) = false := by simpa using hpv
        simp -dsimp [e1, mustR_f]
        refine no.out (fun h => ?_) _
        obtain ⟨q1, q2⟩ := (hof.out _ _).1 hlk
        by_cases hvp : v ∈ l.params
        · obtain ⟨i1, hi1⟩ := List.mem_iff_getElem?.1 hvp
          obtain ⟨i2, hi2⟩ := List.mem_iff_getElem?.1 q1
          exact h.once i1 i2 v p hi1 hi2 (fun e => hpv (by rw [e, hi1, Option.some.injEq] at hi2; exact hi2.symm)) q2
        · exact (h.live v ((hlm.out v).1 hm.out) hvp).2 p q1 q2
  · simp -dsimp
    refine yes.out ⟨hlen.out, hrng.out, hhas.out, fun i1 i2 p q h1 h2 hne he => ?_, fun v hv hvp => ⟨hlive.out v ((hlm.out v).2 hv), fun p hp he => ?_⟩⟩ _
    · have e1 : (l.params.map (rg regs))[i1]? = some (rg regs p) := by rw [List.getElem?_map, h1]; rfl
      have e2 : (l.params.map (rg regs))[i2]? = some (rg regs p) := by rw [List.getElem?_map, h2, ← he]; rfl
      obtain ⟨a1, a2⟩ := List.getElem?_eq_some_iff.1 e1
      obtain ⟨b1, b2⟩ := List.getElem?_eq_some_iff.1 e2
      exact hne ((List.getElem_inj hond.out).1 (b2.trans a2.symm))
    · have := hall.out v (by rw [List.take_of_length_le (by omega)]; exact (hlm.out v).2 hv) p ((hof.out _ _).2 ⟨hp, he⟩)
      subst this
      exact hvp hp
end Go.Proofs
namespace Go.Proofs
open Go.Mu
def LineR (l : Linear) (regs : List Int) (i : Nat) (H : List Blk) (e : AE) (M : List Blk) : Prop := e = mustR i (rightOk l regs i) ∧ ∃ L, M = H ++ L
theorem cline_ok (l : Linear) (hs : l.Sm) (hok : l.ok = true) (regs : List Int) (hrl : regs.length ≤ 2^36) (hlen : (regs.length : Int) = l.vars) (k : Nat) (i : Nat) (hi : i < l.code.length) (H : List Blk) (hk : H[k]? = some (ckB l regs (Ints.sl (lvL l)))) : ACalls Try.prog 85 [.bp k 0, I i] H (LineR l regs i H) := by
  have ho := ((ok_iff l).1 hok).1
  refine acalls_of_vc (hn := fun d => d == 86) (od := fun _ => none) Try.func85 rfl (by kernel_rfl) ?_
  obtain ⟨x, hx⟩ : ∃ x, l.code[i]? = some x := ⟨_, List.getElem?_eq_getElem hi⟩
  have hlx := ho.lines x (List.mem_of_getElem? hx)
  obtain ⟨_, ui, di⟩ := line_in hlx
  have hv := ho.vars
  have ul := uses_len x
  have dl := defs_len x
  have cu := fun H => uses_ok x H
  have cm := fun b H => cmust_to (.bp k 0) i b H
  have c1 := fun H h => chas_ok l regs (Ints.sl (lvL l)) k x.uses hlen (fun v hv => ui v ((riseL_mem _ _).1 hv)) (by omega) H h
  have c2 := fun H h => chas_ok l regs (Ints.sl (lvL l)) k x.defs hlen di (by omega) H h
  have cb := fun H h => cbehind_ok l hs hok regs k i x hx H h
  have bin := fun v (hv : v ∈ behRaw l i x) => rg_at hlen (behL_in ho ((behRaw_mem ho hx).1 hv))
  have din := fun v (hv : v ∈ x.defs) => rg_at hlen (di v hv)
  have bll : (behRaw l i x).length ≤ 2^38 := by
    unfold behRaw
    split
    · have := hs.rets; omega
    · have := behRaw_len l hs ho i x (nxt l i).length
      rwa [List.take_of_length_le (Nat.le_refl _)] at this
  have bm := fun v => behRaw_mem (v := v) ho hx
  simp only [Line.cells] at cu
  have hEQ := @right_iff l regs i x hx
  obtain ⟨E, hE⟩ : ∃ E, E = rightOk l regs i := ⟨_, rfl⟩
  rw [← hE] at hEQ
  have yes : RRight l regs i x → ∀ L, LineR l regs i H (.ret (.tup [])) (H ++ L) := fun h L => ⟨by rw [← hE, hEQ.2 h]; rfl, L, rfl⟩
  have no : ¬ RRight l regs i x → ∀ L, LineR l regs i H (.pan (wrongV i)) (H ++ L) := fun h L => ⟨by
    have : E = false := by rw [Bool.eq_false_iff]; exact fun q => h (hEQ.1 q)
    rw [← hE, this]; rfl, L, rfl⟩
  replace yes := Hid.mk yes
  replace no := Hid.mk no
  have ui := Hid.mk ui
  have di := Hid.mk di
  have bin := Hid.mk bin
  have din := Hid.mk din
  have bm := Hid.mk bm
  have hi2 := Hid.mk hi
  have hE := Hid.mk hE
  clear hEQ
  obtain ⟨us, hus⟩ : ∃ us, us = x.uses := ⟨_, rfl⟩
  obtain ⟨df, hdf⟩ : ∃ df, df = x.defs := ⟨_, rfl⟩
  obtain ⟨bh, hbh⟩ : ∃ bh, bh = behRaw l i x := ⟨_, rfl⟩
  rw [← hus, ← hdf] at cu
  rw [← hus] at c1
  rw [← hdf] at c2 din dl
  rw [← hbh] at cb bin bll bm
  have hus := Hid.mk hus
  have hdf := Hid.mk hdf
  have hbh := Hid.mk hbh
  obtain ⟨P1, hP1⟩ : ∃ P1, P1 = us.all fun v => decide (0 ≤ rg regs v) := ⟨_, rfl⟩
  obtain ⟨P2, hP2⟩ : ∃ P2, P2 = df.all fun v => decide (0 ≤ rg regs v) := ⟨_, rfl⟩
  rw [← hP1] at c1
  rw [← hP2] at c2
  obtain ⟨N, hN⟩ : ∃ N, N = H ++ [Blk.box 41 [I x.kind, I x.ins.kind, I x.ins.op, I x.ins.d, I x.ins.a, I x.ins.b, I x.ins.c, U x.ins.word, Bo x.ins.stack, I x.var, I x.label]] := ⟨_, rfl⟩
  have hkL : N[k]? = some (ckB l regs (Ints.sl (lvL l))) := by rw [hN]; exact get_app_old hk _
  have hXL : N[H.length]? = some (Blk.box 41 [I x.kind, I x.ins.kind, I x.ins.op, I x.ins.d, I x.ins.a, I x.ins.b, I x.ins.c, U x.ins.word, Bo x.ins.stack, I x.var, I x.label]) := by rw [hN]; simp
  simp -dsimp [hk, hx]
  rw [← hN]
  have hN := Hid.mk hN
  refine acallsW_det (cu _) ?_
  simp -dsimp [hk, hx, hXL]
  refine acallsW_det (c1 _ hkL) ?_
  cases P1
  · simp -dsimp
    refine acallsW_of (cm _ _) ?_
    rintro e _ ⟨rfl, rfl⟩
    simp -dsimp [mustR_f]
    rw [hN.out]
    refine no.out (fun h => ?_) _
    obtain ⟨v, hv, hb⟩ := List.all_eq_false.1 hP1.symm
    have := h.uses v (by rw [← hus.out]; exact hv)
    simp at hb; omega
  have huses : Hid (∀ v ∈ us, 0 ≤ rg regs v) := ⟨fun p hp => by simpa using List.all_eq_true.1 hP1.symm p hp⟩
  clear hP1 c1
  simp -dsimp
  refine acallsW_det (c2 _ hkL) ?_
  simp -dsimp
  refine acallsW_of (cm _ _) ?_
  rintro e _ ⟨rfl, rfl⟩
  cases P2
  · simp -dsimp [mustR_f]
    rw [hN.out]
    refine no.out (fun h => ?_) _
    obtain ⟨v, hv, hb⟩ := List.all_eq_false.1 hP2.symm
    have := (h.defs v (by rw [← hdf.out]; exact hv)).1
    simp at hb; omega
  have hdefs : Hid (∀ v ∈ df, 0 ≤ rg regs v) := ⟨fun p hp => by simpa using List.all_eq_true.1 hP2.symm p hp⟩
  clear hP2 c2
  simp -dsimp [mustR_t]
  refine loop_rule (hn := fun d => d == 86) (od := fun _ => none) (fun (n : Nat) f M => N = M ∧ f 0 = .bp k 0 ∧ f 1 = I i ∧ f 4 = .bp H.length 0 ∧ f 36 = Int.sl df ∧ f 37 = I df.length ∧ f 38 = I n ∧ n ≤ df.length ∧ Hid (∀ d ∈ df.take n, ∀ b ∈ bh, b ≠ d → rg regs b = rg regs d → x.ins.kind = 2 ∧ x.ins.a = b)) (fun n => df.length - n) (by kernel_rfl) 0 (by refine ⟨rfl, by simp, by simp, by simp, by simp, by simp, by simp, by omega, ⟨by simp⟩⟩) ?_
  rintro n f _ ⟨rfl, f0, f1, f4, f36, f37, f38, hn, hall⟩
  simp -dsimp [f0, f1, f4, f36, f37, f38]
  refine condVW_introD (fun hlt => ?_) (fun hlt => ?_)
  rotate_left
  · simp -dsimp
    rw [hN.out]
    refine yes.out ⟨fun v hv => huses.out v (by rw [hus.out]; exact hv), fun d hd => ⟨hdefs.out d (by rw [hdf.out]; exact hd), fun b hb => ?_⟩⟩ _
    exact hall.out d (by rw [List.take_of_length_le (by omega), hdf.out]; exact hd) b ((bm.out b).2 hb)
  have hlt' : n < df.length := by omega
  have hxn := List.getElem?_eq_getElem hlt'
  have hm := List.getElem_mem hlt'
  obtain ⟨d, hd⟩ : ∃ d, d = df[n] := ⟨_, rfl⟩
  rw [← hd] at hxn hm
  clear hd
  obtain ⟨r1, r2, r3⟩ := din.out d hm
  have hm := Hid.mk hm
  have nx := fun hp => snoc_all hxn hall.out hp
  replace nx := Hid.mk nx
  simp -dsimp [f0, f1, f4, f36, f37, f38, hxn]
  refine acallsW_det (cb _ hkL) ?_
  simp -dsimp [f0, f1, f4, f36, f37, f38, hxn]
  refine loop_rule (hn := fun d => d == 86) (od := fun _ => none) (fun (q : Nat) f M => N = M ∧ f 0 = .bp k 0 ∧ f 1 = I i ∧ f 4 = .bp H.length 0 ∧ f 8 = I d ∧ f 36 = Int.sl df ∧ f 37 = I df.length ∧ f 38 = I n ∧ f 44 = Int.sl bh ∧ f 45 = I bh.length ∧ f 46 = I q ∧ q ≤ bh.length ∧ Hid (∀ b ∈ bh.take q, b ≠ d → rg regs b = rg regs d → x.ins.kind = 2 ∧ x.ins.a = b)) (fun q => bh.length - q) (by kernel_rfl) 0 (by refine ⟨rfl, by simp [f0], by simp [f1], by simp [f4], by simp, by simp [f36], by simp [f37], by simp [f38], by simp, by simp, by simp, by omega, ⟨by simp⟩⟩) ?_
  clear f0 f1 f4 f36 f37 f38 f
  rintro q f _ ⟨rfl, f0, f1, f4, f8, f36, f37, f38, f44, f45, f46, hq, hin⟩
  simp -dsimp [f0, f1, f4, f8, f36, f37, f38, f44, f45, f46]
  refine condVW_introD (fun hlt2 => ?_) (fun hlt2 => ?_)
  rotate_left
  · simp -dsimp [f0, f1, f4, f36, f37, f38]
    exact ⟨n + 1, by omega, wrapS (by omega), by omega, ⟨nx.out (fun b hb => hin.out b (by rw [List.take_of_length_le (by omega)]; exact hb))⟩⟩
  have hlt2' : q < bh.length := by omega
  have hy := List.getElem?_eq_getElem hlt2'
  have hmy := List.getElem_mem hlt2'
  obtain ⟨b, hbb⟩ : ∃ b, b = bh[q] := ⟨_, rfl⟩
  rw [← hbb] at hy hmy
  clear hbb
  obtain ⟨s1, s2, s3⟩ := bin.out b hmy
  have hmy := Hid.mk hmy
  have nxk := fun hp => snoc_all hy hin.out hp
  replace nxk := Hid.mk nxk
  have bad : ¬ (x.ins.kind = 2 ∧ x.ins.a = b) → b ≠ d → rg regs b = rg regs d → ¬ RRight l regs i x := fun h h1 h2 q => h ((q.defs d (by rw [← hdf.out]; exact hm.out)).2 b ((bm.out b).1 hmy.out) h1 h2)
  replace bad := Hid.mk bad
  have next : (b ≠ d → rg regs b = rg regs d → x.ins.kind = 2 ∧ x.ins.a = b) → ∃ y, bh.length - y < bh.length - q ∧ IntKind.i64.wrap ((q : Int) + 1) = (y : Int) ∧ y ≤ bh.length ∧ Hid (∀ b ∈ bh.take y, b ≠ d → rg regs b = rg regs d → x.ins.kind = 2 ∧ x.ins.a = b) := fun h => ⟨q + 1, by omega, wrapS (by omega), by omega, ⟨nxk.out h⟩⟩
  replace next := Hid.mk next
  have w1 : (x.ins.kind = 2 ∧ x.ins.a = b) ∨ ¬ (x.ins.kind = 2 ∧ x.ins.a = b) := Classical.em _
  rcases w1 with hsr | hsr
  · have k2 : (x.ins.kind == 2) = true := by simpa using hsr.1
    have a2 : (x.ins.a == b) = true := by simpa using hsr.2
    have hsr := Hid.mk hsr
    by_cases hbd : b = d
    · have e1 : (b == d) = true := by simpa using hbd
      simp -dsimp [f0, f1, f4, f8, f36, f37, f38, f44, f45, f46, hy, hXL, hkL, k2, a2, e1]
      refine acallsW_of (cm _ _) ?_
      rintro e _ ⟨rfl, rfl⟩
      simp -dsimp [mustR_t, f0, f1, f4, f8, f36, f37, f38, f44, f45, f46, hy, hXL, hkL]
      exact next.out (fun _ _ => hsr.out)
    · have e1 : (b == d) = false := by simpa using hbd
      simp -dsimp [f0, f1, f4, f8, f36, f37, f38, f44, f45, f46, hy, hXL, hkL, k2, a2, e1]
      refine acallsW_of (cm _ _) ?_
      rintro e _ ⟨rfl, rfl⟩
      simp -dsimp [mustR_t, f0, f1, f4, f8, f36, f37, f38, f44, f45, f46, hy, hXL, hkL]
      exact next.out (fun _ _ => hsr.out)
  have hsr2 := Hid.mk hsr
  by_cases hk2 : x.ins.kind = 2
  · have k2 : (x.ins.kind == 2) = true := by simpa using hk2
    have a2 : (x.ins.a == b) = false := by simpa using fun h => hsr ⟨hk2, h⟩
    clear hsr
    by_cases hbd : b = d
    · have e1 : (b == d) = true := by simpa using hbd
      have hbd := Hid.mk hbd
      simp -dsimp [f0, f1, f4, f8, f36, f37, f38, f44, f45, f46, hy, hXL, hkL, k2, a2, e1]
      refine acallsW_of (cm _ _) ?_
      rintro e _ ⟨rfl, rfl⟩
      simp -dsimp [mustR_t, f0, f1, f4, f8, f36, f37, f38, f44, f45, f46, hy, hXL, hkL]
      exact next.out (fun h _ => absurd hbd.out h)
    · have e1 : (b == d) = false := by simpa using hbd
      have hbd := Hid.mk hbd
      simp -dsimp [f0, f1, f4, f8, f36, f37, f38, f44, f45, f46, hy, hXL, hkL, k2, a2, e1]
      refine ⟨s2, ?_⟩
      simp -dsimp [f0, f1, f4, f8, f36, f37, f38, f44, f45, f46, hy, hXL, hkL, k2, a2, e1, s1]
      refine ⟨r2, ?_⟩
      by_cases hrr : rg regs b = rg regs d
      · have e2 : (rg regs b != rg regs d) = false := by simp [hrr]
        have hrr := Hid.mk hrr
        simp -dsimp [f0, f1, f4, f8, f36, f37, f38, f44, f45, f46, hy, hXL, hkL, k2, a2, e1, s1, r1, e2]
        refine acallsW_of (cm _ _) ?_
        rintro e _ ⟨rfl, rfl⟩
        simp -dsimp [mustR_f]
        rw [hN.out]
        exact no.out (bad.out hsr2.out hbd.out hrr.out) _
      · have e2 : (rg regs b != rg regs d) = true := by simpa using hrr
        have hrr := Hid.mk hrr
        simp -dsimp [f0, f1, f4, f8, f36, f37, f38, f44, f45, f46, hy, hXL, hkL, k2, a2, e1, s1, r1, e2]
        refine acallsW_of (cm _ _) ?_
        rintro e _ ⟨rfl, rfl⟩
        simp -dsimp [mustR_t, f0, f1, f4, f8, f36, f37, f38, f44, f45, f46, hy, hXL, hkL]
        exact next.out (fun _ h => absurd h hrr.out)
  · have k2 : (x.ins.kind == 2) = false := by simpa using hk2
    clear hsr
    by_cases hbd : b = d
    · have e1 : (b == d) = true := by simpa using hbd
      have hbd := Hid.mk hbd
      simp -dsimp [f0, f1, f4, f8, f36, f37, f38, f44, f45, f46, hy, hXL, hkL, k2, e1]
      refine acallsW_of (cm _ _) ?_
      rintro e _ ⟨rfl, rfl⟩
      simp -dsimp [mustR_t, f0, f1, f4, f8, f36, f37, f38, f44, f45, f46, hy, hXL, hkL]
      exact next.out (fun h _ => absurd hbd.out h)
    · have e1 : (b == d) = false := by simpa using hbd
      have hbd := Hid.mk hbd
      simp -dsimp [f0, f1, f4, f8, f36, f37, f38, f44, f45, f46, hy, hXL, hkL, k2, e1]
      refine ⟨s2, ?_⟩
      simp -dsimp [f0, f1, f4, f8, f36, f37, f38, f44, f45, f46, hy, hXL, hkL, k2, e1, s1]
      refine ⟨r2, ?_⟩
      by_cases hrr : rg regs b = rg regs d
      · have e2 : (rg regs b != rg regs d) = false := by simp [hrr]
        have hrr := Hid.mk hrr
        simp -dsimp [f0, f1, f4, f8, f36, f37, f38, f44, f45, f46, hy, hXL, hkL, k2, e1, s1, r1, e2]
        refine acallsW_of (cm _ _) ?_
        rintro e _ ⟨rfl, rfl⟩
        simp -dsimp [mustR_f]
        rw [hN.out]
        exact no.out (bad.out hsr2.out hbd.out hrr.out) _
      · have e2 : (rg regs b != rg regs d) = true := by simpa using hrr
        have hrr := Hid.mk hrr
        simp -dsimp [f0, f1, f4, f8, f36, f37, f38, f44, f45, f46, hy, hXL, hkL, k2, e1, s1, r1, e2]
        refine acallsW_of (cm _ _) ?_
        rintro e _ ⟨rfl, rfl⟩
        simp -dsimp [mustR_t, f0, f1, f4, f8, f36, f37, f38, f44, f45, f46, hy, hXL, hkL]
        exact next.out (fun _ h => absurd h hrr.out)
end Go.Proofs
namespace Go.Proofs
open Go.Mu
@[simp] theorem nil20 : binE Try.prog .eql 20 (.v .nilIface) (.v .nilIface) = some (.v (.bool true)) := by kernel_rfl
@[simp] theorem ifc20 (t : Nat) (x : AV) : binE Try.prog .eql 20 (.ifc t x) (.v .nilIface) = some (.v (.bool false)) := by kernel_rfl
theorem crec_none (a b : Nat) (H : List Blk) : RecSem Try.prog ⟨83, [.bp a 0, .bp b 0], none⟩ (.v .nilIface) H (fun H' => H' = H) := by
  refine recSem_of_vc (hn := fun _ => false) (od := fun _ => none) Try.func83 rfl rfl (by kernel_rfl) ?_
  show vcC _ _ _ _ _ (recQ _) _ _ _
  simp -dsimp
theorem crec_some (a b : Nat) (H : List Blk) (n x y : Int) (ha : H[a]? = some (.box 3 [I x])) (hb : H[b]? = some (.box 28 [I y])) (hab : a ≠ b) : RecSem Try.prog ⟨83, [.bp a 0, .bp b 0], none⟩ (wrongV n) H (fun H' => ∃ L, H' = (H.set a (.box 3 [I n])).set b (.box 28 [I 16]) ++ L) := by
  refine recSem_of_vc (hn := fun _ => false) (od := fun _ => none) Try.func83 rfl rfl (by kernel_rfl) ?_
  show vcC _ _ _ _ _ (recQ _) _ _ _
  have hla := lt_of_get ha
  have hlb := lt_of_get hb
  have haL := fun L => get_app_old ha L
  have hbL := fun L => get_app_old hb L
  have hs1 : ∀ L X, (H ++ L).set a X = H.set a X ++ L := fun L X => by rw [List.set_append, if_pos hla]
  have hs2 : ∀ X L, (H.set a X ++ L)[b]? = some (.box 28 [I y]) := fun X L => by rw [List.getElem?_append_left (by simpa using hlb), List.getElem?_set_ne hab, hb]
  have hs3 : ∀ L X Y, (H.set a X ++ L).set b Y = (H.set a X).set b Y ++ L := fun L X Y => by rw [List.set_append, if_pos (by simpa using hlb)]
  simp -dsimp [assertV, haL, hbL, hs1, hs2, hs3]
theorem call_ok (l : Linear) (hs : l.Sm) (hok : l.ok = true) (regs : List Int) (hrl : regs.length ≤ 2^36) (k : Nat) (H : List Blk) (hk : H[k]? = some (ckB l regs (Ints.sl (lvL l)))) : ACalls Try.prog 39 [.bp k 0] H (fun e H' => e = .ret (.tup [I (chkM l regs).1, I (chkM l regs).2]) ∧ H' = H) := by
  refine acalls_tidy (acalls_of_vcD (hn := fun d => d == 35) (od := fun _ => none) Try.func39 rfl (by kernel_rfl) ?_)
  have ho := ((ok_iff l).1 hok).1
  have hcl := hs.code
  have hrt := hs.rets
  obtain ⟨E, hE⟩ : ∃ E, E = chkM l regs := ⟨_, rfl⟩
  rw [← hE]
  unfold chkM at hE
  rw [if_neg (by rw [hok]; decide)] at hE
  have fin : ∀ (a b : Int) L, E = (a, b) → Tidy H (fun e H' => e = .ret (.tup [I E.1, I E.2]) ∧ H' = H) (.ret (.tup [I a, I b])) (H ++ L) := fun a b L h => by
    rw [h]; exact tidy_same rfl ⟨rfl, rfl⟩
  replace fin := Hid.mk fin
  obtain ⟨N, hN⟩ : ∃ N : Int → Int → List Blk, ∀ a b, N a b = H ++ [.box 3 [I a], .box 28 [I b]] := ⟨_, fun _ _ => rfl⟩
  have hkL : ∀ a b L, (N a b ++ L)[k]? = some (ckB l regs (Ints.sl (lvL l))) := fun a b L => by rw [hN, List.append_assoc]; exact get_app_old hk _
  have hk0 : ∀ a b, (N a b)[k]? = some (ckB l regs (Ints.sl (lvL l))) := fun a b => by rw [hN]; exact get_app_old hk _
  have ha : ∀ a b L, (N a b ++ L)[H.length]? = some (.box 3 [I a]) := fun a b L => by rw [hN]; simp
  have hb : ∀ a b L, (N a b ++ L)[H.length + 1]? = some (.box 28 [I b]) := fun a b L => by rw [hN]; simp
  have sab : ∀ a b a' b' L, ((N a b ++ L).set H.length (.box 3 [I a'])).set (H.length + 1) (.box 28 [I b']) = N a' b' ++ L := fun a b a' b' L => by rw [hN, hN]; simp
  have fin2 : Hid (∀ a b L, E = (a, b) → Tidy H (fun e H' => e = .ret (.tup [I E.1, I E.2]) ∧ H' = H) (.ret (.tup [I a, I b])) (N a b ++ L)) := ⟨fun a b L h => by rw [hN, List.append_assoc]; exact fin.out a b _ h⟩
  simp -dsimp
  rw [← hN]
  have hN := Hid.mk hN
  have cb := cbeg_ok l hs hok regs hrl k (N 0 0) (hk0 _ _)
  have hE := Hid.mk hE
  refine acallsW_of cb ?_
  rintro e M ⟨rfl, L, rfl⟩
  have cm := fun (b : Bool) H => cmust_to (.bp k 0) l.code.length b H
  cases hbg : begOk l regs
  · simp -dsimp [mustR_f]
    refine recW_of (crec_some H.length (H.length + 1) (N 0 0 ++ L) (-1) 0 0 (ha _ _ _) (hb _ _ _) (by omega)) ?_
    rintro H' ⟨L', rfl⟩
    rw [sab, List.append_assoc]
    simp -dsimp [ha, hb]
    exact fin2.out _ _ _ (by rw [hE.out, if_pos hbg])
  have hlen := ((beg_iff ho).1 hbg).len
  replace hE : Hid (E = match (List.range l.code.length).find? fun i => !rightOk l regs i with | some i => ((i : Int), 16) | none => if l.rets.all (fun v => decide (0 ≤ rg regs v)) = true then (0, 0) else ((l.code.length : Int), 16)) := ⟨by rw [hE.out, if_neg (by rw [hbg]; decide)]; rfl⟩
  have cl := fun i hi H h => cline_ok l hs hok regs hrl hlen k i hi H h
  have ch := fun H h => chas_ok l regs (Ints.sl (lvL l)) k l.rets hlen ho.rets (by omega) H h
  have hlen := Hid.mk hlen
  simp -dsimp [mustR_t, hkL]
  refine loop_rule (hn := fun d => d == 35) (od := fun _ => none) (fun (n : Nat) f M => (∃ L, M = N 0 0 ++ L) ∧ f 0 = .bp k 0 ∧ f 2 = .bp H.length 0 ∧ f 3 = .bp (H.length + 1) 0 ∧ f 13 = I l.code.length ∧ f 14 = I n ∧ n ≤ l.code.length ∧ Hid (∀ i, i < n → rightOk l regs i = true)) (fun n => l.code.length - n) (by kernel_rfl) 0 (by refine ⟨⟨L, rfl⟩, by simp, by simp, by simp, by simp, by simp, by omega, ⟨fun i hi => by omega⟩⟩) ?_
  clear L cb
  rintro n f _ ⟨⟨L, rfl⟩, f0, f2, f3, f13, f14, hn, hall⟩
  simp -dsimp [f0, f2, f3, f13, f14]
  refine condVW_introD (fun hlt => ?_) (fun hlt => ?_)
  · have hlt' : n < l.code.length := by omega
    simp -dsimp [f0, f2, f3, f13, f14]
    refine acallsW_of (cl n hlt' _ (hkL _ _ _)) ?_
    rintro e M ⟨rfl, L2, rfl⟩
    rw [List.append_assoc]
    cases hr : rightOk l regs n
    · simp -dsimp [mustR_f, f0, f2, f3]
      refine recW_of (crec_some H.length (H.length + 1) (N 0 0 ++ (L ++ L2)) n 0 0 (ha _ _ _) (hb _ _ _) (by omega)) ?_
      rintro H' ⟨L', rfl⟩
      rw [sab, List.append_assoc]
      simp -dsimp [f0, f2, f3, ha, hb]
      refine fin2.out _ _ _ ?_
      have hf : (List.range l.code.length).find? (fun i => !rightOk l regs i) = some n := by
        rw [List.find?_range_eq_some]
        exact ⟨by rw [hr]; rfl, List.mem_range.2 hlt', fun j hj => by rw [hall.out j hj]; rfl⟩
      rw [hE.out, hf]
    · simp -dsimp [mustR_t, f0, f2, f3, f13, f14]
      refine ⟨n + 1, by omega, wrapS (by omega), by omega, ⟨fun i hi => ?_⟩⟩
      by_cases e : i = n
      · rw [e, hr]
      · exact hall.out i (by omega)
  have hf : (List.range l.code.length).find? (fun i => !rightOk l regs i) = none := by
    rw [List.find?_eq_none]
    intro i hi
    rw [hall.out i (by have := List.mem_range.1 hi; omega)]; decide
  replace hE : Hid (E = if l.rets.all (fun v => decide (0 ≤ rg regs v)) = true then (0, 0) else ((l.code.length : Int), 16)) := ⟨by rw [hE.out, hf]⟩
  clear hf hall
  obtain ⟨P1, hP1⟩ : ∃ P1, P1 = l.rets.all fun v => decide (0 ≤ rg regs v) := ⟨_, rfl⟩
  rw [← hP1] at ch hE
  clear hP1
  simp -dsimp [f0, f2, f3, hkL]
  refine callDW_intro (ch _ (hkL _ _ _)) ?_
  simp -dsimp [f0, f2, f3, hkL]
  refine acallsW_of (cm _ _) ?_
  rintro e _ ⟨rfl, rfl⟩
  cases P1
  · simp -dsimp [mustR_f, f0, f2, f3]
    refine recW_of (crec_some H.length (H.length + 1) (N 0 0 ++ L) l.code.length 0 0 (ha _ _ _) (hb _ _ _) (by omega)) ?_
    rintro H' ⟨L', rfl⟩
    rw [sab, List.append_assoc]
    simp -dsimp [f0, f2, f3, ha, hb]
    exact fin2.out _ _ _ (by rw [hE.out]; rfl)
  · have s1 := sab 0 0 0 0
    simp -dsimp [mustR_t, f0, f2, f3, ha, hb, s1]
    refine recW_of (crec_none _ _ _) ?_
    rintro H' rfl
    simp -dsimp [f0, f2, f3, ha, hb]
    exact fin2.out _ _ _ (by rw [hE.out]; rfl)
theorem ccheck_ok (l : Linear) (hs : l.Sm) (regs : List Int) (hrl : regs.length ≤ 2^36) (H : List Blk) : ACalls Try.prog 13 [.agg l.cells, Int.sl regs] H (fun e H' => e = .ret (.tup [I (chkM l regs).1, I (chkM l regs).2]) ∧ H' = H) := by
  refine acalls_tidy (acalls_of_vc (hn := fun _ => false) (od := fun _ => none) Try.func13 rfl (by kernel_rfl) ?_)
  cases hok : l.ok
  · have cl := fun H => live_no l hs hok H
    simp only [Linear.cells] at cl
    have e : chkM l regs = (0, 2) := by unfold chkM; rw [if_pos hok]
    rw [e]
    simp -dsimp
    refine acallsW_det (cl _) ?_
    simp -dsimp
    exact tidy_same rfl ⟨rfl, rfl⟩
  · have cl := fun H => live_ok l hs hok H
    simp only [Linear.cells] at cl
    have ca := fun k H h => call_ok l hs hok regs hrl k H h
    simp -dsimp
    refine acallsW_det (cl _) ?_
    simp -dsimp
    refine acallsW_det (ca _ _ (by simp)) ?_
    simp -dsimp
    exact tidy_same rfl ⟨rfl, rfl⟩
end Go.Proofs
namespace Go.Proofs
open Go.Mu
def rgN (regs : List Int) (v : Int) : Int := if v < 0 then v else rg regs v
abbrev regF (k : Nat) : AV := .fn (.func 42) [.bp k 0] []
theorem reg_ok (l : Linear) (regs : List Int) (lv : AV) (k : Nat) (v : Int) (hv : v < regs.length) (H : List Blk) (hk : H[k]? = some (ckB l regs lv)) : ACalls Try.prog 42 [.bp k 0, I v] H (fun e H' => e = .ret (I (rgN regs v)) ∧ H' = H) := by
  refine acalls_of_vc (hn := fun _ => false) (od := fun _ => none) Try.func42 rfl (by kernel_rfl) ?_
  by_cases h : v < 0
  · have d : decide (v < 0) = true := decide_eq_true h
    have e : rgN regs v = v := if_pos h
    rw [e]
    simp -dsimp [d]
  · have d : decide (v < 0) = false := decide_eq_false h
    have e : rgN regs v = rg regs v := if_neg h
    have hg := rg_get (regs := regs) (v := v) (by omega) hv
    have hv' : 0 ≤ v := by omega
    rw [e]
    simp -dsimp [d, hk]
    refine ⟨hv', ?_⟩
    simp -dsimp [hk, hg]
theorem each_own (l : Linear) (regs : List Int) (lv : AV) (k : Nat) (vs : List Int) (hv : ∀ v ∈ vs, v < regs.length) (hl : vs.length ≤ 2^38) (H : List Blk) (hk : H[k]? = some (ckB l regs lv)) : ACalls Try.prog 43 [Int.sl vs, regF k] H (SortR H (vs.map (rgN regs))) := by
  refine acalls_of_vc (hn := fun d => d == 19) (od := fun _ => none) Try.func43 rfl (by kernel_rfl) ?_
  simp -dsimp
  refine loop_rule (hn := fun d => d == 19) (od := fun _ => none) (fun (i : Nat) f M => f 1 = regF k ∧ f 8 = Int.sl vs ∧ f 9 = I vs.length ∧ f 10 = I i ∧ i ≤ vs.length ∧ ∃ h, f 5 = hrow h ((vs.take i).map (rgN regs)).length ∧ OwnI H M h ((vs.take i).map (rgN regs))) (fun i => vs.length - i) (by kernel_rfl) 0 (by refine ⟨by simp, by simp, by simp, by simp, by omega, none, rfl, .nil1 _ _ _⟩) ?_
  rintro i f M ⟨f1, f8, f9, f10, hi, h, f5, ow⟩
  simp -dsimp [f1, f8, f9, f10]
  refine condVW_introD (fun hlt => ?_) (fun hlt => ?_)
  · have hlt' : i < vs.length := by omega
    have hx := List.getElem?_eq_getElem hlt'
    have hxm : vs[i] ∈ vs := List.getElem_mem hlt'
    have hnew : (vs.take (i + 1)).map (rgN regs) = (vs.take i).map (rgN regs) ++ [rgN regs vs[i]] := by rw [List.take_succ_eq_append_getElem hlt', List.map_append]; rfl
    obtain ⟨n, hn⟩ : ∃ n, n = vs[i] := ⟨_, rfl⟩
    rw [← hn] at hx hxm hnew
    have cr := reg_ok l regs lv k n (hv n hxm) M (ow.old hk)
    have hlen : ((vs.take i).map (rgN regs)).length ≤ 2^38 := by simp; omega
    obtain ⟨pr, hpr⟩ : ∃ pr, pr = (vs.take i).map (rgN regs) := ⟨_, rfl⟩
    rw [← hpr] at hnew f5 ow hlen
    replace hpr := Hid.mk hpr
    replace hnew := Hid.mk hnew
    simp -dsimp [f1, f5, f8, f9, f10, hx]
    refine acallsW_det cr ?_
    simp -dsimp [f1, f5, f8, f9, f10, hx]
    refine app_own ow (by simp) rfl rfl (by simp; omega) (by simp; omega) ?_
    intro h' M' ow' _
    have ow2 : OwnI H M' h' (pr ++ [rgN regs n]) := by unfold OwnI; rw [List.map_append]; exact ow'
    have e : (pr.map (fun n => [I n]) ++ [[I (rgN regs n)]]).length = (pr ++ [rgN regs n]).length := by simp
    rw [e]
    rw [← hnew.out] at ow2 ⊢
    simp -dsimp [f1, f8, f9, f10]
    refine ⟨i + 1, by omega, wrapS (by omega), by omega, h', ?_, ?_⟩
    · rfl
    · rw [← List.map_take]; exact ow2
  · simp -dsimp [f5]
    have e : min i vs.length = (vs.map (rgN regs)).length := by simp; omega
    rw [e]
    rw [List.take_of_length_le (by omega)] at ow
    exact ⟨h, rfl, ow⟩
theorem each_ok (l : Linear) (regs : List Int) (lv : AV) (k : Nat) (vs : List Int) (hv : ∀ v ∈ vs, v < regs.length) (hl : vs.length ≤ 2^38) (H : List Blk) (hk : H[k]? = some (ckB l regs lv)) : ACalls Try.prog 43 [Int.sl vs, regF k] H (fun e H' => e = .ret (Int.sl (vs.map (rgN regs))) ∧ H' = H) := by
  refine acalls_under fun hu _ => acalls_weakE (acalls_tidy ((each_own l regs lv k vs hv hl H hk).mono ?_))
  rintro e M ⟨h, rfl, ow⟩
  exact tidy_rowA hu ow (int_frzB _) (map_len _).symm ⟨rfl, rfl⟩
end Go.Proofs
namespace Go.Proofs
open Go.Mu
structure InsIn (vars : Int) (x : Ins) : Prop where
  kd : x.kind = 1 ∨ x.kind = 2 ∨ x.kind = 3 ∨ x.kind = 4 ∨ x.kind = 5
  d : x.kind ≠ 5 → 0 ≤ x.d ∧ x.d < vars
  a : x.kind = 2 ∨ x.kind = 3 → 0 ≤ x.a ∧ x.a < vars
  a' : x.kind = 4 ∨ x.kind = 5 → x.a = -1 ∨ (0 ≤ x.a ∧ x.a < vars)
  b : x.kind = 3 → 6 ≤ x.op → 0 ≤ x.b ∧ x.b < vars
  b' : x.kind = 5 → 0 ≤ x.b ∧ x.b < vars
  c : x.kind = 3 → x.op = 21 → 0 ≤ x.c ∧ x.c < vars
  op : x.kind = 3 → 4 ≤ x.op ∧ x.op ≤ 21
theorem ins_inn {vars : Int} {x : Ins} (h : insOk vars x = true) : InsIn vars x := by
  obtain ⟨kind, op, d, a, b, c, word, stack⟩ := x
  unfold insOk at h
  simp only [Bool.or_eq_true, Bool.and_eq_true, beq_iff_eq, isVr_iff] at h
  have ha : ∀ n, arityI op = n → (n = 1 ∧ (op = 4 ∨ op = 5)) ∨ (n = 2 ∧ 6 ≤ op ∧ op ≤ 20) ∨ (n = 3 ∧ op = 21) ∨ n = 0 := by
    intro n hn
    unfold arityI at hn
    split at hn
    · omega
    · split at hn
      · omega
      · split at hn <;> omega
  have ha := ha _ rfl
  constructor <;> simp only <;> omega
theorem rgN_in (regs : List Int) {v : Int} (h : 0 ≤ v) : rgN regs v = rg regs v := if_neg (by omega)
theorem renamed_ok (l : Linear) (regs : List Int) (lv : AV) (k : Nat) (x : Ins) (hx : insOk l.vars x = true) (hl : (regs.length : Int) = l.vars) (H : List Blk) (hk : H[k]? = some (ckB l regs lv)) : ACalls Try.prog 44 [.agg x.cells, regF k] H (fun e H' => e = .ret (.agg (renIns regs x).cells) ∧ H' = H) := by
  have hi := ins_inn hx
  have cr := fun v M (h : v < (regs.length : Int)) q => reg_ok l regs lv k v h M q
  have hg : ∀ L, (H ++ L)[k]? = some (ckB l regs lv) := fun L => get_app_old hk L
  clear hx
  obtain ⟨kind, op, d, a, b, c, word, stack⟩ := x
  obtain ⟨h0, h1, h2, h3, h4, h5, h6, h7⟩ := hi
  simp only at h0 h1 h2 h3 h4 h5 h6 h7
  refine acalls_tidy (acalls_of_vc (hn := fun _ => false) (od := fun _ => none) Try.func44 rfl (by kernel_rfl) ?_)
  rcases h0 with rfl | rfl | rfl | rfl | rfl
  · have p1 := h1 (by decide)
    have q1 := rgN_in regs p1.1
    simp -dsimp [renIns]
    refine acallsW_det (cr d _ (by omega) (hg _)) ?_
    simp -dsimp [q1]
    exact tidy_same rfl ⟨rfl, rfl⟩
  · have p1 := h1 (by decide)
    have p2 := h2 (by decide)
    have q1 := rgN_in regs p1.1
    have q2 := rgN_in regs p2.1
    simp -dsimp [renIns]
    refine acallsW_det (cr a _ (by omega) (hg _)) ?_
    simp -dsimp [q2]
    refine acallsW_det (cr d _ (by omega) (hg _)) ?_
    simp -dsimp [q1]
    exact tidy_same rfl ⟨rfl, rfl⟩
  · have p1 := h1 (by decide)
    have p2 := h2 (by decide)
    have p7 := h7 rfl
    have q1 := rgN_in regs p1.1
    have q2 := rgN_in regs p2.1
    by_cases e21 : op = 21
    · subst e21
      have p3 := h6 rfl rfl
      have p4 := h4 rfl (by decide)
      have q3 := rgN_in regs p3.1
      have q4 := rgN_in regs p4.1
      simp -dsimp [renIns]
      refine acallsW_det (cr c _ (by omega) (hg _)) ?_
      simp -dsimp [q3]
      refine acallsW_det (cr b _ (by omega) (hg _)) ?_
      simp -dsimp [q4]
      refine acallsW_det (cr a _ (by omega) (hg _)) ?_
      simp -dsimp [q2]
      refine acallsW_det (cr d _ (by omega) (hg _)) ?_
      simp -dsimp [q1]
      exact tidy_same rfl ⟨rfl, rfl⟩
    have d21 : (op == 21) = false := by simpa using e21
    by_cases e6 : 6 ≤ op
    · have d6 : decide (6 ≤ op) = true := decide_eq_true e6
      have p4 := h4 rfl e6
      have q4 := rgN_in regs p4.1
      have er : renIns regs ⟨3, op, d, a, b, c, word, stack⟩ = ⟨3, op, rg regs d, rg regs a, rg regs b, c, word, stack⟩ := by unfold renIns; simp [e6, e21]
      rw [er]
      simp -dsimp [d21, d6]
      refine acallsW_det (cr b _ (by omega) (hg _)) ?_
      simp -dsimp [q4]
      refine acallsW_det (cr a _ (by omega) (hg _)) ?_
      simp -dsimp [q2]
      refine acallsW_det (cr d _ (by omega) (hg _)) ?_
      simp -dsimp [q1]
      exact tidy_same rfl ⟨rfl, rfl⟩
    · have d6 : decide (6 ≤ op) = false := decide_eq_false e6
      have er : renIns regs ⟨3, op, d, a, b, c, word, stack⟩ = ⟨3, op, rg regs d, rg regs a, b, c, word, stack⟩ := by unfold renIns; simp [e6, e21]
      rw [er]
      simp -dsimp [d21, d6]
      refine acallsW_det (cr a _ (by omega) (hg _)) ?_
      simp -dsimp [q2]
      refine acallsW_det (cr d _ (by omega) (hg _)) ?_
      simp -dsimp [q1]
      exact tidy_same rfl ⟨rfl, rfl⟩
  · have p1 := h1 (by decide)
    have q1 := rgN_in regs p1.1
    have p3 := h3 (by decide)
    have er : renIns regs ⟨4, op, d, a, b, c, word, stack⟩ = ⟨4, op, rg regs d, rgN regs a, b, c, word, stack⟩ := rfl
    rw [er]
    simp -dsimp
    refine acallsW_det (cr a _ (by omega) (hg _)) ?_
    simp -dsimp
    refine acallsW_det (cr d _ (by omega) (hg _)) ?_
    simp -dsimp [q1]
    exact tidy_same rfl ⟨rfl, rfl⟩
  · have p5 := h5 rfl
    have q5 := rgN_in regs p5.1
    have p3 := h3 (by decide)
    have er : renIns regs ⟨5, op, d, a, b, c, word, stack⟩ = ⟨5, op, d, rgN regs a, rg regs b, c, word, stack⟩ := rfl
    rw [er]
    simp -dsimp
    refine callDW_intro (cr a _ (by omega) (hg _)) ?_
    simp -dsimp
    refine callDW_intro (cr b _ (by omega) (hg _)) ?_
    simp -dsimp [q5]
    exact tidy_same rfl ⟨rfl, rfl⟩
end Go.Proofs
namespace Go.Proofs
open Go.Mu
theorem chk0 {l : Linear} {regs : List Int} (h : (chkM l regs).2 = 0) : l.ok = true ∧ begOk l regs = true := by
  unfold chkM at h
  split at h
  · simp at h
  · rename_i h1
    split at h
    · simp at h
    · rename_i h2
      exact ⟨by simpa using h1, by simpa using h2⟩
theorem map_rgN (regs : List Int) {vs : List Int} (h : ∀ v ∈ vs, 0 ≤ v) : vs.map (rgN regs) = vs.map (rg regs) := List.map_congr_left fun v hv => rgN_in regs (h v hv)
theorem own_box {t sz : Nat} {B M : List Blk} {h : Option Nat} {es : List (List AV)} {b b' : Blk} (o : Own t sz (B ++ [b]) M h es) : Own t sz (B ++ [b']) (M.set B.length b') h es := by
  obtain ⟨⟨L, rfl⟩, r, nl, nw⟩ := o
  refine ⟨⟨L, by simp⟩, fun k hk => ?_, nl, fun k hk => by simpa using nw k hk⟩
  rw [List.getElem?_set_ne (by have := nw k hk; simp at this; omega)]
  exact r k hk
theorem own_setNew {t sz k : Nat} {H M : List Blk} {h : Option Nat} {es : List (List AV)} {b : Blk} (o : Own t sz H M h es) (hk : H.length ≤ k) (hne : h ≠ some k) : Own t sz H (M.set k b) h es := by
  obtain ⟨⟨L, rfl⟩, r, nl, nw⟩ := o
  refine ⟨⟨L.set (k - H.length) b, by rw [List.set_append_right _ _ hk]⟩, fun j hj => ?_, nl, nw⟩
  rw [List.getElem?_set_ne (fun e => hne (by rw [hj, e]))]
  exact r j hj
theorem tidy_rowIn {t sz : Nat} {H M : List Blk} {h : Option Nat} {es : List (List AV)} {R : AE → List Blk → Prop} {n : Nat} {c1 c2 c3 c4 : AV} {y : Value} (hu : underH H.length H = true) (o : Own t sz H M h es) (hz : es.flatten.all AV.frzB = true) (hn : n = es.length)
    (q : ∀ k, (.agg [c1, c2, c3, c4] : AV).frz k sz es = .agg [c1, c2, c3, c4]) (hc : underL H.length [c1, c2, c3, c4] = true) (hR : R (.ret (.tup [.agg [c1, c2, c3, c4, .vs sz es], .v y])) H) : Tidy H (WeakE R) (.ret (.tup [.agg [c1, c2, c3, c4, hrow h n], .v y])) M := by
  subst hn
  obtain ⟨L, rfl⟩ := o.pre
  have := tidy_giveC (R := WeakE R) (f := fun x => .tup [.agg [c1, c2, c3, c4, x], .v y]) (m := es.length) hu o hz (fun k hk => ?_) fun x L' hx _ _ => ?_
  · rw [cutS_all] at this; exact this
  · have := q k
    simp only [AV.frz, frzL, AV.agg.injEq, List.cons.injEq] at this
    simp [AV.frz, frzL, this]
  · rw [List.take_of_length_le (by omega)] at hx
    simp only [underL, Bool.and_eq_true] at hc
    refine tidy_same (by simp [AV.under, underL, hx.under, hc]) ⟨_, .tupL (.cons (.aggL (.cons (.refl _) (.cons (.refl _) (.cons (.refl _) (.cons (.refl _) (.cons hx.weak .nil)))))) (.cons (.refl _) .nil)), hR⟩
theorem line_frzB (f : Line → Line) (l : List Line) : (l.map fun x => (f x).cells).flatten.all AV.frzB = true := by
  induction l with
  | nil => rfl
  | cons x l ih => rw [List.map_cons, List.flatten_cons, List.all_append, ih]; simp [AV.frzB]
abbrev oB (l : Linear) (ps rs : List Int) (c : AV) : Blk := .box 25 [I 11, Int.sl ps, Int.sl rs, I l.frame, c]
noncomputable def renE (l : Linear) (regs : List Int) : AE := if (chkM l regs).2 = 0 then .ret (.tup [.agg (renL l regs).cells, I 0]) else .ret (.tup [.agg (Linear.mk 0 [] [] 0 []).cells, I (chkM l regs).2])
def rnOd (i : Nat) : Option OPlan := if i = 6 then some [(0, []), (1, []), (2, []), (3, []), (4, []), (5, []), (6, []), (7, []), (8, []), (9, []), (10, []), (11, [0, 1, 3, 4, 5, 7, 8, 9]), (12, [])] else none
theorem rename_ok (l : Linear) (hs : l.Sm) (regs : List Int) (hrl : regs.length ≤ 2^36) (H : List Blk) : ACalls Try.prog 18 [.agg l.cells, Int.sl regs] H (fun e H' => e = renE l regs ∧ H' = H) := by
  refine acalls_under fun hu _ => acalls_weakE (acalls_tidy (acalls_of_vc (hn := fun d => d == 69) (od := rnOd) Try.func18 rfl (by kernel_rfl) ?_))
  have ck := fun H => ccheck_ok l hs regs hrl H
  have h0 := @chk0 l regs
  obtain ⟨E, hE⟩ : ∃ E, E = renE l regs := ⟨_, rfl⟩
  rw [← hE]
  unfold renE at hE
  obtain ⟨a, ha⟩ : ∃ a, a = (chkM l regs).1 := ⟨_, rfl⟩
  obtain ⟨b, hb⟩ : ∃ b, b = (chkM l regs).2 := ⟨_, rfl⟩
  rw [← hb] at h0 hE
  simp only [← ha, ← hb] at ck
  simp only [Linear.cells] at ck
  clear ha hb
  by_cases hb0 : b = 0
  · rw [if_pos hb0] at hE
    subst hb0
    obtain ⟨hok, hbg⟩ := h0 rfl
    have ho := ((ok_iff l).1 hok).1
    have hlen := ((beg_iff ho).1 hbg).len
    have hlines := ho.lines
    have e1 := fun lv k H hk => each_ok l regs lv k l.params (fun v hv => by have := (ho.params v hv).2; omega) (by have := hs.params; omega) H hk
    have e2 := fun lv k H hk => each_ok l regs lv k l.rets (fun v hv => by have := (ho.rets v hv).2; omega) (by have := hs.rets; omega) H hk
    rw [map_rgN regs fun v hv => (ho.params v hv).1] at e1
    rw [map_rgN regs fun v hv => (ho.rets v hv).1] at e2
    have e3 := fun lv k x (hx : insOk l.vars x = true) H hk => renamed_ok l regs lv k x hx hlen H hk
    have e4 := fun lv k v (hx : v < (regs.length : Int)) H hk => reg_ok l regs lv k v hx H hk
    have hc := hs.code
    obtain ⟨ps, hps⟩ : ∃ ps, ps = l.params.map (rg regs) := ⟨_, rfl⟩
    obtain ⟨rs, hrs⟩ : ∃ rs, rs = l.rets.map (rg regs) := ⟨_, rfl⟩
    rw [← hps] at e1
    rw [← hrs] at e2
    unfold renL at hE
    rw [← hps, ← hrs] at hE
    clear hps hrs
    clear hok hbg h0
    have hE := Hid.mk hE
    have hu := Hid.mk hu
    have hlen := Hid.mk hlen
    have hk3 : ∀ a b, (H ++ [a, b, ckB l regs nilS])[H.length + 2]? = some (ckB l regs nilS) := fun a b => by simp
    simp -dsimp
    refine acallsW_det (ck _) ?_
    simp -dsimp [rnOd]
    refine callDW_intro (e1 nilS (H.length + 2) _ (hk3 _ _))  ?_
    simp -dsimp
    refine callDW_intro (e2 nilS (H.length + 2) _ (hk3 _ _)) ?_
    simp -dsimp
    have hk4 : ∀ a b c, (H ++ [a, b, ckB l regs nilS, c])[H.length + 2]? = some (ckB l regs nilS) := fun a b c => by simp
    refine ⟨⟨callDW_intro (e1 nilS (H.length + 2) _ (hk4 _ _ _)) ?_, callDW_intro (e2 nilS (H.length + 2) _ (hk4 _ _ _)) ?_⟩, ?_⟩
    · simp -dsimp
    · simp -dsimp
    clear e1 e2 ck
    obtain ⟨B, hB⟩ : ∃ B, B = H ++ [.box 25 l.cells, .box 25 [I 0, nilS, nilS, I 0, nilS], ckB l regs nilS] := ⟨_, rfl⟩
    have hkB : ∀ L, (B ++ L)[H.length + 2]? = some (ckB l regs nilS) := fun L => by rw [hB]; simp
    have hzB : B[H.length + 1]? = some (.box 25 [I 0, nilS, nilS, I 0, nilS]) := by rw [hB]; simp
    have hBl : B.length = H.length + 3 := by rw [hB]; simp
    refine loop_rule (hn := fun d => d == 69) (od := rnOd) (fun (i : Nat) f M => f 4 = .bp (H.length + 1) 0 ∧ f 9 = regF (H.length + 2) ∧ f 10 = .bp B.length 0 ∧ f 41 = Line.sl l.code ∧ f 42 = I l.code.length ∧ f 43 = I i ∧ i ≤ l.code.length ∧ ∃ h, Own 41 11 (B ++ [oB l ps rs (hrow h i)]) M h ((l.code.take i).map fun x => (renLine regs x).cells)) (fun i => l.code.length - i) (by kernel_rfl) 0 (by refine ⟨by simp, by simp, by simp [hBl], by simp, by simp, by simp, by omega, none, ?_⟩; rw [hB, List.append_assoc]; exact Own.nil1 41 11 _) ?_
    replace hB := Hid.mk hB
    rintro i f M ⟨f4, f9, f10, f41, f42, f43, hi, h, ow⟩
    have bk : M[H.length + 2]? = some (ckB l regs nilS) := ow.old (by simpa using hkB _)
    have b10 : M[B.length]? = some (oB l ps rs (hrow h i)) := ow.old (by simp)
    simp -dsimp [f4, f9, f10, f41, f42, f43]
    refine condVW_introD (fun hlt => ?_) (fun hlt => ?_)
    · have hlt' : i < l.code.length := by omega
      have hx := List.getElem?_eq_getElem hlt'
      have hxm : l.code[i] ∈ l.code := List.getElem_mem hlt'
      have htk : l.code.take (i + 1) = l.code.take i ++ [l.code[i]] := List.take_succ_eq_append_getElem hlt'
      have hlo := hlines _ hxm
      obtain ⟨x, hxe⟩ : ∃ x, x = l.code[i] := ⟨_, rfl⟩
      rw [← hxe] at hx hlo htk
      clear hxe hxm hlines
      replace htk := htk
      have g41 : (l.code.map Line.cells)[i]? = some x.cells := by rw [List.getElem?_map, hx]; rfl
      obtain ⟨kind, ins, var, label⟩ := x
      have b10 : ∀ L, (M ++ L)[B.length]? = some (oB l ps rs (hrow h i)) := fun L => get_app_old b10 L
      have bk : ∀ L, (M ++ L)[H.length + 2]? = some (ckB l regs nilS) := fun L => get_app_old bk L
      clear hx
      unfold lineOk at hlo
      simp only at hlo
      by_cases k4 : kind = 4
      · subst k4
        simp only [Int.reduceEq, if_false, if_true, or_self, Bool.and_eq_true] at hlo
        have hv := isVr_iff.1 hlo.1.2
        have q := rgN_in regs hv.1
        have hlen' := hlen.out
        simp -dsimp [f9, f10, f41, f42, f43, g41]
        refine acallsW_det (e4 nilS _ var (by omega) _ (bk _)) ?_
        simp -dsimp [q]
        simp -dsimp [f9, f10, f41, f42, f43, b10]
        refine app_own (ow.app _) (by simp; omega) rfl rfl (by simp; omega) (by simp; omega) ?_
        intro h' M' ow' _
        have b11 := ow'.old (show (B ++ [oB l ps rs (hrow h i)])[B.length]? = some (oB l ps rs (hrow h i)) by simp)
        have ow2 := own_box (b' := oB l ps rs (hrow h' (i + 1))) ow'
        have e : (((l.code.take i).map fun x => (renLine regs x).cells) ++ [(Line.mk 4 ins (rg regs var) label).cells]) = (l.code.take (i + 1)).map fun x => (renLine regs x).cells := by rw [htk, List.map_append]; simp [renLine]
        have ow3 : Own 41 11 (B ++ [oB l ps rs (hrow h' (i + 1))]) (M'.set B.length (oB l ps rs (hrow h' (i + 1)))) h' ((l.code.take (i + 1)).map fun x => (renLine regs x).cells) := by rw [← e]; exact ow2
        have e2 : ∀ c : List AV, (((l.code.take i).map fun x => (renLine regs x).cells) ++ [c]).length = i + 1 := fun c => by simp; omega
        rw [e2]
        simp -dsimp [f4, f9, f10, f41, f42, f43, b11]
        exact ⟨i + 1, by omega, wrapS (by omega), by omega, h', by rw [← List.map_take]; exact ow3⟩
      have d4 : (kind == 4) = false := by simpa using k4
      by_cases k1 : kind = 1
      · subst k1
        simp only [Int.reduceEq, if_false, if_true, or_self, Bool.and_eq_true] at hlo
        have cr := e3 nilS (H.length + 2) ins hlo.1 _ (bk [.box 41 (Line.mk 1 ins var label).cells])
        obtain ⟨y, hy⟩ : ∃ y, y = renIns regs ins := ⟨_, rfl⟩
        rw [← hy] at cr
        replace hy := Hid.mk hy
        simp -dsimp [f9, f10, f41, f42, f43, g41]
        refine acallsW_det cr ?_
        simp -dsimp [f9, f10, f41, f42, f43, b10]
        refine app_own (ow.app _) (by simp; omega) rfl rfl (by simp; omega) (by simp; omega) ?_
        intro h' M' ow' _
        have b11 := ow'.old (show (B ++ [oB l ps rs (hrow h i)])[B.length]? = some (oB l ps rs (hrow h i)) by simp)
        have ow2 := own_box (b' := oB l ps rs (hrow h' (i + 1))) ow'
        have e : (((l.code.take i).map fun x => (renLine regs x).cells) ++ [(Line.mk 1 y var label).cells]) = (l.code.take (i + 1)).map fun x => (renLine regs x).cells := by rw [htk, List.map_append]; simp [renLine, hy.out]
        have ow3 : Own 41 11 (B ++ [oB l ps rs (hrow h' (i + 1))]) (M'.set B.length (oB l ps rs (hrow h' (i + 1)))) h' ((l.code.take (i + 1)).map fun x => (renLine regs x).cells) := by rw [← e]; exact ow2
        have e2 : ∀ c : List AV, (((l.code.take i).map fun x => (renLine regs x).cells) ++ [c]).length = i + 1 := fun c => by simp; omega
        rw [e2]
        simp -dsimp [f4, f9, f10, f41, f42, f43, b11]
        exact ⟨i + 1, by omega, wrapS (by omega), by omega, h', by rw [← List.map_take]; exact ow3⟩
      have d1 : (kind == 1) = false := by simpa using k1
      have er : renLine regs ⟨kind, ins, var, label⟩ = ⟨kind, ins, var, label⟩ := by unfold renLine; simp [k1, k4]
      simp -dsimp [f9, f10, f41, f42, f43, g41, d1, d4]
      simp -dsimp [f9, f10, f41, f42, f43, b10]
      refine app_own (ow.app _) (by simp; omega) rfl rfl (by simp; omega) (by simp; omega) ?_
      intro h' M' ow' _
      have b11 := ow'.old (show (B ++ [oB l ps rs (hrow h i)])[B.length]? = some (oB l ps rs (hrow h i)) by simp)
      have ow2 := own_box (b' := oB l ps rs (hrow h' (i + 1))) ow'
      have e : (((l.code.take i).map fun x => (renLine regs x).cells) ++ [(Line.mk kind ins var label).cells]) = (l.code.take (i + 1)).map fun x => (renLine regs x).cells := by rw [htk, List.map_append]; simp [er]
      have ow3 : Own 41 11 (B ++ [oB l ps rs (hrow h' (i + 1))]) (M'.set B.length (oB l ps rs (hrow h' (i + 1)))) h' ((l.code.take (i + 1)).map fun x => (renLine regs x).cells) := by rw [← e]; exact ow2
      have e2 : ∀ c : List AV, (((l.code.take i).map fun x => (renLine regs x).cells) ++ [c]).length = i + 1 := fun c => by simp; omega
      rw [e2]
      simp -dsimp [f4, f9, f10, f41, f42, f43, b11]
      exact ⟨i + 1, by omega, wrapS (by omega), by omega, h', by rw [← List.map_take]; exact ow3⟩
    · have hi' : i = l.code.length := by omega
      subst hi'
      rw [List.take_of_length_le (Nat.le_refl _)] at ow
      have bz : M[H.length + 1]? = some (.box 25 [I 0, nilS, nilS, I 0, nilS]) := ow.old (get_app_old hzB _)
      have bz2 : ∀ b, (M.set (H.length + 1) b)[H.length + 1]? = some b := fun b => by rw [List.getElem?_set_self (lt_of_get bz)]
      simp -dsimp [f4, f10, b10, bz, bz2]
      have ow2 : Own 41 11 H M h (l.code.map fun x => (renLine regs x).cells) := by
        rw [hB.out, List.append_assoc] at ow
        exact ow.less
      refine tidy_rowIn hu.out (own_setNew ow2 (by omega) (fun e => by have := ow.new _ e; simp at this; omega)) (line_frzB _ _) (by simp) (fun k => by simp [AV.frz, frzL]) (by simp [AV.under, underL]) ⟨?_, rfl⟩
      rw [hE.out]
      simp
  · rw [if_neg hb0] at hE
    have hE := Hid.mk hE
    have hbb : (b != 0) = true := by simpa using hb0
    simp -dsimp
    refine acallsW_det (ck _) ?_
    simp -dsimp [hbb]
    exact tidy_same rfl ⟨_, .tupL (.cons (.aggL (.cons (.refl _) (.cons (.nil 1) (.cons (.nil 1) (.cons (.refl _) (.cons (.nil 11) .nil)))))) (.cons (.refl _) .nil)), by rw [hE.out]; simp, rfl⟩
end Go.Proofs
namespace Go.Proofs
open Go.Mu
theorem tidy_rowIn1 {t sz : Nat} {H M : List Blk} {h : Option Nat} {es : List (List AV)} {R : AE → List Blk → Prop} {n : Nat} {c1 c2 c3 c4 : AV} (hu : underH H.length H = true) (o : Own t sz H M h es) (hz : es.flatten.all AV.frzB = true) (hn : n = es.length)
    (q : ∀ k, (.agg [c1, c2, c3, c4] : AV).frz k sz es = .agg [c1, c2, c3, c4]) (hc : underL H.length [c1, c2, c3, c4] = true) (hR : R (.ret (.agg [c1, c2, c3, c4, .vs sz es])) H) : Tidy H (WeakE R) (.ret (.agg [c1, c2, c3, c4, hrow h n])) M := by
  subst hn
  obtain ⟨L, rfl⟩ := o.pre
  have := tidy_giveC (R := WeakE R) (f := fun x => .agg [c1, c2, c3, c4, x]) (m := es.length) hu o hz (fun k hk => ?_) fun x L' hx _ _ => ?_
  · rw [cutS_all] at this; exact this
  · have := q k
    simp only [AV.frz, frzL, AV.agg.injEq, List.cons.injEq] at this
    simp [AV.frz, frzL, this]
  · rw [List.take_of_length_le (by omega)] at hx
    simp only [underL, Bool.and_eq_true] at hc
    refine tidy_same (by simp [AV.under, underL, hx.under, hc]) ⟨_, .aggL (.cons (.refl _) (.cons (.refl _) (.cons (.refl _) (.cons (.refl _) (.cons hx.weak .nil))))), hR⟩
theorem rlist_ok (regs vs : List Int) (hv : ∀ v ∈ vs, 0 ≤ v ∧ v < regs.length) (hl : vs.length ≤ 2^38) (H : List Blk) : ACalls Try.prog 49 [Int.sl vs, Int.sl regs] H (fun e H' => e = .ret (Int.sl (vs.map (rg regs))) ∧ H' = H) := by
  refine acalls_under fun hu _ => acalls_weakE (acalls_tidy (acalls_of_vc (hn := fun d => d == 22) (od := fun _ => none) Try.func49 rfl (by kernel_rfl) ?_))
  obtain ⟨E, hE⟩ : ∃ E, E = vs.map (rg regs) := ⟨_, rfl⟩
  rw [← hE]
  replace hE := Hid.mk hE
  simp -dsimp
  refine loop_rule (hn := fun d => d == 22) (od := fun _ => none) (fun (i : Nat) f M => f 0 = Int.sl vs ∧ f 1 = Int.sl regs ∧ f 6 = I i ∧ i ≤ vs.length ∧ ∃ h, f 5 = hrow h ((vs.take i).map (rg regs)).length ∧ OwnI H M h ((vs.take i).map (rg regs))) (fun i => vs.length - i) (by kernel_rfl) 0 (by refine ⟨by simp, by simp, by simp, by omega, none, rfl, .nil1 _ _ _⟩) ?_
  rintro i f M ⟨f0, f1, f6, hi, h, f5, ow⟩
  simp -dsimp [f0, f1, f6]
  refine condVW_introD (fun hlt => ?_) (fun hlt => ?_)
  · have hlt' : i < vs.length := by omega
    have hx := List.getElem?_eq_getElem hlt'
    have hxm : vs[i] ∈ vs := List.getElem_mem hlt'
    have hnew : (vs.take (i + 1)).map (rg regs) = (vs.take i).map (rg regs) ++ [rg regs vs[i]] := by rw [List.take_succ_eq_append_getElem hlt', List.map_append]; rfl
    obtain ⟨n, hn⟩ : ∃ n, n = vs[i] := ⟨_, rfl⟩
    rw [← hn] at hx hxm hnew
    have hg := rg_get (hv n hxm).1 (hv n hxm).2
    have hz := (hv n hxm).1
    have hlen : ((vs.take i).map (rg regs)).length ≤ 2^38 := by simp; omega
    obtain ⟨pr, hpr⟩ : ∃ pr, pr = (vs.take i).map (rg regs) := ⟨_, rfl⟩
    rw [← hpr] at hnew f5 ow hlen
    replace hpr := Hid.mk hpr
    replace hnew := Hid.mk hnew
    simp -dsimp [f0, f1, f5, f6, hx, hg, hz]
    refine app_own ow (by simp) rfl rfl (by simp; omega) (by simp; omega) ?_
    intro h' M' ow' _
    have ow2 : OwnI H M' h' (pr ++ [rg regs n]) := by unfold OwnI; rw [List.map_append]; exact ow'
    have e : (pr.map (fun n => [I n]) ++ [[I (rg regs n)]]).length = (pr ++ [rg regs n]).length := by simp
    rw [e]
    rw [← hnew.out] at ow2 ⊢
    simp -dsimp [f0, f1, f6]
    refine ⟨i + 1, by omega, wrapS (by omega), by omega, h', ?_, ?_⟩
    · rfl
    · rw [← List.map_take]; exact ow2
  · rw [List.take_of_length_le (by omega), ← hE.out] at ow f5
    simp -dsimp [f5]
    exact tidy_rowA hu ow (int_frzB _) (by simp) ⟨rfl, rfl⟩
theorem rarity18_ok (op : Int) (H : List Blk) : ACalls Try.prog 51 [I op] H (fun e H' => e = .ret (I (if op = 4 ∨ op = 5 then 1 else if op = 21 then 3 else 2)) ∧ H' = H) := by
  refine acalls_of_vc (hn := fun _ => false) (od := fun _ => none) Try.func51 rfl (by kernel_rfl) ?_
  by_cases h4 : op = 4
  · subst h4; simp -dsimp
  by_cases h5 : op = 5
  · subst h5; simp -dsimp
  by_cases h21 : op = 21
  · subst h21; simp -dsimp
  have d4 : (op == 4) = false := by simpa using h4
  have d5 : (op == 5) = false := by simpa using h5
  have d21 : (op == 21) = false := by simpa using h21
  rw [if_neg (by omega), if_neg h21]
  simp -dsimp [d4, d5, d21]
def rrOd (i : Nat) : Option OPlan := if i = 1 then some [(0, []), (1, []), (2, []), (3, []), (4, []), (5, []), (6, []), (7, []), (8, []), (9, []), (10, []), (11, [0, 1, 3, 4, 5, 7, 8, 9]), (12, [])] else none
theorem rrename_ok (l : Linear) (hs : l.Sm) (regs : List Int) (h0 : (chkM l regs).2 = 0) (H : List Blk) : ACalls Try.prog 22 [.agg l.cells, Int.sl regs] H (fun e H' => e = .ret (.agg (renL l regs).cells) ∧ H' = H) := by
  refine acalls_under fun hu _ => acalls_weakE (acalls_tidy (acalls_of_vc (hn := fun d => d == 140) (od := rrOd) Try.func22 rfl (by kernel_rfl) ?_))
  obtain ⟨hok, hbg⟩ := chk0 h0
  have ho := ((ok_iff l).1 hok).1
  have hlen := ((beg_iff ho).1 hbg).len
  have hlines := ho.lines
  have e1 := fun H => rlist_ok regs l.params (fun v hv => by have := ho.params v hv; omega) (by have := hs.params; omega) H
  have e2 := fun H => rlist_ok regs l.rets (fun v hv => by have := ho.rets v hv; omega) (by have := hs.rets; omega) H
  have e3 := fun x (hx : lineOk l.vars x = true) H => ruses_ok x l.vars hx H
  have hc := hs.code
  obtain ⟨E, hE⟩ : ∃ E, E = renL l regs := ⟨_, rfl⟩
  rw [← hE]
  unfold renL at hE
  obtain ⟨ps, hps⟩ : ∃ ps, ps = l.params.map (rg regs) := ⟨_, rfl⟩
  obtain ⟨rs, hrs⟩ : ∃ rs, rs = l.rets.map (rg regs) := ⟨_, rfl⟩
  rw [← hps] at e1 hE
  rw [← hrs] at e2 hE
  clear hps hrs hok hbg h0
  have hE := Hid.mk hE
  have hu := Hid.mk hu
  have hlen := Hid.mk hlen
  simp -dsimp [rrOd]
  refine callDW_intro (e1 _) ?_
  simp -dsimp
  refine callDW_intro (e2 _) ?_
  simp -dsimp
  refine ⟨⟨callDW_intro (e1 _) ?_, callDW_intro (e2 _) ?_⟩, ?_⟩
  · simp -dsimp
  · simp -dsimp
  clear e1 e2
  obtain ⟨B, hB⟩ : ∃ B, B = H ++ [.box 25 l.cells, .box 25 [I 0, nilS, nilS, I 0, nilS]] := ⟨_, rfl⟩
  have hlB : B[H.length]? = some (.box 25 [I l.vars, Int.sl l.params, Int.sl l.rets, I l.frame, Line.sl l.code]) := by rw [hB]; simp
  have hzB : B[H.length + 1]? = some (.box 25 [I 0, nilS, nilS, I 0, nilS]) := by rw [hB]; simp
  have hBl : B.length = H.length + 2 := by rw [hB]; simp
  refine loop_rule (hn := fun d => d == 140) (od := rrOd) (fun (i : Nat) f M => f 1 = Int.sl regs ∧ f 2 = .bp H.length 0 ∧ f 4 = .bp (H.length + 1) 0 ∧ f 5 = .bp B.length 0 ∧ f 6 = I i ∧ i ≤ l.code.length ∧ ∃ h, Own 41 11 (B ++ [oB l ps rs (hrow h i)]) M h ((l.code.take i).map fun x => (renLine regs x).cells)) (fun i => l.code.length - i) (by kernel_rfl) 0 (by refine ⟨by simp, by simp, by simp, by simp [hBl], by simp, by omega, none, ?_⟩; rw [hB, List.append_assoc]; exact Own.nil1 41 11 _) ?_
  replace hB := Hid.mk hB
  rintro i f M ⟨f1, f2, f4, f5, f6, hi, h, ow⟩
  have bl : M[H.length]? = some (.box 25 [I l.vars, Int.sl l.params, Int.sl l.rets, I l.frame, Line.sl l.code]) := ow.old (get_app_old hlB _)
  have b5 : M[B.length]? = some (oB l ps rs (hrow h i)) := ow.old (by simp)
  simp -dsimp [f1, f2, f4, f5, f6, bl]
  refine condVW_introD (fun hlt => ?_) (fun hlt => ?_)
  · have hlt' : i < l.code.length := by omega
    have hx := List.getElem?_eq_getElem hlt'
    have hxm : l.code[i] ∈ l.code := List.getElem_mem hlt'
    have htk : l.code.take (i + 1) = l.code.take i ++ [l.code[i]] := List.take_succ_eq_append_getElem hlt'
    have hlo := hlines _ hxm
    obtain ⟨x, hxe⟩ : ∃ x, x = l.code[i] := ⟨_, rfl⟩
    rw [← hxe] at hx hlo htk
    clear hxe hxm hlines
    have g41 : (l.code.map Line.cells)[i]? = some x.cells := by rw [List.getElem?_map, hx]; rfl
    have cu := e3 x hlo (M ++ [.box 41 x.cells])
    obtain ⟨kind, ins, var, label⟩ := x
    have b5 : ∀ L, (M ++ L)[B.length]? = some (oB l ps rs (hrow h i)) := fun L => get_app_old b5 L
    clear hx
    obtain ⟨dl, hdl⟩ : ∃ dl, dl = (Line.mk kind ins var label).defs := ⟨_, rfl⟩
    obtain ⟨us, hus⟩ : ∃ us, us = (Line.mk kind ins var label).uses := ⟨_, rfl⟩
    rw [← hdl, ← hus] at cu
    clear hus
    unfold Line.defs at hdl
    unfold lineOk at hlo
    simp only at hlo hdl
    by_cases k4 : kind = 4
    · subst k4
      simp only [Int.reduceEq, if_false, if_true, or_self, Bool.and_eq_true] at hlo
      have hv := isVr_iff.1 hlo.1.2
      have q := rg_get hv.1 (by rw [hlen.out]; exact hv.2)
      have z := hv.1
      have dl : (0 : Nat) = 0 := rfl
      simp -dsimp [f1, f2, f4, f5, f6, b5, bl, g41, dl, q, z]
      refine acallsW_det cu ?_
      simp -dsimp [f1, f2, f4, f5, f6, b5, bl, g41, dl, q, z]
      refine app_own (ow.app _) (by simp; omega) rfl rfl (by simp; omega) (by simp; omega) ?_
      intro h' M' ow' _
      have b11 := ow'.old (show (B ++ [oB l ps rs (hrow h i)])[B.length]? = some (oB l ps rs (hrow h i)) by simp)
      have ow2 := own_box (b' := oB l ps rs (hrow h' (i + 1))) ow'
      have e : (((l.code.take i).map fun x => (renLine regs x).cells) ++ [(Line.mk 4 ins (rg regs var) label : Line).cells]) = (l.code.take (i + 1)).map fun x => (renLine regs x).cells := by rw [htk, List.map_append]; simp [renLine]
      have ow3 : Own 41 11 (B ++ [oB l ps rs (hrow h' (i + 1))]) (M'.set B.length (oB l ps rs (hrow h' (i + 1)))) h' ((l.code.take (i + 1)).map fun x => (renLine regs x).cells) := by rw [← e]; exact ow2
      have e2 : ∀ c : List AV, (((l.code.take i).map fun x => (renLine regs x).cells) ++ [c]).length = i + 1 := fun c => by simp; omega
      rw [e2]
      simp -dsimp [f1, f2, f4, f5, f6, b11]
      exact ⟨i + 1, by omega, wrapS (by omega), by omega, h', by rw [← List.map_take]; exact ow3⟩
    have d4 : (kind == 4) = false := by simpa using k4
    by_cases k1 : kind = 1
    · subst k1
      simp only [Int.reduceEq, if_false, if_true, or_self, Bool.and_eq_true] at hlo
      obtain ⟨h0, h1, h2, h3, h4, h5, h6, h7⟩ := ins_inn hlo.1
      obtain ⟨ik, op, d, a, b, c, word, stack⟩ := ins
      simp only at h0 h1 h2 h3 h4 h5 h6 h7 hdl
      rcases h0 with rfl | rfl | rfl | rfl | rfl
      · have dl : dl.length = 1 := by rw [hdl]; rfl
        have p1 := h1 (by decide)
        have q1 := rg_get p1.1 (by rw [hlen.out]; exact p1.2)
        have z1 := p1.1
        simp -dsimp [f1, f2, f4, f5, f6, b5, bl, g41, dl, q1, z1]
        refine acallsW_det cu ?_
        simp -dsimp [f1, f2, f4, f5, f6, b5, bl, g41, dl, q1, z1]
        refine app_own (ow.app _) (by simp; omega) rfl rfl (by simp; omega) (by simp; omega) ?_
        intro h' M' ow' _
        have b11 := ow'.old (show (B ++ [oB l ps rs (hrow h i)])[B.length]? = some (oB l ps rs (hrow h i)) by simp)
        have ow2 := own_box (b' := oB l ps rs (hrow h' (i + 1))) ow'
        have e : (((l.code.take i).map fun x => (renLine regs x).cells) ++ [(Line.mk 1 ⟨1, op, rg regs d, a, b, c, word, stack⟩ var label : Line).cells]) = (l.code.take (i + 1)).map fun x => (renLine regs x).cells := by rw [htk, List.map_append]; simp [renLine, renIns]
        have ow3 : Own 41 11 (B ++ [oB l ps rs (hrow h' (i + 1))]) (M'.set B.length (oB l ps rs (hrow h' (i + 1)))) h' ((l.code.take (i + 1)).map fun x => (renLine regs x).cells) := by rw [← e]; exact ow2
        have e2 : ∀ c : List AV, (((l.code.take i).map fun x => (renLine regs x).cells) ++ [c]).length = i + 1 := fun c => by simp; omega
        rw [e2]
        simp -dsimp [f1, f2, f4, f5, f6, b11]
        exact ⟨i + 1, by omega, wrapS (by omega), by omega, h', by rw [← List.map_take]; exact ow3⟩
      · have dl : dl.length = 1 := by rw [hdl]; rfl
        have p1 := h1 (by decide)
        have q1 := rg_get p1.1 (by rw [hlen.out]; exact p1.2)
        have z1 := p1.1
        have p2 := h2 (by decide)
        have q2 := rg_get p2.1 (by rw [hlen.out]; exact p2.2)
        have z2 := p2.1
        simp -dsimp [f1, f2, f4, f5, f6, b5, bl, g41, dl, q1, z1, q2, z2]
        refine acallsW_det cu ?_
        simp -dsimp [f1, f2, f4, f5, f6, b5, bl, g41, dl, q1, z1, q2, z2]
        refine app_own (ow.app _) (by simp; omega) rfl rfl (by simp; omega) (by simp; omega) ?_
        intro h' M' ow' _
        have b11 := ow'.old (show (B ++ [oB l ps rs (hrow h i)])[B.length]? = some (oB l ps rs (hrow h i)) by simp)
        have ow2 := own_box (b' := oB l ps rs (hrow h' (i + 1))) ow'
        have e : (((l.code.take i).map fun x => (renLine regs x).cells) ++ [(Line.mk 1 ⟨2, op, rg regs d, rg regs a, b, c, word, stack⟩ var label : Line).cells]) = (l.code.take (i + 1)).map fun x => (renLine regs x).cells := by rw [htk, List.map_append]; simp [renLine, renIns]
        have ow3 : Own 41 11 (B ++ [oB l ps rs (hrow h' (i + 1))]) (M'.set B.length (oB l ps rs (hrow h' (i + 1)))) h' ((l.code.take (i + 1)).map fun x => (renLine regs x).cells) := by rw [← e]; exact ow2
        have e2 : ∀ c : List AV, (((l.code.take i).map fun x => (renLine regs x).cells) ++ [c]).length = i + 1 := fun c => by simp; omega
        rw [e2]
        simp -dsimp [f1, f2, f4, f5, f6, b11]
        exact ⟨i + 1, by omega, wrapS (by omega), by omega, h', by rw [← List.map_take]; exact ow3⟩
      · have dl : dl.length = 1 := by rw [hdl]; rfl
        have p1 := h1 (by decide)
        have q1 := rg_get p1.1 (by rw [hlen.out]; exact p1.2)
        have z1 := p1.1
        have p2 := h2 (by decide)
        have q2 := rg_get p2.1 (by rw [hlen.out]; exact p2.2)
        have z2 := p2.1
        have ca := fun H => rarity18_ok op H
        have p7 := h7 rfl
        by_cases e21 : op = 21
        · subst e21
          have p3 := h6 rfl rfl
          have p4 := h4 rfl (by decide)
          have q3 := rg_get p3.1 (by rw [hlen.out]; exact p3.2)
          have q4 := rg_get p4.1 (by rw [hlen.out]; exact p4.2)
          have z3 := p3.1
          have z4 := p4.1
          have ca := fun H => ca H
          simp only [Int.reduceEq, or_self, if_false, if_true] at ca
          simp -dsimp [f1, f2, f4, f5, f6, b5, bl, g41, dl, q1, z1, q2, z2, q3, z3, q4, z4]
          refine acallsW_det cu ?_
          simp -dsimp [f1, f2, f4, f5, f6, b5, bl, g41, dl, q1, z1, q2, z2, q3, z3, q4, z4]
          refine acallsW_det (ca _) ?_
          simp -dsimp [f1, f2, f4, f5, f6, b5, bl, g41, dl, q1, z1, q2, z2, q3, z3, q4, z4]
          refine app_own (ow.app _) (by simp; omega) rfl rfl (by simp; omega) (by simp; omega) ?_
          intro h' M' ow' _
          have b11 := ow'.old (show (B ++ [oB l ps rs (hrow h i)])[B.length]? = some (oB l ps rs (hrow h i)) by simp)
          have ow2 := own_box (b' := oB l ps rs (hrow h' (i + 1))) ow'
          have e : (((l.code.take i).map fun x => (renLine regs x).cells) ++ [(Line.mk 1 ⟨3, 21, rg regs d, rg regs a, rg regs b, rg regs c, word, stack⟩ var label : Line).cells]) = (l.code.take (i + 1)).map fun x => (renLine regs x).cells := by rw [htk, List.map_append]; simp [renLine, renIns]
          have ow3 : Own 41 11 (B ++ [oB l ps rs (hrow h' (i + 1))]) (M'.set B.length (oB l ps rs (hrow h' (i + 1)))) h' ((l.code.take (i + 1)).map fun x => (renLine regs x).cells) := by rw [← e]; exact ow2
          have e2 : ∀ c : List AV, (((l.code.take i).map fun x => (renLine regs x).cells) ++ [c]).length = i + 1 := fun c => by simp; omega
          rw [e2]
          simp -dsimp [f1, f2, f4, f5, f6, b11]
          exact ⟨i + 1, by omega, wrapS (by omega), by omega, h', by rw [← List.map_take]; exact ow3⟩
        by_cases e6 : 6 ≤ op
        · have p4 := h4 rfl e6
          have q4 := rg_get p4.1 (by rw [hlen.out]; exact p4.2)
          have z4 := p4.1
          have ca := fun H => ca H
          rw [if_neg (by omega), if_neg e21] at ca
          simp -dsimp [f1, f2, f4, f5, f6, b5, bl, g41, dl, q1, z1, q2, z2, q4, z4]
          refine acallsW_det cu ?_
          simp -dsimp [f1, f2, f4, f5, f6, b5, bl, g41, dl, q1, z1, q2, z2, q4, z4]
          refine acallsW_det (ca _) ?_
          simp -dsimp [f1, f2, f4, f5, f6, b5, bl, g41, dl, q1, z1, q2, z2, q4, z4]
          refine app_own (ow.app _) (by simp; omega) rfl rfl (by simp; omega) (by simp; omega) ?_
          intro h' M' ow' _
          have b11 := ow'.old (show (B ++ [oB l ps rs (hrow h i)])[B.length]? = some (oB l ps rs (hrow h i)) by simp)
          have ow2 := own_box (b' := oB l ps rs (hrow h' (i + 1))) ow'
          have e : (((l.code.take i).map fun x => (renLine regs x).cells) ++ [(Line.mk 1 ⟨3, op, rg regs d, rg regs a, rg regs b, c, word, stack⟩ var label : Line).cells]) = (l.code.take (i + 1)).map fun x => (renLine regs x).cells := by rw [htk, List.map_append]; simp [renLine, renIns, e6, e21]
          have ow3 : Own 41 11 (B ++ [oB l ps rs (hrow h' (i + 1))]) (M'.set B.length (oB l ps rs (hrow h' (i + 1)))) h' ((l.code.take (i + 1)).map fun x => (renLine regs x).cells) := by rw [← e]; exact ow2
          have e2 : ∀ c : List AV, (((l.code.take i).map fun x => (renLine regs x).cells) ++ [c]).length = i + 1 := fun c => by simp; omega
          rw [e2]
          simp -dsimp [f1, f2, f4, f5, f6, b11]
          exact ⟨i + 1, by omega, wrapS (by omega), by omega, h', by rw [← List.map_take]; exact ow3⟩
        · have ca := fun H => ca H
          rw [if_pos (by omega)] at ca
          simp -dsimp [f1, f2, f4, f5, f6, b5, bl, g41, dl, q1, z1, q2, z2]
          refine acallsW_det cu ?_
          simp -dsimp [f1, f2, f4, f5, f6, b5, bl, g41, dl, q1, z1, q2, z2]
          refine acallsW_det (ca _) ?_
          simp -dsimp [f1, f2, f4, f5, f6, b5, bl, g41, dl, q1, z1, q2, z2]
          refine app_own (ow.app _) (by simp; omega) rfl rfl (by simp; omega) (by simp; omega) ?_
          intro h' M' ow' _
          have b11 := ow'.old (show (B ++ [oB l ps rs (hrow h i)])[B.length]? = some (oB l ps rs (hrow h i)) by simp)
          have ow2 := own_box (b' := oB l ps rs (hrow h' (i + 1))) ow'
          have e : (((l.code.take i).map fun x => (renLine regs x).cells) ++ [(Line.mk 1 ⟨3, op, rg regs d, rg regs a, b, c, word, stack⟩ var label : Line).cells]) = (l.code.take (i + 1)).map fun x => (renLine regs x).cells := by rw [htk, List.map_append]; simp [renLine, renIns, e6, e21]
          have ow3 : Own 41 11 (B ++ [oB l ps rs (hrow h' (i + 1))]) (M'.set B.length (oB l ps rs (hrow h' (i + 1)))) h' ((l.code.take (i + 1)).map fun x => (renLine regs x).cells) := by rw [← e]; exact ow2
          have e2 : ∀ c : List AV, (((l.code.take i).map fun x => (renLine regs x).cells) ++ [c]).length = i + 1 := fun c => by simp; omega
          rw [e2]
          simp -dsimp [f1, f2, f4, f5, f6, b11]
          exact ⟨i + 1, by omega, wrapS (by omega), by omega, h', by rw [← List.map_take]; exact ow3⟩
      · have dl : dl.length = 1 := by rw [hdl]; rfl
        have p1 := h1 (by decide)
        have q1 := rg_get p1.1 (by rw [hlen.out]; exact p1.2)
        have z1 := p1.1
        have p3 := h3 (by decide)
        by_cases ha : a = -1
        · subst ha
          simp -dsimp [f1, f2, f4, f5, f6, b5, bl, g41, dl, q1, z1]
          refine acallsW_det cu ?_
          simp -dsimp [f1, f2, f4, f5, f6, b5, bl, g41, dl, q1, z1]
          refine app_own (ow.app _) (by simp; omega) rfl rfl (by simp; omega) (by simp; omega) ?_
          intro h' M' ow' _
          have b11 := ow'.old (show (B ++ [oB l ps rs (hrow h i)])[B.length]? = some (oB l ps rs (hrow h i)) by simp)
          have ow2 := own_box (b' := oB l ps rs (hrow h' (i + 1))) ow'
          have e : (((l.code.take i).map fun x => (renLine regs x).cells) ++ [(Line.mk 1 ⟨4, op, rg regs d, -1, b, c, word, stack⟩ var label : Line).cells]) = (l.code.take (i + 1)).map fun x => (renLine regs x).cells := by rw [htk, List.map_append]; simp [renLine, renIns]
          have ow3 : Own 41 11 (B ++ [oB l ps rs (hrow h' (i + 1))]) (M'.set B.length (oB l ps rs (hrow h' (i + 1)))) h' ((l.code.take (i + 1)).map fun x => (renLine regs x).cells) := by rw [← e]; exact ow2
          have e2 : ∀ c : List AV, (((l.code.take i).map fun x => (renLine regs x).cells) ++ [c]).length = i + 1 := fun c => by simp; omega
          rw [e2]
          simp -dsimp [f1, f2, f4, f5, f6, b11]
          exact ⟨i + 1, by omega, wrapS (by omega), by omega, h', by rw [← List.map_take]; exact ow3⟩
        · have p2 : 0 ≤ a ∧ a < l.vars := by omega
          have q2 := rg_get p2.1 (by rw [hlen.out]; exact p2.2)
          have z2 := p2.1
          have na : ¬ a < 0 := by omega
          simp -dsimp [f1, f2, f4, f5, f6, b5, bl, g41, dl, q1, z1, q2, z2]
          refine acallsW_det cu ?_
          simp -dsimp [f1, f2, f4, f5, f6, b5, bl, g41, dl, q1, z1, q2, z2]
          refine app_own (ow.app _) (by simp; omega) rfl rfl (by simp; omega) (by simp; omega) ?_
          intro h' M' ow' _
          have b11 := ow'.old (show (B ++ [oB l ps rs (hrow h i)])[B.length]? = some (oB l ps rs (hrow h i)) by simp)
          have ow2 := own_box (b' := oB l ps rs (hrow h' (i + 1))) ow'
          have e : (((l.code.take i).map fun x => (renLine regs x).cells) ++ [(Line.mk 1 ⟨4, op, rg regs d, rg regs a, b, c, word, stack⟩ var label : Line).cells]) = (l.code.take (i + 1)).map fun x => (renLine regs x).cells := by rw [htk, List.map_append]; simp [renLine, renIns, na]
          have ow3 : Own 41 11 (B ++ [oB l ps rs (hrow h' (i + 1))]) (M'.set B.length (oB l ps rs (hrow h' (i + 1)))) h' ((l.code.take (i + 1)).map fun x => (renLine regs x).cells) := by rw [← e]; exact ow2
          have e2 : ∀ c : List AV, (((l.code.take i).map fun x => (renLine regs x).cells) ++ [c]).length = i + 1 := fun c => by simp; omega
          rw [e2]
          simp -dsimp [f1, f2, f4, f5, f6, b11]
          exact ⟨i + 1, by omega, wrapS (by omega), by omega, h', by rw [← List.map_take]; exact ow3⟩
      · have dl : dl.length = 0 := by rw [hdl]; rfl
        have p3 := h3 (by decide)
        have p4 := h5 rfl
        have q4 := rg_get p4.1 (by rw [hlen.out]; exact p4.2)
        have z4 := p4.1
        by_cases ha : a = -1
        · subst ha
          simp -dsimp [f1, f2, f4, f5, f6, b5, bl, g41, dl, q4, z4]
          refine acallsW_det cu ?_
          simp -dsimp [f1, f2, f4, f5, f6, b5, bl, g41, dl, q4, z4]
          refine app_own (ow.app _) (by simp; omega) rfl rfl (by simp; omega) (by simp; omega) ?_
          intro h' M' ow' _
          have b11 := ow'.old (show (B ++ [oB l ps rs (hrow h i)])[B.length]? = some (oB l ps rs (hrow h i)) by simp)
          have ow2 := own_box (b' := oB l ps rs (hrow h' (i + 1))) ow'
          have e : (((l.code.take i).map fun x => (renLine regs x).cells) ++ [(Line.mk 1 ⟨5, op, d, -1, rg regs b, c, word, stack⟩ var label : Line).cells]) = (l.code.take (i + 1)).map fun x => (renLine regs x).cells := by rw [htk, List.map_append]; simp [renLine, renIns]
          have ow3 : Own 41 11 (B ++ [oB l ps rs (hrow h' (i + 1))]) (M'.set B.length (oB l ps rs (hrow h' (i + 1)))) h' ((l.code.take (i + 1)).map fun x => (renLine regs x).cells) := by rw [← e]; exact ow2
          have e2 : ∀ c : List AV, (((l.code.take i).map fun x => (renLine regs x).cells) ++ [c]).length = i + 1 := fun c => by simp; omega
          rw [e2]
          simp -dsimp [f1, f2, f4, f5, f6, b11]
          exact ⟨i + 1, by omega, wrapS (by omega), by omega, h', by rw [← List.map_take]; exact ow3⟩
        · have p2 : 0 ≤ a ∧ a < l.vars := by omega
          have q2 := rg_get p2.1 (by rw [hlen.out]; exact p2.2)
          have z2 := p2.1
          have na : ¬ a < 0 := by omega
          simp -dsimp [f1, f2, f4, f5, f6, b5, bl, g41, dl, q4, z4, q2, z2]
          refine acallsW_det cu ?_
          simp -dsimp [f1, f2, f4, f5, f6, b5, bl, g41, dl, q4, z4, q2, z2]
          refine app_own (ow.app _) (by simp; omega) rfl rfl (by simp; omega) (by simp; omega) ?_
          intro h' M' ow' _
          have b11 := ow'.old (show (B ++ [oB l ps rs (hrow h i)])[B.length]? = some (oB l ps rs (hrow h i)) by simp)
          have ow2 := own_box (b' := oB l ps rs (hrow h' (i + 1))) ow'
          have e : (((l.code.take i).map fun x => (renLine regs x).cells) ++ [(Line.mk 1 ⟨5, op, d, rg regs a, rg regs b, c, word, stack⟩ var label : Line).cells]) = (l.code.take (i + 1)).map fun x => (renLine regs x).cells := by rw [htk, List.map_append]; simp [renLine, renIns, na]
          have ow3 : Own 41 11 (B ++ [oB l ps rs (hrow h' (i + 1))]) (M'.set B.length (oB l ps rs (hrow h' (i + 1)))) h' ((l.code.take (i + 1)).map fun x => (renLine regs x).cells) := by rw [← e]; exact ow2
          have e2 : ∀ c : List AV, (((l.code.take i).map fun x => (renLine regs x).cells) ++ [c]).length = i + 1 := fun c => by simp; omega
          rw [e2]
          simp -dsimp [f1, f2, f4, f5, f6, b11]
          exact ⟨i + 1, by omega, wrapS (by omega), by omega, h', by rw [← List.map_take]; exact ow3⟩
    have d1 : (kind == 1) = false := by simpa using k1
    have er : renLine regs ⟨kind, ins, var, label⟩ = ⟨kind, ins, var, label⟩ := by unfold renLine; simp [k1, k4]
    have dl : (0 : Nat) = 0 := rfl
    simp -dsimp [f1, f2, f4, f5, f6, b5, bl, g41, dl, d1, d4]
    refine acallsW_det cu ?_
    simp -dsimp [f1, f2, f4, f5, f6, b5, bl, g41, dl, d1, d4]
    refine app_own (ow.app _) (by simp; omega) rfl rfl (by simp; omega) (by simp; omega) ?_
    intro h' M' ow' _
    have b11 := ow'.old (show (B ++ [oB l ps rs (hrow h i)])[B.length]? = some (oB l ps rs (hrow h i)) by simp)
    have ow2 := own_box (b' := oB l ps rs (hrow h' (i + 1))) ow'
    have e : (((l.code.take i).map fun x => (renLine regs x).cells) ++ [(Line.mk kind ins var label : Line).cells]) = (l.code.take (i + 1)).map fun x => (renLine regs x).cells := by rw [htk, List.map_append]; simp [er]
    have ow3 : Own 41 11 (B ++ [oB l ps rs (hrow h' (i + 1))]) (M'.set B.length (oB l ps rs (hrow h' (i + 1)))) h' ((l.code.take (i + 1)).map fun x => (renLine regs x).cells) := by rw [← e]; exact ow2
    have e2 : ∀ c : List AV, (((l.code.take i).map fun x => (renLine regs x).cells) ++ [c]).length = i + 1 := fun c => by simp; omega
    rw [e2]
    simp -dsimp [f1, f2, f4, f5, f6, b11]
    exact ⟨i + 1, by omega, wrapS (by omega), by omega, h', by rw [← List.map_take]; exact ow3⟩
  · have hi' : i = l.code.length := by omega
    subst hi'
    rw [List.take_of_length_le (Nat.le_refl _)] at ow
    have bz : M[H.length + 1]? = some (.box 25 [I 0, nilS, nilS, I 0, nilS]) := ow.old (get_app_old hzB _)
    have bz2 : ∀ b, (M.set (H.length + 1) b)[H.length + 1]? = some b := fun b => by rw [List.getElem?_set_self (lt_of_get bz)]
    simp -dsimp [f4, f5, b5, bz, bz2]
    have ow2 : Own 41 11 H M h (l.code.map fun x => (renLine regs x).cells) := by
      rw [hB.out, List.append_assoc] at ow
      exact ow.less
    refine tidy_rowIn1 hu.out (own_setNew ow2 (by omega) (fun e => by have := ow.new _ e; simp at this; omega)) (line_frzB _ _) (by simp) (fun k => by simp [AV.frz, frzL]) (by simp [AV.under, underL]) ⟨?_, rfl⟩
    rw [hE.out]
    simp
end Go.Proofs
namespace Go.Proofs
open Go.Mu
theorem useL_cnt (l : Linear) (regs : List Int) : riseL ((cntL l).map (rg regs)) = useL l regs := by
  refine sorted_ext (riseL_rise _) (riseL_rise _) fun v => ?_
  unfold useL cntL
  rw [riseL_mem, riseL_mem]
  simp only [List.mem_map, riseL_mem]
theorem cntL_len {l : Linear} (ho : LinOk l) : (cntL l).length ≤ 16384 := by
  have := rising_len (a := 0) (b := l.vars) (l := cntL l) (riseL_rise _) fun x hx => by
    unfold cntL at hx
    rw [riseL_mem] at hx
    exact cnt_in ho hx
  have := ho.vars
  omega
theorem rused_ok (l : Linear) (hs : l.Sm) (regs : List Int) (h0 : (chkM l regs).2 = 0) (H : List Blk) : ACalls Try.prog 24 [.agg l.cells, Int.sl regs] H (fun e H' => e = .ret (Int.sl (useL l regs)) ∧ H' = H) := by
  refine acalls_under fun hu _ => acalls_weakE (acalls_tidy (acalls_of_vc (hn := fun d => d == 24) (od := fun _ => none) Try.func24 rfl (by kernel_rfl) ?_))
  obtain ⟨hok, hbg⟩ := chk0 h0
  have ho := ((ok_iff l).1 hok).1
  have hlen := ((beg_iff ho).1 hbg).len
  have cc := fun H => rcounts_ok l hs ho H
  simp only [Linear.cells] at cc
  have hcl := cntL_len ho
  have hin : ∀ v ∈ cntL l, 0 ≤ v ∧ v < l.vars := fun v hv => cnt_in ho (by unfold cntL at hv; rwa [riseL_mem] at hv)
  rw [← useL_cnt]
  obtain ⟨cs, hcs⟩ : ∃ cs, cs = cntL l := ⟨_, rfl⟩
  rw [← hcs] at cc hcl hin ⊢
  obtain ⟨E, hE⟩ : ∃ E, E = riseL (cs.map (rg regs)) := ⟨_, rfl⟩
  rw [← hE]
  have hE := Hid.mk hE
  clear hbg hok h0 hcs
  simp -dsimp
  refine acallsW_det (cc _) ?_
  simp -dsimp
  obtain ⟨B, hB⟩ : ∃ B, B = H ++ [.box 25 [I l.vars, Int.sl l.params, Int.sl l.rets, I l.frame, Line.sl l.code]] := ⟨_, rfl⟩
  rw [← hB]
  replace hB := Hid.mk hB
  refine loop_rule (hn := fun d => d == 24) (od := fun _ => none) (fun (i : Nat) f M => f 1 = Int.sl regs ∧ f 6 = Int.sl cs ∧ f 7 = I i ∧ i ≤ cs.length ∧ ∃ h, f 5 = hrow h (riseL ((cs.take i).map (rg regs))).length ∧ OwnI B M h (riseL ((cs.take i).map (rg regs)))) (fun i => cs.length - i) (by kernel_rfl) 0 (by refine ⟨by simp, by simp, by simp, by omega, none, rfl, .nil1 _ _ _⟩) ?_
  rintro i f M ⟨f1, f6, f7, hi, h, f5, ow⟩
  simp -dsimp [f1, f6, f7]
  refine condVW_introD (fun hlt => ?_) (fun hlt => ?_)
  · have hlt' : i < cs.length := by omega
    have hx := List.getElem?_eq_getElem hlt'
    have hxm : cs[i] ∈ cs := List.getElem_mem hlt'
    have hnew : riseL ((cs.take (i + 1)).map (rg regs)) = putI (rg regs cs[i]) (riseL ((cs.take i).map (rg regs))) := by rw [List.take_succ_eq_append_getElem hlt', List.map_append]; exact riseL_snoc _ _
    have hrl := riseL_len ((cs.take i).map (rg regs))
    rw [List.length_map, List.length_take] at hrl
    obtain ⟨n, hn⟩ : ∃ n, n = cs[i] := ⟨_, rfl⟩
    rw [← hn] at hx hnew hxm
    have hv := hin n hxm
    have hg := rg_get (regs := regs) hv.1 (by rw [hlen]; exact hv.2)
    have hz := hv.1
    obtain ⟨pr, hpr⟩ : ∃ pr, pr = riseL ((cs.take i).map (rg regs)) := ⟨_, rfl⟩
    rw [← hpr] at f5 ow hnew hrl
    replace hpr := Hid.mk hpr
    have cp := rput_ok pr (rg regs n) h M ow.at' (by omega)
    replace hnew := Hid.mk hnew
    replace hlen := Hid.mk hlen
    simp -dsimp [f1, f5, f6, f7, hx, hg, hz]
    refine acallsW_of cp ?_
    rintro e M' ⟨h', rfl, r, s⟩
    rw [← hnew.out] at r ⊢
    simp -dsimp [f1, f6, f7]
    refine ⟨i + 1, by omega, wrapS (by omega), by omega, h', ?_, ?_⟩
    · rfl
    · rw [← List.map_take]; exact ow.step r s
  · rw [List.take_of_length_le (by omega), ← hE.out] at ow f5
    have ow2 : OwnI H M h E := by rw [hB.out] at ow; exact ow.less
    simp -dsimp [f5]
    exact tidy_rowA hu ow2 (int_frzB _) (by simp) ⟨rfl, rfl⟩
end Go.Proofs
