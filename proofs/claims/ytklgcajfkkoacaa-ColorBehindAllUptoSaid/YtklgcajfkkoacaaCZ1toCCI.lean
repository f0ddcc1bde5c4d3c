/- What is live in code that goes straight on, reckoned (no program in sight). -/
import Derived.Test.YtklgcajfkkoacaaCL2toCW3
import Derived.Test.YtklgcajfkkoacaaFwUtoCV3
import Derived.Test.YtklgcajfkkoacaaFS6toCCA
import Derived.Test.YtklgcajfkkoacaaFS4toCN1
set_option linter.unusedVariables false
set_option linter.unusedSimpArgs false
set_option maxHeartbeats 4000000
set_option maxRecDepth 100000
namespace Go.Proofs
open Go.Mu
def liveC (l : Linear) : Nat → Nat → List Int
  | 0, _ => []
  | f + 1, i => match l.code[i]? with
    | none => if i = l.code.length then riseL l.rets else []
    | some x => riseL (x.raw ++ (nxt l i).flatMap fun k => (liveC l f k.toNat).filter fun v => !decide (v ∈ x.defs))
def straight (l : Linear) : Bool := (List.range l.code.length).all fun i => (nxt l i).all fun k => decide ((i : Int) < k)
theorem liveC_rise (l : Linear) (f i : Nat) : Rising (liveC l f i) := by
  cases f with
  | zero => exact List.Pairwise.nil
  | succ f =>
    rw [liveC]
    split
    · split
      · exact riseL_rise _
      · exact List.Pairwise.nil
    · exact riseL_rise _
theorem liveAt_iff {l : Linear} {i : Nat} {x : Line} (hx : l.code[i]? = some x) {v : Int} : LiveAt l i v ↔ v ∈ x.raw ∨ (v ∉ x.defs ∧ ∃ k : Nat, (k : Int) ∈ nxt l i ∧ LiveAt l k v) := by
  constructor
  · intro h
    cases h with
    | told h => rw [List.getElem?_eq_none (Nat.le_refl _)] at hx; cases hx
    | read hx' h => rw [hx, Option.some.injEq] at hx'; subst hx'; exact .inl h
    | way hx' hd hk h => rw [hx, Option.some.injEq] at hx'; subst hx'; exact .inr ⟨hd, _, hk, h⟩
  · rintro (h | ⟨h, k, hk, hl⟩)
    · exact .read hx h
    · exact .way hx h hk hl
theorem liveC_iff {l : Linear} (ho : LinOk l) (hst : straight l = true) : ∀ (f i : Nat), l.code.length < f + i → ∀ v, v ∈ liveC l f i ↔ LiveAt l i v
  | 0, i, hf, v => by
    rw [liveC]
    constructor
    · intro h; simp at h
    · intro h; have := (live_in ho h).2; omega
  | f + 1, i, hf, v => by
    rw [liveC]
    split
    · rename_i hx
      have hi := List.getElem?_eq_none_iff.1 hx
      by_cases e : i = l.code.length
      · rw [if_pos e, riseL_mem, e]
        constructor
        · exact .told
        · intro h
          cases h with
          | told h => exact h
          | read hx _ => have := (List.getElem?_eq_some_iff.1 hx).1; omega
          | way hx _ _ _ => have := (List.getElem?_eq_some_iff.1 hx).1; omega
      · rw [if_neg e]
        constructor
        · intro h; simp at h
        · intro h; have := (live_in ho h).2; omega
    · rename_i x hx
      rw [riseL_mem, List.mem_append, List.mem_flatMap, liveAt_iff hx]
      have hil := (List.getElem?_eq_some_iff.1 hx).1
      have hgt : ∀ k ∈ nxt l i, (i : Int) < k := fun k hk => by
        have := List.all_eq_true.1 (List.all_eq_true.1 hst i (List.mem_range.2 hil)) k hk
        exact of_decide_eq_true this
      constructor
      · rintro (h | ⟨k, hk, h⟩)
        · exact .inl h
        · rw [List.mem_filter] at h
          have hk2 := hgt k hk
          refine .inr ⟨by simpa using h.2, k.toNat, by rw [Int.toNat_of_nonneg (by omega)]; exact hk, (liveC_iff ho hst f k.toNat (by omega) v).1 h.1⟩
      · rintro (h | ⟨hd, k, hk, h⟩)
        · exact .inl h
        · have hk2 := hgt _ hk
          refine .inr ⟨(k : Int), hk, ?_⟩
          rw [List.mem_filter, Int.toNat_natCast]
          exact ⟨(liveC_iff ho hst f k (by omega) v).2 h, by simpa using hd⟩
theorem liveC_eq {l : Linear} (hok : l.ok = true) (hst : straight l = true) (i : Nat) : liveL l i = liveC l (l.code.length + 1) i := by
  have ho := ((ok_iff l).1 hok).1
  refine sorted_ext (liveL_rise _ _) (liveC_rise _ _ _) fun v => ?_
  rw [live_mem ho]
  by_cases hi : i ≤ l.code.length
  · exact (liveC_iff ho hst _ i (by omega) v).symm
  · constructor
    · intro h; have := (live_in ho h).2; omega
    · intro h
      rw [liveC, List.getElem?_eq_none (by omega)] at h
      simp only at h
      rw [if_neg (by omega)] at h
      simp at h
end Go.Proofs
namespace Go.Proofs
open Go.Mu
def mvL (d a : Int) : Line := ⟨1, ⟨2, 0, d, a, 0, 0, 0, false⟩, 0, 0⟩
def wdL (d n : Int) : Line := ⟨1, ⟨1, 0, d, 0, 0, 0, n, false⟩, 0, 0⟩
def enL : Line := ⟨5, zeroIns, 0, 0⟩
def lA : Linear := ⟨2, [0], [1, 0], 0, [mvL 1 0, wdL 0 5, enL]⟩
def lB : Linear := ⟨2, [0], [1], 0, [mvL 1 0, enL]⟩
theorem sm_of {l : Linear} (h : l.params.length + l.rets.length + l.code.length ≤ 2^36) : l.Sm := ⟨by omega, by omega, by omega⟩
end Go.Proofs
namespace Go.Proofs
open Go.Mu
def behV (lv : Nat → List Int) (l : Linear) (i : Nat) : List Int := riseL ((nxt l i).flatMap fun k => lv k.toNat)
def meetV (lv : Nat → List Int) (l : Linear) : List Pr := riseP (((List.range l.code.length).flatMap fun i => match l.code[i]? with
  | none => []
  | some x => x.defs.flatMap fun d => (behV lv l i).flatMap fun b => if mvB x b = true then [] else prs d b) ++ l.params.flatMap fun a => (l.params ++ lv 0).flatMap fun b => prs a b)
def freeV (ps : List Pr) (r : List Int) (v : Int) (n : Nat) : Bool := ps.all fun p => !decide (p.2 = v) || !decide (rg r p.1 = n)
def propV (ps : List Pr) : List Int → List Int → Option (List Int)
  | [], r => some r
  | v :: vs, r => match (List.range 11).find? (freeV ps r v) with
    | none => none
    | some n => propV ps vs (r.set v.toNat (n : Int))
theorem meetV_eq (l : Linear) : meetL l = meetV (liveL l) l := rfl
theorem propV_eq (l : Linear) : ∀ vs r, propGo l vs r = propV (meetL l) vs r
  | [], r => rfl
  | v :: vs, r => by
    rw [propGo, propV]
    have e : freeR l r v = freeV (meetL l) r v := rfl
    rw [e]
    split
    · rename_i q; rw [q]
    · rename_i n q; rw [q]; exact propV_eq l vs _
theorem propC (l : Linear) (f : Nat) (h : ∀ i, liveL l i = liveC l f i) : propL l = propV (meetV (liveC l f) l) (cntL l) (List.replicate l.vars.toNat (-1)) := by
  have e : liveL l = liveC l f := funext h
  unfold propL
  rw [propV_eq, meetV_eq, e]
def lC : Linear := ⟨3, [2], [], 0, []⟩
theorem pA : propL lA = some [0, 1] := by rw [propC lA 4 (liveC_eq (by decide +kernel) (by decide +kernel))]; decide +kernel
theorem pB : propL lB = some [0, 0] := by rw [propC lB 3 (liveC_eq (by decide +kernel) (by decide +kernel))]; decide +kernel
theorem pC : propL lC = some [-1, -1, 0] := by rw [propC lC 1 (liveC_eq (by decide +kernel) (by decide +kernel))]; decide +kernel
theorem propE_of {l : Linear} {r : List Int} (h : propL l = some r) (hok : l.ok = true) : propE l = .ret (.tup [Int.sl r, I 0]) := by unfold propE; rw [if_pos hok, h]
theorem mv17_ok (d a : Int) (H : List Blk) : ACalls Try.prog 57 [I d, I a] H (fun e H' => e = .ret (.agg (mvL d a).cells) ∧ H' = H) := by
  refine acalls_tidy (acalls_of_vc (hn := fun _ => false) (od := fun _ => none) Try.func57 rfl (by kernel_rfl) ?_)
  simp -dsimp [mvL]
  try exact tidy_same rfl ⟨rfl, rfl⟩
theorem wd17_ok (d n : Int) (H : List Blk) : ACalls Try.prog 58 [I d, U n] H (fun e H' => e = .ret (.agg (wdL d n).cells) ∧ H' = H) := by
  refine acalls_tidy (acalls_of_vc (hn := fun _ => false) (od := fun _ => none) Try.func58 rfl (by kernel_rfl) ?_)
  simp -dsimp [wdL]
  try exact tidy_same rfl ⟨rfl, rfl⟩
theorem en17_ok (H : List Blk) : ACalls Try.prog 59 [] H (fun e H' => e = .ret (.agg enL.cells) ∧ H' = H) := by
  refine acalls_tidy (acalls_of_vc (hn := fun _ => false) (od := fun _ => none) Try.func59 rfl (by kernel_rfl) ?_)
  simp -dsimp [enL, zeroIns]
  try exact tidy_same rfl ⟨rfl, rfl⟩
theorem num17_ok (n : Int) (H : List Blk) : ACalls Try.prog 29 [I n] H (fun e H' => e = .ret (I n) ∧ H' = H) := by
  refine acalls_of_vc (hn := fun _ => false) (od := fun _ => none) Try.func29 rfl (by kernel_rfl) ?_
  simp -dsimp
theorem proposes_ok (l : Linear) (hs : l.Sm) (want : List Int) (hw : want.length ≤ 2^40) (h : propE l = .ret (.tup [Int.sl want, I 0])) (H : List Blk) : ACalls Try.prog 60 [.agg l.cells, Int.sl want] H (fun x H' => x = .ret (Bo true) ∧ H' = H) := by
  refine acalls_tidy (acalls_of_vc (hn := fun _ => false) (od := fun _ => none) Try.func60 rfl (by kernel_rfl) ?_)
  have cc := fun H => propose_ok l hs H
  rw [h] at cc
  simp only [Linear.cells] at cc
  have cs := fun H => sameInts_ok want want H hw
  simp only [decide_true] at cs
  simp -dsimp
  refine acallsW_det (cc _) ?_
  simp -dsimp
  refine acallsW_det (num17_ok _ _) ?_
  simp -dsimp
  refine acallsW_det (cs _) ?_
  simp -dsimp
  exact tidy_same rfl ⟨rfl, rfl⟩
theorem known17_ok (H : List Blk) : ACalls Try.prog 27 [] H (fun x H' => x = .ret (Bo true) ∧ H' = H) := by
  refine acalls_tidy (acalls_of_vc (hn := fun _ => false) (od := fun _ => none) Try.func27 rfl (by kernel_rfl) ?_)
  have m1 := fun H => mv17_ok 1 0 H
  have w1 := fun H => wd17_ok 0 5 H
  have e1 := fun H => en17_ok H
  have s1 := fun H => proposes_ok lA (sm_of (by decide)) [0, 1] (by decide) (propE_of pA (by decide +kernel)) H
  have s2 := fun H => proposes_ok lB (sm_of (by decide)) [0, 0] (by decide) (propE_of pB (by decide +kernel)) H
  have s3 := fun H => acalls_weak (args := [.agg [I 3, Int.sl [2], nilS, I 0, nilS], Int.sl [-1, -1, 0]]) (.cons (.aggL (.cons (.refl _) (.cons (.refl _) (.cons (.nil 1) (.cons (.refl _) (.cons (.nil 11) .nil)))))) (.refl _)) (proposes_ok lC (sm_of (by decide)) [-1, -1, 0] (by decide) (propE_of pC (by decide +kernel)) H)
  simp only [lA, lB, Linear.cells, Int.sl, Line.sl, List.map_cons, List.map_nil] at s1 s2 s3
  obtain ⟨ma, hma⟩ : ∃ ma, ma = mvL 1 0 := ⟨_, rfl⟩
  obtain ⟨wa, hwa⟩ : ∃ wa, wa = wdL 0 5 := ⟨_, rfl⟩
  obtain ⟨ea, hea⟩ : ∃ ea, ea = enL := ⟨_, rfl⟩
  rw [← hma, ← hwa, ← hea] at s1
  rw [← hma, ← hea] at s2
  rw [← hma] at m1
  rw [← hwa] at w1
  rw [← hea] at e1
  clear hma hwa hea
  simp only [Line.cells] at m1 w1 e1 s1 s2 s3
  simp -dsimp
  repeat' ((with_reducible first | refine acallsW_det (m1 _) ?_ | refine acallsW_det (w1 _) ?_ | refine acallsW_det (e1 _) ?_ | refine acallsW_det (s1 _) ?_ | refine acallsW_det (s2 _) ?_ | refine acallsW_det (s3 _) ?_) <;> simp -dsimp)
  all_goals exact tidy_same rfl ⟨rfl, rfl⟩
end Go.Proofs
namespace Go.Proofs
open Go.Mu
abbrev prC (p : Pr) : List AV := [I p.1, I p.2]
abbrev OwnP (B M : List Blk) (h : Option Nat) (l : List Pr) : Prop := Own 65 2 B M h (l.map prC)
end Go.Proofs
namespace Go.Proofs
open Go.Mu
end Go.Proofs
namespace Go.Proofs
open Go.Mu
theorem prs_frzB (l : List Pr) : (l.map prC).flatten.all AV.frzB = true := by
  induction l with
  | nil => rfl
  | cons x l ih => rw [List.map_cons, List.flatten_cons, List.all_append, ih]; simp [AV.frzB]
theorem avCells_prV (p : Pr) : avCells (.v (prV p)) = some (prC p) := (rfl)
abbrev prB (l : List Pr) : Blk := ownB 65 2 (l.map prC)
abbrev prS (k : Nat) (l : List Pr) : AV := ownS k (l.map prC)
theorem pmkeys_ok (km : Nat) (H : List Blk) : ACalls Try.prog 76 [.hm km] H (fun e H' => e = .ret (.fn (.func 107) [] [.bp H.length 0]) ∧ H' = H ++ [.box 94 [.hm km]]) := by
  refine acalls_of_vc (hn := fun _ => false) (od := fun _ => none) Try.func76 rfl (by kernel_rfl) ?_
  simp -dsimp
theorem pmkeys_seq (t : List Pr) (km b base : Nat) (h1 : km < base) (h2 : b < base) : ASeqN Try.prog 107 [.bp b 0] (t.map fun x => [AV.agg (prC x)]) base (fun A => A[b]? = some (.box 94 [.hm km]) ∧ A[km]? = some (.map (standP t))) := by
  intro k J Jx hJ hy A h0
  have hl : (t.map fun x => [AV.agg (prC x)]).length = t.length := by simp
  rw [hl] at hy ⊢
  refine acalls_of_vc (hn := fun _ => false) (od := fun _ => none) Try.func107 rfl (by kernel_rfl) ?_
  obtain ⟨a0, a1, a2⟩ := hJ [] A h0
  have sml : (standP t).length = t.length := by simp [standP]
  simp -dsimp [a1, a2]
  refine loop_rule (hn := fun _ => false) (od := fun _ => none) (fun (s : List Nat) f H' => (∃ A' B, H' = A' ++ .it (some km) t.length s :: B ∧ J s A') ∧ f 0 = .yl k ∧ f 5 = .hi base ∧ s.Nodup ∧ (∀ j ∈ s, j < t.length)) (fun s => t.length - s.length) (by kernel_rfl) []
    ⟨⟨A, [], by rw [sml], h0⟩, by simp, by simp [a0], List.nodup_nil, fun j hj => by cases hj⟩ ?_
  rintro s f _ ⟨⟨A', B, rfl, hjs⟩, f0, f5, hs1, hs2⟩
  obtain ⟨b0, b1, b2⟩ := hJ s A' hjs
  simp -dsimp [f0, f5]
  refine nextVW_intro (m := km) (n := t.length) (seen := s) (es := standP t) (by rw [← b0]; simp) (get_app_old b2 _) sml (fun j p hj hp => ?_) (fun hall => ?_)
  · have hp' := hp
    simp only [standP, List.getElem?_map] at hp'
    obtain ⟨n, hx, rfl⟩ := Option.map_eq_some_iff.1 hp'
    have hjl : j < t.length := (List.getElem?_eq_some_iff.1 hx).1
    have e1 : (A' ++ Blk.it (some km) t.length s :: B).set base (.it (some km) t.length (s ++ [j])) = A' ++ .it (some km) t.length (s ++ [j]) :: B := by rw [← b0]; simp
    rw [e1]
    simp -dsimp [f0, f5]
    refine entryVW_intro (m := km) (n := t.length) (seen := s) (es := standP t) (j := j) (by rw [← b0]; simp) (get_app_old b2 _) sml hp ?_
    have gx : ∀ X : Blk, (A' ++ Blk.it (some km) t.length (s ++ [j]) :: (B ++ [X]))[A'.length + (B.length + 1)]? = some X := fun X => by rw [List.getElem?_append_right (by omega)]; simp
    have sx : ∀ X Y : Blk, (A' ++ Blk.it (some km) t.length (s ++ [j]) :: (B ++ [X])).set (A'.length + (B.length + 1)) Y = A' ++ Blk.it (some km) t.length (s ++ [j]) :: (B ++ [Y]) := fun X Y => by rw [List.set_append_right _ _ (by omega)]; simp
    simp -dsimp [f0, f5, avCells_prV, gx, sx]
    refine ayieldW_of (hy s j A' (.it (some km) t.length (s ++ [j]) :: (B ++ [Blk.box 65 (prC n)])) [.agg (prC n)] hs1 hs2 hj (by rw [List.getElem?_map, hx]; rfl) hjs) ?_
    rintro e M ⟨A2, C, rfl, ⟨rfl, h1⟩ | ⟨rfl, h2⟩⟩
    · simp -dsimp [f0, f5]
      have := nodup_less hs1 hs2 hj hjl
      obtain ⟨q1, q2⟩ := nodup_snoc hs1 hs2 hj hjl
      exact ⟨s ++ [j], by rw [List.length_append]; simp; omega, ⟨A2, ⟨B ++ [Blk.box 65 (prC n)] ++ C, by simp⟩, h1⟩, q1, q2⟩
    · simp -dsimp
      exact ⟨A2, ⟨_, rfl⟩, .inr h2⟩
  · simp -dsimp
    exact ⟨A', ⟨_, rfl⟩, .inl ⟨s, hs1, hs2, hall, hjs⟩⟩
def prsOf (t : List Pr) (s : List Nat) : List Pr := s.map fun j => (t[j]?).getD (0, 0)
theorem prsOf_perm {t : List Pr} {s : List Nat} (hs : s.Nodup) (h1 : ∀ j ∈ s, j < t.length) (h2 : ∀ j, j < t.length → j ∈ s) : (prsOf t s).Perm t := by
  have hp : s.Perm (List.range t.length) := (List.perm_ext_iff_of_nodup hs List.nodup_range).2 fun j => ⟨fun h => List.mem_range.2 (h1 j h), fun h => h2 j (List.mem_range.1 h)⟩
  have e : (List.range t.length).map (fun j => (t[j]?).getD (0, 0)) = t := by
    apply List.ext_getElem?
    intro j
    rw [List.getElem?_map]
    by_cases hj : j < t.length
    · rw [List.getElem?_range hj]; simp [hj]
    · rw [List.getElem?_eq_none (by simp; omega), List.getElem?_eq_none (by omega)]; rfl
  have q := hp.map (fun j => (t[j]?).getD (0, 0))
  rw [e] at q
  exact q
theorem pappseq_ok (t : List Pr) (km b : Nat) (ht : t.length ≤ 2^40) (H : List Blk) (hb : H[b]? = some (.box 94 [.hm km])) (hk : H[km]? = some (.map (standP t))) :
    ACalls Try.prog 133 [nilS, .fn (.func 107) [] [.bp b 0]] H (fun e H' => ∃ ns, ns.Perm t ∧ e = .ret (prS H.length ns) ∧ H' = H ++ [prB ns]) := by
  refine acalls_under fun hu _ => acalls_tidy (acalls_spare 1 (acalls_of_vcM (hn := fun d => d == 11) (od := fun _ => none) Try.func133 rfl (by kernel_rfl) ?_))
  have hbl := lt_of_get hb
  have hkl := lt_of_get hk
  obtain ⟨G, hG⟩ : ∃ G : List Pr → List Blk, ∀ l, G l = H ++ [prB l, .box 62 [prS H.length l]] := ⟨_, fun _ => rfl⟩
  have hG0 : H ++ [Blk.pend, .box 62 [nilS]] = G [] := by rw [hG]; simp [ownB, ownS]
  have gl : ∀ l, (G l).length = H.length + 2 := fun l => by rw [hG]; simp
  have g0 : ∀ l L, (G l ++ L)[H.length]? = some (prB l) := fun l L => by rw [hG]; simp
  have g1 : ∀ l L, (G l ++ L)[H.length + 1]? = some (.box 62 [prS H.length l]) := fun l L => by rw [hG]; simp
  have gs : ∀ l l' L, ((G l ++ L).set H.length (prB l')).set (H.length + 1) (.box 62 [prS H.length l']) = G l' ++ L := fun l l' L => by rw [hG, hG]; simp
  have gg : ∀ l l' L, ((G l ++ L).set H.length (prB l'))[H.length + 1]? = some (.box 62 [prS H.length l]) := fun l l' L => by rw [List.getElem?_set_ne (by omega)]; exact g1 l L
  have go : ∀ l i x, H[i]? = some x → (G l)[i]? = some x := fun l i x h => by rw [hG]; exact get_app_old h _
  simp -dsimp
  rw [hG0]
  refine awp_rangeN (t.map fun x => [AV.agg (prC x)]) (fun A => A[b]? = some (.box 94 [.hm km]) ∧ A[km]? = some (.map (standP t))) (fun s A => A = G (prsOf t s) ∧ s.length ≤ t.length) (fun _ _ => False) (by kernel_rfl) rfl (by simp only [List.mem_map]; rintro e ⟨p, _, rfl⟩; rfl) ?_ ⟨rfl, Nat.zero_le _⟩ ?_ ?_ ?_ ?_ ?_
  · rw [gl]
    intro k J Jx hJ hy A h0
    refine pmkeys_seq t km b (H.length + 2 + 2) (by omega) (by omega) k J Jx (fun s A h => ?_) hy A h0
    obtain ⟨h1, A0, bb, rfl, h2, h3, h4⟩ := hJ s A h
    exact ⟨h1, get_app_old h3 _, get_app_old h4 _⟩
  · rintro s A ⟨rfl, _⟩
    exact ⟨by rw [gl, gl], go _ _ _ hb, go _ _ _ hk⟩
  · rintro ex A h
    exact h.elim
  · rintro s j A B e hs1 hs2 hj he ⟨rfl, hsl⟩
    rw [List.getElem?_map] at he
    obtain ⟨n, hp, rfl⟩ := Option.map_eq_some_iff.1 he
    have hjl : j < t.length := (List.getElem?_eq_some_iff.1 hp).1
    simp only [List.length_map] at hs2
    have hlt := nodup_less hs1 hs2 hj hjl
    have hns : prsOf t (s ++ [j]) = prsOf t s ++ [n] := by unfold prsOf; simp [hp]
    have hnl : (prsOf t s).length = s.length := by unfold prsOf; simp
    refine awpW_of_vc (hn := fun _ => false) (od := fun _ => none) (by kernel_rfl) ?_
    simp -dsimp [avCells_prV]
    intro B' hB'
    refine awpW_of_vc (hn := fun d => d == 11) (od := fun _ => none) (by kernel_rfl) ?_
    obtain ⟨W, hW⟩ : ∃ W, W = prsOf t s := ⟨_, rfl⟩
    rw [← hW] at hns hnl ⊢
    have gx : ∀ X : Blk, (G W ++ (B' ++ [X]))[(G W).length + B.length]? = some X := fun X => by rw [← hB']; simp
    simp -dsimp [g1, gx]
    refine appendVW_own (k := H.length) (es := W.map fun s => prC s) (g0 W _) (by simp; omega) (by simp; omega) ?_
    have e : (W.map fun s => prC s) ++ [prC n] = (W ++ [n]).map fun s => prC s := by simp
    rw [e]
    have gg' := gg W (W ++ [n]) (B' ++ [Blk.box 65 (prC n)])
    have gs' := gs W (W ++ [n]) (B' ++ [Blk.box 65 (prC n)])
    obtain ⟨V, hV⟩ : ∃ V, V = (G W ++ (B' ++ [Blk.box 65 (prC n)])).set H.length (prB (W ++ [n])) := ⟨_, rfl⟩
    obtain ⟨sx, hsx⟩ : ∃ sx, sx = ownS H.length ((W ++ [n]).map fun s => prC s) := ⟨_, rfl⟩
    have gs'' : V.set (H.length + 1) (.box 62 [ownS H.length ((W ++ [n]).map fun s => prC s)]) = G (W ++ [n]) ++ (B' ++ [Blk.box 65 (prC n)]) := by rw [hV]; exact gs'
    rw [← hsx] at gs''
    rw [← hV, ← hsx]
    rw [← hV] at gg'
    have o1 : AV.one sx = true := by rw [hsx]; exact one_ownS _ _
    have o2 : avCells sx = some [sx] := by rw [hsx]; exact avCells_ownS _ _
    simp -dsimp [gg', gs'', o1, o2]
    exact roundEnd_of (G (W ++ [n])) [.box 65 (prC n)] rfl ⟨by rw [hns], by omega⟩
  · rintro s A C hs1 hs2 hs3 ⟨rfl, _⟩
    simp only [List.length_map] at hs2 hs3
    have hperm := prsOf_perm hs1 hs2 hs3
    obtain ⟨W, hW⟩ : ∃ W, W = prsOf t s := ⟨_, rfl⟩
    rw [← hW] at hperm ⊢
    have d0 : (G W ++ .dfr true :: C)[H.length + 2]? = some (.dfr true) := by rw [hG]; simp
    have d1 : (G W ++ .dfr true :: C).set (H.length + 2) (.dfr false) = G W ++ .dfr false :: C := by rw [hG]; simp
    have hGl := gl []
    simp -dsimp [g1, gl, d0, d1]
    rw [hG]
    have e : H ++ [prB W, Blk.box 62 [prS H.length W]] ++ .dfr false :: C = (H ++ [prB W]) ++ (.box 62 [prS H.length W] :: .dfr false :: C) := by simp
    rw [e]
    exact tidy_to (by simp) (fun h => underH_appF (n := H.length) (by simp) hu (fun b hb => by
      obtain rfl := List.mem_singleton.1 hb
      exact under_ownB_plain (prs_frzB _))) (under_ownS _ _ _ (by simp)) ⟨W, hperm, rfl, rfl⟩
  · rintro ex A C h
    exact h.elim
theorem pcollect_ok (t : List Pr) (km b : Nat) (ht : t.length ≤ 2^40) (H : List Blk) (hb : H[b]? = some (.box 94 [.hm km])) (hk : H[km]? = some (.map (standP t))) :
    ACalls Try.prog 105 [.fn (.func 107) [] [.bp b 0]] H (fun e H' => ∃ ns, ns.Perm t ∧ e = .ret (prS H.length ns) ∧ H' = H ++ [prB ns]) := by
  refine acalls_of_vc (hn := fun _ => false) (od := fun _ => none) Try.func105 rfl (by kernel_rfl) ?_
  simp -dsimp
  refine acallsW_of (pappseq_ok t km b ht H hb hk) ?_
  rintro e _ ⟨ns, hp, rfl, rfl⟩
  simp -dsimp
  exact ⟨ns, hp, rfl, rfl⟩
end Go.Proofs
