/- A scope in which the run jumps back to one label. -/
import Derived.Test.YteoimifnfkpdeaaGreatFwQtoFwT
import Derived.ScopeJumps
import Derived.Test.YteoimifnfkpdeaaGreatFwBoxtoRL2
import Derived.Test.YteoimifnfkpdeaaGreatFS5toCZP
import Derived.Test.YteoimifnfkpdeaaGreatFwYtoL9
import Derived.Test.YteoimifnfkpdeaaGreatRM3
set_option linter.unusedVariables false
set_option linter.unusedSimpArgs false
set_option maxHeartbeats 4000000
set_option maxRecDepth 100000
namespace Go.Mu
open Go.RowKit (Below)
def jumpQ (l : Nat) (J : Fr → List Blk → List ADef → Prop) (Q : AQ) : AQ
  | .goto l', f, H, ds => l' = l ∧ J f H ds
  | x, f, H, ds => Q x f H ds
theorem least_of (p : Nat → Prop) : (∃ n, p n) → ∃ n, p n ∧ ∀ m, p m → n ≤ m := by
  rintro ⟨n, hn⟩
  induction n using Nat.strongRecOn with
  | _ n ih =>
    by_cases h : ∃ m, m < n ∧ p m
    · obtain ⟨m, hm, hp⟩ := h
      exact ih m hm hp
    · exact ⟨n, hn, fun m hm => Nat.not_lt.1 fun hlt => h ⟨m, hlt, hm⟩⟩
section
variable {P : Program} {n : Nat}
theorem awp_scope_jumps {c rest : Code} {Q : AQ} {f : Fr} {H : List Blk} {ds : List ADef} (l : Nat) (I : Nat → Fr → List Blk → List ADef → Prop) (hf : findLabel c l = some rest)
    (first : AWP P n c (jumpQ l (fun f H ds => ∃ m, I m f H ds) Q) f H ds)
    (pass : ∀ m f H ds, I m f H ds → AWP P n rest (jumpQ l (fun f' H' ds' => ∃ m', m' < m ∧ I m' f' H' ds') Q) f H ds) : AWP P n (.scope c) Q f H ds := by
  classical
  intro ro hro B w0 cx0 cx a h1 h2 h3 h4 h5
  cases ro with
  | some l => have := hro rfl; simp [noDefC] at this
  | none =>
  obtain ⟨Rel, hRel⟩ : ∃ Rel : Nat → Act → World → Prop, Rel = fun m a w => ∃ cx f ds, cx.w = w ∧ HRel B w0 cx ∧ Le cx0 cx ∧ FRel cx n f a ∧ DRel cx ds a.defers ∧ I m f cx.H ds := ⟨_, rfl⟩
  obtain ⟨μ, hμ⟩ : ∃ μ : Act → World → Nat, ∀ a w m, Rel m a w → Rel (μ a w) a w ∧ μ a w ≤ m := ⟨fun a w => if h : ∃ m, Rel m a w then (least_of _ h).choose else 0, fun a w m hm => by
    have h : ∃ m, Rel m a w := ⟨m, hm⟩
    simp only [dif_pos h]
    exact ⟨(least_of _ h).choose_spec.1, (least_of _ h).choose_spec.2 m hm⟩⟩
  refine fo_wp.2 (wp_scope_jumps l (fun a w => ∃ m, Rel m a w) μ hf ?_ ?_)
  · refine wp_mono (fo_wp.1 (first none (fun hs => by cases hs) B w0 cx0 cx a h1 h2 h3 h4 h5)) fun e a' w' hp => ?_
    obtain ⟨cx', ax, f', ds', a1, a2, a3, a4, a5, a6, a7⟩ := hp
    cases e <;> cases ax <;> try exact a6.elim
    case goto.goto l1 l2 =>
      obtain ⟨rfl, m, hI⟩ := a7
      exact ⟨a6, m, by rw [hRel]; exact ⟨cx', f', ds', a1, a2, a3, a4, a5, hI⟩⟩
    all_goals exact ⟨cx', _, f', ds', a1, a2, a3, a4, a5, a6, a7⟩
  · rintro a w ⟨m0, hm0⟩
    obtain ⟨hm, _⟩ := hμ a w m0 hm0
    rw [hRel] at hm
    obtain ⟨cx1, f1, ds1, e1, e2, e3, e4, e5, e6⟩ := hm
    subst e1
    refine wp_mono (fo_wp.1 (pass _ f1 cx1.H ds1 e6 none (fun hs => by cases hs) B w0 cx0 cx1 a e2 e3 rfl e4 e5)) fun e a' w' hp => ?_
    obtain ⟨cx', ax, f', ds', a1, a2, a3, a4, a5, a6, a7⟩ := hp
    cases e <;> cases ax <;> try exact a6.elim
    case goto.goto l1 l2 =>
      obtain ⟨rfl, m, hlt, hI⟩ := a7
      have hr : Rel m a' w' := by rw [hRel]; exact ⟨cx', f', ds', a1, a2, a3, a4, a5, hI⟩
      exact ⟨a6, ⟨m, hr⟩, Nat.lt_of_le_of_lt (hμ a' w' m hr).2 hlt⟩
    all_goals exact ⟨cx', _, f', ds', a1, a2, a3, a4, a5, a6, a7⟩
theorem awp_scope_jumpR {c R : Code} {Q : AQ} {f : Fr} {H : List Blk} {ds : List ADef} (l : Nat) (I : Nat → Fr → List Blk → List ADef → Prop) (hf : findLabel c l = some (.seq .skip R))
    (body : ∀ m f H ds, I m f H ds → AWP P n R (jumpQ l (fun f' H' ds' => ∃ m', m' < m ∧ I m' f' H' ds') Q) f H ds)
    (first : (∀ m f H ds, I m f H ds → AWP P n R (jumpQ l (fun f H ds => ∃ m, I m f H ds) Q) f H ds) → AWP P n c (jumpQ l (fun f H ds => ∃ m, I m f H ds) Q) f H ds) : AWP P n (.scope c) Q f H ds := by
  refine awp_scope_jumps l I hf (first fun m f H ds hI => (body m f H ds hI).mono fun x f H ds hx => ?_) fun m f H ds hI => awp_seq (awp_skip (body m f H ds hI))
  cases x <;> first | exact hx | exact ⟨hx.1, hx.2.imp fun _ h => h.2⟩
end
@[simp ↓] theorem QW_jump_goto (l l' : Nat) (J : Fr → List Blk → List ADef → Prop) (Q : AQ) (f : Fr) (H : List Blk) (ds : List ADef) (w : Wit (jumpQ l J Q, AX.goto l', f, H, ds)) : QW (jumpQ l J Q) (.goto l') f H ds w = (l' = l ∧ J f H ds) := (rfl)
@[simp ↓] theorem QW_jump_ret (l : Nat) (J : Fr → List Blk → List ADef → Prop) (Q : AQ) (f : Fr) (H : List Blk) (ds : List ADef) (w : Wit (jumpQ l J Q, AX.ret, f, H, ds)) : QW (jumpQ l J Q) .ret f H ds w = QW Q .ret f H ds (wit _) := (rfl)
end Go.Mu
namespace Go.Proofs
open Go.Mu
theorem se_frzB (l : List Se) : (l.map Se.cells).flatten.all AV.frzB = true := by
  induction l with
  | nil => rfl
  | cons x l ih => rw [List.map_cons, List.flatten_cons, List.all_append, ih]; simp [AV.frzB]
abbrev reB (r : List Int) : Blk := ownB 29 1 (r.map fun w => [U w])
abbrev reS (k : Nat) (r : List Int) : AV := ownS k (r.map fun w => [U w])
abbrev seB (s : List Se) : Blk := ownB 51 3 (s.map Se.cells)
abbrev seS (k : Nat) (s : List Se) : AV := ownS k (s.map Se.cells)
abbrev raB (h : Nat) (r : List Int) (s : List Se) (st er : Int) : Blk := .box 46 [reS h r, seS (h + 1) s, I st, I er]
abbrev liB (l : Linear) : Blk := .box 25 [I l.vars, Int.sl l.params, Int.sl l.rets, I l.frame, Line.sl l.code]
structure RI (l : Linear) (lay : List Rg) (H : List Blk) (k kb n kv ka ko : Nat) (M : List Blk) (V b : List Int) (r : List Int) (s : List Se) (st er : Int) : Prop where
  pre : ∃ L, M = H.set kb (byB b) ++ reB r :: seB s :: L
  box : M[H.length + 2]? = some (liB l)
  res : M[H.length + 3]? = some (.box 46 [nilS, nilS, I 0, I 0])
  v : M[kv]? = some (rowU V)
  at_ : M[ka]? = some (.map (atM (whereM l.code 0 [])))
  out : M[ko]? = some (raB H.length r s st er)
  mem : MemAt M k kb lay b
  hk : k < H.length ∧ kb < H.length
  h1 : H.length + 3 < kv
  h2 : kv < ka
  h3 : ka < ko
  vl : V.length = n
section
variable {l : Linear} {lay : List Rg} {H : List Blk} {k kb n kv ka ko : Nat} {M : List Blk} {V b : List Int} {r : List Int} {s : List Se} {st er : Int}
theorem RI.app (h : RI l lay H k kb n kv ka ko M V b r s st er) (L' : List Blk) : RI l lay H k kb n kv ka ko (M ++ L') V b r s st er := by
  obtain ⟨L, hL⟩ := h.pre
  exact ⟨⟨L ++ L', by rw [hL]; simp⟩, get_app_old h.box _, get_app_old h.res _, get_app_old h.v _, get_app_old h.at_ _, get_app_old h.out _, ⟨get_app_old h.mem.me _, get_app_old h.mem.bytes _, h.mem.len⟩, h.hk, h.h1, h.h2, h.h3, h.vl⟩
theorem RI.ne (h : RI l lay H k kb n kv ka ko M V b r s st er) : k ≠ kb := fun e => by
  have h1 := h.mem.me
  have h2 := h.mem.bytes
  rw [e, h2] at h1
  simp at h1
theorem RI.len (h : RI l lay H k kb n kv ka ko M V b r s st er) : ko < M.length := lt_of_get h.out
theorem RI.setO (h : RI l lay H k kb n kv ka ko M V b r s st er) (st' er' : Int) : RI l lay H k kb n kv ka ko (M.set ko (raB H.length r s st' er')) V b r s st' er' := by
  obtain ⟨L, hL⟩ := h.pre
  have a1 := h.h1; have a2 := h.h2; have a3 := h.h3; have a4 := h.hk; have a5 := h.len
  have g : ∀ {i x}, i ≠ ko → M[i]? = some x → (M.set ko (raB H.length r s st' er'))[i]? = some x := fun hi hx => by rw [List.getElem?_set_ne (fun e => hi e.symm)]; exact hx
  refine ⟨⟨L.set (ko - (H.length + 2)) (raB H.length r s st' er'), ?_⟩, g (by omega) h.box, g (by omega) h.res, g (by omega) h.v, g (by omega) h.at_, by rw [List.getElem?_set_self a5], ⟨g (by omega) h.mem.me, g (by omega) h.mem.bytes, h.mem.len⟩, h.hk, h.h1, h.h2, h.h3, h.vl⟩
  rw [hL, List.set_append_right _ _ (by simp; omega)]
  congr 1
  obtain ⟨q, hq⟩ : ∃ q, ko = H.length + 2 + q := ⟨ko - (H.length + 2), by omega⟩
  subst hq
  rw [List.length_set, show H.length + 2 + q - H.length = q + 1 + 1 by omega, show H.length + 2 + q - (H.length + 2) = q by omega]
  rfl
theorem RI.setVB (h : RI l lay H k kb n kv ka ko M V b r s st er) {V' b' : List Int} (hV : V'.length = n) (hb : b'.length = 65536) : RI l lay H k kb n kv ka ko ((M.set kv (rowU V')).set kb (byB b')) V' b' r s st er := by
  obtain ⟨L, hL⟩ := h.pre
  have a1 := h.h1; have a2 := h.h2; have a3 := h.h3; have a4 := h.hk; have a5 := h.len; have a6 := h.ne
  have g : ∀ {i x}, i ≠ kv → i ≠ kb → M[i]? = some x → ((M.set kv (rowU V')).set kb (byB b'))[i]? = some x := fun h1 h2 hx => by rw [List.getElem?_set_ne (fun e => h2 e.symm), List.getElem?_set_ne (fun e => h1 e.symm)]; exact hx
  refine ⟨⟨L.set (kv - (H.length + 2)) (rowU V'), ?_⟩, g (by omega) (by omega) h.box, g (by omega) (by omega) h.res, ?_, g (by omega) (by omega) h.at_, g (by omega) (by omega) h.out, ⟨g (by omega) a6 h.mem.me, ?_, hb⟩, h.hk, h.h1, h.h2, h.h3, hV⟩
  · rw [hL, List.set_append_right _ _ (by simp; omega), List.set_append_left _ _ (by simp; omega), List.set_set]
    congr 1
    obtain ⟨q, hq⟩ : ∃ q, kv = H.length + 2 + q := ⟨kv - (H.length + 2), by omega⟩
    subst hq
    rw [List.length_set, show H.length + 2 + q - H.length = q + 1 + 1 by omega, show H.length + 2 + q - (H.length + 2) = q by omega]
    rfl
  · rw [List.getElem?_set_ne (by omega), List.getElem?_set_self (by omega)]
  · rw [List.getElem?_set_self (by rw [List.length_set]; omega)]
theorem RI.setSe (h : RI l lay H k kb n kv ka ko M V b r s st er) (s' : List Se) : RI l lay H k kb n kv ka ko ((M.set (H.length + 1) (seB s')).set ko (raB H.length r s' st er)) V b r s' st er := by
  obtain ⟨L, hL⟩ := h.pre
  have a1 := h.h1; have a2 := h.h2; have a3 := h.h3; have a4 := h.hk; have a5 := h.len
  have g : ∀ {i x}, i ≠ H.length + 1 → i ≠ ko → M[i]? = some x → ((M.set (H.length + 1) (seB s')).set ko (raB H.length r s' st er))[i]? = some x := fun h1 h2 hx => by rw [List.getElem?_set_ne (fun e => h2 e.symm), List.getElem?_set_ne (fun e => h1 e.symm)]; exact hx
  refine ⟨⟨L.set (ko - (H.length + 2)) (raB H.length r s' st er), ?_⟩, g (by omega) (by omega) h.box, g (by omega) (by omega) h.res, g (by omega) (by omega) h.v, g (by omega) (by omega) h.at_, by rw [List.getElem?_set_self (by rw [List.length_set]; exact a5)], ⟨g (by omega) (by omega) h.mem.me, g (by omega) (by omega) h.mem.bytes, h.mem.len⟩, h.hk, h.h1, h.h2, h.h3, h.vl⟩
  rw [hL, List.set_append_right _ _ (by simp), List.set_append_right _ _ (by simp; omega)]
  congr 1
  obtain ⟨q, hq⟩ : ∃ q, ko = H.length + 2 + q := ⟨ko - (H.length + 2), by omega⟩
  subst hq
  rw [List.length_set, show H.length + 2 + q - H.length = q + 1 + 1 by omega, show H.length + 2 + q - (H.length + 2) = q by omega, show H.length + 1 - H.length = 0 + 1 by omega]
  rfl
theorem RI.setRe (h : RI l lay H k kb n kv ka ko M V b r s st er) (r' : List Int) : RI l lay H k kb n kv ka ko ((M.set H.length (reB r')).set ko (raB H.length r' s st er)) V b r' s st er := by
  obtain ⟨L, hL⟩ := h.pre
  have a1 := h.h1; have a2 := h.h2; have a3 := h.h3; have a4 := h.hk; have a5 := h.len
  have g : ∀ {i x}, i ≠ H.length → i ≠ ko → M[i]? = some x → ((M.set H.length (reB r')).set ko (raB H.length r' s st er))[i]? = some x := fun h1 h2 hx => by rw [List.getElem?_set_ne (fun e => h2 e.symm), List.getElem?_set_ne (fun e => h1 e.symm)]; exact hx
  refine ⟨⟨L.set (ko - (H.length + 2)) (raB H.length r' s st er), ?_⟩, g (by omega) (by omega) h.box, g (by omega) (by omega) h.res, g (by omega) (by omega) h.v, g (by omega) (by omega) h.at_, by rw [List.getElem?_set_self (by rw [List.length_set]; exact a5)], ⟨g (by omega) (by omega) h.mem.me, g (by omega) (by omega) h.mem.bytes, h.mem.len⟩, h.hk, h.h1, h.h2, h.h3, h.vl⟩
  rw [hL, List.set_append_right _ _ (by simp), List.set_append_right _ _ (by simp; omega)]
  congr 1
  obtain ⟨q, hq⟩ : ∃ q, ko = H.length + 2 + q := ⟨ko - (H.length + 2), by omega⟩
  subst hq
  rw [List.length_set, show H.length + 2 + q - H.length = q + 1 + 1 by omega, show H.length + 2 + q - (H.length + 2) = q by omega, show H.length - H.length = 0 by omega]
  rfl
theorem RI.se (h : RI l lay H k kb n kv ka ko M V b r s st er) : M[H.length + 1]? = some (seB s) := by
  obtain ⟨L, hL⟩ := h.pre
  rw [hL, List.getElem?_append_right (by simp)]
  simp
theorem RI.re (h : RI l lay H k kb n kv ka ko M V b r s st er) : M[H.length]? = some (reB r) := by
  obtain ⟨L, hL⟩ := h.pre
  rw [hL, List.getElem?_append_right (by simp)]
  simp
end
theorem tidy_ran {H G L : List Blk} {R : AE → List Blk → Prop} {x y z : Value} (hg : G.length = H.length) (hu : underH G.length G = true) (t1 t2 s1 s2 : Nat) (e1 e2 : List (List AV)) (hz1 : e1.flatten.all AV.frzB = true) (hz2 : e2.flatten.all AV.frzB = true)
    (h : R (.ret (.tup [.agg [.vs s1 e1, .vs s2 e2, .v x, .v y], .v z])) G) : WeakE (Tidy H R) (.ret (.tup [.agg [ownS H.length e1, ownS (H.length + 1) e2, .v x, .v y], .v z])) (G ++ ownB t1 s1 e1 :: ownB t2 s2 e2 :: L) := by
  have hT : ∀ L r, r.under H.length = true → R (.ret r) G → Tidy H R (.ret r) (G ++ L) := fun L r h1 h2 => tidy_to (by omega) (fun _ => hu) (by rw [hg]; exact h1) h2
  have wk : ∀ a b : AV, Weak a (.vs s1 e1) → Weak b (.vs s2 e2) → Weak (.tup [.agg [a, b, .v x, .v y], .v z]) (.tup [.agg [.vs s1 e1, .vs s2 e2, .v x, .v y], .v z]) := fun a b ha hb =>
    .tupL (.cons (.aggL (.cons ha (.cons hb (.cons (.refl _) (.cons (.refl _) .nil))))) (.cons (.refl _) .nil))
  have two : ∀ (L : List Blk) (a : AV), Weak a (.vs s1 e1) → L[1]? = some (ownB t2 s2 e2) → WeakE (Tidy H R) (.ret (.tup [.agg [a, ownS (H.length + 1) e2, .v x, .v y], .v z])) (G ++ L) := by
    intro L a hx hj
    by_cases he : e2 = []
    · subst he
      rw [ownS_nil]
      exact tidy_weak (wk _ _ hx (.nil s2)) (hT _ _ rfl h)
    · refine ⟨.tup [.agg [.vs s1 e1, ownS (H.length + 1) e2, .v x, .v y], .v z], .tupL (.cons (.aggL (.cons hx (.cons (.refl _) (.cons (.refl _) (.cons (.refl _) .nil))))) (.cons (.refl _) .nil)), ?_⟩
      rw [ownB, if_neg he] at hj
      refine tidy_giveG hu 1 s2 t2 e2 hj hz2 ?_
      have hf : (AV.tup [.agg [.vs s1 e1, ownS (H.length + 1) e2, .v x, .v y], .v z]).frz (G.length + 1) s2 e2 = .tup [.agg [.vs s1 e1, .vs s2 e2, .v x, .v y], .v z] := by
        rw [hg]; simp only [AV.frz, frzL]; rw [frz_own _ _ _ he]
      rw [hf]
      exact hT _ _ rfl h
  by_cases he : e1 = []
  · subst he
    rw [ownS_nil]
    exact two _ _ (.nil s1) rfl
  · have hf : (AV.tup [.agg [ownS H.length e1, ownS (H.length + 1) e2, .v x, .v y], .v z]).frz (G.length + 0) s1 e1 = .tup [.agg [.vs s1 e1, ownS (H.length + 1) e2, .v x, .v y], .v z] := by
      rw [hg]; simp only [AV.frz, frzL, Nat.add_zero]; rw [frz_own _ _ _ he, frz_ownS_ne (by omega)]
    by_cases he2 : e2 = []
    · subst he2
      refine ⟨.tup [.agg [ownS H.length e1, .vs s2 [], .v x, .v y], .v z], .tupL (.cons (.aggL (.cons (.refl _) (.cons (by rw [ownS_nil]; exact .nil s2) (.cons (.refl _) (.cons (.refl _) .nil))))) (.cons (.refl _) .nil)), ?_⟩
      refine tidy_giveG hu 0 s1 t1 e1 (by rw [ownB, if_neg he]; rfl) hz1 ?_
      have hf : (AV.tup [.agg [ownS H.length e1, .vs s2 [], .v x, .v y], .v z]).frz (G.length + 0) s1 e1 = .tup [.agg [.vs s1 e1, .vs s2 [], .v x, .v y], .v z] := by
        rw [hg]; simp only [AV.frz, frzL, Nat.add_zero]; rw [frz_own _ _ _ he]
      rw [hf]
      exact hT _ _ rfl h
    · refine tidy_weak (.refl _) ?_
      refine tidy_giveG hu 0 s1 t1 e1 (by rw [ownB, if_neg he]; rfl) hz1 ?_
      rw [hf]
      refine tidy_giveG hu 1 s2 t2 e2 ?_ hz2 ?_
      · have hid := frzB_id (k := G.length + 0) (sz := s1) (es := e1) (n := G.length) (by omega) (ownB t2 s2 e2) (under_ownB_plain hz2)
        simp only [List.map_cons, List.set_cons_zero, List.getElem?_cons_succ, List.getElem?_cons_zero]
        rw [hid, ownB, if_neg he2]
      · have hf2 : (AV.tup [.agg [.vs s1 e1, ownS (H.length + 1) e2, .v x, .v y], .v z]).frz (G.length + 1) s2 e2 = .tup [.agg [.vs s1 e1, .vs s2 e2, .v x, .v y], .v z] := by
          rw [hg]; simp only [AV.frz, frzL]; rw [frz_own _ _ _ he2]
        rw [hf2]
        exact hT _ _ rfl h
section
variable {l : Linear} {lay : List Rg} {H : List Blk} {k kb n kv ka ko : Nat} {M : List Blk} {V b : List Int} {r : List Int} {s : List Se} {st er : Int}
theorem RI.done (h : RI l lay H k kb n kv ka ko M V b r s st er) (hu : underH H.length H = true) {Z : Blk} {R : AE → List Blk → Prop} (hR : R (.ret (.tup [.agg [.vs 1 (r.map fun w => [U w]), Se.sl s, I st, I er], I 0])) (H.set kb (byB b))) :
    WeakE (Tidy H R) (.ret (.tup [.agg [reS H.length r, seS (H.length + 1) s, I st, I er], I 0])) (M.set (H.length + 3) Z) := by
  obtain ⟨L, hL⟩ := h.pre
  have e : M.set (H.length + 3) Z = H.set kb (byB b) ++ reB r :: seB s :: L.set 1 Z := by
    rw [hL, List.set_append_right _ _ (by simp)]
    congr 1
    rw [List.length_set, show H.length + 3 - H.length = 1 + 1 + 1 by omega]
    rfl
  rw [e]
  exact tidy_ran (by simp) (by rw [List.length_set]; exact underH_set hu (by_under _ b)) _ _ _ _ _ _ (u_frzB r) (se_frzB s) hR
theorem RI.done0 (h : RI l lay H k kb n kv ka ko M V b [] s st er) (hu : underH H.length H = true) {Z : Blk} {R : AE → List Blk → Prop} (hR : R (.ret (.tup [.agg [.vs 1 [], Se.sl s, I st, I er], I 0])) (H.set kb (byB b))) :
    WeakE (Tidy H R) (.ret (.tup [.agg [nilS, seS (H.length + 1) s, I st, I er], I 0])) (M.set (H.length + 3) Z) := by
  have := h.done hu (Z := Z) (R := R) hR
  rw [show reS H.length [] = nilS from ownS_nil _] at this
  exact this
end
end Go.Proofs
namespace Go.Proofs
open Go.Mu
def runHn (d : Nat) : Bool := d == 131 || d == 144 || d == 169
def RunI (l : Linear) (lay : List Rg) (H : List Blk) (k kb n fuel : Nat) (stk : Int) (RES : Ran) (m : Nat) (f : Fr) (M : List Blk) (ds : List ADef) : Prop :=
  ds = [] ∧ ∃ kv ka ko s, m ≤ fuel ∧ f 2 = .bp k 0 ∧ f 3 = U stk ∧ f 4 = I fuel ∧ f 5 = .bp (H.length + 2) 0 ∧ f 10 = .bp (H.length + 3) 0 ∧ f 11 = I 0 ∧ f 12 = .hs kv 0 n n ∧ f 15 = .hm ka ∧ f 16 = .bp ko 0 ∧ f 17 = I s.i ∧ s.seen.length ≤ fuel - m ∧
    RI l lay H k kb n kv ka ko M s.V s.b [] s.seen ((fuel - m : Nat) : Int) 0 ∧ lrun lay l stk fuel m s = RES
theorem lrun_none {lay : List Rg} {l : Linear} {stk : Int} {fuel m : Nat} {s : RSt} (h : l.code[s.i]? = none) : lrun lay l stk fuel m s = ⟨l.rets.map (vg s.V), s.seen, fuel - m, 0, s.b⟩ := by
  unfold lrun
  rw [h]
theorem lrun_zero {lay : List Rg} {l : Linear} {stk : Int} {fuel : Nat} {s : RSt} {x : Line} (h : l.code[s.i]? = some x) : lrun lay l stk fuel 0 s = ⟨[], s.seen, fuel, 7, s.b⟩ := by
  unfold lrun
  rw [h]
theorem lrun_succ {lay : List Rg} {l : Linear} {stk : Int} {fuel m : Nat} {s : RSt} {x : Line} (h : l.code[s.i]? = some x) : lrun lay l stk fuel (m + 1) s = if (lstep lay l stk x s).2 = 0 then lrun lay l stk fuel m (lstep lay l stk x s).1 else ⟨[], (lstep lay l stk x s).1.seen, fuel - m, (lstep lay l stk x s).2, (lstep lay l stk x s).1.b⟩ := by
  conv => lhs; unfold lrun
  rw [h]
theorem lstep1 {lay : List Rg} {l : Linear} {stk : Int} {x : Line} {s : RSt} (h : x.kind = 1) : lstep lay l stk x s = (⟨(doM lay x.ins stk s.V s.b).V, (doM lay x.ins stk s.V s.b).b, s.i + 1, if (doM lay x.ins stk s.V s.b).seen = true then s.seen ++ [⟨false, false, (doM lay x.ins stk s.V s.b).addr⟩] else s.seen⟩, (doM lay x.ins stk s.V s.b).err) := by
  unfold lstep
  rw [if_pos h]
theorem lstep4 {lay : List Rg} {l : Linear} {stk : Int} {x : Line} {s : RSt} (h : x.kind = 4) : lstep lay l stk x s = (⟨s.V, s.b, if vg s.V x.var = 0 then whr l.code x.label else s.i + 1, s.seen ++ [⟨true, decide (vg s.V x.var = 0), 0⟩]⟩, 0) := by
  unfold lstep
  rw [if_neg (by omega), if_pos h]
theorem lstep3 {lay : List Rg} {l : Linear} {stk : Int} {x : Line} {s : RSt} (h : x.kind = 3) : lstep lay l stk x s = (⟨s.V, s.b, whr l.code x.label, s.seen⟩, 0) := by
  unfold lstep
  rw [if_neg (by omega), if_neg (by omega), if_pos h]
theorem lstep5 {lay : List Rg} {l : Linear} {stk : Int} {x : Line} {s : RSt} (h : x.kind = 5) : lstep lay l stk x s = (⟨s.V, s.b, l.code.length, s.seen⟩, 0) := by
  unfold lstep
  rw [if_neg (by omega), if_neg (by omega), if_neg (by omega), if_pos h]
theorem lstep2 {lay : List Rg} {l : Linear} {stk : Int} {x : Line} {s : RSt} (h1 : ¬ x.kind = 1) (h4 : ¬ x.kind = 4) (h3 : ¬ x.kind = 3) (h5 : ¬ x.kind = 5) : lstep lay l stk x s = (⟨s.V, s.b, s.i + 1, s.seen⟩, 0) := by
  unfold lstep
  rw [if_neg h1, if_neg h4, if_neg h3, if_neg h5]
theorem lrun_ok (l : Linear) (hs : l.Sm) (hok : l.ok = true) (hw : ∀ x ∈ l.code, 0 ≤ x.ins.word ∧ x.ins.word ≤ 18446744073709551615) (args : List Int) (ha : args.length = l.params.length) (stk : Int) (hst : stk.tmod 16 = 0) (fuel : Nat) (hf : fuel ≤ 1000000)
    {H : List Blk} {k kb : Nat} {lay : List Rg} {b : List Int} (hm : MemAt H k kb lay b) (hl : lay.length ≤ 16) (ho : ∀ r ∈ lay, r.Ok) :
    ACalls Tryz.prog 16 [.agg l.cells, Wo.sl args, .bp k 0, U stk, I fuel] H (fun e H' => e = .ret (.tup [.agg (runM lay l args b stk fuel).cells, I 0]) ∧ H' = H.set kb (byB (runM lay l args b stk fuel).b)) := by
  refine acalls_under fun hu _ => acalls_tidy (acalls_weakE (acalls_spare 2 (acalls_of_awp Tryz.func16 rfl (by kernel_rfl) ?_)))
  obtain ⟨RES, hRES⟩ : ∃ RES, RES = runM lay l args b stk fuel := ⟨_, rfl⟩
  rw [← hRES]
  have hlo := ((ok_iff l).1 hok).1
  have hvr := hlo.vars
  obtain ⟨n, hn⟩ : ∃ n, n = varN l := ⟨_, rfl⟩
  have hn1 : l.vars ≤ n ∧ 1 ≤ n ∧ n ≤ 16384 := by rw [hn]; unfold varN; omega
  have hk := lt_of_get hm.me
  have hkb := lt_of_get hm.bytes
  refine awp_cut runHn (fun _ => none) (fun f M => M = H ++ [.pend, .pend, liB l, .box 46 [nilS, nilS, I 0, I 0]] ∧ f 1 = Wo.sl args ∧ f 2 = .bp k 0 ∧ f 3 = U stk ∧ f 4 = I fuel ∧ f 5 = .bp (H.length + 2) 0 ∧ f 10 = .bp (H.length + 3) 0 ∧ f 11 = I 0) (by kernel_rfl) ?_ ?_
  · simp -dsimp
  rintro f M ⟨hM, f1, f2, f3, f4, f5, f10, f11⟩
  refine awp_scope_jumpR 0 (RunI l lay H k kb n fuel stk RES) rfl ?_ ?_
  · clear hM f1 f2 f3 f4 f5 f10 f11 f M hRES
    rintro m f M ds ⟨rfl, kv, ka, ko, s, hmf, f2, f3, f4, f5, f10, f11, f12, f15, f16, f17, hsl, ri, hrun⟩
    refine awp_all runHn (fun _ => none) (by kernel_rfl) ?_
    have g5 := ri.box
    have g16 := ri.out
    have hko := ri.len
    have a1 := ri.h1; have a2 := ri.h2; have a3 := ri.h3
    have gA : ∀ (Y : Blk) (L : List Blk), (M.set ko Y ++ L)[H.length + 2]? = some (liB l) := fun Y L => by rw [List.getElem?_append_left (by rw [List.length_set]; omega), List.getElem?_set_ne (by omega)]; exact g5
    have gA0 : ∀ (Y : Blk), (M.set ko Y)[H.length + 2]? = some (liB l) := fun Y => by rw [List.getElem?_set_ne (by omega)]; exact g5
    have gO : ∀ (Y : Blk) (L : List Blk), (M.set ko Y ++ L)[ko]? = some Y := fun Y L => by rw [List.getElem?_append_left (by rw [List.length_set]; omega), List.getElem?_set_self hko]
    have gO0 : ∀ (Y : Blk), (M.set ko Y)[ko]? = some Y := fun Y => by rw [List.getElem?_set_self hko]
    have gN : ∀ (Y : Blk) (X : Blk) (L : List Blk), (M.set ko Y ++ X :: L)[M.length]? = some X := fun Y X L => by rw [List.getElem?_append_right (by rw [List.length_set]; omega), List.length_set]; simp
    have cl := hs.code
    simp only [raB, reS, List.map_nil, ownS_nil] at g16
    cases hx : l.code[s.i]? with
    | none =>
      have hge : l.code.length ≤ s.i := by rw [List.getElem?_eq_none_iff] at hx; exact hx
      have dlt : decide (s.i < l.code.length) = false := decide_eq_false (by omega)
      rw [lrun_none hx] at hrun
      simp -dsimp [f2, f3, f4, f5, f10, f11, f12, f15, f16, f17, g5, dlt]
      have hro : ∀ i v, l.rets[i]? = some v → 0 ≤ v ∧ v < l.vars := fun i v hv => hlo.rets v (List.mem_of_getElem? hv)
      have hrl := hlo.retl
      have hro := Hid.mk hro
      obtain ⟨st, hst'⟩ : ∃ st : Int, st = ((fuel - m : Nat) : Int) := ⟨_, rfl⟩
      rw [← hst'] at ri
      have hst' := Hid.mk hst'
      refine loop_rule (hn := runHn) (od := fun _ => none) (fun (i : Nat) f M' => f 5 = .bp (H.length + 2) 0 ∧ f 10 = .bp (H.length + 3) 0 ∧ f 11 = I 0 ∧ f 12 = .hs kv 0 n n ∧ f 16 = .bp ko 0 ∧ f 156 = Int.sl l.rets ∧ f 157 = I l.rets.length ∧ f 158 = I i ∧ i ≤ l.rets.length ∧ RI l lay H k kb n kv ka ko M' s.V s.b ((l.rets.take i).map (vg s.V)) s.seen st 0) (fun i => l.rets.length - i) (by kernel_rfl) 0 (by refine ⟨by simp [f5], by simp [f10], by simp [f11], by simp [f12], by simp [f16], by simp, by simp, by simp, by omega, ri⟩) ?_
      clear f2 f3 f4 f5 f10 f11 f12 f15 f16 f17 f g5 g16 gA gA0 gO gO0 gN ri hko M
      rintro i f M ⟨f5, f10, f11, f12, f16, f156, f157, f158, hi, ri⟩
      simp -dsimp [f5, f10, f11, f12, f16, f156, f157, f158]
      refine condVW_introD (fun hlt2 => ?_) (fun hlt2 => ?_)
      · have hlt2' : i < l.rets.length := by omega
        have hy := List.getElem?_eq_getElem hlt2'
        obtain ⟨v, hve⟩ : ∃ v, v = l.rets[i] := ⟨_, rfl⟩
        rw [← hve] at hy
        have htk : l.rets.take (i + 1) = l.rets.take i ++ [v] := by rw [hve]; exact List.take_succ_eq_append_getElem hlt2'
        clear hve
        have hvb := hro.out i v hy
        have gv := ri.v
        have gvx := vg_at (V := s.V) hvb.1 (by rw [ri.vl]; omega)
        have gvl : (s.V.map fun x => [U x]).length = n := by rw [List.length_map]; exact ri.vl
        have g16 := ri.out
        have gre := ri.re
        have hrr : ((l.rets.take i).map (vg s.V)).length = i := by simp; omega
        obtain ⟨r, hr⟩ : ∃ r, r = (l.rets.take i).map (vg s.V) := ⟨_, rfl⟩
        have hr2 : (l.rets.take (i + 1)).map (vg s.V) = r ++ [vg s.V v] := by rw [htk, List.map_append, ← hr]; rfl
        have ri2 := ri.setRe ((l.rets.take (i + 1)).map (vg s.V))
        rw [hr2] at ri2
        rw [← hr] at g16 gre hrr
        obtain ⟨x, hxv⟩ : ∃ x, x = vg s.V v := ⟨_, rfl⟩
        rw [← hxv] at gvx ri2
        have hfin : (l.rets.take (i + 1)).map (vg s.V) = r ++ [x] := by rw [hr2, hxv]
        clear hr2 hxv hr
        obtain ⟨V, hV⟩ : ∃ V, V = s.V.map fun x => [U x] := ⟨_, rfl⟩
        have gv : M[kv]? = some (.row 29 1 V) := by rw [hV]; exact gv
        have gvx : V[v.toNat]? = some [U x] := by rw [hV, List.getElem?_map, gvx]; rfl
        rw [← hV] at gvl
        clear hV
        have a4 := ri.len
        obtain ⟨sx, hsx⟩ : ∃ sx, sx = reS H.length r := ⟨_, rfl⟩
        have o1 : AV.one sx = true := by rw [hsx]; exact one_ownS _ _
        have o2 : avCells sx = some [sx] := by rw [hsx]; exact avCells_ownS _ _
        have g16 : M[ko]? = some (.box 46 [sx, seS (H.length + 1) s.seen, I st, I 0]) := by rw [hsx]; exact g16
        simp -dsimp [f5, f10, f11, f12, f16, f156, f157, f158, hy, gv, gvl, gvx, g16]
        refine andVW_intro ⟨hvb.1, by omega⟩ ?_
        simp -dsimp [f5, f10, f11, f12, f16, f156, f157, f158, hy, gv, gvl, gvx, g16, runHn]
        rw [hsx]
        refine appendVW_own (k := H.length) (es := r.map fun w => [U w]) gre (by rw [List.length_map]; show (r.length + 1) * 8 ≤ _; omega) (by rw [List.length_map]; show r.length + 1 ≤ _; omega) ?_
        have e : (r.map fun w => [U w]) ++ [[U x]] = (r ++ [x]).map fun w => [U w] := by simp
        rw [e]
        have gk2 : (M.set H.length (reB (r ++ [x])))[ko]? = some (.box 46 [sx, seS (H.length + 1) s.seen, I st, I 0]) := by rw [List.getElem?_set_ne (by omega)]; exact g16
        obtain ⟨N, hN⟩ : ∃ N, N = M.set H.length (reB (r ++ [x])) := ⟨_, rfl⟩
        obtain ⟨sy, hsy⟩ : ∃ sy, sy = reS H.length (r ++ [x]) := ⟨_, rfl⟩
        have o3 : AV.one sy = true := by rw [hsy]; exact one_ownS _ _
        have o4 : avCells sy = some [sy] := by rw [hsy]; exact avCells_ownS _ _
        have hN' : M.set H.length (ownB 29 1 ((r ++ [x]).map fun w => [U w])) = N := hN.symm
        have hsy' : ownS H.length ((r ++ [x]).map fun w => [U w]) = sy := hsy.symm
        simp only [hN', hsy']
        rw [← hN] at gk2
        simp -dsimp [f5, f10, f11, f12, f16, f156, f157, f158, gk2, o3, o4]
        refine ⟨i + 1, by omega, wrapS (by omega), by omega, ?_⟩
        rw [← List.map_take, hfin, hN, hsy]
        exact ri2
      · have hie : i = l.rets.length := by omega
        subst hie
        rw [List.take_length] at ri
        have g16 := ri.out
        have hko := ri.len
        obtain ⟨sx, hsx⟩ : ∃ sx, sx = reS H.length (l.rets.map (vg s.V)) := ⟨_, rfl⟩
        have g16 : M[ko]? = some (.box 46 [sx, seS (H.length + 1) s.seen, I st, I 0]) := by rw [hsx]; exact g16
        have o1 : AV.one sx = true := by rw [hsx]; exact one_ownS _ _
        have gR := ri.res
        have gZ : ∀ (Z : Blk), (M.set (H.length + 3) Z)[H.length + 3]? = some Z := fun Z => by rw [List.getElem?_set_self (by omega)]
        simp -dsimp [f5, f10, f11, f12, f16, f156, f157, f158, g16, gR, gZ, o1]
        rw [hsx]
        refine ri.done hu ?_
        rw [← hrun, hst'.out]
        exact ⟨rfl, rfl⟩
    | some x =>
      have hlt : s.i < l.code.length := (List.getElem?_eq_some_iff.1 hx).1
      have dlt : decide (s.i < l.code.length) = true := decide_eq_true (by omega)
      cases m with
      | zero =>
        rw [lrun_zero hx] at hrun
        have gR0 : ∀ (Y : Blk), (M.set ko Y)[H.length + 3]? = some (.box 46 [nilS, nilS, I 0, I 0]) := fun Y => by rw [List.getElem?_set_ne (by omega)]; exact ri.res
        have gZ : ∀ (Y Z : Blk), ((M.set ko Y).set (H.length + 3) Z)[H.length + 3]? = some Z := fun Y Z => by rw [List.getElem?_set_self (by rw [List.length_set]; omega)]
        have rf := ri.setO (fuel - 0 : Nat) 7
        simp only [raB, reS, List.map_nil, ownS_nil, Nat.sub_zero] at rf
        simp -dsimp [f2, f3, f4, f5, f10, f11, f12, f15, f16, f17, g5, g16, dlt, gO0, gR0, gZ]
        refine rf.done0 hu ?_
        rw [← hrun]
        exact ⟨rfl, rfl⟩
      | succ m =>
        rw [lrun_succ hx] at hrun
        obtain ⟨st, hst'⟩ : ∃ st : Int, st = ((fuel - (m + 1) : Nat) : Int) := ⟨_, rfl⟩
        obtain ⟨st1, hst1⟩ : ∃ st : Int, st = ((fuel - m : Nat) : Int) := ⟨_, rfl⟩
        have dne : (st == (fuel : Int)) = false := by rw [hst']; simp; omega
        have w1 : IntKind.i64.wrap (st + 1) = st1 := by rw [hst', hst1, wrapI (by omega) (by omega)]; omega
        have w2 : IntKind.i64.wrap ((s.i : Int) + 1) = ((s.i + 1 : Nat) : Int) := wrapS (by omega)
        rw [← hst'] at ri g16
        have rN := ri.setO st1 0
        have hlk := hlo.lines x (List.mem_of_getElem? hx)
        have hwx := hw x (List.mem_of_getElem? hx)
        have hjmp := hlo.jump x (List.mem_of_getElem? hx)
        have hlook : whr l.code x.label < l.code.length → ilook x.label (whereM l.code 0 []) = some ((whr l.code x.label : Nat) : Int) := fun h => by
          rw [whereM_look x.label l.code 0 [] (whr_nodup.2 hlo.uniq), if_pos h, Nat.add_zero]
        have gx : (l.code.map Line.cells)[s.i]? = some x.cells := by rw [List.getElem?_map, hx]; rfl
        have rX := rN.app [.box 67 x.cells]
        have gNx : ∀ L, (M.set ko (raB H.length [] s.seen st1 0) ++ .box 67 x.cells :: L)[M.length]? = some (.box 67 x.cells) := fun L => gN _ _ _
        obtain ⟨N, hN⟩ : ∃ N, N = M.set ko (raB H.length [] s.seen st1 0) ++ [.box 67 x.cells] := ⟨_, rfl⟩
        rw [← hN] at rX
        have gNx : ∀ L, (N ++ L)[M.length]? = some (.box 67 x.cells) := fun L => by rw [hN, List.append_assoc]; exact gNx L
        have hNl : M.length < N.length := by rw [hN]; simp
        have hN' : M.set ko (.box 46 [nilS, seS (H.length + 1) s.seen, I st1, I 0]) ++ [.box 67 x.cells] = N := by rw [hN]; simp only [raB, reS, List.map_nil, ownS_nil]
        clear rN
        obtain ⟨kind, ⟨ik, op, d, a, bb, c, word, stack⟩, var, label⟩ := x
        simp only [Line.cells] at gx gNx hN'
        unfold lineOk at hlk
        simp only at hlk hwx hjmp hlook hrun
        by_cases k1 : kind = 1
        · subst k1
          simp -dsimp [f2, f3, f4, f5, f10, f11, f12, f15, f16, f17, g5, g16, dlt, gO0, gA0, gx, dne, w1, w2]
          rw [hN']
          rw [lstep1 rfl] at hrun
          rw [if_pos rfl] at hlk
          simp only [Bool.and_eq_true] at hlk
          have cd := ldo_ok ⟨ik, op, d, a, bb, c, word, stack⟩ l.vars hlk.1 hwx s.V s.b n rX.vl hn1.1 hn1.2.1 stk hl ho rX.mem rX.v
          have hDV := doM_V lay ⟨ik, op, d, a, bb, c, word, stack⟩ stk s.V s.b
          have hDb := doM_b lay ⟨ik, op, d, a, bb, c, word, stack⟩ stk s.V s.b
          have hDq := doM_quiet lay ⟨ik, op, d, a, bb, c, word, stack⟩ stk s.V s.b
          simp only [Ins.cells] at cd
          obtain ⟨D, hD⟩ : ∃ D, D = doM lay ⟨ik, op, d, a, bb, c, word, stack⟩ stk s.V s.b := ⟨_, rfl⟩
          rw [← hD] at cd hDV hDb hDq hrun
          clear hD
          have rY := rX.setVB (V' := D.V) (b' := D.b) (hDV.trans rX.vl) (hDb.trans rX.mem.len)
          refine acallsW_of cd ?_
          rintro e _ ⟨rfl, rfl⟩
          have gXm : ((N.set kv (rowU D.V)).set kb (byB D.b))[M.length]? = N[M.length]? := by rw [List.getElem?_set_ne (by omega), List.getElem?_set_ne (by omega)]
          obtain ⟨N2, hN2⟩ : ∃ N2, N2 = (N.set kv (rowU D.V)).set kb (byB D.b) := ⟨_, rfl⟩
          rw [← hN2] at rY gXm ⊢
          by_cases he : D.err = 0
          · have de : (D.err != 0) = false := by simp [he]
            rw [if_pos he] at hrun
            cases hDs : D.seen
            · rw [hDs] at hrun
              simp -dsimp [f2, f3, f4, f5, f10, f11, f12, f15, f16, f17, de]
              exact ⟨m, by omega, rfl, kv, ka, ko, _, by omega, by simp [f2], by simp [f3], by simp [f4], by simp [f5], by simp [f10], by simp [f11], by simp [f12], by simp [f15], by simp [f16], by simp, by show s.seen.length ≤ _; omega, by rw [← hst1]; exact rY, hrun⟩
            · rw [hDs] at hrun
              have gse := rY.se
              have g16b := rY.out
              have hkoN := rY.len
              have g5b := rY.box
              obtain ⟨sx, hsx⟩ : ∃ sx, sx = seS (H.length + 1) s.seen := ⟨_, rfl⟩
              have o1 : AV.one sx = true := by rw [hsx]; exact one_ownS _ _
              have o2 : avCells sx = some [sx] := by rw [hsx]; exact avCells_ownS _ _
              have g16b : N2[ko]? = some (.box 46 [nilS, sx, I st1, I 0]) := by rw [hsx]; exact g16b
              have rS := rY.setSe (s.seen ++ [(⟨false, false, D.addr⟩ : Se)])
              have hap : (s.seen.map Se.cells) ++ [[Bo false, Bo false, U D.addr]] = (s.seen ++ [(⟨false, false, D.addr⟩ : Se)]).map Se.cells := by simp
              obtain ⟨S', hS'⟩ : ∃ S', S' = s.seen ++ [(⟨false, false, D.addr⟩ : Se)] := ⟨_, rfl⟩
              rw [← hS'] at rS hap
              have gk2 : (N2.set (H.length + 1) (seB S'))[ko]? = some (.box 46 [nilS, sx, I st1, I 0]) := by rw [List.getElem?_set_ne (by omega)]; exact g16b
              obtain ⟨N3, hN3⟩ : ∃ N3, N3 = N2.set (H.length + 1) (seB S') := ⟨_, rfl⟩
              rw [← hN3] at gk2 rS
              obtain ⟨sy, hsy⟩ : ∃ sy, sy = seS (H.length + 1) S' := ⟨_, rfl⟩
              have o3 : AV.one sy = true := by rw [hsy]; exact one_ownS _ _
              have o4 : avCells sy = some [sy] := by rw [hsy]; exact avCells_ownS _ _
              have hN3' : N2.set (H.length + 1) (ownB 51 3 (S'.map Se.cells)) = N3 := hN3.symm
              have hsy' : ownS (H.length + 1) (S'.map Se.cells) = sy := hsy.symm
              have gko3 : ∀ Y, (N3.set ko Y)[M.length]? = N3[M.length]? := fun Y => by rw [List.getElem?_set_ne (by omega)]
              have gX3 : N3[M.length]? = N2[M.length]? := by rw [hN3, List.getElem?_set_ne (by omega)]
              have rS : RI l lay H k kb n kv ka ko (N3.set ko (.box 46 [nilS, sy, I st1, I 0])) D.V D.b [] S' st1 0 := by rw [hsy]; exact rS
              simp -dsimp [f2, f3, f4, f5, f10, f11, f12, f15, f16, f17, de, g16b, runHn]
              rw [hsx]
              refine appendVW_own (k := H.length + 1) (es := s.seen.map Se.cells) gse (by rw [List.length_map]; show (s.seen.length + 1) * 16 ≤ _; omega) (by rw [List.length_map]; show s.seen.length + 1 ≤ _; omega) ?_
              simp only [hap, hN3', hsy']
              simp -dsimp [f2, f3, f4, f5, f10, f11, f12, f15, f16, f17, gk2, o3, o4]
              have hSl : S'.length = s.seen.length + 1 := by rw [hS']; simp
              simp only [if_true, ← hS'] at hrun
              exact ⟨m, by omega, rfl, kv, ka, ko, _, by omega, by simp [f2], by simp [f3], by simp [f4], by simp [f5], by simp [f10], by simp [f11], by simp [f12], by simp [f15], by simp [f16], by simp, by show S'.length ≤ _; omega, by rw [← hst1]; exact rS, hrun⟩
          · have de : (D.err != 0) = true := by simp [he]
            rw [if_neg he, hDq he] at hrun
            have g16b := rY.out
            have hkoN := rY.len
            simp only [raB, reS, List.map_nil, ownS_nil] at g16b
            have gR0 : ∀ (Y : Blk), (N2.set ko Y)[H.length + 3]? = some (.box 46 [nilS, nilS, I 0, I 0]) := fun Y => by rw [List.getElem?_set_ne (by omega)]; exact rY.res
            have gO2 : ∀ (Y : Blk), (N2.set ko Y)[ko]? = some Y := fun Y => by rw [List.getElem?_set_self hkoN]
            have gZ : ∀ (Y Z : Blk), ((N2.set ko Y).set (H.length + 3) Z)[H.length + 3]? = some Z := fun Y Z => by rw [List.getElem?_set_self (by rw [List.length_set]; omega)]
            have rf := rY.setO st1 D.err
            simp only [raB, reS, List.map_nil, ownS_nil] at rf
            simp -dsimp [f2, f3, f4, f5, f10, f11, f12, f15, f16, f17, de, g16b, gO2, gR0, gZ]
            refine rf.done0 hu ?_
            rw [← hrun, hst1]
            exact ⟨rfl, rfl⟩
        by_cases k4 : kind = 4
        · subst k4
          simp -dsimp [f2, f3, f4, f5, f10, f11, f12, f15, f16, f17, g5, g16, dlt, gO0, gA0, gx, dne, w1, w2]
          rw [hN']
          rw [if_neg (show ¬ (4 : Int) = 1 by decide), if_neg (show ¬ ((4 : Int) = 2 ∨ (4 : Int) = 3) by decide), if_pos rfl] at hlk
          rw [lstep4 rfl, if_pos rfl] at hrun
          simp only at hrun
          simp only [Bool.and_eq_true, isVr_iff, decide_eq_true_eq] at hlk
          have hlook := hlook (hjmp (.inr rfl))
          have hvb : 0 ≤ var ∧ var < n := by omega
          have gNx0 : N[M.length]? = some (.box 67 [I 4, I ik, I op, I d, I a, I bb, I c, U word, Bo stack, I var, I label]) := by have := gNx []; rw [List.append_nil] at this; exact this
          have gvx := vg_at (V := s.V) (i := var) (by omega) (by rw [rX.vl]; omega)
          have gvl : (s.V.map fun x => [U x]).length = n := by rw [List.length_map]; exact rX.vl
          obtain ⟨vx, hvx⟩ : ∃ vx, vx = vg s.V var := ⟨_, rfl⟩
          rw [← hvx] at gvx hrun
          obtain ⟨tk, htk⟩ : ∃ tk, tk = decide (vx = 0) := ⟨_, rfl⟩
          have dv : (vx == 0) = tk := by rw [htk]; rfl
          rw [← htk] at hrun
          obtain ⟨VV, hVV⟩ : ∃ V, V = s.V.map fun x => [U x] := ⟨_, rfl⟩
          have gv : N[kv]? = some (.row 29 1 VV) := by rw [hVV]; exact rX.v
          have gvx : VV[var.toNat]? = some [U vx] := by rw [hVV, List.getElem?_map, gvx]; rfl
          rw [← hVV] at gvl
          have gse := rX.se
          have g16b := rX.out
          have hkoN := rX.len
          obtain ⟨sx, hsx⟩ : ∃ sx, sx = seS (H.length + 1) s.seen := ⟨_, rfl⟩
          have o1 : AV.one sx = true := by rw [hsx]; exact one_ownS _ _
          have o2 : avCells sx = some [sx] := by rw [hsx]; exact avCells_ownS _ _
          have g16b : N[ko]? = some (.box 46 [nilS, sx, I st1, I 0]) := by rw [hsx]; exact g16b
          have rS := rX.setSe (s.seen ++ [(⟨true, tk, 0⟩ : Se)])
          have hap : (s.seen.map Se.cells) ++ [[Bo true, Bo tk, U 0]] = (s.seen ++ [(⟨true, tk, 0⟩ : Se)]).map Se.cells := by simp
          obtain ⟨S', hS'⟩ : ∃ S', S' = s.seen ++ [(⟨true, tk, 0⟩ : Se)] := ⟨_, rfl⟩
          rw [← hS'] at rS hap
          have gk2 : (N.set (H.length + 1) (seB S'))[ko]? = some (.box 46 [nilS, sx, I st1, I 0]) := by rw [List.getElem?_set_ne (by omega)]; exact g16b
          have gX3 : (N.set (H.length + 1) (seB S'))[M.length]? = some (.box 67 [I 4, I ik, I op, I d, I a, I bb, I c, U word, Bo stack, I var, I label]) := by rw [List.getElem?_set_ne (by omega)]; exact gNx0
          have gat3 : (N.set (H.length + 1) (seB S'))[ka]? = some (.map (atM (whereM l.code 0 []))) := by rw [List.getElem?_set_ne (by omega)]; exact rX.at_
          obtain ⟨N3, hN3⟩ : ∃ N3, N3 = N.set (H.length + 1) (seB S') := ⟨_, rfl⟩
          rw [← hN3] at gk2 rS gX3 gat3
          obtain ⟨sy, hsy⟩ : ∃ sy, sy = seS (H.length + 1) S' := ⟨_, rfl⟩
          have o3 : AV.one sy = true := by rw [hsy]; exact one_ownS _ _
          have o4 : avCells sy = some [sy] := by rw [hsy]; exact avCells_ownS _ _
          have hN3' : N.set (H.length + 1) (ownB 51 3 (S'.map Se.cells)) = N3 := hN3.symm
          have hsy' : ownS (H.length + 1) (S'.map Se.cells) = sy := hsy.symm
          have gXs : ∀ Y, (N3.set ko Y)[M.length]? = some (.box 67 [I 4, I ik, I op, I d, I a, I bb, I c, U word, Bo stack, I var, I label]) := fun Y => by rw [List.getElem?_set_ne (by omega)]; exact gX3
          have gats : ∀ Y, (N3.set ko Y)[ka]? = some (.map (atM (whereM l.code 0 []))) := fun Y => by rw [List.getElem?_set_ne (by omega)]; exact gat3
          have rS : RI l lay H k kb n kv ka ko (N3.set ko (.box 46 [nilS, sy, I st1, I 0])) s.V s.b [] S' st1 0 := by rw [hsy]; exact rS
          have hSl : S'.length = s.seen.length + 1 := by rw [hS']; simp
          simp -dsimp [f2, f3, f4, f5, f10, f11, f12, f15, f16, f17, gNx0, gv, gvl]
          refine andVW_intro hvb ?_
          simp -dsimp [f2, f3, f4, f5, f10, f11, f12, f15, f16, f17, gNx0, gv, gvl, gvx, g16b, dv, runHn]
          rw [hsx]
          refine appendVW_own (k := H.length + 1) (es := s.seen.map Se.cells) gse (by rw [List.length_map]; show (s.seen.length + 1) * 16 ≤ _; omega) (by rw [List.length_map]; show s.seen.length + 1 ≤ _; omega) ?_
          simp only [hap, hN3', hsy']
          rw [← hS'] at hrun
          cases tk
          · have hv0 : ¬ vx = 0 := of_decide_eq_false htk.symm
            rw [if_neg hv0] at hrun
            simp -dsimp [f2, f3, f4, f5, f10, f11, f12, f15, f16, f17, gk2, o3, o4]
            exact ⟨m, by omega, rfl, kv, ka, ko, _, by omega, by simp [f2], by simp [f3], by simp [f4], by simp [f5], by simp [f10], by simp [f11], by simp [f12], by simp [f15], by simp [f16], by simp, by show S'.length ≤ _; omega, by rw [← hst1]; exact rS, hrun⟩
          · have hv0 : vx = 0 := of_decide_eq_true htk.symm
            rw [if_pos hv0] at hrun
            simp -dsimp [f2, f3, f4, f5, f10, f11, f12, f15, f16, f17, gk2, o3, o4, gXs, gats, atM_find, hlook]
            exact ⟨m, by omega, rfl, kv, ka, ko, _, by omega, by simp [f2], by simp [f3], by simp [f4], by simp [f5], by simp [f10], by simp [f11], by simp [f12], by simp [f15], by simp [f16], by simp, by show S'.length ≤ _; omega, by rw [← hst1]; exact rS, hrun⟩
        by_cases k3 : kind = 3
        · subst k3
          simp -dsimp [f2, f3, f4, f5, f10, f11, f12, f15, f16, f17, g5, g16, dlt, gO0, gA0, gx, dne, w1, w2]
          rw [hN']
          rw [lstep3 rfl, if_pos rfl] at hrun
          have hlook := hlook (hjmp (.inl rfl))
          have gNx0 : N[M.length]? = some (.box 67 [I 3, I ik, I op, I d, I a, I bb, I c, U word, Bo stack, I var, I label]) := by have := gNx []; rw [List.append_nil] at this; exact this
          have gat := rX.at_
          simp -dsimp [f2, f3, f4, f5, f10, f11, f12, f15, f16, f17, gNx0, gat, atM_find, hlook]
          exact ⟨m, by omega, rfl, kv, ka, ko, _, by omega, by simp [f2], by simp [f3], by simp [f4], by simp [f5], by simp [f10], by simp [f11], by simp [f12], by simp [f15], by simp [f16], by simp, by show s.seen.length ≤ _; omega, by rw [← hst1]; exact rX, hrun⟩
        by_cases k5 : kind = 5
        · subst k5
          simp -dsimp [f2, f3, f4, f5, f10, f11, f12, f15, f16, f17, g5, g16, dlt, gO0, gA0, gx, dne, w1, w2]
          rw [hN']
          rw [lstep5 rfl, if_pos rfl] at hrun
          have g5b := rX.box
          simp -dsimp [f2, f3, f4, f5, f10, f11, f12, f15, f16, f17, g5b]
          exact ⟨m, by omega, rfl, kv, ka, ko, _, by omega, by simp [f2], by simp [f3], by simp [f4], by simp [f5], by simp [f10], by simp [f11], by simp [f12], by simp [f15], by simp [f16], by simp, by show s.seen.length ≤ _; omega, by rw [← hst1]; exact rX, hrun⟩
        have e1 : (kind == 1) = false := by simpa using k1
        have e3 : (kind == 3) = false := by simpa using k3
        have e4 : (kind == 4) = false := by simpa using k4
        have e5 : (kind == 5) = false := by simpa using k5
        rw [lstep2 k1 k4 k3 k5, if_pos rfl] at hrun
        simp -dsimp [f2, f3, f4, f5, f10, f11, f12, f15, f16, f17, g5, g16, dlt, gO0, gA0, gx, dne, w1, w2, e1, e3, e4, e5]
        rw [hN']
        exact ⟨m, by omega, rfl, kv, ka, ko, _, by omega, by simp [f2], by simp [f3], by simp [f4], by simp [f5], by simp [f10], by simp [f11], by simp [f12], by simp [f15], by simp [f16], by simp, by show s.seen.length ≤ _; omega, by rw [← hst1]; exact rX, hrun⟩
  · intro body
    have hMl : M.length = H.length + 4 := by rw [hM]; simp
    have g5 : M[H.length + 2]? = some (liB l) := by rw [hM]; simp
    have g10 : M[H.length + 3]? = some (.box 46 [nilS, nilS, I 0, I 0]) := by rw [hM]; simp
    have mM : MemAt M k kb lay b := by rw [hM]; exact ⟨get_app_old hm.me _, get_app_old hm.bytes _, hm.len⟩
    have hpl := hs.params
    have hrl := hs.rets
    have hcl := hs.code
    refine awp_cut runHn (fun _ => none) (fun f M' => M = M' ∧ f 1 = Wo.sl args ∧ f 2 = .bp k 0 ∧ f 3 = U stk ∧ f 4 = I fuel ∧ f 5 = .bp (H.length + 2) 0 ∧ f 10 = .bp (H.length + 3) 0 ∧ f 11 = I 0) (by kernel_rfl) ?_ ?_
    · have cl := linear_ok l (by omega) (by omega) (by omega) M
      rw [hok] at cl
      simp only [Linear.cells] at cl
      have cs := mstack_ok mM
      have d1 : ((args.length : Int) != (l.params.length : Int)) = false := by simp [ha]
      have d2 : (stk.tmod 16 != 0) = false := by simp [hst]
      have d3 : decide ((fuel : Int) < 0) = false := decide_eq_false (by omega)
      have d4 : decide ((1000000 : Int) < (fuel : Int)) = false := decide_eq_false (by omega)
      have d5 : decide (1000000 < fuel) = false := decide_eq_false (by omega)
      simp -dsimp [f1, f2, f3, f4, f5, f10, f11, g5]
      refine acallsW_det cl ?_
      simp -dsimp [f1, f2, f3, f4, f5, f10, f11, g5, d1]
      refine acallsW_of cs ?_
      rintro e _ ⟨⟨es, rfl, hel⟩, rfl⟩
      have d6 : ((es.length : Int) == 0) = false := by rw [hel]; decide
      simp -dsimp [f1, f2, f3, f4, f5, f10, f11, d2, d3, d4, d5, d6]
    clear f1 f2 f3 f4 f5 f10 f11 f
    rintro f _ ⟨rfl, f1, f2, f3, f4, f5, f10, f11⟩
    refine awp_cut runHn (fun _ => none) (fun f M' => M' = M ++ [rowU (List.replicate n 0)] ∧ f 1 = Wo.sl args ∧ f 2 = .bp k 0 ∧ f 3 = U stk ∧ f 4 = I fuel ∧ f 5 = .bp (H.length + 2) 0 ∧ f 10 = .bp (H.length + 3) 0 ∧ f 11 = I 0 ∧ f 12 = .hs M.length 0 n n) (by kernel_rfl) ?_ ?_
    · have mx : (if l.vars < 1 then 1 else l.vars) = (n : Int) := by rw [hn]; unfold varN; split <;> omega
      have hrep : rowU (List.replicate n 0) = .row 29 1 (List.replicate n [U 0]) := by simp [rowU]
      rw [hrep]
      simp -dsimp [f1, f2, f3, f4, f5, f10, f11, g5, mx]
      refine andVW_intro ⟨by omega, by omega⟩ ?_
      simp -dsimp [f1, f2, f3, f4, f5, f10, f11]
    clear f1 f2 f3 f4 f5 f10 f11 f
    rintro f M2 ⟨hM2, f1, f2, f3, f4, f5, f10, f11, f12⟩
    have hV0 : ∀ i, (argsTo (List.replicate n 0) l.params args i).length = n := fun i => by rw [argsTo_len]; simp
    obtain ⟨AT, hAT⟩ : ∃ AT, AT = argsTo (List.replicate n 0) l.params args := ⟨_, rfl⟩
    have hA0 : List.replicate n 0 = AT 0 := by rw [hAT]; rfl
    have hAs : ∀ i, AT (i + 1) = (AT i).set (l.params.getD i 0).toNat (args.getD i 0) := fun i => by rw [hAT]; rfl
    have hAe : AT l.params.length = runV l args := by rw [hAT, hn]; rfl
    rw [← hAT] at hV0
    rw [hA0] at hM2
    clear hAT hA0
    have hAs := Hid.mk hAs
    have hV0 := Hid.mk hV0
    have hAe := Hid.mk hAe
    have gP : ∀ V L, (M ++ rowU V :: L)[H.length + 2]? = some (liB l) := fun V L => get_app_old g5 _
    have gV : ∀ V L, (M ++ rowU V :: L)[M.length]? = some (rowU V) := fun V L => by simp
    have sV : ∀ V V' L, (M ++ rowU V :: L).set M.length (rowU V') = M ++ rowU V' :: L := fun V V' L => by simp
    refine awp_cut runHn (fun _ => none) (fun f M' => M' = M ++ [rowU (runV l args)] ∧ f 2 = .bp k 0 ∧ f 3 = U stk ∧ f 4 = I fuel ∧ f 5 = .bp (H.length + 2) 0 ∧ f 10 = .bp (H.length + 3) 0 ∧ f 11 = I 0 ∧ f 12 = .hs M.length 0 n n) (by kernel_rfl) ?_ ?_
    · subst hM2
      simp -dsimp [f1, f2, f3, f4, f5, f10, f11, f12, gP]
      refine loop_rule (hn := runHn) (od := fun _ => none) (fun (i : Nat) f M' => M' = M ++ [rowU (AT i)] ∧ f 1 = Wo.sl args ∧ f 2 = .bp k 0 ∧ f 3 = U stk ∧ f 4 = I fuel ∧ f 5 = .bp (H.length + 2) 0 ∧ f 10 = .bp (H.length + 3) 0 ∧ f 11 = I 0 ∧ f 12 = .hs M.length 0 n n ∧ f 61 = Int.sl l.params ∧ f 62 = I l.params.length ∧ f 63 = I i ∧ i ≤ l.params.length) (fun i => l.params.length - i) (by kernel_rfl) 0 (by refine ⟨rfl, by simp [f1], by simp [f2], by simp [f3], by simp [f4], by simp [f5], by simp [f10], by simp [f11], by simp [f12], by simp, by simp, by simp, by omega⟩) ?_
      clear f1 f2 f3 f4 f5 f10 f11 f12 f
      rintro i f _ ⟨rfl, f1, f2, f3, f4, f5, f10, f11, f12, f61, f62, f63, hi⟩
      simp -dsimp [f1, f2, f3, f4, f5, f10, f11, f12, f61, f62, f63]
      refine condVW_introD (fun hlt => ?_) (fun hlt => ?_)
      · have hlt' : i < l.params.length := by omega
        have hx := getD_at (b := l.params) (i := i) hlt'
        have hy := getD_at (b := args) (i := i) (by omega)
        have hst' := hAs.out i
        have hVl := hV0.out i
        obtain ⟨p, hp⟩ : ∃ p, p = l.params.getD i 0 := ⟨_, rfl⟩
        obtain ⟨x, hxx⟩ : ∃ x, x = args.getD i 0 := ⟨_, rfl⟩
        rw [← hp, ← hxx] at hst'
        rw [← hp] at hx
        rw [← hxx] at hy
        clear hp hxx
        have hpb := hlo.params p (List.mem_of_getElem? hx)
        obtain ⟨q, rfl⟩ : ∃ q : Nat, p = q := ⟨p.toNat, by omega⟩
        have hqn : q < n := by omega
        obtain ⟨V, hV⟩ : ∃ V, V = AT i := ⟨_, rfl⟩
        rw [← hV] at hst' hVl ⊢
        have hz := getD_at (b := V) (i := q) (by omega)
        have gVl : (V.map fun x => [U x]).length = n := by rw [List.length_map]; exact hVl
        have g1 := gV V []
        have hst2 : astore (M ++ [rowU V]) (.rp M.length n q 0) [U x] = some (M ++ [rowU (V.set q x)]) := by
          rw [astore_one (c := U (V.getD q 0)) g1 gVl (by rw [List.getElem?_map, hz]; rfl)]
          congr 1
          rw [← sV V (V.set q x) []]
          congr 2
          simp [rowU, List.map_set]
        have hst' := Hid.mk hst'
        simp -dsimp [f1, f2, f3, f4, f5, f10, f11, f12, f61, f62, f63, hx, hy, g1, gVl, hVl]
        refine andVW_intro hqn ?_
        simp -dsimp [f1, f2, f3, f4, f5, f10, f11, f12, f61, f62, f63, hx, hy, g1, gVl, hVl, hst2]
        exact ⟨i + 1, by omega, by rw [hst'.out, Int.toNat_natCast, List.map_set], wrapS (by omega), by omega⟩
      · obtain rfl : i = l.params.length := by omega
        simp -dsimp [f1, f2, f3, f4, f5, f10, f11, f12, f61, f62, f63]
        rw [hAe.out]
    clear f1 f2 f3 f4 f5 f10 f11 f12 f hM2 M2
    rintro f M2 ⟨hM2, f2, f3, f4, f5, f10, f11, f12⟩
    have g5b := gP (runV l args) []
    rw [← hM2] at g5b
    have cw := where_ok l (by omega) M2
    simp only [Linear.cells] at cw
    refine awp_cut runHn (fun _ => none) (fun f M' => AtR l M2 (M2.length + 1) M' ∧ f 2 = .bp k 0 ∧ f 3 = U stk ∧ f 4 = I fuel ∧ f 5 = .bp (H.length + 2) 0 ∧ f 10 = .bp (H.length + 3) 0 ∧ f 11 = I 0 ∧ f 12 = .hs M.length 0 n n ∧ f 15 = .hm (M2.length + 1)) (by kernel_rfl) ?_ ?_
    · simp -dsimp [f2, f3, f4, f5, f10, f11, f12, g5b]
      refine acallsW_of cw ?_
      rintro e M3 ⟨rfl, hat⟩
      simp -dsimp [f2, f3, f4, f5, f10, f11, f12]
      exact hat
    clear f2 f3 f4 f5 f10 f11 f12 f
    rintro f M3 ⟨hat, f2, f3, f4, f5, f10, f11, f12, f15⟩
    refine awp_cut runHn (fun _ => none) (fun f M' => M' = M3 ++ [.box 46 [nilS, nilS, I 0, I 0]] ∧ f 2 = .bp k 0 ∧ f 3 = U stk ∧ f 4 = I fuel ∧ f 5 = .bp (H.length + 2) 0 ∧ f 10 = .bp (H.length + 3) 0 ∧ f 11 = I 0 ∧ f 12 = .hs M.length 0 n n ∧ f 15 = .hm (M2.length + 1) ∧ f 16 = .bp M3.length 0) (by kernel_rfl) ?_ ?_
    · simp -dsimp [f2, f3, f4, f5, f10, f11, f12, f15]
    clear f2 f3 f4 f5 f10 f11 f12 f15 f
    rintro f M4 ⟨hM4, f2, f3, f4, f5, f10, f11, f12, f15, f16⟩
    refine awp_cut runHn (fun _ => none) (fun f M' => M' = M4 ∧ f 2 = .bp k 0 ∧ f 3 = U stk ∧ f 4 = I fuel ∧ f 5 = .bp (H.length + 2) 0 ∧ f 10 = .bp (H.length + 3) 0 ∧ f 11 = I 0 ∧ f 12 = .hs M.length 0 n n ∧ f 15 = .hm (M2.length + 1) ∧ f 16 = .bp M3.length 0 ∧ f 17 = I 0) (by kernel_rfl) ?_ ?_
    · simp -dsimp [f2, f3, f4, f5, f10, f11, f12, f15, f16]
    clear f2 f3 f4 f5 f10 f11 f12 f15 f16 f
    rintro f M5 ⟨hM5, f2, f3, f4, f5, f10, f11, f12, f15, f16, f17⟩
    rw [hM5]
    clear hM5 M5
    refine awp_seq (awp_label ?_)
    refine body fuel f _ [] ⟨rfl, M.length, M2.length + 1, M3.length, ⟨runV l args, b, 0, []⟩, Nat.le_refl _, f2, f3, f4, f5, f10, f11, f12, f15, f16, f17, Nat.zero_le _, ?_, hRES.symm⟩
    obtain ⟨X, hX⟩ := hat.pre
    have hM2l : M2.length = H.length + 5 := by rw [hM2]; simp; omega
    have hM3l : M2.length + 1 < M3.length := lt_of_get hat.map
    have hpre : M4 = H ++ [.pend, .pend, liB l, .box 46 [nilS, nilS, I 0, I 0], rowU (runV l args)] ++ (X ++ [.box 46 [nilS, nilS, I 0, I 0]]) := by rw [hM4, hX, hM2, hM]; simp
    refine ⟨⟨liB l :: .box 46 [nilS, nilS, I 0, I 0] :: rowU (runV l args) :: (X ++ [.box 46 [nilS, nilS, I 0, I 0]]), ?_⟩, by rw [hpre]; simp, by rw [hpre]; simp, by rw [hpre, hMl]; simp, by rw [hM4]; exact get_app_old hat.map _, ?_, by rw [hpre, List.append_assoc]; exact ⟨get_app_old hm.me _, get_app_old hm.bytes _, hm.len⟩, ⟨hk, hkb⟩, by omega, by omega, by omega, ?_⟩
    · rw [hpre, setSelf hm.bytes]
      simp [ownB]
    · rw [hM4]
      simp [ownS]
    · show (runV l args).length = n
      rw [← hAe.out]
      exact hV0.out _
end Go.Proofs
namespace Go.Proofs
open Go.Mu
theorem samew_ok (a : List Int) (ha : a.length ≤ 2^40) (H : List Blk) : ACalls Tryz.prog 33 [Wo.sl a, Wo.sl a] H (fun e H' => e = .ret (Bo true) ∧ H' = H) := by
  refine acalls_tidy (acalls_of_vc (hn := fun _ => false) (od := fun _ => none) Tryz.func33 rfl (by kernel_rfl) ?_)
  simp -dsimp
  refine loop_rule (hn := fun _ => false) (od := fun _ => none) (fun (i : Nat) f H' => H = H' ∧ f 0 = Wo.sl a ∧ f 1 = Wo.sl a ∧ f 5 = I i ∧ i ≤ a.length) (fun i => a.length - i) (by kernel_rfl) 0 (by simp) ?_
  rintro i f _ ⟨rfl, h0, h1', h5, hi⟩
  simp -dsimp [h0, h1', h5]
  refine condVW_introD (fun hlt => ?_) (fun hlt => ?_)
  · have e1 := List.getElem?_eq_getElem hlt
    obtain ⟨x, hx⟩ : ∃ x, x = a[i] := ⟨_, rfl⟩
    rw [← hx] at e1
    clear hx
    simp -dsimp [h0, h1', h5, e1]
    exact ⟨i + 1, by omega, wrapS (by omega), by omega⟩
  · simp -dsimp
    exact tidy_now rfl ⟨rfl, rfl⟩
theorem sseen_ok (a : List Se) (ha : a.length ≤ 2^40) (H : List Blk) : ACalls Tryz.prog 34 [Se.sl a, Se.sl a] H (fun e H' => e = .ret (Bo true) ∧ H' = H) := by
  refine acalls_tidy (acalls_of_vc (hn := fun _ => false) (od := fun _ => none) Tryz.func34 rfl (by kernel_rfl) ?_)
  simp -dsimp
  refine loop_rule (hn := fun _ => false) (od := fun _ => none) (fun (i : Nat) f H' => H = H' ∧ f 0 = Se.sl a ∧ f 1 = Se.sl a ∧ f 5 = I i ∧ i ≤ a.length) (fun i => a.length - i) (by kernel_rfl) 0 (by simp) ?_
  rintro i f _ ⟨rfl, h0, h1', h5, hi⟩
  simp -dsimp [h0, h1', h5]
  refine condVW_introD (fun hlt => ?_) (fun hlt => ?_)
  · have e1 := List.getElem?_eq_getElem hlt
    obtain ⟨x, hx⟩ : ∃ x, x = a[i] := ⟨_, rfl⟩
    rw [← hx] at e1
    clear hx
    obtain ⟨xj, xt, xa⟩ := x
    simp -dsimp [h0, h1', h5, e1]
    exact ⟨i + 1, by omega, wrapS (by omega), by omega⟩
  · simp -dsimp
    exact tidy_now rfl ⟨rfl, rfl⟩
end Go.Proofs
namespace Go.Proofs
open Go.Mu
theorem lstep_len (lay : List Rg) (l : Linear) (stk : Int) (x : Line) (s : RSt) : (lstep lay l stk x s).1.b.length = s.b.length ∧ (lstep lay l stk x s).1.seen.length ≤ s.seen.length + 1 := by
  unfold lstep
  split
  · refine ⟨doM_b _ _ _ _ _, ?_⟩
    simp only
    split <;> simp
  · split
    · exact ⟨rfl, by simp⟩
    · split
      · exact ⟨rfl, by simp⟩
      · split <;> exact ⟨rfl, by simp⟩
theorem lrun_len (lay : List Rg) (l : Linear) (stk : Int) (fuel : Nat) : ∀ (m : Nat) (s : RSt), (lrun lay l stk fuel m s).b.length = s.b.length ∧ (lrun lay l stk fuel m s).seen.length ≤ s.seen.length + m ∧ (lrun lay l stk fuel m s).rets.length ≤ l.rets.length := by
  intro m
  induction m with
  | zero =>
    intro s
    cases hx : l.code[s.i]? with
    | none => rw [lrun_none hx]; exact ⟨rfl, by simp, by simp⟩
    | some x => rw [lrun_zero hx]; exact ⟨rfl, by simp, by simp⟩
  | succ m ih =>
    intro s
    cases hx : l.code[s.i]? with
    | none => rw [lrun_none hx]; exact ⟨rfl, by simp, by simp⟩
    | some x =>
      have h1 := lstep_len lay l stk x s
      rw [lrun_succ hx]
      split
      · have h2 := ih (lstep lay l stk x s).1
        exact ⟨by rw [h2.1, h1.1], by omega, h2.2.2⟩
      · exact ⟨h1.1, by show (lstep lay l stk x s).1.seen.length ≤ _; omega, by simp⟩
theorem runM_len (lay : List Rg) (l : Linear) (args b : List Int) (stk : Int) (fuel : Nat) : (runM lay l args b stk fuel).b.length = b.length ∧ (runM lay l args b stk fuel).seen.length ≤ fuel ∧ (runM lay l args b stk fuel).rets.length ≤ l.rets.length := by
  have := lrun_len lay l stk fuel fuel ⟨runV l args, b, 0, []⟩
  exact ⟨this.1, Nat.le_trans this.2.1 (by simp), this.2.2⟩
theorem eqlM (k o : Nat) : binE Tryz.prog .eql 33 (.bp k o) (.v (.pointer none)) = some (.v (.bool false)) := by kernel_rfl
end Go.Proofs
namespace Go.Proofs
open Go.Mu
def shortL (l : Linear) : Bool := decide (l.code.length ≤ 400) && decide (l.params.length ≤ 100) && decide (l.rets.length ≤ 100) && decide (l.vars ≤ 2000)
theorem short_ok (l : Linear) (hs : l.Sm) (H : List Blk) : ACalls Tryz.prog 6 [.agg l.cells] H (fun e H' => e = .ret (Bo (shortL l)) ∧ H' = H) := by
  refine acalls_tidy (acalls_of_vc (hn := fun _ => false) (od := fun _ => none) Tryz.func6 rfl (by kernel_rfl) ?_)
  have h1 := hs.params
  have h2 := hs.rets
  have h3 := hs.code
  simp -dsimp
  repeat' ((with_reducible first | refine And.intro ?_ ?_ | refine guardVW_introTD (fun _ => ?_) (fun _ => ?_) | refine guardVW_introFD (fun _ => ?_) (fun _ => ?_) | refine condVW_introD (fun _ => ?_) (fun _ => ?_) | refine guardVW_introTE (fun _ => ?_) (fun _ _ _ => ?_) | refine guardVW_introFE (fun _ => ?_) (fun _ _ _ => ?_) | refine condVW_introE (fun _ => ?_) (fun _ _ _ => ?_) | refine guardVW_introTNE (fun _ _ _ => ?_) (fun _ => ?_) | refine guardVW_introFNE (fun _ _ _ => ?_) (fun _ => ?_) | refine condVW_introNE (fun _ _ _ => ?_) (fun _ => ?_) | refine guardVW_introTB (fun _ => ?_) (fun _ => ?_) | refine guardVW_introFB (fun _ => ?_) (fun _ => ?_) | refine condVW_introB (fun _ => ?_) (fun _ => ?_) | refine guardVW_introT (fun _ => ?_) (fun _ => ?_) | refine guardVW_introF (fun _ => ?_) (fun _ => ?_) | refine condVW_intro (fun _ => ?_) (fun _ => ?_)) <;> simp -dsimp [*])
  all_goals refine tidy_same rfl ⟨congrArg (fun b => AE.ret (Bo b)) ?_, rfl⟩
  all_goals (rw [Bool.eq_iff_iff]; simp [shortL]; omega)
theorem ran16_ok (r : Ran) (h1 : r.rets.length ≤ 2^40) (h2 : r.seen.length ≤ 2^40) (H : List Blk) : ACalls Tryz.prog 12 [.agg r.cells, .agg r.cells] H (fun e H' => e = .ret (Bo true) ∧ H' = H) := by
  refine acalls_tidy (acalls_of_vc (hn := fun _ => false) (od := fun _ => none) Tryz.func12 rfl (by kernel_rfl) ?_)
  have cw := fun H => samew_ok r.rets h1 H
  have cs := fun H => sseen_ok r.seen h2 H
  simp -dsimp
  repeat' ((with_reducible first | refine And.intro ?_ ?_ | refine guardVW_introTD (fun _ => ?_) (fun _ => ?_) | refine guardVW_introFD (fun _ => ?_) (fun _ => ?_) | refine condVW_introD (fun _ => ?_) (fun _ => ?_) | refine guardVW_introTE (fun _ => ?_) (fun _ _ _ => ?_) | refine guardVW_introFE (fun _ => ?_) (fun _ _ _ => ?_) | refine condVW_introE (fun _ => ?_) (fun _ _ _ => ?_) | refine guardVW_introTNE (fun _ _ _ => ?_) (fun _ => ?_) | refine guardVW_introFNE (fun _ _ _ => ?_) (fun _ => ?_) | refine condVW_introNE (fun _ _ _ => ?_) (fun _ => ?_) | refine guardVW_introTB (fun _ => ?_) (fun _ => ?_) | refine guardVW_introFB (fun _ => ?_) (fun _ => ?_) | refine condVW_introB (fun _ => ?_) (fun _ => ?_) | refine guardVW_introT (fun _ => ?_) (fun _ => ?_) | refine guardVW_introF (fun _ => ?_) (fun _ => ?_) | refine condVW_intro (fun _ => ?_) (fun _ => ?_) | refine acallsW_det (cw _) ?_ | refine callDW_intro (cw _) ?_ | refine acallsW_det (cs _) ?_ | refine callDW_intro (cs _) ?_) <;> simp -dsimp [*])
  all_goals exact tidy_same rfl ⟨rfl, rfl⟩
theorem eqlR (k o : Nat) : binE Tryz.prog .eql 34 (.bp k o) (.v (.pointer none)) = some (.v (.bool false)) := by kernel_rfl
noncomputable def GR (H : List Blk) (r : List Rg) (w : List (List Int)) : List Blk := H ++ [byB (fillB r w), meB r H.length, rowY (fillTo zeroR r w r.length), rfB (Rg.sl r) (H.length + 2)]
theorem regions_ok (r : List Rg) (w : List (List Int)) (hr : r.length ≤ 2^40) (hm : mayL r = true) (hf : fitsL r w = true) (H : List Blk) : ACalls Tryz.prog 9 [Rg.sl r, Us.sl w] H (fun e H' => e = .ret (.tup [.bp (H.length + 1) 0, .bp (H.length + 3) 0, Bo true]) ∧ H' = GR H r w) := by
  refine acalls_of_vc (hn := fun _ => false) (od := fun _ => none) Tryz.func9 rfl (by kernel_rfl) ?_
  have h16 := (mayL_ok hm).1
  have my := fun H => rmmay_ok r hr H
  have fi := fun H => rmfits_ok r w hr H
  rw [hm] at my
  rw [hf] at fi
  have mo := mof_ok r w hm hf H
  have nw := rnew_ok r h16 (H ++ [byB (fillB r w), meB r H.length])
  have rf := rfill_ok r w hm hf (M := H ++ [byB (fillB r w), meB r H.length, rowY zeroR, rfB (Rg.sl r) (H.length + 2)]) (k := H.length + 3) (kb := H.length + 2) (b := zeroR) ⟨by simp, by simp, zeroR_len⟩
  have e1 : (H ++ [byB (fillB r w), meB r H.length, rowY zeroR, rfB (Rg.sl r) (H.length + 2)]).set (H.length + 2) (rowY (fillTo zeroR r w r.length)) = GR H r w := by simp [GR]
  rw [e1] at rf
  simp only [GM, List.length_append, List.length_cons, List.length_nil, List.append_assoc, List.cons_append, List.nil_append, Nat.zero_add, Nat.reduceAdd, Nat.add_assoc] at nw
  have d16 : decide (16 < r.length) = false := decide_eq_false (by omega)
  have d16' : decide ((16 : Int) < (r.length : Int)) = false := decide_eq_false (by omega)
  simp only [GM] at mo
  obtain ⟨b, hb⟩ : ∃ b, b = byB (fillB r w) := ⟨_, rfl⟩
  obtain ⟨z, hz⟩ : ∃ z, z = rowY zeroR := ⟨_, rfl⟩
  rw [← hb] at mo nw rf
  rw [← hz] at nw rf
  clear hb hz e1
  simp -dsimp [d16, d16']
  refine acallsW_det (my _) ?_
  simp -dsimp
  refine acallsW_det (fi _) ?_
  simp -dsimp
  refine acallsW_of mo ?_
  rintro _ _ ⟨rfl, rfl⟩
  simp -dsimp
  refine acallsW_of nw ?_
  rintro _ _ ⟨rfl, rfl⟩
  simp -dsimp [eqlM, eqlR]
  refine acallsW_of rf ?_
  rintro _ _ ⟨rfl, rfl⟩
  simp -dsimp
theorem regions_no (r : List Rg) (w : List (List Int)) (hr : r.length ≤ 2^40) (hm : ¬ (mayL r = true ∧ fitsL r w = true)) (H : List Blk) : ACalls Tryz.prog 9 [Rg.sl r, Us.sl w] H (fun e H' => e = .ret (.tup [.v (.pointer none), .v (.pointer none), Bo false]) ∧ H' = H) := by
  refine acalls_tidy (acalls_of_vc (hn := fun _ => false) (od := fun _ => none) Tryz.func9 rfl (by kernel_rfl) ?_)
  have my := fun H => rmmay_ok r hr H
  have fi := fun H => rmfits_ok r w hr H
  obtain ⟨c1, h1⟩ : ∃ c, c = mayL r := ⟨_, rfl⟩
  obtain ⟨c2, h2⟩ : ∃ c, c = fitsL r w := ⟨_, rfl⟩
  rw [← h1] at my hm
  rw [← h2] at fi hm
  clear h1 h2
  obtain ⟨c0, h0⟩ : ∃ c, c = decide ((16 : Int) < (r.length : Int)) := ⟨_, rfl⟩
  simp -dsimp [← h0]
  cases c0
  · simp -dsimp [← h0]
    refine acallsW_det (my _) ?_
    cases c1
    · simp -dsimp [← h0]
      exact tidy_now rfl ⟨rfl, rfl⟩
    · cases c2
      · simp -dsimp [← h0]
        refine acallsW_det (fi _) ?_
        simp -dsimp [← h0]
        exact tidy_now rfl ⟨rfl, rfl⟩
      · exact absurd ⟨rfl, rfl⟩ hm
  · simp -dsimp [← h0]
    exact tidy_now rfl ⟨rfl, rfl⟩
end Go.Proofs
