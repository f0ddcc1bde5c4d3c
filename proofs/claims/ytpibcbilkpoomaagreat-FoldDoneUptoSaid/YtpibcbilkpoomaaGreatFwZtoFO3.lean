/- Two rows given away at the end; what is decided of a condition; a row in a box given away. -/
import Derived.Test.YtpibcbilkpoomaaGreatFwXtoLR
import Derived.Test.YtpibcbilkpoomaaGreatG1toRN
import Derived.Test.YtpibcbilkpoomaaGreatGD
import Derived.Test.YtpibcbilkpoomaaGreatG4toG20
set_option linter.unusedVariables false
set_option linter.unusedSimpArgs false
set_option maxHeartbeats 4000000
set_option maxRecDepth 100000
namespace Go.Mu
open Go.RowKit (Below)
section
variable {P : Program} {n : Nat} {Q : AQ}
theorem awp_condT {c : Operand} {x y : Code} {f : Fr} {H : List Blk} {ds : List ADef} (hc : opOk n c = true) (hv : ev f c = .v (.bool true)) (h : AWP P n x Q f H ds) : AWP P n (.cond c x y) Q f H ds :=
  awp_cond hc (by rw [hv]; exact h)
theorem awp_condF {c : Operand} {x y : Code} {f : Fr} {H : List Blk} {ds : List ADef} (hc : opOk n c = true) (hv : ev f c = .v (.bool false)) (h : AWP P n y Q f H ds) : AWP P n (.cond c x y) Q f H ds :=
  awp_cond hc (by rw [hv]; exact h)
theorem tidy_giveG {H G L : List Blk} {R : AE → List Blk → Prop} {r : AV} (hu : underH G.length G = true) (j sz : Nat) (t : TypeId) (es : List (List AV)) (hj : L[j]? = some (.row t sz es)) (hz : es.flatten.all AV.frzB = true)
    (h : Tidy H R (.ret (r.frz (G.length + j) sz es)) (G ++ (L.map (Blk.frz (G.length + j) sz es)).set j .gone)) : Tidy H R (.ret r) (G ++ L) := by
  obtain ⟨H1, r1, g, rest⟩ := h
  rw [← frzH_app j hu] at g
  exact ⟨H1, r1, .step _ _ (G.length + j) sz t es _ _ (by rw [List.getElem?_append_right (by omega)]; simpa using hj) hz g, rest⟩
theorem tidy_own2 {H G L : List Blk} {R : AE → List Blk → Prop} (hg : G.length = H.length) (hu : underH G.length G = true) (t1 t2 s1 s2 : Nat) (e1 e2 : List (List AV)) (hz1 : e1.flatten.all AV.frzB = true) (hz2 : e2.flatten.all AV.frzB = true)
    (h : R (.ret (.tup [.vs s1 e1, .vs s2 e2])) G) : WeakE (Tidy H R) (.ret (.tup [ownS H.length e1, ownS (H.length + 1) e2])) (G ++ ownB t1 s1 e1 :: ownB t2 s2 e2 :: L) := by
  have hT : ∀ L r, r.under H.length = true → R (.ret r) G → Tidy H R (.ret r) (G ++ L) := fun L r h1 h2 => tidy_to (by omega) (fun _ => hu) (by rw [hg]; exact h1) h2
  have two : ∀ (L : List Blk) (x : AV), Weak x (.vs s1 e1) → (∀ k z e, x.frz k z e = x) → L[1]? = some (ownB t2 s2 e2) → WeakE (Tidy H R) (.ret (.tup [x, ownS (H.length + 1) e2])) (G ++ L) := by
    intro L x hx hfx hj
    by_cases he : e2 = []
    · subst he
      rw [ownS_nil]
      refine tidy_weak (.tupL (.cons hx (.cons (.nil s2) .nil))) (hT _ _ rfl h)
    · refine ⟨.tup [.vs s1 e1, ownS (H.length + 1) e2], .tupL (.cons hx (.cons (.refl _) .nil)), ?_⟩
      rw [ownB, if_neg he] at hj
      refine tidy_giveG hu 1 s2 t2 e2 hj hz2 ?_
      have hf : (AV.tup [.vs s1 e1, ownS (H.length + 1) e2]).frz (G.length + 1) s2 e2 = .tup [.vs s1 e1, .vs s2 e2] := by
        rw [hg]; simp only [AV.frz, frzL]; rw [frz_own _ _ _ he]
      rw [hf]
      exact hT _ _ rfl h
  by_cases he : e1 = []
  · subst he
    rw [ownS_nil]
    exact two _ _ (.nil s1) (fun _ _ _ => rfl) rfl
  · have hf : (AV.tup [ownS H.length e1, ownS (H.length + 1) e2]).frz (G.length + 0) s1 e1 = .tup [.vs s1 e1, ownS (H.length + 1) e2] := by
      rw [hg]; simp only [AV.frz, frzL, Nat.add_zero]; rw [frz_own _ _ _ he, frz_ownS_ne (by omega)]
    by_cases he2 : e2 = []
    · subst he2
      refine ⟨.tup [ownS H.length e1, .vs s2 []], .tupL (.cons (.refl _) (.cons (by rw [ownS_nil]; exact .nil s2) .nil)), ?_⟩
      refine tidy_giveG hu 0 s1 t1 e1 (by rw [ownB, if_neg he]; rfl) hz1 ?_
      have hf : (AV.tup [ownS H.length e1, .vs s2 []]).frz (G.length + 0) s1 e1 = .tup [.vs s1 e1, .vs s2 []] := by
        rw [hg]; simp only [AV.frz, frzL, Nat.add_zero]; rw [frz_own _ _ _ he]
      rw [hf]
      exact hT _ _ rfl h
    · refine tidy_weak (.refl _) ?_
      refine tidy_giveG hu 0 s1 t1 e1 (by rw [ownB, if_neg he]; rfl) hz1 ?_
      rw [hf]
      refine tidy_giveG hu 1 s2 t2 e2 ?_ hz2 ?_
      · have hid := frzB_id (k := G.length + 0) (sz := s1) (es := e1) (n := G.length) (by omega) (ownB t2 s2 e2) (under_ownB_plain hz2)
        simp only [List.map_cons, List.set_cons_zero, List.getElem?_cons_succ, List.getElem?_cons_zero]
        rw [hid, ownB, if_neg he2]
      · have hf2 : (AV.tup [.vs s1 e1, ownS (H.length + 1) e2]).frz (G.length + 1) s2 e2 = .tup [.vs s1 e1, .vs s2 e2] := by
          rw [hg]; simp only [AV.frz, frzL]; rw [frz_own _ _ _ he2]
        rw [hf2]
        exact hT _ _ rfl h
theorem awp_giveBox {c : Code} {f : Fr} {N L : List Blk} (hu : underH N.length N = true) (j sz : Nat) (t : TypeId) (es : List (List AV)) (hj : L[j]? = some (ownB t sz es)) (hz : es.flatten.all AV.frzB = true)
    (b : Nat) (bt : TypeId) (cs cs' : List AV) (hb : L[b]? = some (.box bt cs)) (hbj : b ≠ j) (hw : WeakL (cs.map (AV.frzS (N.length + j) sz es)) cs')
    (h : ∀ L' f', (∀ s, f' s = (f s).frzS (N.length + j) sz es) → L'.length = L.length → L'[b]? = some (.box bt cs') → (∀ i x, i ≠ j → i ≠ b → L[i]? = some x → x.under N.length = true → L'[i]? = some x) → AWP P n c Q f' (N ++ L') []) : AWP P n c Q f (N ++ L) [] := by
  refine awp_giveO hu j sz t es hj hz ?_
  have hb1 : ((L.map (Blk.frzS (N.length + j) sz es)).set j .gone)[b]? = some (.box bt (cs.map (AV.frzS (N.length + j) sz es))) := by
    rw [List.getElem?_set_ne (Ne.symm hbj), List.getElem?_map, hb]
    simp only [Option.map_some, blkS_box]
  have hb2 : (N ++ (L.map (Blk.frzS (N.length + j) sz es)).set j .gone)[N.length + b]? = some (.box bt (cs.map (AV.frzS (N.length + j) sz es))) := by
    rw [List.getElem?_append_right (by omega)]; simpa using hb1
  refine awp_weakbox (N.length + b) bt _ cs' hb2 hw ?_
  rw [List.set_append, if_neg (by omega), Nat.add_sub_cancel_left]
  refine h _ _ (fun _ => rfl) (by simp) ?_ ?_
  · have hlt := (List.getElem?_eq_some_iff.1 hb1).1
    rw [List.getElem?_set_self hlt]
  · intro i x hij hib hx hux
    rw [List.getElem?_set_ne (Ne.symm hib), List.getElem?_set_ne (Ne.symm hij), List.getElem?_map, hx]
    simp only [Option.map_some]
    rw [blkS_id (n := N.length) (by omega) x hux]
def Cx.lessR (cx : Cx) (b : Nat) (t : TypeId) (sz : Nat) (es : List (List AV)) : Cx := { cx with H := cx.H.set b (.row t sz es) }
theorem weakR_facts {es es' : List (List AV)} (h : WeakR es es') : es.length = es'.length ∧ (∀ sz, (∀ e ∈ es, e.length = sz) → ∀ e ∈ es', e.length = sz) ∧ WeakL es.flatten es'.flatten := by
  induction h with
  | nil => exact ⟨rfl, fun sz h => h, WeakL.nil⟩
  | cons h hs ih =>
    refine ⟨by simp [ih.1], fun sz hz e he => ?_, by simpa using h.append ih.2.2⟩
    rcases List.mem_cons.1 he with rfl | he
    · rw [← h.len]; exact hz _ (List.mem_cons_self ..)
    · exact ih.2.1 sz (fun e he => hz e (List.mem_cons_of_mem _ he)) e he
theorem le_lessR {cx : Cx} {b : Nat} {t : TypeId} {sz : Nat} {es es' : List (List AV)} (hb : cx.H[b]? = some (.row t sz es)) (hl : es.length = es'.length) : Le cx (cx.lessR b t sz es') := by
  have hlt := (List.getElem?_eq_some_iff.1 hb).1
  refine ⟨fun _ _ _ _ h => h, fun _ h => h, fun k bl h hf => ?_, fun k t' sz' es0 h => ?_⟩
  · have hk : b ≠ k := fun e => by subst e; rw [hb] at h; cases h; cases hf
    exact ⟨bl, by simp only [Cx.lessR]; rw [List.getElem?_set_ne hk]; exact h, hf, rfl⟩
  · by_cases hk : b = k
    · subst hk
      rw [hb] at h
      cases h
      exact .inr ⟨es', by simp [Cx.lessR, hlt], by omega, fun _ => ⟨rfl, rfl⟩⟩
    · exact .inr ⟨es0, by simp only [Cx.lessR]; rw [List.getElem?_set_ne hk]; exact h, Nat.le_refl _, fun _ => ⟨rfl, rfl⟩⟩
theorem hrel_lessR {B : Nat} {w0 : World} {cx : Cx} (h : HRel B w0 cx) {b : Nat} {t : TypeId} {sz : Nat} {es es' : List (List AV)} (hb : cx.H[b]? = some (.row t sz es)) (hw : WeakR es es') : HRel B w0 (cx.lessR b t sz es') := by
  obtain ⟨hl, hz, hwl⟩ := weakR_facts hw
  have hle := le_lessR hb hl
  have hlt := (List.getElem?_eq_some_iff.1 hb).1
  have key : ∀ (i : Nat) (bl : Blk), (cx.lessR b t sz es').H[i]? = some bl → (i = b ∧ bl = .row t sz es') ∨ (i ≠ b ∧ cx.H[i]? = some bl) := by
    intro i bl hi
    by_cases hk : b = i
    · subst hk; simp [Cx.lessR, hlt] at hi; exact .inl ⟨rfl, hi.symm⟩
    · simp only [Cx.lessR] at hi; rw [List.getElem?_set_ne hk] at hi; exact .inr ⟨Ne.symm hk, hi⟩
  have key2 : ∀ (i : Nat) (bl : Blk), (cx.lessR b t sz es').H[i]? = some bl → bl.live = true → ∃ bl', cx.H[i]? = some bl' ∧ bl'.live = true := by
    intro i bl hi hl
    rcases key i bl hi with ⟨rfl, rfl⟩ | ⟨_, h2⟩
    · exact ⟨_, hb, rfl⟩
    · exact ⟨_, h2, hl⟩
  refine ⟨h.below, h.base, h.frz, fun i bl hi => ?_, fun i j b1 b2 a1 a2 l1 l2 he => ?_⟩
  · rcases key i bl hi with ⟨rfl, rfl⟩ | ⟨hne, hi'⟩
    · obtain ⟨h1, h2, h3, h4, h5, h6, vals, h7, h8, h9, h10⟩ := h.blk _ _ hb
      refine ⟨h1, h2, h3, hz _ h4, ?_, h6, vals, h7, h8, ?_, h10⟩
      · show es'.length ≤ _; rw [← hl]; exact h5
      · rw [← hl]; exact (h9.mono hle).weakens hwl
    · have hbr := h.blk i bl hi'
      exact hbr.mono hle fun hl => ⟨rfl, rfl, rfl, (hbr.lt hl).2.2⟩
  · obtain ⟨b1', a1', l1'⟩ := key2 i b1 a1 l1
    obtain ⟨b2', a2', l2'⟩ := key2 j b2 a2 l2
    exact h.inj i j b1' b2' a1' a2' l1' l2' he
theorem awp_weakrow {c : Code} {f : Fr} {H : List Blk} (b : Nat) (t : TypeId) (sz : Nat) (es es' : List (List AV)) (hb : H[b]? = some (.row t sz es)) (hw : WeakR es es') (h : AWP P n c Q f (H.set b (.row t sz es')) []) : AWP P n c Q f H [] := by
  intro ro hro B w0 cx0 cx a h1 h2 h3 h4 h5
  subst h3
  refine h ro hro B w0 cx0 (cx.lessR b t sz es') a (hrel_lessR h1 hb hw) (h2.trans (le_lessR hb (weakR_facts hw).1)) rfl (h4.mono' (le_lessR hb (weakR_facts hw).1)) ?_
  cases hd : a.defers with
  | nil => trivial
  | cons d l => rw [hd] at h5; exact h5.elim
theorem weakR_refl : ∀ (l : List (List AV)), WeakR l l
  | [] => .nil
  | e :: l => .cons (.refl e) (weakR_refl l)
theorem weakR_app {a a' b b' : List (List AV)} (h : WeakR a a') (k : WeakR b b') : WeakR (a ++ b) (a' ++ b') := by
  induction h with
  | nil => exact k
  | cons h _ ih => exact .cons h ih
theorem awp_weakO {c : Code} {f : Fr} {H : List Blk} (b : Nat) (t : TypeId) (sz : Nat) (es es' : List (List AV)) (hb : H[b]? = some (ownB t sz es)) (hw : WeakR es es') (h : AWP P n c Q f (H.set b (ownB t sz es')) []) : AWP P n c Q f H [] := by
  by_cases he : es = []
  · subst he
    cases hw
    rw [set_same hb] at h
    exact h
  · have he' : es' ≠ [] := fun e => by subst e; cases hw; exact he rfl
    rw [ownB, if_neg he] at hb
    rw [ownB, if_neg he'] at h
    exact awp_weakrow b t sz es es' hb hw h
def M2 (H : List Blk) (c : Nat) (X o t : Blk) (L : List Blk) : List Blk := H.set c X ++ o :: t :: L
variable {H : List Blk} {c : Nat}
theorem w2_eq (X o t : Blk) (L : List Blk) : M2 H c X o t L = H.set c X ++ o :: t :: L := rfl
theorem w2_app (X o t : Blk) (L R : List Blk) : M2 H c X o t L ++ R = M2 H c X o t (L ++ R) := by simp [M2]
theorem w2_len (X o t : Blk) (L : List Blk) : (M2 H c X o t L).length = H.length + 2 + L.length := by simp [M2]; omega
theorem w2_get (hc : c < H.length) (X o t : Blk) (L : List Blk) : (M2 H c X o t L)[c]? = some X := by
  rw [M2, List.getElem?_append_left (by simpa using hc), List.getElem?_set_self hc]
theorem w2_set (hc : c < H.length) (X Y o t : Blk) (L : List Blk) : (M2 H c X o t L).set c Y = M2 H c Y o t L := by
  rw [M2, List.set_append, if_pos (by simpa using hc), List.set_set]; rfl
theorem w2_getO (X o t : Blk) (L : List Blk) : (M2 H c X o t L)[H.length]? = some o := by
  rw [M2, List.getElem?_append_right (by simp)]; simp
theorem w2_getT (X o t : Blk) (L : List Blk) : (M2 H c X o t L)[H.length + 1]? = some t := by
  rw [M2, List.getElem?_append_right (by simp)]; simp
theorem w2_setO (X o o' t : Blk) (L : List Blk) : (M2 H c X o t L).set H.length o' = M2 H c X o' t L := by
  rw [M2, List.set_append, if_neg (by simp)]; simp [M2]
theorem w2_setT (X o t t' : Blk) (L : List Blk) : (M2 H c X o t L).set (H.length + 1) t' = M2 H c X o t' L := by
  rw [M2, List.set_append, if_neg (by simp)]; simp [M2]
theorem w2_getN (X o t : Blk) (L : List Blk) (i : Nat) : (M2 H c X o t L)[H.length + 2 + i]? = L[i]? := by
  rw [M2, List.getElem?_append_right (by simp; omega)]
  have : H.length + 2 + i - (H.set c X).length = i + 2 := by simp; omega
  rw [this]; rfl
theorem w2_setN (X o t : Blk) (L : List Blk) (i : Nat) (Y : Blk) : (M2 H c X o t L).set (H.length + 2 + i) Y = M2 H c X o t (L.set i Y) := by
  rw [M2, List.set_append, if_neg (by simp; omega)]
  have : H.length + 2 + i - (H.set c X).length = i + 2 := by simp; omega
  rw [this]; rfl
end
end Go.Mu
namespace Go.Mu
open Go.RowKit (Below)
mutual
def AV.bfz (k : Nat) (cs : List AV) : AV → AV
  | .bp k' off => if k' = k then .vp (cs.drop off) else .bp k' off
  | .fn f a b => .fn f (bfzL k cs a) (bfzL k cs b)
  | .ifc t x => .ifc t (AV.bfz k cs x)
  | .agg a => .agg (bfzL k cs a)
  | .tup a => .tup (bfzL k cs a)
  | x => x
def bfzL (k : Nat) (cs : List AV) : List AV → List AV
  | [] => []
  | c :: l => AV.bfz k cs c :: bfzL k cs l
end
theorem bfzL_map (k : Nat) (cs : List AV) (l : List AV) : bfzL k cs l = l.map (AV.bfz k cs) := by
  induction l with
  | nil => simp [bfzL]
  | cons c l ih => simp [bfzL, ih]
def Blk.bfz (k : Nat) (cs : List AV) : Blk → Blk
  | .box t a => .box t (bfzL k cs a)
  | .row t z rs => .row t z (rs.map (bfzL k cs))
  | .map ms => .map (ms.map fun p => (p.1, AV.bfz k cs p.2))
  | .mapg ms => .mapg (ms.map fun p => (p.1, AV.bfz k cs p.2))
  | b => b
def bfzH (k : Nat) (cs : List AV) (H : List Blk) : List Blk := (H.map (Blk.bfz k cs)).set k .gone
theorem bfz_fixed {k : Nat} {cs : List AV} (b : Blk) : (b.bfz k cs).fixed = b.fixed := by cases b <;> rfl
theorem bfz_live {k : Nat} {cs : List AV} (b : Blk) : (b.bfz k cs).live = b.live := by cases b <;> rfl
theorem bfzH_get {k : Nat} {cs : List AV} {H : List Blk} {i : Nat} {bl : Blk} (h : (bfzH k cs H)[i]? = some bl) : (i = k ∧ bl = .gone ∧ k < H.length) ∨ (i ≠ k ∧ ∃ b, H[i]? = some b ∧ bl = b.bfz k cs) := by
  unfold bfzH at h
  rw [List.getElem?_set] at h
  by_cases hi : k = i
  · subst hi
    simp at h
    exact .inl ⟨rfl, h.2.symm, h.1⟩
  · rw [if_neg hi, List.getElem?_map] at h
    cases hb : H[i]? with
    | none => rw [hb] at h; cases h
    | some b => rw [hb] at h; cases h; exact .inr ⟨fun e => hi e.symm, b, rfl, rfl⟩
theorem bfzH_other {k : Nat} {cs : List AV} {H : List Blk} {i : Nat} {b : Blk} (hi : i ≠ k) (h : H[i]? = some b) : (bfzH k cs H)[i]? = some (b.bfz k cs) := by
  unfold bfzH
  rw [List.getElem?_set, if_neg (fun e => hi e.symm), List.getElem?_map, h]; rfl
theorem bfzH_self {k : Nat} {cs : List AV} {H : List Blk} {b : Blk} (h : H[k]? = some b) : (bfzH k cs H)[k]? = some .gone := by
  unfold bfzH
  simp [List.getElem?_set, (List.getElem?_eq_some_iff.1 h).1]
def Cx.bfz (cx : Cx) (k : Nat) (cs : List AV) : Cx := { cx with Φ := fun b => cx.Φ b ∨ b = cx.κ k, H := bfzH k cs cx.H }
theorem le_bfz {cx : Cx} {k : Nat} {cs : List AV} {b : Blk} (hk : cx.H[k]? = some b) : Le cx (cx.bfz k cs) := by
  refine ⟨fun b off x _ hc => hc, fun _ h => .inl h, fun i bl h hf => ?_, fun i t z rs h => ?_⟩
  · by_cases hi : i = k
    · subst hi; exact ⟨.gone, bfzH_self hk, rfl, rfl⟩
    · exact ⟨_, bfzH_other hi h, by rw [bfz_fixed]; exact hf, rfl⟩
  · by_cases hi : i = k
    · subst hi; exact .inl ⟨.gone, bfzH_self hk, rfl⟩
    · exact .inr ⟨_, bfzH_other hi h, by simp, fun _ => ⟨rfl, rfl⟩⟩
def AV.frzF : AV → Bool
  | .fn _ fs cs => fs.all AV.frzB && cs.all AV.frzB
  | a => a.frzB
theorem Rep.strongF {cx : Cx} {a : AV} {y : Value} (h : Rep cx false a y) (ha : a.frzF = true) : Rep cx true a y := by
  cases h with
  | fn f fs cs vf vc hnf hrf hnc hrc =>
    simp only [AV.frzF, Bool.and_eq_true, List.all_eq_true] at ha
    exact .fn f fs cs vf vc hnf (fun j c x h1 h2 => (hrf j c x h1 h2).strong (ha.1 c (List.mem_of_getElem? h1))) hnc (fun j c x h1 h2 => (hrc j c x h1 h2).strong (ha.2 c (List.mem_of_getElem? h1)))
  | v => exact .v _
  | vs0 sz a cap => exact .vs0 sz a cap
  | vs sz es b o cap vals hf hz hcap hl hn ho hc hr => exact .vs sz es b o cap vals hf hz hcap hl hn ho hc hr
  | vx sz es b o vals hf hz hl hn ho hc hr => exact .vx sz es b o vals hf hz hl hn ho hc hr
  | vp cs b o vals hf hn hc hr => exact .vp cs b o vals hf hn hc hr
  | bp k off bl hk hf => simp [AV.frzF, AV.frzB] at ha
  | rp k ver i off y ho bl hk hp => simp [AV.frzF, AV.frzB] at ha
  | hs k off n ver y ho bl hk hp => simp [AV.frzF, AV.frzB] at ha
  | hm k bl hk hf => simp [AV.frzF, AV.frzB] at ha
  | hg k bl hk hf => simp [AV.frzF, AV.frzB] at ha
  | hi k bl hk hf => simp [AV.frzF, AV.frzB] at ha
  | yl k bl hk hf => simp [AV.frzF, AV.frzB] at ha
  | ifc t x y h => exact Rep.strong (.ifc t x y h) (by simpa [AV.frzF] using ha)
  | agg cs vals hn hr => exact Rep.strong (.agg cs vals hn hr) (by simpa [AV.frzF] using ha)
  | tup cs vals hn hr => simp [AV.frzF, AV.frzB] at ha
  | junk y => exact .junk y
theorem RepL.strongF {cx : Cx} {cs : List AV} {vals : List Value} (h : RepL cx false cs vals) (ha : cs.all AV.frzF = true) : RepL cx true cs vals :=
  ⟨h.len, fun j c x h1 h2 => (h.rep j c x h1 h2).strongF (List.all_eq_true.1 ha _ (List.mem_of_getElem? h1))⟩
theorem rep_bfz {B : Nat} {w0 : World} {cx : Cx} (h : HRel B w0 cx) {k : Nat} {t : TypeId} {es : List AV} (hk : cx.H[k]? = some (.box t es)) (hz : es.all AV.frzF = true) {z : Bool} {a : AV} {y : Value} (hr : Rep cx z a y) :
    Rep (cx.bfz k es) z (a.bfz k es) y := by
  have hle : Le cx (cx.bfz k es) := le_bfz hk
  induction hr with
  | v x => exact .v x
  | vs0 s a cap => exact .vs0 s a cap
  | vs s rs b o cap vals hf hz hcap hl hn ho hc hr ih => exact Rep.mono hle (.vs s rs b o cap vals hf hz hcap hl hn ho hc hr)
  | vx s rs b o vals hf hz hl hn ho hc hr ih => exact Rep.mono hle (.vx s rs b o vals hf hz hl hn ho hc hr)
  | vp cs b o vals hf hn hc hr ih => exact Rep.mono hle (.vp cs b o vals hf hn hc hr)
  | bp k' off bl hk' hf =>
    simp only [AV.bfz]
    split
    · rename_i he
      subst he
      obtain ⟨b1, b2, vals, b3, b4⟩ := h.blk _ _ hk
      have b5 := (b4.strongF hz).mono hle
      refine .vp (es.drop off) (cx.κ k') off (vals.drop off) (.inr rfl) (by have := b4.len; simp; omega) (fun j x hj => ?_) (fun j c x h1 h2 => ?_)
      · show cx.w.cell? _ = _
        rw [List.getElem?_drop] at hj
        rw [cell_of_row _ _ _ _ _ _ b3]; simpa using hj
      · rw [List.getElem?_drop] at h1 h2
        exact b5.rep _ c x h1 h2
    · exact Rep.mono hle (.bp k' off bl hk' hf)
  | rp k' ver i off y ho bl hk' hp => exact Rep.mono hle (.rp k' ver i off y ho bl hk' hp)
  | hm k' bl hk' hf => exact Rep.mono hle (.hm k' bl hk' hf)
  | hg k' bl hk' hf => exact Rep.mono hle (.hg k' bl hk' hf)
  | hi k' bl hk' hf => exact Rep.mono hle (.hi k' bl hk' hf)
  | yl k' bl hk' hf => exact Rep.mono hle (.yl k' bl hk' hf)
  | hs k' off n ver y ho bl hk' hp => exact Rep.mono hle (.hs k' off n ver y ho bl hk' hp)
  | fn f fs cs vf vc hnf hrf hnc hrc ihf ihc =>
    simp only [AV.bfz, bfzL_map]
    refine .fn f _ _ vf vc (by simpa using hnf) (fun j c x h1 h2 => ?_) (by simpa using hnc) (fun j c x h1 h2 => ?_)
    · rw [List.getElem?_map] at h1
      cases hc : fs[j]? with
      | none => rw [hc] at h1; cases h1
      | some c' => rw [hc] at h1; cases h1; exact ihf j c' x hc h2
    · rw [List.getElem?_map] at h1
      cases hc : cs[j]? with
      | none => rw [hc] at h1; cases h1
      | some c' => rw [hc] at h1; cases h1; exact ihc j c' x hc h2
  | ifc t x y h ih => simp only [AV.bfz]; exact .ifc t _ y ih
  | agg cs vals hn hr ih =>
    simp only [AV.bfz, bfzL_map]
    refine .agg _ vals (by simpa using hn) fun j c x h1 h2 => ?_
    rw [List.getElem?_map] at h1
    cases hc : cs[j]? with
    | none => rw [hc] at h1; cases h1
    | some c' => rw [hc] at h1; cases h1; exact ih j c' x hc h2
  | tup cs vals hn hr ih =>
    simp only [AV.bfz, bfzL_map]
    refine .tup _ vals (by simpa using hn) fun j c x h1 h2 => ?_
    rw [List.getElem?_map] at h1
    cases hc : cs[j]? with
    | none => rw [hc] at h1; cases h1
    | some c' => rw [hc] at h1; cases h1; exact ih j c' x hc h2
  | junk y => exact .junk y
theorem repL_bfz {B : Nat} {w0 : World} {cx : Cx} (h : HRel B w0 cx) {k : Nat} {t : TypeId} {es : List AV} (hk : cx.H[k]? = some (.box t es)) (hz : es.all AV.frzF = true) {z : Bool} {cs : List AV} {vals : List Value} (hr : RepL cx z cs vals) :
    RepL (cx.bfz k es) z (bfzL k es cs) vals := by
  rw [bfzL_map]
  refine ⟨by simpa using hr.len, fun j c x h1 h2 => ?_⟩
  rw [List.getElem?_map] at h1
  cases hc : cs[j]? with
  | none => rw [hc] at h1; cases h1
  | some c' => rw [hc] at h1; cases h1; exact rep_bfz h hk hz (hr.rep j c' x hc h2)
theorem flatten_bfzL (k : Nat) (es : List AV) (rs : List (List AV)) : (rs.map (bfzL k es)).flatten = bfzL k es rs.flatten := by
  rw [bfzL_map, List.map_flatten]
  congr 1
  refine List.map_congr_left fun r _ => bfzL_map k es r
theorem hrel_bfz {B : Nat} {w0 : World} {cx : Cx} (h : HRel B w0 cx) {k : Nat} {t : TypeId} {es : List AV} (hk : cx.H[k]? = some (.box t es)) (hz : es.all AV.frzF = true) : HRel B w0 (cx.bfz k es) := by
  have hle : Le cx (cx.bfz k es) := le_bfz hk
  refine ⟨h.below, h.base, fun b hf => ?_, fun i bl hi => ?_, fun i j b1 b2 a1 a2 l1 l2 he => ?_⟩
  · rcases hf with hf | rfl
    · exact h.frz b hf
    · exact ((h.blk k _ hk).lt rfl).2.1
  · rcases bfzH_get hi with ⟨rfl, rfl, _⟩ | ⟨hne, b, hb, rfl⟩
    · trivial
    · have hbi := h.blk i b hb
      have hΦ : b.live = true → ¬ (cx.bfz k es).Φ (cx.κ i) := by
        rintro hl (hf | he)
        · exact (hbi.lt hl).2.2 hf
        · exact hne (h.inj i k b _ hb hk hl rfl he)
      cases b with
      | box t' cs =>
        obtain ⟨h1, h2, vals, h3, h4⟩ := hbi
        exact ⟨h1, hΦ rfl, vals, h3, repL_bfz h hk hz h4⟩
      | row t' z rs =>
        obtain ⟨h1, h2, h3, h4, h5, h6, vals, h7, h8, h9, h10⟩ := hbi
        refine ⟨h1, hΦ rfl, h3, fun e he => ?_, by rw [List.length_map]; exact h5, h6, vals, h7, h8, ?_, h10⟩
        · obtain ⟨e', he', rfl⟩ := List.mem_map.1 he
          rw [bfzL_map]; simpa using h4 e' he'
        · rw [flatten_bfzL]; simpa using repL_bfz h hk hz h9
      | map ms =>
        obtain ⟨h1, h2, ents, h3, h4, h5⟩ := hbi
        refine ⟨h1, hΦ rfl, ents, h3, by simpa using h4, fun j p e a b => ?_⟩
        rw [List.getElem?_map] at a
        cases hc : ms[j]? with
        | none => rw [hc] at a; cases a
        | some p' =>
          rw [hc] at a; cases a
          obtain ⟨x1, x2, x3⟩ := h5 j p' e hc b
          exact ⟨x1, rep_bfz h hk hz x2, x3⟩
      | mapg ms =>
        obtain ⟨h1, h2, ents, c, h3, h4, h5, h6⟩ := hbi
        refine ⟨h1, hΦ rfl, ents, c, h3, by simpa using h4, fun j p e a b => ?_, h6⟩
        rw [List.getElem?_map] at a
        cases hc : ms[j]? with
        | none => rw [hc] at a; cases a
        | some p' =>
          rw [hc] at a; cases a
          obtain ⟨x1, x2⟩ := h5 j p' e hc b
          exact ⟨x1, rep_bfz h hk hz x2⟩
      | pend => trivial
      | gone => trivial
      | dfr o => obtain ⟨h1, h2, h3⟩ := hbi; exact ⟨h1, hΦ rfl, h3⟩
      | lp st pend n f ps assign body => obtain ⟨h1, h2, fn, tmps, d, h3, h4, h5⟩ := hbi; exact ⟨h1, hΦ rfl, fn, tmps, d, h3, h4, fun t ht => (h5 t ht).mono hle⟩
      | it km n seen =>
        obtain ⟨h1, h2, h3, h4⟩ := hbi
        refine ⟨h1, hΦ rfl, h3, fun m hm => ?_⟩
        obtain ⟨bl, a, b⟩ := h4 m hm
        obtain ⟨bl', a', b', _⟩ := hle.fixed m bl a b
        exact ⟨bl', a', b'⟩
  · rcases bfzH_get a1 with ⟨rfl, rfl, _⟩ | ⟨n1, c1, d1, rfl⟩
    · simp [Blk.live] at l1
    · rcases bfzH_get a2 with ⟨rfl, rfl, _⟩ | ⟨n2, c2, d2, rfl⟩
      · simp [Blk.live] at l2
      · rw [bfz_live] at l1 l2
        exact h.inj i j c1 c2 d1 d2 l1 l2 he
mutual
theorem bfz_under {k n : Nat} (h : n ≤ k) (cs : List AV) : ∀ (a : AV), a.under n = true → a.bfz k cs = a
  | .v _, _ => rfl
  | .vs _ _, _ => rfl
  | .vx _ _, _ => rfl
  | .vp _, _ => rfl
  | .bp k' _, hu => by simp only [AV.under, decide_eq_true_eq] at hu; simp only [AV.bfz]; rw [if_neg (by omega)]
  | .rp _ _ _ _, _ => rfl
  | .hs _ _ _ _, _ => rfl
  | .hm _, _ => rfl
  | .hg _, _ => rfl
  | .hi _, _ => rfl
  | .yl _, _ => rfl
  | .fn _ a b, hu => by simp only [AV.under, Bool.and_eq_true] at hu; simp only [AV.bfz]; rw [bfzL_under h cs a hu.1, bfzL_under h cs b hu.2]
  | .ifc _ x, hu => by simp only [AV.under] at hu; simp only [AV.bfz]; rw [bfz_under h cs x hu]
  | .agg a, hu => by simp only [AV.under] at hu; simp only [AV.bfz]; rw [bfzL_under h cs a hu]
  | .tup a, hu => by simp only [AV.under] at hu; simp only [AV.bfz]; rw [bfzL_under h cs a hu]
  | .junk, _ => rfl
theorem bfzL_under {k n : Nat} (h : n ≤ k) (cs : List AV) : ∀ (l : List AV), underL n l = true → bfzL k cs l = l
  | [], _ => rfl
  | a :: l, hu => by simp only [underL, Bool.and_eq_true] at hu; simp only [bfzL]; rw [bfz_under h cs a hu.1, bfzL_under h cs l hu.2]
end
theorem blk_bfz_under {k n : Nat} (h : n ≤ k) (cs : List AV) (b : Blk) (hu : b.under n = true) : b.bfz k cs = b := by
  cases b with
  | box t a => simp only [Blk.under] at hu; simp only [Blk.bfz]; rw [bfzL_under h cs a hu]
  | row t z rs =>
    simp only [Blk.under, List.all_eq_true] at hu
    simp only [Blk.bfz]
    rw [List.map_congr_left (g := id) (fun r hr => bfzL_under h cs r (hu r hr)), List.map_id]
  | map ms =>
    simp only [Blk.under, List.all_eq_true] at hu
    simp only [Blk.bfz]
    rw [List.map_congr_left (g := id) (fun p hp => by rw [bfz_under h cs p.2 (hu p hp)]; rfl), List.map_id]
  | mapg ms =>
    simp only [Blk.under, List.all_eq_true] at hu
    simp only [Blk.bfz]
    rw [List.map_congr_left (g := id) (fun p hp => by rw [bfz_under h cs p.2 (hu p hp)]; rfl), List.map_id]
  | _ => rfl
theorem acalls_boxed {P : Program} {fid : FuncId} {args : List AV} {H : List Blk} {a : AV} {t : TypeId} {cs : List AV} (hz : cs.all AV.frzF = true) (hu2 : (a.bfz H.length cs).under H.length = true)
    (h : ACalls P fid args H (fun e H' => e = .ret a ∧ H' = H ++ [.box t cs])) : ACalls P fid args H (fun e H' => e = .ret (a.bfz H.length cs) ∧ H' = H) := by
  intro B w0 cx vals h1 h2 h3
  have hu := h1.under
  rw [h2] at hu
  refine (h B w0 cx vals h1 h2 h3).mono fun e w' he => ?_
  cases e with
  | returned y =>
    obtain ⟨cx', r, rfl, b1, b2, b3, b4, b5⟩ := he
    cases b4
    have hk : cx'.H[H.length]? = some (.box t cs) := by rw [b5]; simp
    have c1 := hrel_bfz b1 hk hz
    have c2 := le_bfz (cs := cs) hk
    have c3 := rep_bfz b1 hk hz b3
    have c4 : (cx'.bfz H.length cs).H = H ++ [.gone] := by
      show bfzH H.length cs cx'.H = _
      rw [b5, bfzH, List.map_append]
      have e1 : H.map (Blk.bfz H.length cs) = H := by
        rw [List.map_congr_left (g := id) (fun b hb => blk_bfz_under (Nat.le_refl _) cs b (List.all_eq_true.1 hu b hb)), List.map_id]
      rw [e1]; simp
    have hle : Le cx ((cx'.bfz H.length cs).cut H) := le_cut (b2.trans c2) c4 (by rw [h2]; exact Nat.le_refl _)
    exact ⟨(cx'.bfz H.length cs).cut H, _, rfl, hrel_cut c1 c4 hu, hle, rep_cut c4 c3 hu2, rfl, rfl⟩
  | panicked ch =>
    obtain ⟨cx', x, y, rfl, b1, b2, hch, b3, b4, b5⟩ := he
    cases b4
  | outgrown => exact he
theorem acalls_bgive {P : Program} {fid : FuncId} {args : List AV} {H : List Blk} {R : AE → List Blk → Prop} (k : Nat) (t : TypeId) (cs : List AV) (hk : H[k]? = some (.box t cs)) (hz : cs.all AV.frzF = true)
    (h : ACalls P fid (bfzL k cs args) (bfzH k cs H) R) : ACalls P fid args H R := by
  intro B w0 cx vals h1 h2 h3
  subst h2
  refine (h B w0 (cx.bfz k cs) vals (hrel_bfz h1 hk hz) rfl (repL_bfz h1 hk hz h3)).mono fun e w' he => ?_
  cases e with
  | returned y => obtain ⟨cx', r, b0, b1, b2, b3, b4⟩ := he; exact ⟨cx', r, b0, b1, (le_bfz hk).trans b2, b3, b4⟩
  | panicked ch => obtain ⟨cx', x, y, b0, b1, b2, b3, b4, b5⟩ := he; exact ⟨cx', x, y, b0, b1, (le_bfz hk).trans b2, b3, b4, b5⟩
  | outgrown => exact he
end Go.Mu
namespace Go.Mu
section
variable {P : Program} {n : Nat} {pu : Nat → Bool} {ops : Array Oper} {Q : AQ}
theorem all_mem {α : Type} {p : α → Bool} {a b : List α} (h : ∀ x, x ∈ a ↔ x ∈ b) : a.all p = b.all p := by
  rw [Bool.eq_iff_iff, List.all_eq_true, List.all_eq_true]
  exact ⟨fun q x hx => q x ((h x).2 hx), fun q x hx => q x ((h x).1 hx)⟩
theorem contains_mem {a b : List Nat} (h : ∀ x, x ∈ a ↔ x ∈ b) (i : Nat) : a.contains i = b.contains i := by
  rw [Bool.eq_iff_iff, List.contains_iff_mem, List.contains_iff_mem]; exact h i
theorem planX_mem {hf : Oper → Bool} {tab : List (Nat × Oper × Nat)} : ∀ (p : OPlan) (d1 d2 r1 r2 : List Nat), (∀ x, x ∈ d1 ↔ x ∈ d2) → (∀ x, x ∈ r1 ↔ x ∈ r2) → r1.Nodup → r2.Nodup → planX pu hf ops tab d1 r1 p = planX pu hf ops tab d2 r2 p
  | [], d1, d2, r1, r2, hd, hr, _, _ => by
    rw [planX, planX, Bool.eq_iff_iff, List.isEmpty_iff, List.isEmpty_iff]
    constructor
    · intro h; refine List.eq_nil_iff_forall_not_mem.2 fun x hx => ?_; have := (hr x).2 hx; rw [h] at this; cases this
    · intro h; refine List.eq_nil_iff_forall_not_mem.2 fun x hx => ?_; have := (hr x).1 hx; rw [h] at this; cases this
  | (i, late) :: rest, d1, d2, r1, r2, hd, hr, n1, n2 => by
    have e1 : readyB ops r1 i = readyB ops r2 i := by
      unfold readyB
      rw [contains_mem hr]
      cases ops[i]? with
      | none => rfl
      | some o => simp only [contains_mem hr]
    have e2 := planX_mem (hf := hf) (tab := tab) rest (i :: d1) (i :: d2) (r1.erase i) (r2.erase i) (fun x => by simp [hd x]) (fun x => by rw [n1.mem_erase_iff, n2.mem_erase_iff, hr x]) (n1.erase i) (n2.erase i)
    rw [planX, planX, e1, e2]
    cases ops[i]? with
    | none => rfl
    | some oi =>
      simp only
      congr 2
      split
      · rfl
      · rw [all_mem hr, all_mem hd]
def bagOk (pu : Nat → Bool) (hf : Oper → Bool) (ops : Array Oper) (tab : List (Nat × Oper × Nat)) (bag lt : List Nat) (post : OPlan) (done rem : List Nat) : Bool :=
  (bag.all fun i => rem.contains i && !pu i && (match ops[i]? with
    | none => false
    | some oi => (oi.after.toList.all fun e => !Region.binds .any e || (!rem.contains e.on && decide (e.on < ops.size))) &&
      (done.all fun j => (maskOf tab i).testBit j || !pu j || (match ops[j]? with | none => false | some oj => pu j && !lookB ops oj oi && (lt.contains j || hf oj))))) &&
  (rem.all fun x => bag.contains x || bag.all fun b => (maskOf tab x).testBit b) && !bag.isEmpty && planX pu hf ops tab (bag ++ done) (rem.filter fun x => !bag.contains x) post
structure BagV (P : Program) (pu : Nat → Bool) (hf : Oper → Bool) (ops : Array Oper) (Q : AQ) (ds : List ADef) (bag lt : List Nat) (post : OPlan) (I : List Nat → Fr → List Blk → Prop) : Prop where
  step : ∀ S i f H o, i ∈ bag → i ∉ S → S ⊆ bag → ops[i]? = some o → I S f H → StepB P ops o f H ds Q (fun f' H' => I (i :: S) f' H')
  late : ∀ S f H, S ⊆ bag → I S f H → ∀ j ∈ lt, ∀ oj, ops[j]? = some oj → ∃ r, StepD P ops oj f H r ∧ ∀ d, oj.dst = some d → f d = r
  fin : ∀ S f H, (∀ x, x ∈ S ↔ x ∈ bag) → I S f H → VX P pu hf ops Q ds post f H
theorem bag_sound {tab : List (Nat × Oper × Nat)} (htab : TabOk ops tab) {hf : Oper → Bool} (hsm : ∀ (i : Nat) (o : Oper), ops[i]? = some o → smallO n ops o = true)
    (hlt : ∀ (j : Nat) (o : Oper), ops[j]? = some o → ∀ e ∈ o.after, Region.binds .any e = true → e.on < j) {ds : List ADef} {bag lt : List Nat} {post : OPlan} {I : List Nat → Fr → List Blk → Prop} (hv : BagV P pu hf ops Q ds bag lt post I) (done0 rem0 : List Nat) (hok : bagOk pu hf ops tab bag lt post done0 rem0 = true) (hrn : rem0.Nodup) :
    ∀ (fuel : Nat) (done rem L : List Nat) (listed : Array Bool) (f fa : Fr) (H : List Blk) (S : List Nat), S ⊆ bag → (∀ x, x ∈ done ↔ x ∈ S ∨ x ∈ done0) → (∀ x, x ∈ rem ↔ x ∈ rem0 ∧ x ∉ S) → SInv P pu hf ops done rem L listed f fa H → rem.length + L.length ≤ fuel → I S f H → AA P pu ops Q ds fuel listed fa H := by
  simp only [bagOk, Bool.and_eq_true, List.all_eq_true, Bool.not_eq_true', Bool.or_eq_true, List.contains_iff_mem] at hok
  obtain ⟨⟨⟨h1, h2⟩, h3⟩, h4⟩ := hok
  intro fuel
  induction fuel with
  | zero =>
    intro done rem L listed f fa H S hS hd hr hi hfu hI
    have hrem : rem = [] := List.eq_nil_of_length_eq_zero (by omega)
    have hall : ∀ x, x ∈ S ↔ x ∈ bag := fun x => ⟨fun h => hS h, fun h => by
      by_cases hxs : x ∈ S
      · exact hxs
      · have := (hr x).2 ⟨(h1 x h).1.1, hxs⟩
        rw [hrem] at this; cases this⟩
    refine vx_sound htab hsm hlt post 0 done rem L listed f fa H ?_ hi hfu (hv.fin S f H hall hI)
    rw [planX_mem post done (bag ++ done0) rem (rem0.filter fun x => !bag.contains x) (fun x => by rw [hd x, List.mem_append, hall x]) (fun x => by rw [hr x, List.mem_filter, hall x]; simp) hi.rnodup (hrn.filter _)]
    exact h4
  | succ fuel ih =>
    intro done rem L listed f fa H S hS hd hr hi hfu hI
    by_cases hall : ∀ x, x ∈ bag → x ∈ S
    · have hall : ∀ x, x ∈ S ↔ x ∈ bag := fun x => ⟨fun h => hS h, hall x⟩
      refine vx_sound htab hsm hlt post (fuel + 1) done rem L listed f fa H ?_ hi hfu (hv.fin S f H hall hI)
      rw [planX_mem post done (bag ++ done0) rem (rem0.filter fun x => !bag.contains x) (fun x => by rw [hd x, List.mem_append, hall x]) (fun x => by rw [hr x, List.mem_filter, hall x]; simp) hi.rnodup (hrn.filter _)]
      exact h4
    · obtain ⟨b, hb, hbS⟩ : ∃ b, b ∈ bag ∧ b ∉ S := by
        refine Classical.byContradiction fun hn => hall fun x hx => Classical.byContradiction fun hxs => hn ⟨x, hx, hxs⟩
      have hbr : b ∈ rem := (hr b).2 ⟨(h1 b hb).1.1, hbS⟩
      refine ⟨fun hn => ?_, fun x hir => ?_⟩
      · obtain ⟨rfl, _⟩ := sinv_ready hsm hlt hi hn
        cases hbr
      · obtain ⟨m1, o, m2, m3⟩ := mem_ready.1 hir
        have hil := (Array.getElem?_eq_some_iff.1 m2).1
        rw [getD_tf (by rw [hi.size]; exact hil)] at m1
        rcases (hi.un x hil).1 m1 with hm | hm
        · have hx0 := (hr x).1 hm
          rcases h2 x hx0.1 with hxb | hxm
          · obtain ⟨⟨g1, g2⟩, g3⟩ := h1 x hxb
            rw [m2] at g3
            simp only [Bool.and_eq_true, List.all_eq_true] at g3
            obtain ⟨g4, g5⟩ := g3
            refine ⟨o, m2, ?_⟩
            rw [if_neg (by simp [g2])]
            have hrd : readyB ops rem x = true := by
              unfold readyB
              rw [m2, Bool.and_eq_true, List.contains_iff_mem, List.all_eq_true]
              refine ⟨hm, fun e he => ?_⟩
              have := g4 e he
              simp only [Bool.or_eq_true, Bool.not_eq_true', Bool.and_eq_true] at this ⊢
              rcases this with h | ⟨h, h'⟩
              · exact .inl h
              · refine .inr ⟨?_, h'⟩
                rw [← Bool.not_eq_true, List.contains_iff_mem] at h ⊢
                exact fun q => h ((hr _).1 q).1
            have hop2 : (done.all fun j => (maskOf tab x).testBit j || !pu j || (match ops[j]? with | none => false | some oj => pu j && !lookB ops oj o && (lt.contains j || hf oj))) = true := by
              rw [List.all_eq_true]
              intro j hj
              rcases (hd j).1 hj with h | h
              · have := (h1 j (hS h)).1.2
                simp [this]
              · exact g5 j h
            refine vx_impK htab hsm hlt (K := I (x :: S)) hi hir m2 g2 hrd hop2 (fun L' listed' f' fa' H' hi' hl' hk' => ?_) hfu ?_
            · refine ih _ _ L' listed' f' fa' H' (x :: S) (fun y hy => ?_) (fun y => ?_) (fun y => ?_) hi' hl' hk'
              · rcases List.mem_cons.1 hy with rfl | hy
                · exact hxb
                · exact hS hy
              · simp only [List.mem_cons, hd y, or_assoc]
              · rw [hi.rnodup.mem_erase_iff, hr y, List.mem_cons, not_or]
                exact ⟨fun ⟨a, b, c⟩ => ⟨b, a, c⟩, fun ⟨a, b, c⟩ => ⟨b, a, c⟩⟩
            · refine stepB_mono (fun f' H' hk => ⟨hv.late (x :: S) f' H' (fun y hy => ?_) hk, hk⟩) (hv.step S x f H o hxb hx0.2 hS m2 hI)
              rcases List.mem_cons.1 hy with rfl | hy
              · exact hxb
              · exact hS hy
          · exfalso
            have := reach_listed hi.closed (maskOf_spec htab (hxm b hb)) fun o' ho' e he hb' => m3 e (by rw [m2] at ho'; cases ho'; exact he) hb'
            have h5 := (hi.un b (hi.remlt b hbr)).2 (.inl hbr)
            rw [this] at h5; cases h5
        · obtain ⟨o', r, ho, hpu', hst, hinv⟩ := sinv_late hsm hlt hi hir hm
          refine ⟨o', ho, ?_⟩
          rw [if_pos hpu']
          have hlen := List.length_erase_of_mem hm
          have hpos := List.length_pos_of_mem hm
          exact ⟨r, hst, ih done rem (L.erase x) _ f _ H S hS hd hr hinv (by omega) hI⟩
def oneBagOk (pu : Nat → Bool) (hf : Oper → Bool) (ops : Array Oper) (tab : List (Nat × Oper × Nat)) (i0 : Nat) (lt0 bag lt : List Nat) (post : OPlan) (done rem : List Nat) : Bool :=
  readyB ops rem i0 && !pu i0 && (match ops[i0]? with
    | none => false
    | some oi => done.all fun j => (maskOf tab i0).testBit j || !pu j || (match ops[j]? with | none => false | some oj => pu j && !lookB ops oj oi && (lt0.contains j || hf oj))) &&
  (rem.all fun x => x == i0 || (maskOf tab x).testBit i0) && bagOk pu hf ops tab bag lt post (i0 :: done) (rem.erase i0)
def OneBagV (P : Program) (pu : Nat → Bool) (hf : Oper → Bool) (ops : Array Oper) (Q : AQ) (ds : List ADef) (i0 : Nat) (lt0 bag lt : List Nat) (post : OPlan) (f : Fr) (H : List Blk) : Prop := match ops[i0]? with
  | none => False
  | some o => StepB P ops o f H ds Q (fun f' H' => (∀ j ∈ lt0, ∀ oj, ops[j]? = some oj → ∃ r, StepD P ops oj f' H' r ∧ ∀ d, oj.dst = some d → f' d = r) ∧ ∃ I : List Nat → Fr → List Blk → Prop, I [] f' H' ∧ BagV P pu hf ops Q ds bag lt post I)
theorem oneBag_sound {tab : List (Nat × Oper × Nat)} (htab : TabOk ops tab) {hf : Oper → Bool} (hsm : ∀ (i : Nat) (o : Oper), ops[i]? = some o → smallO n ops o = true)
    (hlt : ∀ (j : Nat) (o : Oper), ops[j]? = some o → ∀ e ∈ o.after, Region.binds .any e = true → e.on < j) {ds : List ADef} {i0 : Nat} {lt0 bag lt : List Nat} {post : OPlan} : ∀ (fuel : Nat) (done rem L : List Nat) (listed : Array Bool) (f fa : Fr) (H : List Blk), oneBagOk pu hf ops tab i0 lt0 bag lt post done rem = true → SInv P pu hf ops done rem L listed f fa H → rem.length + L.length ≤ fuel →
    OneBagV P pu hf ops Q ds i0 lt0 bag lt post f H → AA P pu ops Q ds fuel listed fa H := by
  intro fuel
  induction fuel with
  | zero =>
    intro done rem L listed f fa H hc hi hfu hv
    exfalso
    simp only [oneBagOk, readyB, Bool.and_eq_true, List.contains_iff_mem] at hc
    have := List.length_pos_of_mem hc.1.1.1.1.1
    omega
  | succ fuel ih =>
    intro done rem L listed f fa H hc hi hfu hv
    have hc0 := hc
    simp only [oneBagOk, Bool.and_eq_true, Bool.not_eq_true', List.all_eq_true, Bool.or_eq_true, beq_iff_eq] at hc
    obtain ⟨⟨⟨⟨hrd, hpu⟩, hop⟩, hall⟩, hbag⟩ := hc
    have hi0r : i0 ∈ rem := by simp only [readyB, Bool.and_eq_true, List.contains_iff_mem] at hrd; exact hrd.1
    refine ⟨fun hn => ?_, fun x hir => ?_⟩
    · obtain ⟨rfl, _⟩ := sinv_ready hsm hlt hi hn
      cases hi0r
    · obtain ⟨m1, o, m2, m3⟩ := mem_ready.1 hir
      have hil := (Array.getElem?_eq_some_iff.1 m2).1
      rw [getD_tf (by rw [hi.size]; exact hil)] at m1
      rcases (hi.un x hil).1 m1 with hm | hm
      · rcases hall x hm with rfl | hx
        · rw [m2] at hop
          unfold OneBagV at hv
          rw [m2] at hv
          refine ⟨o, m2, ?_⟩
          rw [if_neg (by simp [hpu])]
          refine vx_impK htab hsm hlt (K := fun f' H' => ∃ I : List Nat → Fr → List Blk → Prop, I [] f' H' ∧ BagV P pu hf ops Q ds bag lt post I) hi hir m2 hpu hrd (by
            have h := hc0
            simp only [oneBagOk, Bool.and_eq_true] at h
            have h := h.1.1.2
            rw [m2] at h
            exact h) (fun L' listed' f' fa' H' hi' hl' ⟨I, hI, hV⟩ => ?_) hfu hv
          exact bag_sound htab hsm hlt hV (x :: done) (rem.erase x) hbag (hi.rnodup.erase x) fuel (x :: done) (rem.erase x) L' listed' f' fa' H' [] (fun y hy => (by cases hy)) (fun y => by simp) (fun y => by simp) hi' hl' hI
        · exfalso
          have := reach_listed hi.closed (maskOf_spec htab hx) fun o' ho' e he hb => m3 e (by rw [m2] at ho'; cases ho'; exact he) hb
          have h5 := (hi.un i0 (hi.remlt i0 hi0r)).2 (.inl hi0r)
          rw [this] at h5; cases h5
      · obtain ⟨o', r, ho, hpu', hst, hinv⟩ := sinv_late hsm hlt hi hir hm
        refine ⟨o', ho, ?_⟩
        rw [if_pos hpu']
        have hlen := List.length_erase_of_mem hm
        have hpos := List.length_pos_of_mem hm
        exact ⟨r, hst, ih done rem (L.erase x) _ f _ H hc0 hinv (by omega) hv⟩
variable {hn : Nat → Bool}
structure BagW (P : Program) (hn : Nat → Bool) (ops : Array Oper) (Q : AQ) (ds : List ADef) (bag lt : List Nat) (post : OPlan) (I : List Nat → Fr → List Blk → Prop) : Prop where
  step : ∀ S i f H, i ∈ bag → i ∉ S → S ⊆ bag → I S f H → vcL P hn true ops (opsAt ops [i]) (thenQ (fun f' H' _ => I (i :: S) f' H') Q) f H ds
  late : ∀ S f H, S ⊆ bag → I S f H → lateV P hn ops f H (opsAt ops lt)
  fin : ∀ S f H, (∀ x, x ∈ S ↔ x ∈ bag) → I S f H → vcX P hn ops Q ds post f H
def bagAll (hn : Nat → Bool) (n : Nat) (ops : Array Oper) (pre : List Nat) (i0 : Nat) (lt0 bag lt : List Nat) (post : OPlan) : Bool :=
  ops.toList.all (smallO n ops) && planP (puOf (pureOp hn) ops) ops (mkTab ops [] (List.range ops.size)) (oneBagOk (puOf (pureOp hn) ops) hfreeOp ops (mkTab ops [] (List.range ops.size)) i0 lt0 bag lt post) [] (List.range ops.size) pre && lateB (puOf (pureOp hn) ops) ops post && lateB (puOf (pureOp hn) ops) ops [(0, lt), (0, lt0)] &&
  ((List.range ops.size).all fun j => match ops[j]? with
    | none => true
    | some o => o.after.toList.all fun e => !Region.binds .any e || decide (e.on < j)) && ops.all noDefer
theorem bagV_of {ops : Array Oper} {Q : AQ} {ds : List ADef} (hnd : ops.all noDefer = true) {tab : List (Nat × Oper × Nat)} {bag lt : List Nat} {post : OPlan} {done rem : List Nat} {I : List Nat → Fr → List Blk → Prop} (hok : bagOk (puOf (pureOp hn) ops) hfreeOp ops tab bag lt post done rem = true)
    (hl : ∀ j ∈ lt, ∀ o, ops[j]? = some o → puOf (pureOp hn) ops j = true) (hp : ∀ x ∈ post, ∀ j ∈ x.2, ∀ o, ops[j]? = some o → puOf (pureOp hn) ops j = true) (h : BagW P hn ops Q ds bag lt post I) : BagV P (puOf (pureOp hn) ops) hfreeOp ops Q ds bag lt post I := by
  refine ⟨fun S i f H o hi hiS hS ho hI => ?_, fun S f H hS hI j hj oj hoj => ?_, fun S f H hS hI => ?_⟩
  · have hndo : noDefer o = true := Array.all_eq_true_iff_forall_mem.1 hnd _ (Array.mem_of_getElem? ho)
    have hone : opsAt ops [i] = [o] := by simp [opsAt, ho]
    have v1 := h.step S i f H hi hiS hS hI
    rw [hone] at v1
    exact stepB_mono (fun f' H' hk => hk) (one_bar (Q := Q) (Q' := thenQ (fun f' H' _ => I (i :: S) f' H') Q) (fun _ _ _ _ h => h) hndo v1)
  · have hpj := hl j hj oj hoj
    have hndj : noDefer oj = true := Array.all_eq_true_iff_forall_mem.1 hnd _ (Array.mem_of_getElem? hoj)
    have hv := lateV_mem (h.late S f H hS hI) oj (by simp only [opsAt, List.mem_filterMap]; exact ⟨j, hj, hoj⟩)
    obtain ⟨r, h1, _, h3⟩ := one_det hndj (pureOf_pu hoj hpj) hv
    refine ⟨r, h1, fun d hd => ?_⟩
    simp only [lateQ, hd] at h3
    have := h3.2
    simpa [updO, upd] using this.symm
  · simp only [bagOk, Bool.and_eq_true] at hok
    exact vx_of_vcX hnd post _ _ _ _ hok.2 hp (h.fin S f H hS hI)
theorem oneBagV_of {ops : Array Oper} {Q : AQ} {ds : List ADef} (hnd : ops.all noDefer = true) {tab : List (Nat × Oper × Nat)} {i0 : Nat} {lt0 bag lt : List Nat} {post : OPlan} {done rem : List Nat} {f : Fr} {H : List Blk} (hok : oneBagOk (puOf (pureOp hn) ops) hfreeOp ops tab i0 lt0 bag lt post done rem = true)
    (hl0 : ∀ j ∈ lt0, ∀ o, ops[j]? = some o → puOf (pureOp hn) ops j = true) (hl : ∀ j ∈ lt, ∀ o, ops[j]? = some o → puOf (pureOp hn) ops j = true) (hp : ∀ x ∈ post, ∀ j ∈ x.2, ∀ o, ops[j]? = some o → puOf (pureOp hn) ops j = true)
    (h : vcL P hn true ops (opsAt ops [i0]) (thenQ (fun f' H' _ => lateV P hn ops f' H' (opsAt ops lt0) ∧ ∃ I : List Nat → Fr → List Blk → Prop, I [] f' H' ∧ BagW P hn ops Q ds bag lt post I) Q) f H ds) : OneBagV P (puOf (pureOp hn) ops) hfreeOp ops Q ds i0 lt0 bag lt post f H := by
  simp only [oneBagOk, Bool.and_eq_true] at hok
  unfold OneBagV
  cases ho : ops[i0]? with
  | none => have := hok.1.1.2; rw [ho] at this; cases this
  | some o =>
    have hndo : noDefer o = true := Array.all_eq_true_iff_forall_mem.1 hnd _ (Array.mem_of_getElem? ho)
    have hone : opsAt ops [i0] = [o] := by simp [opsAt, ho]
    rw [hone] at h
    refine stepB_mono (fun f' H' hk => ⟨fun j hj oj hoj => ?_, ?_⟩) (one_bar (Q := Q) (Q' := thenQ (fun f' H' _ => lateV P hn ops f' H' (opsAt ops lt0) ∧ ∃ I : List Nat → Fr → List Blk → Prop, I [] f' H' ∧ BagW P hn ops Q ds bag lt post I) Q) (fun _ _ _ _ h => h) hndo h)
    · have hpj := hl0 j hj oj hoj
      have hndj : noDefer oj = true := Array.all_eq_true_iff_forall_mem.1 hnd _ (Array.mem_of_getElem? hoj)
      have hv := lateV_mem hk.1 oj (by simp only [opsAt, List.mem_filterMap]; exact ⟨j, hj, hoj⟩)
      obtain ⟨r, h1, _, h3⟩ := one_det hndj (pureOf_pu hoj hpj) hv
      refine ⟨r, h1, fun d hd => ?_⟩
      simp only [lateQ, hd] at h3
      have := h3.2
      simpa [updO, upd] using this.symm
    · obtain ⟨I, h1, h2⟩ := hk.2
      exact ⟨I, h1, bagV_of hnd hok.2 hl hp h2⟩
def bagQ (P : Program) (hn : Nat → Bool) (ops : Array Oper) (Q : AQ) (ds : List ADef) (i0 : Nat) (lt0 bag lt : List Nat) (post : OPlan) : AQ := fun x f' H' ds' => match x with
  | .normal => vcL P hn true ops (opsAt ops [i0]) (thenQ (fun f' H' _ => lateV P hn ops f' H' (opsAt ops lt0) ∧ ∃ I : List Nat → Fr → List Blk → Prop, I [] f' H' ∧ BagW P hn ops Q ds bag lt post I) Q) f' H' ds
  | x => Q x f' H' ds'
theorem awp_region_bag (hn : Nat → Bool) (pre : List Nat) (i0 : Nat) (lt0 bag lt : List Nat) (post : OPlan) {id : Nat} {ops : Array Oper} {Q : AQ} {f : Fr} {H : List Blk} {ds : List ADef} (hs : (bagAll hn n ops pre i0 lt0 bag lt post && P.follows .mixedOrders) = true)
    (h : vcXW P hn (pre.map fun i => (i, [])) ops (bagQ P hn ops Q ds i0 lt0 bag lt post) f H ds (wit _)) : AWP P n (.region id ops true) Q f H ds := by
  simp only [bagAll, Bool.and_eq_true, List.all_eq_true] at hs
  obtain ⟨⟨⟨⟨⟨⟨hs1, hs2⟩, hs3⟩, hs4⟩, hs5⟩, hs6⟩, hm⟩ := hs
  have hsm : ∀ (i : Nat) (o : Oper), ops[i]? = some o → smallO n ops o = true := fun i o ho => hs1 o (by simpa using Array.mem_of_getElem? ho)
  have lt' : ∀ j ∈ lt, ∀ o, ops[j]? = some o → puOf (pureOp hn) ops j = true := fun j hj o ho => by
    simp only [lateB, List.all_eq_true] at hs4
    have := hs4 (0, lt) (by simp) j hj
    rw [ho] at this; exact this
  have lt0' : ∀ j ∈ lt0, ∀ o, ops[j]? = some o → puOf (pureOp hn) ops j = true := fun j hj o ho => by
    simp only [lateB, List.all_eq_true] at hs4
    have := hs4 (0, lt0) (by simp) j hj
    rw [ho] at this; exact this
  have hltE : ∀ (j : Nat) (o : Oper), ops[j]? = some o → ∀ e ∈ o.after, Region.binds .any e = true → e.on < j := fun j o ho e he hb => by
    have := hs5 j (List.mem_range.2 (Array.getElem?_eq_some_iff.1 ho).1)
    rw [ho] at this
    simp only [List.all_eq_true] at this
    have := this e (by simpa using he)
    simpa [hb] using this
  have hv := vp_of_vcX (P := P) (hn := hn) (Q := Q) (ds := ds) hs6 (kb := oneBagOk (puOf (pureOp hn) ops) hfreeOp ops (mkTab ops [] (List.range ops.size)) i0 lt0 bag lt post) (kv := fun f' H' => OneBagV P (puOf (pureOp hn) ops) hfreeOp ops Q ds i0 lt0 bag lt post f' H')
    (kv' := fun f' H' => vcL P hn true ops (opsAt ops [i0]) (thenQ (fun f' H' _ => lateV P hn ops f' H' (opsAt ops lt0) ∧ ∃ I : List Nat → Fr → List Blk → Prop, I [] f' H' ∧ BagW P hn ops Q ds bag lt post I) Q) f' H' ds) pre [] (List.range ops.size) f H hs2 (fun done rem f H hb h => oneBagV_of hs6 hb lt0' lt' (fun x hx j hj o ho => by
      simp only [lateB, List.all_eq_true] at hs3
      have := hs3 x hx j hj
      rw [ho] at this; exact this) h) h
  intro ro hro B w0 cx0 cx a h1 h2 h3 h4 h5
  subst h3
  refine wpIn_region_any hm ?_
  refine aa_sound (P := P) (pu := puOf (pureOp hn) ops) (Q := Q) (B := B) (w0 := w0) (cx0 := cx0) (ro := ro) (fun i o ho hs => by have := hro hs; simp only [noDefC, List.all_eq_true] at this; exact this o (by simpa using Array.mem_of_getElem? ho)) hsm ops.size (Array.replicate ops.size false) f cx.drew a ?_ (hrel_drew h1) (h2.trans (le_drew cx)) (h4.mono (le_drew cx)) (h5.mono (le_drew cx))
  refine vp_sound (hf := hfreeOp) (mkTab_ok (List.range ops.size) [] (fun d hd => (by cases hd))) hsm hltE (kb := oneBagOk (puOf (pureOp hn) ops) hfreeOp ops (mkTab ops [] (List.range ops.size)) i0 lt0 bag lt post) (kv := fun f' H' => OneBagV P (puOf (pureOp hn) ops) hfreeOp ops Q ds i0 lt0 bag lt post f' H')
    (fun fuel done rem L listed f fa H hb hi hfu hV => oneBag_sound (mkTab_ok (List.range ops.size) [] (fun d hd => (by cases hd))) hsm hltE fuel done rem L listed f fa H hb hi hfu hV)
    pre ops.size [] (List.range ops.size) [] _ f f cx.H hs2 ⟨by simp, fun i hi => ?_, fun i hi => by simpa using hi, fun i o ho hl => ?_, fun i hi => by simp [hi], fun i o ho hn => ?_, List.nodup_nil, List.nodup_range, fun j hj => (by cases hj), fun t _ => rfl⟩ (by simp) hv
  · simp [Array.getD_eq_getD_getElem?, Array.getElem?_replicate, hi]
  · exfalso
    have hlt : i < ops.size := (Array.getElem?_eq_some_iff.1 ho).1
    simp [Array.getD_eq_getD_getElem?, Array.getElem?_replicate, hlt] at hl
  · exfalso
    exact hn (by simpa using (Array.getElem?_eq_some_iff.1 ho).1)
@[simp ↓] theorem QW_bagN (l : List Oper) (Q : AQ) (ds0 : List ADef) (i0 : Nat) (lt0 bag lt : List Nat) (post : OPlan) (f : Fr) (H : List Blk) (ds : List ADef) (w : Wit (bagQ P hn l.toArray Q ds0 i0 lt0 bag lt post, AX.normal, f, H, ds)) : QW (bagQ P hn l.toArray Q ds0 i0 lt0 bag lt post) .normal f H ds w =
    vcDW P hn (opsL l [i0]) l.toArray (thenQ (fun f' H' _ => lateW P hn (opsL l lt0) l.toArray f' H' (wit _) ∧ ∃ I : List Nat → Fr → List Blk → Prop, I [] f' H' ∧ BagW P hn l.toArray Q ds0 bag lt post I) Q) f H ds0 (wit _) := by
  show vcL P hn true l.toArray (opsAt l.toArray [i0]) _ f H ds0 = _
  simp only [vcDW, lateW, opsAt, opsL_eq, List.getElem?_toArray]
theorem bagW_mk {l : List Oper} {Q : AQ} {ds : List ADef} {bag lt : List Nat} {post : OPlan} {I : List Nat → Fr → List Blk → Prop}
    (step : ∀ S i f H, i ∈ bag → i ∉ S → S ⊆ bag → I S f H → vcDW P hn (opsL l [i]) l.toArray (thenQ (fun f' H' _ => I (i :: S) f' H') Q) f H ds (wit _))
    (late : ∀ S f H, S ⊆ bag → I S f H → lateW P hn (opsL l lt) l.toArray f H (wit _))
    (fin : ∀ S f H, (∀ x, x ∈ S ↔ x ∈ bag) → I S f H → vcXW P hn post l.toArray Q f H ds (wit _)) : BagW P hn l.toArray Q ds bag lt post I := by
  refine ⟨fun S i f H h1 h2 h3 h4 => ?_, fun S f H h1 h2 => ?_, fin⟩
  · have := step S i f H h1 h2 h3 h4
    simpa only [vcDW, opsAt, opsL_eq, List.getElem?_toArray] using this
  · have := late S f H h1 h2
    simpa only [lateW, opsAt, opsL_eq, List.getElem?_toArray] using this
end
end Go.Mu
namespace Go.Proofs
open Go.Mu
def mod6 (b : Int) : Nat := (b % 64).toNat
theorem mod6_lt (b : Int) : mod6 b < 64 := by unfold mod6; omega
theorem and63 (x : Nat) : x &&& 63 = x % 64 := Nat.and_two_pow_sub_one_eq_mod (n := 6) x
theorem sh6 (b : Int) : IntKind.u64.wrap ↑((b % 2 ^ IntKind.u64.bits).toNat &&& 63 % 2 ^ IntKind.u64.bits) = (mod6 b : Int) := by
  have h1 : (63 : Nat) % 2 ^ IntKind.u64.bits = 63 := by decide
  rw [h1, and63]
  have h2 : (b % 2 ^ IntKind.u64.bits).toNat % 64 = mod6 b := by
    unfold mod6
    have : (2 : Int) ^ IntKind.u64.bits = 18446744073709551616 := by decide
    rw [this]; omega
  rw [h2]
  have := mod6_lt b
  rw [IntKind.wrap]
  have h3 : IntKind.u64.signed = false := rfl
  simp only [h3]
  have : (2 : Int) ^ IntKind.u64.bits = 18446744073709551616 := by decide
  simp [this]
  omega
theorem sh6n (b : Int) : ¬ ((mod6 b : Int) < 0) := by omega
theorem sh6m (b : Int) : min (mod6 b) IntKind.u64.bits = mod6 b := by have := mod6_lt b; exact Nat.min_eq_left (by show mod6 b ≤ 64; omega)
theorem sh6i (b : Int) : min (mod6 b) IntKind.i64.bits = mod6 b := by have := mod6_lt b; exact Nat.min_eq_left (by show mod6 b ≤ 64; omega)
abbrev wU (n : Int) : Int := IntKind.u64.wrap n
def notU (a : Int) : Int := IntKind.u64.wrap ((BitVec.ofInt IntKind.u64.bits (if IntKind.u64.signed then -1 else IntKind.u64.max) ^^^ BitVec.ofInt IntKind.u64.bits a).toNat)
theorem unx (a : Int) : unA .xor (U a) = some (U (notU a)) := rfl
def andU (a b : Int) : Int := IntKind.u64.wrap ↑((a % 2 ^ IntKind.u64.bits).toNat &&& (b % 2 ^ IntKind.u64.bits).toNat)
def orU (a b : Int) : Int := IntKind.u64.wrap ↑((a % 2 ^ IntKind.u64.bits).toNat ||| (b % 2 ^ IntKind.u64.bits).toNat)
def xorU (a b : Int) : Int := IntKind.u64.wrap ↑((a % 2 ^ IntKind.u64.bits).toNat ^^^ (b % 2 ^ IntKind.u64.bits).toNat)
def shlU (a : Int) (n : Nat) : Int := IntKind.u64.wrap (a * 2 ^ n)
def shrU (a : Int) (n : Nat) : Int := a.fdiv (2 ^ n)
def sarU (a : Int) (n : Nat) : Int := IntKind.u64.wrap ((IntKind.i64.wrap a).fdiv (2 ^ n))
def rotU (a k : Int) : Int := orU (shlU a (mod6 (IntKind.u64.wrap k))) (shrU a (64 - mod6 (IntKind.u64.wrap k)))
def ev2 (op a b : Int) : Int :=
  if op = 6 then wU (a + b) else if op = 7 then wU (a - b) else if op = 8 then wU (a * b) else if op = 9 then andU a b else if op = 10 then orU a b else if op = 11 then xorU a b
  else if op = 12 then shlU a (mod6 b) else if op = 13 then shrU a (mod6 b) else if op = 14 then sarU a (mod6 b) else if op = 15 then rotU a (mod6 b) else if op = 16 then rotU a (-(mod6 b : Int))
  else if op = 17 then (if a = b then 1 else 0) else if op = 18 then (if a = b then 0 else 1) else if op = 19 then (if a < b then 1 else 0) else (if a ≤ b then 1 else 0)
def evalE (op : Int) : List Int → Int
  | [a] => if op = 4 then notU a else wU (0 - a)
  | [a, b] => ev2 op a b
  | [a, b, c] => if a = 0 then c else b
  | _ => 0
theorem rot_ok (a k : Int) (H : List Blk) : ACalls Tryz.prog 162 [U a, I k] H (fun e H' => e = .ret (U (rotU a k)) ∧ H' = H) := by
  refine acalls_tidy (acalls_of_vc (hn := fun _ => false) (od := fun _ => none) Tryz.func162 rfl (by kernel_rfl) ?_)
  obtain ⟨b, hb⟩ : ∃ b, b = IntKind.u64.wrap k := ⟨_, rfl⟩
  have hm := mod6_lt b
  have e1 : IntKind.u64.wrap (64 - (mod6 b : Int)) = ((64 - mod6 b : Nat) : Int) := by
    rw [IntKind.wrap]
    have h3 : IntKind.u64.signed = false := rfl
    have : (2 : Int) ^ IntKind.u64.bits = 18446744073709551616 := by decide
    simp only [h3, this]
    simp
    omega
  have e2 : ¬ (((64 - mod6 b : Nat) : Int) < 0) := by omega
  have e3 : min (64 - mod6 b) IntKind.u64.bits = 64 - mod6 b := Nat.min_eq_left (by show 64 - mod6 b ≤ 64; omega)
  have e4 : rotU a k = orU (shlU a (mod6 b)) (shrU a (64 - mod6 b)) := by rw [rotU, hb]
  rw [e4]
  clear e4
  simp -dsimp [← hb, sh6, sh6n, sh6m, e1, e2, e3]
  exact tidy_now rfl ⟨rfl, rfl⟩
theorem ev5_ok (a b : Int) (H : List Blk) : ACalls Tryz.prog 152 [U a, U b] H (fun e H' => e = .ret (U (wU (a + b))) ∧ H' = H) := by
  refine acalls_tidy (acalls_of_vc (hn := fun _ => false) (od := fun _ => none) Tryz.func152 rfl (by kernel_rfl) ?_)
  simp -dsimp
  exact tidy_now rfl ⟨rfl, rfl⟩
theorem ev6_ok (a b : Int) (H : List Blk) : ACalls Tryz.prog 153 [U a, U b] H (fun e H' => e = .ret (U (wU (a - b))) ∧ H' = H) := by
  refine acalls_tidy (acalls_of_vc (hn := fun _ => false) (od := fun _ => none) Tryz.func153 rfl (by kernel_rfl) ?_)
  simp -dsimp
  exact tidy_now rfl ⟨rfl, rfl⟩
theorem ev7_ok (a b : Int) (H : List Blk) : ACalls Tryz.prog 154 [U a, U b] H (fun e H' => e = .ret (U (wU (a * b))) ∧ H' = H) := by
  refine acalls_tidy (acalls_of_vc (hn := fun _ => false) (od := fun _ => none) Tryz.func154 rfl (by kernel_rfl) ?_)
  simp -dsimp
  exact tidy_now rfl ⟨rfl, rfl⟩
theorem ev8_ok (a b : Int) (H : List Blk) : ACalls Tryz.prog 155 [U a, U b] H (fun e H' => e = .ret (U (andU a b)) ∧ H' = H) := by
  refine acalls_tidy (acalls_of_vc (hn := fun _ => false) (od := fun _ => none) Tryz.func155 rfl (by kernel_rfl) ?_)
  simp -dsimp
  exact tidy_now rfl ⟨rfl, rfl⟩
theorem ev9_ok (a b : Int) (H : List Blk) : ACalls Tryz.prog 156 [U a, U b] H (fun e H' => e = .ret (U (orU a b)) ∧ H' = H) := by
  refine acalls_tidy (acalls_of_vc (hn := fun _ => false) (od := fun _ => none) Tryz.func156 rfl (by kernel_rfl) ?_)
  simp -dsimp
  exact tidy_now rfl ⟨rfl, rfl⟩
theorem ev10_ok (a b : Int) (H : List Blk) : ACalls Tryz.prog 157 [U a, U b] H (fun e H' => e = .ret (U (xorU a b)) ∧ H' = H) := by
  refine acalls_tidy (acalls_of_vc (hn := fun _ => false) (od := fun _ => none) Tryz.func157 rfl (by kernel_rfl) ?_)
  simp -dsimp
  exact tidy_now rfl ⟨rfl, rfl⟩
theorem ev11_ok (a b : Int) (H : List Blk) : ACalls Tryz.prog 158 [U a, U b] H (fun e H' => e = .ret (U (shlU a (mod6 b))) ∧ H' = H) := by
  refine acalls_tidy (acalls_of_vc (hn := fun _ => false) (od := fun _ => none) Tryz.func158 rfl (by kernel_rfl) ?_)
  simp -dsimp [sh6, sh6n, sh6m]
  exact tidy_now rfl ⟨rfl, rfl⟩
theorem ev12_ok (a b : Int) (H : List Blk) : ACalls Tryz.prog 159 [U a, U b] H (fun e H' => e = .ret (U (shrU a (mod6 b))) ∧ H' = H) := by
  refine acalls_tidy (acalls_of_vc (hn := fun _ => false) (od := fun _ => none) Tryz.func159 rfl (by kernel_rfl) ?_)
  simp -dsimp [sh6, sh6n, sh6m]
  exact tidy_now rfl ⟨rfl, rfl⟩
theorem ev13_ok (a b : Int) (H : List Blk) : ACalls Tryz.prog 160 [U a, U b] H (fun e H' => e = .ret (U (sarU a (mod6 b))) ∧ H' = H) := by
  refine acalls_tidy (acalls_of_vc (hn := fun _ => false) (od := fun _ => none) Tryz.func160 rfl (by kernel_rfl) ?_)
  simp -dsimp [sh6, sh6n, sh6i]
  exact tidy_now rfl ⟨rfl, rfl⟩
theorem ev14_ok (a b : Int) (H : List Blk) : ACalls Tryz.prog 161 [U a, U b] H (fun e H' => e = .ret (U (rotU a (mod6 b : Int))) ∧ H' = H) := by
  refine acalls_tidy (acalls_of_vc (hn := fun _ => false) (od := fun _ => none) Tryz.func161 rfl (by kernel_rfl) ?_)
  have hm := mod6_lt b
  have e1 : IntKind.i64.wrap (mod6 b : Int) = (mod6 b : Int) := wrapI (by omega) (by omega)
  have e2 : IntKind.i64.wrap (0 - (mod6 b : Int)) = -(mod6 b : Int) := by rw [wrapI (by omega) (by omega)]; omega
  have e3 : IntKind.i64.wrap (-(mod6 b : Int)) = -(mod6 b : Int) := wrapI (by omega) (by omega)
  have c := fun k H => rot_ok a k H
  simp -dsimp [sh6, e1, e2, e3]
  refine acallsW_det (c _ _) ?_
  simp -dsimp
  exact tidy_now rfl ⟨rfl, rfl⟩
theorem ev15_ok (a b : Int) (H : List Blk) : ACalls Tryz.prog 163 [U a, U b] H (fun e H' => e = .ret (U (rotU a (-(mod6 b : Int)))) ∧ H' = H) := by
  refine acalls_tidy (acalls_of_vc (hn := fun _ => false) (od := fun _ => none) Tryz.func163 rfl (by kernel_rfl) ?_)
  have hm := mod6_lt b
  have e1 : IntKind.i64.wrap (mod6 b : Int) = (mod6 b : Int) := wrapI (by omega) (by omega)
  have e2 : IntKind.i64.wrap (0 - (mod6 b : Int)) = -(mod6 b : Int) := by rw [wrapI (by omega) (by omega)]; omega
  have e3 : IntKind.i64.wrap (-(mod6 b : Int)) = -(mod6 b : Int) := wrapI (by omega) (by omega)
  have c := fun k H => rot_ok a k H
  simp -dsimp [sh6, e1, e2, e3]
  refine acallsW_det (c _ _) ?_
  simp -dsimp
  exact tidy_now rfl ⟨rfl, rfl⟩
theorem ev16_ok (a b : Int) (H : List Blk) : ACalls Tryz.prog 164 [U a, U b] H (fun e H' => e = .ret (Bo (a == b)) ∧ H' = H) := by
  refine acalls_tidy (acalls_of_vc (hn := fun _ => false) (od := fun _ => none) Tryz.func164 rfl (by kernel_rfl) ?_)
  simp -dsimp
  exact tidy_now rfl ⟨rfl, rfl⟩
theorem ev17_ok (a b : Int) (H : List Blk) : ACalls Tryz.prog 165 [U a, U b] H (fun e H' => e = .ret (Bo (a != b)) ∧ H' = H) := by
  refine acalls_tidy (acalls_of_vc (hn := fun _ => false) (od := fun _ => none) Tryz.func165 rfl (by kernel_rfl) ?_)
  simp -dsimp
  exact tidy_now rfl ⟨rfl, rfl⟩
theorem ev18_ok (a b : Int) (H : List Blk) : ACalls Tryz.prog 166 [U a, U b] H (fun e H' => e = .ret (Bo (decide (a < b))) ∧ H' = H) := by
  refine acalls_tidy (acalls_of_vc (hn := fun _ => false) (od := fun _ => none) Tryz.func166 rfl (by kernel_rfl) ?_)
  simp -dsimp
  exact tidy_now rfl ⟨rfl, rfl⟩
theorem ev19_ok (a b : Int) (H : List Blk) : ACalls Tryz.prog 167 [U a, U b] H (fun e H' => e = .ret (Bo (decide (a ≤ b))) ∧ H' = H) := by
  refine acalls_tidy (acalls_of_vc (hn := fun _ => false) (od := fun _ => none) Tryz.func167 rfl (by kernel_rfl) ?_)
  simp -dsimp
  exact tidy_now rfl ⟨rfl, rfl⟩
theorem ev3_ok (a : Int) (l : List Int) (H : List Blk) : ACalls Tryz.prog 150 [.vs 1 ((a :: l).map fun x => [U x])] H (fun e H' => e = .ret (U (notU a)) ∧ H' = H) := by
  refine acalls_tidy (acalls_of_vc (hn := fun _ => false) (od := fun _ => none) Tryz.func150 rfl (by kernel_rfl) ?_)
  have hu := unx a
  simp -dsimp [hu]
  exact tidy_now rfl ⟨rfl, rfl⟩
theorem ev4_ok (a : Int) (l : List Int) (H : List Blk) : ACalls Tryz.prog 151 [.vs 1 ((a :: l).map fun x => [U x])] H (fun e H' => e = .ret (U (wU (0 - a))) ∧ H' = H) := by
  refine acalls_tidy (acalls_of_vc (hn := fun _ => false) (od := fun _ => none) Tryz.func151 rfl (by kernel_rfl) ?_)
  simp -dsimp
  exact tidy_now rfl ⟨by simp [wU], rfl⟩
theorem ev20_ok (a b c : Int) (l : List Int) (H : List Blk) : ACalls Tryz.prog 168 [.vs 1 ((a :: b :: c :: l).map fun x => [U x])] H (fun e H' => e = .ret (U (if a = 0 then c else b)) ∧ H' = H) := by
  refine acalls_tidy (acalls_of_vc (hn := fun _ => false) (od := fun _ => none) Tryz.func168 rfl (by kernel_rfl) ?_)
  simp -dsimp
  refine condVW_introNE (fun h h1 h2 => ?_) (fun h => ?_)
  · simp -dsimp
    exact tidy_now rfl ⟨by rw [if_neg h], rfl⟩
  · simp -dsimp
    exact tidy_now rfl ⟨by rw [if_pos h], rfl⟩
theorem two1_ok (g : FuncId) (hok : okFn Tryz.prog g = true) (a b r : Int) (l : List Int) (hg : ∀ H, ACalls Tryz.prog g [U a, U b] H (fun e H' => e = .ret (U r) ∧ H' = H)) (H : List Blk) :
    ACalls Tryz.prog 147 [.vs 1 ((a :: b :: l).map fun x => [U x]), .vp [.fn (.func g) [] []]] H (fun e H' => e = .ret (U r) ∧ H' = H) := by
  refine acalls_tidy (acalls_of_vc (hn := fun _ => false) (od := fun _ => none) Tryz.func147 rfl (by kernel_rfl) ?_)
  simp -dsimp [hok]
  refine callDW_intro (hg _) ?_
  simp -dsimp
  exact tidy_now rfl ⟨rfl, rfl⟩
theorem two1is_ok (a b r : Int) (l : List Int) (v : AV) (hg : ∀ H, ACalls Tryz.prog 149 [U a, U b, .vp [v]] H (fun e H' => e = .ret (U r) ∧ H' = H)) (H : List Blk) :
    ACalls Tryz.prog 147 [.vs 1 ((a :: b :: l).map fun x => [U x]), .vp [.fn (.func 149) [] [.vp [v]]]] H (fun e H' => e = .ret (U r) ∧ H' = H) := by
  have hok : okFn Tryz.prog 149 = true := by kernel_rfl
  refine acalls_tidy (acalls_of_vc (hn := fun _ => false) (od := fun _ => none) Tryz.func147 rfl (by kernel_rfl) ?_)
  simp -dsimp [hok]
  refine callDW_intro (hg _) ?_
  simp -dsimp
  exact tidy_now rfl ⟨rfl, rfl⟩
theorem is1_ok (g : FuncId) (hok : okFn Tryz.prog g = true) (a b : Int) (q : Bool) (hg : ∀ H, ACalls Tryz.prog g [U a, U b] H (fun e H' => e = .ret (Bo q) ∧ H' = H)) (H : List Blk) :
    ACalls Tryz.prog 149 [U a, U b, .vp [.fn (.func g) [] []]] H (fun e H' => e = .ret (U (if q = true then 1 else 0)) ∧ H' = H) := by
  refine acalls_tidy (acalls_of_vc (hn := fun _ => false) (od := fun _ => none) Tryz.func149 rfl (by kernel_rfl) ?_)
  simp -dsimp [hok]
  refine acallsW_det (hg _) ?_
  cases q
  · simp -dsimp
    exact tidy_now rfl ⟨rfl, rfl⟩
  · simp -dsimp
    exact tidy_now rfl ⟨rfl, rfl⟩
theorem two_ok (g : FuncId) (cs : List AV) (hv : cs.all AV.frzB = true) (H : List Blk) : ACalls Tryz.prog 146 [.fn (.func g) [] cs] H (fun e H' => e = .ret (.fn (.func 147) [] [.vp [.fn (.func g) [] cs]]) ∧ H' = H) := by
  have h0 : ACalls Tryz.prog 146 [.fn (.func g) [] cs] H (fun e H' => e = .ret (.fn (.func 147) [] [.bp H.length 0]) ∧ H' = H ++ [.box 226 [.fn (.func g) [] cs]]) := by
    refine acalls_of_vc (hn := fun _ => false) (od := fun _ => none) Tryz.func146 rfl (by kernel_rfl) ?_
    simp -dsimp
  have h1 := acalls_boxed (by simp [AV.frzF, hv]) (by simp [AV.bfz, bfzL, AV.under, underL]) h0
  simpa [AV.bfz, bfzL] using h1
theorem is_ok (g : FuncId) (b : Nat) (H : List Blk) (hb : H[b]? = some (.box 227 [.fn (.func 146) [] []])) :
    ACalls Tryz.prog 148 [.fn (.func g) [] [], .bp b 0] H (fun e H' => e = .ret (.fn (.func 147) [] [.vp [.fn (.func 149) [] [.vp [.fn (.func g) [] []]]]]) ∧ H' = H) := by
  have hok : okFn Tryz.prog 146 = true := by kernel_rfl
  refine acalls_under fun hu _ => acalls_tidy (acalls_of_vc (hn := fun _ => false) (od := fun _ => none) Tryz.func148 rfl (by kernel_rfl) ?_)
  have hbL := fun L => get_app_old hb L
  simp -dsimp [hbL, hok]
  have hz : [AV.fn (.func g) [] []].all AV.frzF = true := by simp [AV.frzF]
  have hk : (H ++ [Blk.box 228 [.fn (.func g) [] []]])[H.length]? = some (.box 228 [.fn (.func g) [] []]) := by simp
  have hbf : bfzL H.length [AV.fn (.func g) [] []] [AV.fn (.func 149) [] [.bp H.length 0]] = [AV.fn (.func 149) [] [.vp [.fn (.func g) [] []]]] := by simp [bfzL, AV.bfz]
  have ct := fun H => two_ok 149 [.vp [.fn (.func g) [] []]] (by simp [AV.frzB]) H
  rw [← hbf] at ct
  refine acallsW_of (acalls_bgive H.length _ _ hk hz (ct _)) ?_
  rintro r H' ⟨rfl, rfl⟩
  have e1 : bfzH H.length [AV.fn (.func g) [] []] (H ++ [Blk.box 228 [.fn (.func g) [] []]]) = H ++ [.gone] := by
    rw [bfzH, List.map_append, List.map_congr_left (g := id) (fun b hb => blk_bfz_under (Nat.le_refl _) _ b (List.all_eq_true.1 hu b hb)), List.map_id]
    simp
  rw [e1, hbf]
  simp -dsimp
  exact tidy_same (by simp [AV.under, underL]) ⟨rfl, rfl⟩
end Go.Proofs
namespace Go.Proofs
open Go.Mu
def intMW (l : List (Int × AV)) : List (Value × AV) := l.map fun x => (.int .i64 x.1, x.2)
theorem mset_consW (n m : Int) (x v : AV) (rest : List (Value × AV)) : mset (.int .i64) (.int .i64 n) x ((.int .i64 m, v) :: rest) = if n = m then some ((.int .i64 n, x) :: rest) else (mset (.int .i64) (.int .i64 n) x rest).map ((.int .i64 m, v) :: ·) := by
  rw [mset]
  have : Instr.sameNow (.int .i64) (.int .i64 n) (.int .i64 m) = some (decide (n = m)) := by
    simp [Instr.sameNow, Instr.sameBits]; rfl
  rw [this]
  by_cases h : n = m
  · simp [h]
  · simp [h]
theorem mfind_consW (n m : Int) (v : AV) (rest : List (Value × AV)) : mfind (.int .i64) (.int .i64 n) ((.int .i64 m, v) :: rest) = if n = m then some (some v) else mfind (.int .i64) (.int .i64 n) rest := by
  rw [mfind]
  have : Instr.sameNow (.int .i64) (.int .i64 n) (.int .i64 m) = some (decide (n = m)) := by
    simp [Instr.sameNow, Instr.sameBits]; rfl
  rw [this]
  by_cases h : n = m
  · simp [h]
  · simp [h]
theorem mset_new (n : Int) (v : AV) : ∀ l : List (Int × AV), n ∉ l.map Prod.fst → mset (.int .i64) (.int .i64 n) v (intMW l) = some (intMW (l ++ [(n, v)]))
  | [], _ => rfl
  | (m, x) :: l, h => by
    simp only [List.map_cons, List.mem_cons, not_or] at h
    show mset (.int .i64) (.int .i64 n) v ((.int .i64 m, x) :: intMW l) = _
    rw [mset_consW, if_neg h.1, mset_new n v l h.2]; rfl
theorem mfind_in (n : Int) (v : AV) : ∀ l : List (Int × AV), (l.map Prod.fst).Nodup → (n, v) ∈ l → mfind (.int .i64) (.int .i64 n) (intMW l) = some (some v)
  | [], _, h => by cases h
  | (m, x) :: l, hn, h => by
    simp only [List.map_cons, List.nodup_cons] at hn
    show mfind (.int .i64) (.int .i64 n) ((.int .i64 m, x) :: intMW l) = _
    rw [mfind_consW]
    rcases List.mem_cons.1 h with h | h
    · cases h; rw [if_pos rfl]
    · have : n ≠ m := fun e => hn.1 (List.mem_map.2 ⟨(n, v), h, e⟩)
      rw [if_neg this]
      exact mfind_in n v l hn.2 h
abbrev twoFnV (g : FuncId) : AV := .fn (.func 147) [] [.vp [.fn (.func g) [] []]]
abbrev isFnV (g : FuncId) : AV := .fn (.func 147) [] [.vp [.fn (.func 149) [] [.vp [.fn (.func g) [] []]]]]
def kvO (i : Nat) : Int × AV := if i = 1 then (4, .fn (.func 150) [] []) else if i = 2 then (5, .fn (.func 151) [] []) else if i = 5 then (6, twoFnV 152) else if i = 8 then (7, twoFnV 153) else if i = 11 then (8, twoFnV 154) else if i = 14 then (9, twoFnV 155) else if i = 17 then (10, twoFnV 156) else if i = 20 then (11, twoFnV 157) else if i = 23 then (12, twoFnV 158) else if i = 26 then (13, twoFnV 159) else if i = 29 then (14, twoFnV 160) else if i = 32 then (15, twoFnV 161) else if i = 35 then (16, twoFnV 163) else if i = 38 then (17, isFnV 164) else if i = 41 then (18, isFnV 165) else if i = 44 then (19, isFnV 166) else if i = 47 then (20, isFnV 167) else (21, .fn (.func 168) [] [])
def evTab : List (Int × AV) := [(4, .fn (.func 150) [] []), (5, .fn (.func 151) [] []), (6, twoFnV 152), (7, twoFnV 153), (8, twoFnV 154), (9, twoFnV 155), (10, twoFnV 156), (11, twoFnV 157), (12, twoFnV 158), (13, twoFnV 159), (14, twoFnV 160), (15, twoFnV 161), (16, twoFnV 163), (17, isFnV 164), (18, isFnV 165), (19, isFnV 166), (20, isFnV 167), (21, .fn (.func 168) [] [])]
structure EvI (H N : List Blk) (S : List Nat) (f : Fr) (M : List Blk) : Prop where
  fr : f 1 = .bp H.length 0 ∧ f 2 = .fn (.func 148) [] [.bp H.length 0] ∧ f 4 = .hm (H.length + 1) ∧ f 5 = .fn (.func 146) [] [] ∧ f 6 = twoFnV 152 ∧ f 7 = .fn (.func 146) [] [] ∧ f 8 = twoFnV 153 ∧ f 9 = .fn (.func 146) [] [] ∧ f 10 = twoFnV 154 ∧ f 11 = .fn (.func 146) [] [] ∧ f 12 = twoFnV 155 ∧ f 13 = .fn (.func 146) [] [] ∧ f 14 = twoFnV 156 ∧ f 15 = .fn (.func 146) [] [] ∧ f 16 = twoFnV 157 ∧ f 17 = .fn (.func 146) [] [] ∧ f 18 = twoFnV 158 ∧ f 19 = .fn (.func 146) [] [] ∧ f 20 = twoFnV 159 ∧ f 21 = .fn (.func 146) [] [] ∧ f 22 = twoFnV 160 ∧ f 23 = .fn (.func 146) [] [] ∧ f 24 = twoFnV 161 ∧ f 25 = .fn (.func 146) [] [] ∧ f 26 = twoFnV 163 ∧ f 27 = .fn (.func 148) [] [.bp H.length 0] ∧ f 28 = isFnV 164 ∧ f 29 = .fn (.func 148) [] [.bp H.length 0] ∧ f 30 = isFnV 165 ∧ f 31 = .fn (.func 148) [] [.bp H.length 0] ∧ f 32 = isFnV 166 ∧ f 33 = .fn (.func 148) [] [.bp H.length 0] ∧ f 34 = isFnV 167
  mem : ∃ l, M = N ++ [.map (intMW l)] ∧ (∀ x, x ∈ l ↔ ∃ i ∈ S, kvO i = x) ∧ (l.map Prod.fst).Nodup
def bagO : List Nat := [1, 2, 5, 8, 11, 14, 17, 20, 23, 26, 29, 32, 35, 38, 41, 44, 47, 48]
theorem kv_key : ∀ i ∈ bagO, ∀ j ∈ bagO, (kvO i).1 = (kvO j).1 → i = j := by decide
theorem evals_ok (H : List Blk) : ACalls Tryz.prog 97 [] H (fun e M => e = .ret (.hm (H.length + 1)) ∧ ∃ l, M = H ++ [.box 227 [.fn (.func 146) [] []], .map (intMW l)] ∧ (l.map Prod.fst).Nodup ∧ ∀ x ∈ evTab, x ∈ l) := by
  refine acalls_of_awp Tryz.func97 rfl (by kernel_rfl) ?_
  have hok1 : okFn Tryz.prog 146 = true := by kernel_rfl
  have hok2 : okFn Tryz.prog 148 = true := by kernel_rfl
  obtain ⟨b1, hb1⟩ : ∃ b1, b1 = Blk.box 227 [.fn (.func 146) [] []] := ⟨_, rfl⟩
  refine awp_cut (fun _ => false) (fun _ => none) (fun f M => M = H ++ [] ∧ True) (by kernel_rfl) ?_ ?_
  · simp -dsimp
  rintro g _ ⟨rfl, _⟩
  refine awp_cut (fun _ => false) (fun _ => none) (fun f M' => M' = H ++ [b1] ∧ f 1 = .bp H.length 0) (by kernel_rfl) ?_ ?_
  · rw [hb1]
    simp -dsimp
  clear g
  rintro g _ ⟨rfl, g1⟩
  refine awp_cut (fun _ => false) (fun _ => none) (fun f M' => M' = H ++ [b1] ∧ f 1 = .bp H.length 0 ∧ f 2 = .fn (.func 148) [] [.bp H.length 0]) (by kernel_rfl) ?_ ?_
  · simp -dsimp [g1]
  clear g g1
  rintro g _ ⟨rfl, g1, g2⟩
  refine awp_cutA (fun f M' => f 0 = .hm (H.length + 1) ∧ ∃ l, M' = H ++ [b1, .map (intMW l)] ∧ (l.map Prod.fst).Nodup ∧ ∀ x ∈ evTab, x ∈ l) ?_ ?_
  rotate_left
  · clear g g1 g2
    rintro g _ ⟨g0, l, rfl, hl, hx⟩
    refine awp_all (fun _ => false) (fun _ => none) (by kernel_rfl) ?_
    simp -dsimp [g0]
    exact ⟨l, ⟨by rw [hb1], rfl⟩, hl, fun a b h => hx (a, b) h⟩
  refine awp_region_bag (fun _ => false) [3, 4, 6, 7, 9, 10, 12, 13, 15, 16, 18, 19, 21, 22, 24, 25, 27, 28, 30, 31, 33, 34, 36, 37, 39, 40, 42, 43, 45, 46] 0 [3, 4, 6, 7, 9, 10, 12, 13, 15, 16, 18, 19, 21, 22, 24, 25, 27, 28, 30, 31, 33, 34, 36, 37, 39, 40, 42, 43, 45, 46] [1, 2, 5, 8, 11, 14, 17, 20, 23, 26, 29, 32, 35, 38, 41, 44, 47, 48] [3, 4, 6, 7, 9, 10, 12, 13, 15, 16, 18, 19, 21, 22, 24, 25, 27, 28, 30, 31, 33, 34, 36, 37, 39, 40, 42, 43, 45, 46] [(49, []), (50, [])] (by kernel_rfl) ?_
  obtain ⟨N, hN⟩ : ∃ N, N = H ++ [b1] := ⟨_, rfl⟩
  have hb0 : N[H.length]? = some (.box 227 [.fn (.func 146) [] []]) := by rw [hN, hb1]; simp
  have hbL : ∀ X, (N ++ [X])[H.length]? = some (.box 227 [.fn (.func 146) [] []]) := fun X => get_app_old hb0 _
  have hNl : N.length = H.length + 1 := by rw [hN]; simp
  have hNa : ∀ X, N ++ [X] = H ++ [b1, X] := fun X => by rw [hN]; simp
  rw [← hN]
  clear hN
  have ct := fun g M => two_ok g [] rfl M
  have ci := fun g => is_ok g H.length N hb0
  have ciL := fun g X => is_ok g H.length (N ++ [X]) (hbL X)
  simp -dsimp [g1, g2, hb0, hok1, hok2]
  repeat (refine callDW_intro (ct _ _) ?_; simp -dsimp [g1, g2, hb0, hok1, hok2])
  repeat (refine callDW_intro (ci _) ?_; simp -dsimp [g1, g2, hb0, hok1, hok2])
  refine ⟨?_, EvI H N, ⟨?_, [], rfl, by simp, by simp⟩, bagW_mk ?_ ?_ ?_⟩
  · simp -dsimp [g1, g2, hbL, hok1, hok2]
    repeat' first
      | with_reducible refine And.intro ?_ ?_
      | (refine callDW_intro (ct _ _) ?_; simp -dsimp [g1, g2, hbL, hok1, hok2])
      | (refine callDW_intro (ciL _ _) ?_; simp -dsimp [g1, g2, hbL, hok1, hok2])
  · simp -dsimp [g1, g2, hNl]
  · intro S i f M hi hiS hS hI
    obtain ⟨hf, l, rfl, hl, hnd⟩ := hI
    have hfresh : ∀ j, (kvO j) = kvO i → i ∈ bagO → (kvO i).1 ∉ l.map Prod.fst := by
      intro j _ hi h
      obtain ⟨x, hx, hxe⟩ := List.mem_map.1 h
      obtain ⟨k, hk, rfl⟩ := (hl x).1 hx
      exact hiS (kv_key k (hS hk) i hi hxe ▸ hk)
    have hget : (N ++ [Blk.map (intMW l)])[H.length + 1]? = some (.map (intMW l)) := by rw [← hNl]; simp
    have hset : ∀ X, (N ++ [Blk.map (intMW l)]).set (H.length + 1) X = N ++ [X] := by intro X; rw [← hNl]; simp
    have hms : ∀ n v, kvO i = (n, v) → mset (.int .i64) (.int .i64 n) v (intMW l) = some (intMW (l ++ [(n, v)])) := by
      intro n v e
      have := hfresh i rfl hi
      rw [e] at this
      exact mset_new n v l this
    have hfin : ∀ n v, kvO i = (n, v) → EvI H N (i :: S) f (N ++ [.map (intMW (l ++ [(n, v)]))]) := by
      intro n v e
      have := hfresh i rfl hi
      rw [e] at this
      refine ⟨hf, _, rfl, fun x => ?_, ?_⟩
      · rw [List.mem_append, hl x, List.mem_singleton]
        constructor
        · rintro (⟨j, hj, hx⟩ | rfl)
          · exact ⟨j, List.mem_cons_of_mem _ hj, hx⟩
          · exact ⟨i, List.mem_cons_self, e⟩
        · rintro ⟨j, hj, hx⟩
          rcases List.mem_cons.1 hj with rfl | hj
          · right; rw [← hx, e]
          · left; exact ⟨j, hj, hx⟩
      · rw [List.map_append, List.nodup_append]
        refine ⟨hnd, by simp, ?_⟩
        intro a ha b hb hab
        simp only [List.map_cons, List.map_nil, List.mem_singleton] at hb
        subst hb; subst hab
        exact this ha
    simp only [bagO, List.mem_cons, List.not_mem_nil, or_false] at hi
    rcases hi with rfl | rfl | rfl | rfl | rfl | rfl | rfl | rfl | rfl | rfl | rfl | rfl | rfl | rfl | rfl | rfl | rfl | rfl
    all_goals
      have hms := hms _ _ rfl
      have hfin := hfin _ _ rfl
      simp -dsimp [hf, hget, hset, hms]
      exact hfin
  · intro S f M hS hI
    obtain ⟨hf, l, rfl, hl, hnd⟩ := hI
    simp -dsimp [hf, hbL, hok1, hok2]
    repeat' first
      | with_reducible refine And.intro ?_ ?_
      | (refine callDW_intro (ct _ _) ?_; simp -dsimp [hf, hbL, hok1, hok2])
      | (refine callDW_intro (ciL _ _) ?_; simp -dsimp [hf, hbL, hok1, hok2])
  · intro S f M hS hI
    obtain ⟨hf, l, rfl, hl, hnd⟩ := hI
    simp -dsimp [hf]
    refine ⟨l, hNa _, hnd, fun a b h => ?_⟩
    have h2 : ∀ x ∈ evTab, ∃ i ∈ bagO, kvO i = x := by
      intro x hx
      simp only [evTab, List.mem_cons, List.not_mem_nil, or_false] at hx
      rcases hx with rfl | rfl | rfl | rfl | rfl | rfl | rfl | rfl | rfl | rfl | rfl | rfl | rfl | rfl | rfl | rfl | rfl | rfl
      · exact ⟨1, by decide, rfl⟩
      · exact ⟨2, by decide, rfl⟩
      · exact ⟨5, by decide, rfl⟩
      · exact ⟨8, by decide, rfl⟩
      · exact ⟨11, by decide, rfl⟩
      · exact ⟨14, by decide, rfl⟩
      · exact ⟨17, by decide, rfl⟩
      · exact ⟨20, by decide, rfl⟩
      · exact ⟨23, by decide, rfl⟩
      · exact ⟨26, by decide, rfl⟩
      · exact ⟨29, by decide, rfl⟩
      · exact ⟨32, by decide, rfl⟩
      · exact ⟨35, by decide, rfl⟩
      · exact ⟨38, by decide, rfl⟩
      · exact ⟨41, by decide, rfl⟩
      · exact ⟨44, by decide, rfl⟩
      · exact ⟨47, by decide, rfl⟩
      · exact ⟨48, by decide, rfl⟩
    obtain ⟨i, hi, hx⟩ := h2 _ h
    exact (hl _).2 ⟨i, (hS i).2 hi, hx⟩
end Go.Proofs
namespace Go.Proofs
open Go.Mu
def wArgN (op : Int) : Int := if op = 4 ∨ op = 5 then 1 else if 6 ≤ op ∧ op ≤ 20 then 2 else if op = 21 then 3 else -1
theorem wargs_ok (op : Int) (H : List Blk) : ACalls Tryz.prog 54 [I op] H (fun e H' => e = .ret (I (wArgN op)) ∧ H' = H) := by
  refine acalls_tidy (acalls_of_vc (hn := fun _ => false) (od := fun _ => none) Tryz.func54 rfl (by kernel_rfl) ?_)
  simp -dsimp
  repeat' first
    | exact tidy_now rfl ⟨congrArg (fun n : Int => AE.ret (I n)) (by unfold wArgN; first | (subst_vars; rfl) | ((repeat' split) <;> omega)), rfl⟩
    | (refine guardVW_introFE (fun h => ?_) (fun h h1 h2 => ?_) <;> simp -dsimp [*])
    | (refine guardVW_introTD (fun h => ?_) (fun h => ?_) <;> simp -dsimp [*])
    | (refine condVW_introE (fun h => ?_) (fun h h1 h2 => ?_) <;> simp -dsimp [*])
    | (refine condVW_introD (fun h => ?_) (fun h => ?_) <;> simp -dsimp [*])
theorem ev_row (op : Int) (l : List Int) (h : wArgN op = l.length) : ∃ g cs, (op, AV.fn (.func g) [] cs) ∈ evTab ∧ okFn Tryz.prog g = true ∧ ∀ H, ACalls Tryz.prog g (.vs 1 (l.map fun x => [U x]) :: cs) H (fun e H' => e = .ret (U (evalE op l)) ∧ H' = H) := by
  match l, h with
  | [], h => exfalso; simp only [wArgN] at h; split at h <;> (try split at h) <;> (try split at h) <;> simp at h
  | [a], h =>
    have : op = 4 ∨ op = 5 := by
      simp only [wArgN] at h
      split at h
      · assumption
      · split at h <;> (try split at h) <;> simp at h
    rcases this with rfl | rfl
    · exact ⟨150, [], by simp [evTab], by kernel_rfl, fun H => ev3_ok a [] H⟩
    · exact ⟨151, [], by simp [evTab], by kernel_rfl, fun H => ev4_ok a [] H⟩
  | [a, b], h =>
    have : 6 ≤ op ∧ op ≤ 20 := by
      simp only [wArgN] at h
      split at h
      · simp at h
      · split at h
        · assumption
        · split at h <;> simp at h
    have : op = 6 ∨ op = 7 ∨ op = 8 ∨ op = 9 ∨ op = 10 ∨ op = 11 ∨ op = 12 ∨ op = 13 ∨ op = 14 ∨ op = 15 ∨ op = 16 ∨ op = 17 ∨ op = 18 ∨ op = 19 ∨ op = 20 := by omega
    have hk1 : okFn Tryz.prog 147 = true := by kernel_rfl
    rcases this with rfl | rfl | rfl | rfl | rfl | rfl | rfl | rfl | rfl | rfl | rfl | rfl | rfl | rfl | rfl
    · exact ⟨147, _, by simp [evTab], hk1, fun H => two1_ok 152 (by kernel_rfl) a b _ [] (ev5_ok a b) H⟩
    · exact ⟨147, _, by simp [evTab], hk1, fun H => two1_ok 153 (by kernel_rfl) a b _ [] (ev6_ok a b) H⟩
    · exact ⟨147, _, by simp [evTab], hk1, fun H => two1_ok 154 (by kernel_rfl) a b _ [] (ev7_ok a b) H⟩
    · exact ⟨147, _, by simp [evTab], hk1, fun H => two1_ok 155 (by kernel_rfl) a b _ [] (ev8_ok a b) H⟩
    · exact ⟨147, _, by simp [evTab], hk1, fun H => two1_ok 156 (by kernel_rfl) a b _ [] (ev9_ok a b) H⟩
    · exact ⟨147, _, by simp [evTab], hk1, fun H => two1_ok 157 (by kernel_rfl) a b _ [] (ev10_ok a b) H⟩
    · exact ⟨147, _, by simp [evTab], hk1, fun H => two1_ok 158 (by kernel_rfl) a b _ [] (ev11_ok a b) H⟩
    · exact ⟨147, _, by simp [evTab], hk1, fun H => two1_ok 159 (by kernel_rfl) a b _ [] (ev12_ok a b) H⟩
    · exact ⟨147, _, by simp [evTab], hk1, fun H => two1_ok 160 (by kernel_rfl) a b _ [] (ev13_ok a b) H⟩
    · exact ⟨147, _, by simp [evTab], hk1, fun H => two1_ok 161 (by kernel_rfl) a b _ [] (ev14_ok a b) H⟩
    · exact ⟨147, _, by simp [evTab], hk1, fun H => two1_ok 163 (by kernel_rfl) a b _ [] (ev15_ok a b) H⟩
    · refine ⟨147, _, by simp [evTab]; rfl, hk1, fun H => two1is_ok a b _ [] _ (fun H => ?_) H⟩
      have := is1_ok 164 (by kernel_rfl) a b _ (ev16_ok a b) H
      simpa [evalE, ev2, bne] using this
    · refine ⟨147, _, by simp [evTab]; rfl, hk1, fun H => two1is_ok a b _ [] _ (fun H => ?_) H⟩
      have := is1_ok 165 (by kernel_rfl) a b _ (ev17_ok a b) H
      simpa [evalE, ev2, bne] using this
    · refine ⟨147, _, by simp [evTab]; rfl, hk1, fun H => two1is_ok a b _ [] _ (fun H => ?_) H⟩
      have := is1_ok 166 (by kernel_rfl) a b _ (ev18_ok a b) H
      simpa [evalE, ev2, bne] using this
    · refine ⟨147, _, by simp [evTab]; rfl, hk1, fun H => two1is_ok a b _ [] _ (fun H => ?_) H⟩
      have := is1_ok 167 (by kernel_rfl) a b _ (ev19_ok a b) H
      simpa [evalE, ev2, bne] using this
  | [a, b, c], h =>
    have : op = 21 := by
      simp only [wArgN] at h
      split at h
      · simp at h
      · split at h
        · simp at h
        · split at h
          · assumption
          · simp at h
    subst this
    exact ⟨168, [], by simp [evTab], by kernel_rfl, fun H => ev20_ok a b c [] H⟩
  | a :: b :: c :: d :: l, h =>
    exfalso
    simp only [wArgN, List.length_cons] at h
    split at h <;> (try split at h) <;> (try split at h) <;> omega
def evalR (op : Int) (l : List Int) : List AV := if wArgN op = l.length then [U (evalE op l), I 0] else [U 0, I 2]
theorem weval_ok (op : Int) (l : List Int) (x : AV) (hx : Gv 1 (l.map fun x => [U x]) x) (H : List Blk) : ACalls Tryz.prog 55 [I op, x] H (fun e H' => e = .ret (.tup (evalR op l)) ∧ H' = H) := by
  refine acalls_tidy (acalls_of_vc (hn := fun _ => false) (od := fun _ => none) Tryz.func55 rfl (by kernel_rfl) ?_)
  have ca := fun H => wargs_ok op H
  by_cases h : wArgN op = l.length
  · have e : evalR op l = [U (evalE op l), I 0] := if_pos h
    rw [e]
    have hne : l ≠ [] := by
      rintro rfl
      simp only [wArgN] at h; split at h <;> (try split at h) <;> (try split at h) <;> simp at h
    rcases hx with ⟨_, h0⟩ | rfl
    · exact absurd (List.map_eq_nil_iff.1 h0) hne
    have hn0 : ¬ ((l.length : Int) < 0) := by omega
    obtain ⟨g, cs, hin, hok, hg⟩ := ev_row op l h
    simp -dsimp
    refine acallsW_det (ca _) ?_
    rw [h]
    simp -dsimp [hn0]
    refine acallsW_of (evals_ok _) ?_
    rintro r M ⟨rfl, m, rfl, hnd, hx⟩
    have hget : (H ++ [Blk.box 227 [.fn (.func 146) [] []], .map (intMW m)])[H.length + 1]? = some (.map (intMW m)) := by rw [List.getElem?_append_right (by omega)]; simp
    have hf := mfind_in op _ m hnd (hx _ hin)
    simp -dsimp [hget, hf, hok]
    refine acallsW_det (hg _) ?_
    simp -dsimp
    exact tidy_same rfl ⟨rfl, rfl⟩
  · have e : evalR op l = [U 0, I 2] := if_neg h
    rw [e]
    rcases hx with ⟨rfl, h0⟩ | rfl
    · have h0 := List.map_eq_nil_iff.1 h0
      subst h0
      have hb : (wArgN op != 0) = true := by rw [bne_iff_ne]; exact h
      simp -dsimp
      refine acallsW_det (ca _) ?_
      simp -dsimp
      refine guardVW_introFD (fun hn => ?_) (fun hn => ?_)
      · simp -dsimp [hn]
        exact tidy_now rfl ⟨rfl, rfl⟩
      · simp -dsimp [hn, hb]
        exact tidy_now rfl ⟨rfl, rfl⟩
    · have hb : (wArgN op != (l.length : Int)) = true := by rw [bne_iff_ne]; exact h
      simp -dsimp
      refine acallsW_det (ca _) ?_
      simp -dsimp
      refine guardVW_introFD (fun hn => ?_) (fun hn => ?_)
      · simp -dsimp [hn]
        exact tidy_now rfl ⟨rfl, rfl⟩
      · simp -dsimp [hn, hb]
        exact tidy_now rfl ⟨rfl, rfl⟩
end Go.Proofs
namespace Go.Proofs
open Go.Mu
mutual
def Ex.safe : Ex → Bool
  | .mk o _ _ a => exsSafe a && o != 3
def exsSafe : List Ex → Bool
  | [] => true
  | e :: l => e.safe && exsSafe l
end
theorem Ex.safe_eq (e : Ex) : e.safe = (exsSafe e.args && e.op != 3) := by cases e; rw [Ex.safe]; rfl
theorem exsSafe_all (l : List Ex) : exsSafe l = l.all Ex.safe := by
  induction l with
  | nil => simp [exsSafe]
  | cons e l ih => rw [exsSafe, ih]; rfl
abbrev KEnv := ByteArray → Option Int
def cEx (n : Int) : Ex := .mk 1 n ByteArray.empty []
def pickX (os : List Ex) (r : Ex) : Ex := match os with
  | [c, a, b] => if c.op = 1 then (if c.word = 0 then (if a.safe = true then b else r) else (if b.safe = true then a else r)) else r
  | _ => r
def foldTop (K : KEnv) (o w : Int) (n : ByteArray) (os : List Ex) : Ex :=
  match (if o = 2 then K n else none) with
  | some x => cEx x
  | none =>
    if wArgN o = os.length then
      if (os.all fun x => x.op == 1) = true then cEx (evalE o (os.map Ex.word))
      else if o = 21 then pickX os (.mk o w n os)
      else .mk o w n os
    else .mk o w n os
mutual
def Ex.fold (K : KEnv) : Ex → Ex
  | .mk o w n a => foldTop K o w n (exsFold K a)
def exsFold (K : KEnv) : List Ex → List Ex
  | [] => []
  | e :: l => e.fold K :: exsFold K l
end
theorem Ex.fold_eq (K : KEnv) (e : Ex) : e.fold K = foldTop K e.op e.word e.name (exsFold K e.args) := by cases e; rw [Ex.fold]; rfl
theorem exsFold_map (K : KEnv) (l : List Ex) : exsFold K l = l.map (Ex.fold K) := by
  induction l with
  | nil => simp [exsFold]
  | cons e l ih => rw [exsFold, ih]; rfl
theorem pick_cases (os : List Ex) (r : Ex) : pickX os r = r ∨ (pickX os r ∈ os) := by
  unfold pickX
  split
  · split
    · split <;> split <;> simp
    · exact .inl rfl
  · exact .inl rfl
theorem top_cases (K : KEnv) (o w : Int) (n : ByteArray) (os : List Ex) : (∃ x, foldTop K o w n os = cEx x) ∨ foldTop K o w n os ∈ os ∨ foldTop K o w n os = .mk o w n os := by
  unfold foldTop
  split
  · exact .inl ⟨_, rfl⟩
  · split
    · split
      · exact .inl ⟨_, rfl⟩
      · split
        · rcases pick_cases os (.mk o w n os) with h | h
          · exact .inr (.inr h)
          · exact .inr (.inl h)
        · exact .inr (.inr rfl)
    · exact .inr (.inr rfl)
theorem exs_mem_count {l : List Ex} {e : Ex} (h : e ∈ l) : e.count ≤ exsCount l := by
  induction l with
  | nil => cases h
  | cons x l ih =>
    rw [exsCount]
    rcases List.mem_cons.1 h with rfl | h
    · omega
    · have := ih h; omega
theorem fold_count (K : KEnv) (m : Nat) : (∀ e : Ex, e.count ≤ m → (e.fold K).count ≤ e.count) ∧ (∀ l : List Ex, exsCount l ≤ m → exsCount (exsFold K l) ≤ exsCount l) := by
  induction m with
  | zero =>
    refine ⟨fun e h => by rw [Ex.count_eq] at h; omega, fun l hl => ?_⟩
    have := exs_len l; obtain rfl : l = [] := List.eq_nil_of_length_eq_zero (by omega); simp [exsFold]
  | succ m ih =>
    have he : ∀ e : Ex, e.count ≤ m + 1 → (e.fold K).count ≤ e.count := fun e h => by
      have hc := Ex.count_eq e
      have := ih.2 e.args (by omega)
      rw [Ex.fold_eq]
      rcases top_cases K e.op e.word e.name (exsFold K e.args) with ⟨x, h1⟩ | h1 | h1
      · rw [h1, cEx, Ex.count_eq]; simp [Ex.args, exsCount]; omega
      · have := exs_mem_count h1; omega
      · rw [h1, Ex.count]; omega
    refine ⟨he, fun l => ?_⟩
    induction l with
    | nil => intro _; simp [exsFold]
    | cons e l ihl =>
      intro h
      simp only [exsCount] at h
      rw [exsFold, exsCount, exsCount]
      have h1 := he e (by omega)
      have h2 := ihl (by rw [Ex.count_eq] at h; omega)
      omega
theorem ex_fold_count (K : KEnv) (e : Ex) : (e.fold K).count ≤ e.count := (fold_count K e.count).1 e (Nat.le_refl _)
theorem exs_fold_count (K : KEnv) (l : List Ex) : exsCount (exsFold K l) ≤ exsCount l := (fold_count K (exsCount l)).2 l (Nat.le_refl _)
mutual
def Sm.sets : Sm → List ByteArray
  | .mk k n ns _ _ _ _ _ b el => (if k = 1 ∨ k = 5 then [n] else if k = 6 then ns else []) ++ smsSets b ++ smsSets el
def smsSets : List Sm → List ByteArray
  | [] => []
  | s :: l => s.sets ++ smsSets l
end
theorem Sm.sets_eq (s : Sm) : s.sets = (if s.kind = 1 ∨ s.kind = 5 then [s.name] else if s.kind = 6 then s.names else []) ++ smsSets s.body ++ smsSets s.els := by cases s; rw [Sm.sets]; rfl
def tSame : Tm := .mk 1 [] false []
def kSet (K : KEnv) (n : ByteArray) (e : Ex) : KEnv := fun m => if m = n then (if e.op = 1 then some e.word else none) else K m
def kDel (K : KEnv) (n : ByteArray) : KEnv := fun m => if m = n then none else K m
def kLess (K : KEnv) (l : List ByteArray) : KEnv := l.foldl kDel K
theorem kLess_in (l : List ByteArray) : ∀ (K : KEnv) (m : ByteArray), m ∈ l → kLess K l m = none := by
  have h0 : ∀ (l : List ByteArray) (K : KEnv) (m : ByteArray), K m = none → kLess K l m = none := by
    intro l
    induction l with
    | nil => intro K m h; exact h
    | cons x l ih => intro K m h; exact ih (kDel K x) m (by unfold kDel; split <;> simp [h])
  induction l with
  | nil => intro K m h; cases h
  | cons x l ih =>
    intro K m h
    rcases List.mem_cons.1 h with rfl | h
    · exact h0 l _ _ (by simp [kDel])
    · exact ih (kDel K x) m h
theorem kLess_out (l : List ByteArray) : ∀ (K : KEnv) (m : ByteArray), m ∉ l → kLess K l m = K m := by
  induction l with
  | nil => intro K m _; rfl
  | cons x l ih =>
    intro K m h
    simp only [List.mem_cons, not_or] at h
    have := ih (kDel K x) m h.2
    simp only [kDel, if_neg h.1] at this
    exact this
theorem kLess_same {a b : List ByteArray} (K : KEnv) (h : ∀ x, x ∈ a ↔ x ∈ b) : kLess K a = kLess K b := by
  funext m
  by_cases hm : m ∈ a
  · rw [kLess_in a K m hm, kLess_in b K m ((h m).1 hm)]
  · rw [kLess_out a K m hm, kLess_out b K m (fun q => hm ((h m).2 q))]
def kBoth (A B : KEnv) : KEnv := fun m => if A m = B m then A m else none
abbrev FR := List Sm × List Tm × KEnv
mutual
def Sm.fold : Sm → KEnv → List Sm × Tm × KEnv
  | .mk k n ns e a l lo hi b el, K =>
    if k = 1 then ([.mk k n ns (e.fold K) a l lo hi b el], tSame, kSet K n (e.fold K))
    else if k = 2 then ([.mk k n ns (e.fold K) (a.fold K) l lo hi b el], tSame, K)
    else if k = 3 then
      if (e.fold K).op = 1 then
        if (e.fold K).word = 0 then ((smsFold el K).1, .mk 4 [] false [(smsFold el K).2.1], (smsFold el K).2.2)
        else ((smsFold b K).1, .mk 4 [] true [(smsFold b K).2.1], (smsFold b K).2.2)
      else ([.mk k n ns (e.fold K) a l lo hi (smsFold b K).1 (smsFold el K).1], .mk 3 [] false [(smsFold b K).2.1, (smsFold el K).2.1], kBoth (smsFold b K).2.2 (smsFold el K).2.2)
    else if k = 4 then ([.mk k n ns (e.fold (kLess K (smsSets b))) a l lo hi (smsFold b (kLess K (smsSets b))).1 el], .mk 5 [] false [(smsFold b (kLess K (smsSets b))).2.1], kLess K (smsSets b))
    else ([.mk k n ns e a l lo hi b el], tSame, K)
def smsFold : List Sm → KEnv → FR
  | [], K => ([], [], K)
  | s :: l, K => ((s.fold K).1 ++ (smsFold l (s.fold K).2.2).1, (s.fold K).2.1 :: (smsFold l (s.fold K).2.2).2.1, (smsFold l (s.fold K).2.2).2.2)
end
def Sm.foldE (s : Sm) (K : KEnv) : List Sm × Tm × KEnv :=
    if s.kind = 1 then ([.mk s.kind s.name s.names (s.e.fold K) s.a s.args s.low s.high s.body s.els], tSame, kSet K s.name (s.e.fold K))
    else if s.kind = 2 then ([.mk s.kind s.name s.names (s.e.fold K) (s.a.fold K) s.args s.low s.high s.body s.els], tSame, K)
    else if s.kind = 3 then
      if (s.e.fold K).op = 1 then
        if (s.e.fold K).word = 0 then ((smsFold s.els K).1, .mk 4 [] false [(smsFold s.els K).2.1], (smsFold s.els K).2.2)
        else ((smsFold s.body K).1, .mk 4 [] true [(smsFold s.body K).2.1], (smsFold s.body K).2.2)
      else ([.mk s.kind s.name s.names (s.e.fold K) s.a s.args s.low s.high (smsFold s.body K).1 (smsFold s.els K).1], .mk 3 [] false [(smsFold s.body K).2.1, (smsFold s.els K).2.1], kBoth (smsFold s.body K).2.2 (smsFold s.els K).2.2)
    else if s.kind = 4 then ([.mk s.kind s.name s.names (s.e.fold (kLess K (smsSets s.body))) s.a s.args s.low s.high (smsFold s.body (kLess K (smsSets s.body))).1 s.els], .mk 5 [] false [(smsFold s.body (kLess K (smsSets s.body))).2.1], kLess K (smsSets s.body))
    else ([s], tSame, K)
theorem Sm.fold_eq (s : Sm) (K : KEnv) : s.fold K = s.foldE K := by cases s; rw [Sm.fold]; rfl
theorem smsCount_app (a b : List Sm) : smsCount (a ++ b) = smsCount a + smsCount b := by
  induction a with
  | nil => simp [smsCount]
  | cons s a ih => rw [List.cons_append, smsCount, ih, smsCount]; omega
theorem sms_fold_count (m : Nat) : (∀ (s : Sm) (K : KEnv), s.count ≤ m → smsCount (s.fold K).1 ≤ s.count) ∧ (∀ (l : List Sm) (K : KEnv), smsCount l ≤ m → smsCount (smsFold l K).1 ≤ smsCount l) := by
  induction m with
  | zero =>
    refine ⟨fun s K h => by rw [Sm.count_eq] at h; omega, fun l K hl => ?_⟩
    have := sms_len l; obtain rfl : l = [] := List.eq_nil_of_length_eq_zero (by omega); simp [smsFold]
  | succ m ih =>
    have hs : ∀ (s : Sm) (K : KEnv), s.count ≤ m + 1 → smsCount (s.fold K).1 ≤ s.count := fun s K h => by
      have hc := Sm.count_eq s
      have hb := fun K => ih.2 s.body K (by omega)
      have he := fun K => ih.2 s.els K (by omega)
      have h1 := fun K => ex_fold_count K s.e
      have h2 := fun K => ex_fold_count K s.a
      have hb0 := hb K
      have he0 := he K
      have hb1 := hb (kLess K (smsSets s.body))
      have h10 := h1 K
      have h11 := h1 (kLess K (smsSets s.body))
      have h20 := h2 K
      rw [Sm.fold_eq, Sm.foldE]
      split
      · simp only [smsCount, Sm.count]; omega
      · split
        · simp only [smsCount, Sm.count]; omega
        · split
          · split
            · split
              · simp only; omega
              · simp only; omega
            · simp only [smsCount, Sm.count]; omega
          · split
            · simp only [smsCount, Sm.count]; omega
            · simp only [smsCount]; omega
    refine ⟨hs, fun l => ?_⟩
    induction l with
    | nil => intro K _; simp [smsFold]
    | cons s l ihl =>
      intro K h
      simp only [smsCount] at h
      rw [smsFold, smsCount]
      simp only [smsCount_app]
      have h1 := hs s K (by omega)
      have h2 := ihl (s.fold K).2.2 (by rw [Sm.count_eq] at h; omega)
      omega
theorem fold_cnt (l : List Sm) (K : KEnv) : smsCount (smsFold l K).1 ≤ smsCount l := (sms_fold_count _).2 l K (Nat.le_refl _)
theorem fold_terms (l : List Sm) (K : KEnv) : (smsFold l K).2.1.length = l.length := by
  induction l generalizing K with
  | nil => simp [smsFold]
  | cons s l ih => rw [smsFold]; simp [ih]
end Go.Proofs
namespace Go.Proofs
open Go.Mu
theorem exf_indexF (l : List Ex) (p : Ex → Bool) (g : FuncId) (cap : List AV) (hok : okFn Tryz.prog g = true) (hl : l.length ≤ 2^40) (H : List Blk) (hg : ∀ x ∈ l, ACalls Tryz.prog g (.agg [I x.op, U x.word, St x.name, Ex.sl x.args] :: cap) H (fun e H' => e = .ret (Bo (p x)) ∧ H' = H)) :
    ACalls Tryz.prog 98 [.vs 4 (l.map fun x => [I x.op, U x.word, St x.name, Ex.sl x.args]), .fn (.func g) [] cap] H (fun e H' => e = .ret (I (idxP p l 0)) ∧ H' = H) := by
  refine acalls_tidy (acalls_of_vc (hn := fun _ => false) (od := fun _ => none) Tryz.func98 rfl (by kernel_rfl) ?_)
  simp -dsimp
  refine loop_rule (hn := fun _ => false) (od := fun _ => none) (fun (i : Nat) f H' => H' = H ∧ f 0 = .vs 4 (l.map fun x => [I x.op, U x.word, St x.name, Ex.sl x.args]) ∧ f 1 = .fn (.func g) [] cap ∧ f 7 = I l.length ∧ f 8 = I i ∧ i ≤ l.length ∧ idxP p (l.drop i) i = idxP p l 0) (fun i => l.length - i) (by kernel_rfl) 0 (by simp) ?_
  rintro i f H' ⟨rfl, h0, h1, h7, h8, hi, hinv⟩
  simp -dsimp [h0, h1, h7, h8]
  refine condVW_introD (fun hlt => ?_) (fun hlt => ?_)
  · rw [drop_cons hlt, idxP] at hinv
    have hx := hg l[i] (List.getElem_mem hlt)
    try simp only [Vr.cells, Fc.cells] at hx
    simp -dsimp [h0, h1, h7, h8, List.getElem?_eq_getElem, hlt, hok]
    refine acallsW_det hx ?_
    simp -dsimp
    refine condVW_intro (fun hp => ?_) (fun hp => ?_)
    · simp -dsimp
      rw [if_pos hp] at hinv
      exact tidy_now rfl ⟨by rw [hinv], rfl⟩
    · simp -dsimp [h0, h1, h7, h8]
      rw [if_neg (by simp [hp])] at hinv
      exact ⟨i + 1, by omega, wrapS (by omega), by omega, by simpa using hinv⟩
  · simp -dsimp
    rw [drop_end hlt, idxP] at hinv
    exact tidy_now rfl ⟨by rw [hinv], rfl⟩
theorem exf_containsF (l : List Ex) (p : Ex → Bool) (g : FuncId) (cap : List AV) (hok : okFn Tryz.prog g = true) (hl : l.length ≤ 2^40) (H : List Blk) (hg : ∀ x ∈ l, ACalls Tryz.prog g (.agg [I x.op, U x.word, St x.name, Ex.sl x.args] :: cap) H (fun e H' => e = .ret (Bo (p x)) ∧ H' = H)) :
    ACalls Tryz.prog 56 [.vs 4 (l.map fun x => [I x.op, U x.word, St x.name, Ex.sl x.args]), .fn (.func g) [] cap] H (fun e H' => e = .ret (Bo (l.any p)) ∧ H' = H) := by
  refine acalls_tidy (acalls_of_vc (hn := fun _ => false) (od := fun _ => none) Tryz.func56 rfl (by kernel_rfl) ?_)
  simp -dsimp
  refine acallsW_det (exf_indexF l p g cap hok hl _ hg) ?_
  simp -dsimp
  exact tidy_now rfl ⟨by rw [idxP_any _ _ _ (Int.le_refl 0)], rfl⟩
theorem ex_sl_eq (l : List Ex) : Ex.sl l = .vs 4 (l.map fun x => [I x.op, U x.word, St x.name, Ex.sl x.args]) := by
  show AV.vs 4 _ = _
  rw [show (fun x : Ex => [I x.op, U x.word, St x.name, Ex.sl x.args]) = Ex.cells from funext fun x => (Ex.cells_eq x).symm]
theorem exsSafe_any (l : List Ex) : (l.any fun x => !x.safe) = !exsSafe l := by
  rw [exsSafe_all]
  induction l with
  | nil => rfl
  | cons e l ih => rw [List.any_cons, List.all_cons, ih]; cases e.safe <;> simp
theorem safe_ok (m : Nat) : ∀ (e : Ex), e.count < m → e.count ≤ 2^36 → ∀ H, ACalls Tryz.prog 28 [.agg e.cells] H (fun x H' => x = .ret (Bo e.safe) ∧ H' = H) := by
  induction m with
  | zero => intro e h; omega
  | succ m ih =>
    intro e hm hc H
    have hcc := Ex.count_eq e
    have hl := exs_len e.args
    have c1 : ∀ x ∈ e.args, ∀ H, ACalls Tryz.prog 57 [.agg x.cells] H (fun r H' => r = .ret (Bo (!x.safe)) ∧ H' = H) := by
      intro x hx H
      have hxc := exs_mem_count hx
      refine acalls_tidy (acalls_of_vc (hn := fun _ => false) (od := fun _ => none) Tryz.func57 rfl (by kernel_rfl) ?_)
      have ci := fun H => ih x (by omega) (by omega) H
      simp only [Ex.cells_eq] at ci
      simp -dsimp
      refine acallsW_det (ci _) ?_
      simp -dsimp
      exact tidy_same rfl ⟨rfl, rfl⟩
    refine acalls_tidy (acalls_of_vc (hn := fun _ => false) (od := fun _ => none) Tryz.func28 rfl (by kernel_rfl) ?_)
    have cc := fun H => exf_containsF e.args (fun x => !x.safe) 57 [] (by kernel_rfl) (by omega) H (fun x hx => by have := c1 x hx H; rwa [Ex.cells_eq] at this)
    rw [exsSafe_any, ← ex_sl_eq] at cc
    rw [Ex.safe_eq]
    obtain ⟨b, hb⟩ : ∃ b, b = exsSafe e.args := ⟨_, rfl⟩
    rw [← hb] at cc ⊢
    simp -dsimp
    by_cases h3 : e.op = 3
    · have h3b : (e.op != 3) = false := by rw [h3]; rfl
      simp -dsimp [h3b]
      exact tidy_same rfl ⟨by simp, rfl⟩
    · have h3b : (e.op != 3) = true := by rw [bne_iff_ne]; exact h3
      simp -dsimp [h3b]
      refine acallsW_det (cc _) ?_
      simp -dsimp [h3b]
      exact tidy_same rfl ⟨by simp, rfl⟩
theorem const_ok (n : Int) (H : List Blk) : ACalls Tryz.prog 53 [U n] H (fun x H' => x = .ret (.agg (cEx n).cells) ∧ H' = H) := by
  refine acalls_tidy (acalls_weakE (acalls_of_vc (hn := fun _ => false) (od := fun _ => none) Tryz.func53 rfl (by kernel_rfl) ?_))
  simp -dsimp
  refine tidy_weak (r' := .agg [I 1, U n, St ByteArray.empty, Ex.sl []]) (.aggL (.cons (.refl _) (.cons (.refl _) (.cons (.refl _) (.cons (.nil 4) .nil))))) ?_
  exact tidy_same rfl ⟨rfl, rfl⟩
end Go.Proofs
namespace Go.Proofs
open Go.Mu
abbrev kA (n : Int) : AV := U n
def KnAt (K : KEnv) (H : List Blk) (kx : AV) : Prop := ∃ t : List (ByteArray × Int), (∀ L, mapEs (H ++ L) kx = some (strM kA t)) ∧ ∀ n, alook n t = K n
theorem KnAt.app {K : KEnv} {H : List Blk} {kx : AV} (h : KnAt K H kx) (L : List Blk) : KnAt K (H ++ L) kx := by
  obtain ⟨t, h1, h2⟩ := h
  exact ⟨t, fun L' => by rw [List.append_assoc]; exact h1 _, h2⟩
def pickT : FT := .fork [0, 1, 2, 3, 4, 5, 6, 7]
  (.alt 8 [0, 1, 2, 3, 4, 5, 6, 7] (.lin [(9, [0, 1, 2, 3, 4, 5, 6, 7]), (10, [4, 5, 6, 7]), (11, [])])
  (.alt 9 [0, 1, 2, 3, 4, 5, 6, 7] (.lin [(8, [0, 1, 2, 3, 4, 5, 6, 7]), (10, [4, 5, 6, 7]), (11, [])]) .none))
abbrev exB (l : List Ex) : Blk := ownB 73 4 (l.map Ex.cells)
abbrev exS (k : Nat) (l : List Ex) : AV := ownS k (l.map Ex.cells)
abbrev woB (l : List Int) : Blk := ownB 48 1 (l.map fun x => [U x])
abbrev woS (k : Nat) (l : List Int) : AV := ownS k (l.map fun x => [U x])
def wordsC (l : List Ex) : List Int := (l.filter fun x => x.op == 1).map Ex.word
theorem wordsC_len (l : List Ex) : (wordsC l).length = l.length ↔ (l.all fun x => x.op == 1) = true := by
  unfold wordsC
  rw [List.length_map]
  induction l with
  | nil => simp
  | cons x l ih =>
    have hle := List.length_filter_le (fun x : Ex => x.op == 1) l
    rw [List.filter_cons, List.all_cons]
    by_cases h : (x.op == 1) = true
    · rw [if_pos h, List.length_cons, List.length_cons, h, Bool.true_and, ← ih]; omega
    · rw [if_neg h, List.length_cons, Bool.and_eq_true]
      constructor
      · intro h2; omega
      · intro h2; exact absurd h2.1 h
theorem wordsC_all {l : List Ex} (h : (l.all fun x => x.op == 1) = true) : wordsC l = l.map Ex.word := by
  unfold wordsC
  rw [List.filter_eq_self.2 (fun x hx => List.all_eq_true.1 h x hx)]
theorem wo_frzB (l : List Int) : (l.map fun x => [U x]).flatten.all AV.frzB = true := map_frzB _ (fun x => by simp [AV.frzB]) l
theorem fexpr_ok (K : KEnv) (m : Nat) : ∀ (e : Ex), e.count < m → e.count ≤ 2^36 → ∀ (H : List Blk) (kx : AV), KnAt K H kx → ACalls Tryz.prog 25 [.agg e.cells, kx] H (fun x H' => x = .ret (.agg (e.fold K).cells) ∧ H' = H) := by
  induction m with
  | zero => intro e h; omega
  | succ m ih =>
    intro e hm hc H kx hkn
    refine acalls_under fun hu _ => acalls_weakE (acalls_tidy (acalls_spare 2 (acalls_of_awp Tryz.func25 rfl (by kernel_rfl) ?_)))
    have hcc := Ex.count_eq e
    have hal := exs_len e.args
    obtain ⟨E, hE⟩ : ∃ E, E = e.fold K := ⟨_, rfl⟩
    rw [← hE]
    rw [Ex.fold_eq] at hE
    obtain ⟨o, w, n, a, rfl⟩ : ∃ o w n a, e = .mk o w n a := ⟨e.op, e.word, e.name, e.args, by cases e; rfl⟩
    simp only [Ex.cells_eq]
    simp only [Ex.op, Ex.word, Ex.name, Ex.args] at hE hal hcc ⊢
    obtain ⟨bE, hbE⟩ : ∃ bE, bE = Blk.box 73 [I o, U w, St n, Ex.sl a] := ⟨_, rfl⟩
    obtain ⟨bZ, hbZ⟩ : ∃ bZ, bZ = Blk.box 73 [I 0, U 0, St ByteArray.empty, nilS] := ⟨_, rfl⟩
    obtain ⟨M, hM⟩ : ∃ M : List Int → List Ex → List Blk → List Blk, ∀ ws os R, M ws os R = H ++ woB ws :: exB os :: bE :: bZ :: .box 73 [I o, U w, St n, exS (H.length + 1) os] :: R := ⟨_, fun _ _ _ => rfl⟩
    have hMa : ∀ ws os R X, M ws os R ++ X = M ws os (R ++ X) := fun ws os R X => by rw [hM, hM]; simp
    have hMl : ∀ ws os R, (M ws os R).length = H.length + 5 + R.length := fun ws os R => by rw [hM]; simp; omega
    have m0 : ∀ ws os R, (M ws os R)[H.length]? = some (woB ws) := fun ws os R => by rw [hM]; simp
    have m1 : ∀ ws os R, (M ws os R)[H.length + 1]? = some (exB os) := fun ws os R => by rw [hM]; simp
    have m2 : ∀ ws os R, (M ws os R)[H.length + 2]? = some (.box 73 [I o, U w, St n, Ex.sl a]) := fun ws os R => by rw [hM, ← hbE]; simp
    have m4 : ∀ ws os R, (M ws os R)[H.length + 4]? = some (.box 73 [I o, U w, St n, exS (H.length + 1) os]) := fun ws os R => by rw [hM]; simp
    have ms1 : ∀ ws os R os', ((M ws os R).set (H.length + 1) (exB os')).set (H.length + 4) (.box 73 [I o, U w, St n, exS (H.length + 1) os']) = M ws os' R := fun ws os R os' => by rw [hM, hM]; simp
    have mg1 : ∀ ws os R os', ((M ws os R).set (H.length + 1) (exB os'))[H.length + 4]? = some (.box 73 [I o, U w, St n, exS (H.length + 1) os]) := fun ws os R os' => by rw [List.getElem?_set_ne (by omega)]; exact m4 _ _ _
    have ms0 : ∀ ws os R ws', (M ws os R).set H.length (woB ws') = M ws' os R := fun ws os R ws' => by rw [hM, hM]; simp
    refine awp_cut (fun _ => false) (fun _ => none) (fun f H' => H' = H ++ [Blk.pend, Blk.pend, bE, bZ] ∧ f 1 = kx ∧ f 2 = .bp (H.length + 2) 0 ∧ f 4 = .bp (H.length + 3) 0) (by kernel_rfl) ?_ ?_
    · rw [hbE, hbZ]
      simp -dsimp
    rintro g _ ⟨rfl, g1, g2, g4⟩
    have h2 : (H ++ [Blk.pend, Blk.pend, bE, bZ])[H.length + 2]? = some (.box 73 [I o, U w, St n, Ex.sl a]) := by rw [← hbE]; simp
    obtain ⟨V, hV⟩ : ∃ V, V = H ++ [Blk.pend, Blk.pend, bE, bZ] := ⟨_, rfl⟩
    rw [← hV] at h2 ⊢
    refine awp_cut (fun _ => false) (fun _ => none) (fun f H' => H' = V ++ [.box 73 [I o, U w, St n, nilS]] ∧ f 1 = kx ∧ f 2 = .bp (H.length + 2) 0 ∧ f 4 = .bp (H.length + 3) 0 ∧ f 5 = .bp V.length 0) (by kernel_rfl) ?_ ?_
    · simp -dsimp [g1, g2, g4, h2]
    have hVl : V.length = H.length + 4 := by rw [hV]; simp
    have hVM : V ++ [.box 73 [I o, U w, St n, nilS]] = M [] [] [] := by rw [hV, hM]; simp [ownB, ownS]
    rw [hVM, hVl]
    clear g g1 g2 g4 hV hVl hVM h2 V
    rintro g _ ⟨rfl, g1, g2, g4, g5⟩
    refine awp_cut (fun _ => false) (fun _ => none) (fun f H' => H' = M [] [] [] ∧ f 1 = kx ∧ f 2 = .bp (H.length + 2) 0 ∧ f 4 = .bp (H.length + 3) 0 ∧ f 5 = .bp (H.length + 4) 0 ∧ f 6 = nilS) (by kernel_rfl) ?_ ?_
    · simp -dsimp [g1, g2, g4, g5]
    clear g g1 g2 g4 g5
    rintro g _ ⟨rfl, g1, g2, g4, g5, g6⟩
    -- the arguments
    obtain ⟨os, hos⟩ : ∃ os, os = exsFold K a := ⟨_, rfl⟩
    have hosl : os.length = a.length := by rw [hos, exsFold_map]; simp
    have hosc : exsCount os ≤ exsCount a := by rw [hos]; exact exs_fold_count K a
    rw [← hos] at hE
    refine awp_cutA (fun f H' => (∃ R, H' = M (wordsC os) os R) ∧ f 1 = kx ∧ f 2 = .bp (H.length + 2) 0 ∧ f 4 = .bp (H.length + 3) 0 ∧ f 5 = .bp (H.length + 4) 0 ∧ f 6 = woS H.length (wordsC os)) ?_ ?_
    · refine awp_cut (fun _ => false) (fun _ => none) (fun f H' => H' = M [] [] [] ∧ f 1 = kx ∧ f 2 = .bp (H.length + 2) 0 ∧ f 4 = .bp (H.length + 3) 0 ∧ f 5 = .bp (H.length + 4) 0 ∧ f 6 = nilS ∧ f 24 = Ex.sl a ∧ f 25 = I a.length ∧ f 26 = I 0) (by kernel_rfl) ?_ ?_
      · simp -dsimp [g1, g2, g4, g5, g6, m2]
      clear g g1 g2 g4 g5 g6
      rintro g _ ⟨rfl, g1, g2, g4, g5, g6, g24, g25, g26⟩
      refine awp_block ?_
      refine awp_loopI (fun (i : Nat) f H' => (∃ R, H' = M (wordsC (os.take i)) (os.take i) R) ∧ f 1 = kx ∧ f 2 = .bp (H.length + 2) 0 ∧ f 4 = .bp (H.length + 3) 0 ∧ f 5 = .bp (H.length + 4) 0 ∧ f 6 = woS H.length (wordsC (os.take i)) ∧ f 24 = Ex.sl a ∧ f 25 = I a.length ∧ f 26 = I i ∧ i ≤ a.length) (fun i => a.length - i) 0
        ⟨⟨[], by simp [wordsC]⟩, g1, g2, g4, g5, by rw [g6]; simp [wordsC, ownS], g24, g25, g26, by omega⟩ ?_
      clear g g1 g2 g4 g5 g6 g24 g25 g26
      rintro i g _ ⟨⟨R, rfl⟩, g1, g2, g4, g5, g6, g24, g25, g26, hi⟩
      obtain ⟨pr, hpr⟩ : ∃ pr, pr = os.take i := ⟨_, rfl⟩
      have hprl : pr.length = i := by rw [hpr]; simp; omega
      rw [← hpr] at g6 ⊢
      obtain ⟨ws, hws⟩ : ∃ ws, ws = wordsC pr := ⟨_, rfl⟩
      have hwsl : ws.length ≤ i := by rw [hws, ← hprl]; unfold wordsC; rw [List.length_map]; exact List.length_filter_le _ _
      rw [← hws] at g6 ⊢
      refine awp_cut (fun _ => false) (fun _ => none) (fun f H' => H' = M ws pr R ∧ f 1 = kx ∧ f 2 = .bp (H.length + 2) 0 ∧ f 4 = .bp (H.length + 3) 0 ∧ f 5 = .bp (H.length + 4) 0 ∧ f 6 = woS H.length ws ∧ f 24 = Ex.sl a ∧ f 25 = I a.length ∧ f 26 = I i ∧ f 27 = Bo (decide ((i : Int) < a.length))) (by kernel_rfl) ?_ ?_
      · simp -dsimp [g1, g2, g4, g5, g6, g24, g25, g26]
      clear g g1 g2 g4 g5 g6 g24 g25 g26
      rintro g _ ⟨rfl, g1, g2, g4, g5, g6, g24, g25, g26, g27⟩
      refine awp_cut (fun _ => false) (fun _ => none) (fun f H' => H' = M ws pr R ∧ f 1 = kx ∧ f 2 = .bp (H.length + 2) 0 ∧ f 4 = .bp (H.length + 3) 0 ∧ f 5 = .bp (H.length + 4) 0 ∧ f 6 = woS H.length ws ∧ f 24 = Ex.sl a ∧ f 25 = I a.length ∧ f 26 = I i ∧ i < a.length) (by kernel_rfl) ?_ ?_
      · simp -dsimp [g27]
        refine condVW_introD (fun hlt => ?_) (fun hlt => ?_)
        · simp -dsimp [g1, g2, g4, g5, g6, g24, g25, g26]
          omega
        · have hall : os.take i = os := List.take_of_length_le (by omega)
          rw [hall] at hpr
          subst hpr
          simp -dsimp [g1, g2, g4, g5, g6]
          rw [hws]
          exact ⟨⟨R, rfl⟩, rfl⟩
      clear g g1 g2 g4 g5 g6 g24 g25 g26 g27
      rintro g _ ⟨rfl, g1, g2, g4, g5, g6, g24, g25, g26, hlt⟩
      have hlx : a[i]? = some a[i] := List.getElem?_eq_getElem hlt
      have hcx := exs_get hlt
      have hosi : os[i]? = some (a[i].fold K) := by rw [hos, exsFold_map, List.getElem?_map, hlx]; rfl
      have htk : os.take (i + 1) = pr ++ [a[i].fold K] := by rw [List.take_add_one, hosi, hpr]; rfl
      obtain ⟨x, hx⟩ : ∃ x, x = a[i] := ⟨_, rfl⟩
      rw [← hx] at hlx hcx htk
      clear hx hosi
      have ci := fun R => ih x (by omega) (by omega) (M ws pr R) kx (by rw [hM]; exact hkn.app _)
      obtain ⟨y, hy⟩ : ∃ y, y = x.fold K := ⟨_, rfl⟩
      rw [← hy] at ci htk
      simp only [Ex.cells_eq] at ci
      refine awp_cutA (fun f H' => (∃ R, H' = M (wordsC (os.take (i + 1))) (os.take (i + 1)) R) ∧ f 1 = kx ∧ f 2 = .bp (H.length + 2) 0 ∧ f 4 = .bp (H.length + 3) 0 ∧ f 5 = .bp (H.length + 4) 0 ∧ f 6 = woS H.length (wordsC (os.take (i + 1))) ∧ f 24 = Ex.sl a ∧ f 25 = I a.length ∧ f 26 = I i) ?_ ?_
      rotate_left
      · clear g g1 g2 g4 g5 g6 g24 g25 g26
        rintro g _ ⟨⟨R', rfl⟩, g1, g2, g4, g5, g6, g24, g25, g26⟩
        refine awp_all (fun _ => false) (fun _ => none) (by kernel_rfl) ?_
        simp -dsimp [g1, g2, g4, g5, g6, g24, g25, g26]
        exact ⟨i + 1, by omega, ⟨R', rfl⟩, rfl, wrapS (by omega), by omega⟩
      rw [htk]
      have hwt : wordsC (pr ++ [y]) = if y.op = 1 then ws ++ [y.word] else ws := by
        rw [hws]; unfold wordsC
        by_cases h : y.op = 1 <;> simp [h]
      refine awp_block ?_
      obtain ⟨V, hV⟩ : ∃ V, V = M ws pr R := ⟨_, rfl⟩
      rw [← hV]
      refine awp_cut (fun _ => false) (fun _ => none) (fun f H' => H' = V ++ [.box 73 [I x.op, U x.word, St x.name, Ex.sl x.args]] ∧ f 1 = kx ∧ f 2 = .bp (H.length + 2) 0 ∧ f 4 = .bp (H.length + 3) 0 ∧ f 5 = .bp (H.length + 4) 0 ∧ f 6 = woS H.length ws ∧ f 24 = Ex.sl a ∧ f 25 = I a.length ∧ f 26 = I i ∧ f 8 = .bp V.length 0) (by kernel_rfl) ?_ ?_
      · simp -dsimp [g1, g2, g4, g5, g6, g24, g25, g26, hlx]
      clear g g1 g2 g4 g5 g6 g24 g25 g26
      rw [hV, hMl, hMa, ← Ex.cells_eq]
      clear hV V
      rintro g _ ⟨rfl, g1, g2, g4, g5, g6, g24, g25, g26, g8⟩
      obtain ⟨bX, hbX⟩ : ∃ bX, bX = Blk.box 73 x.cells := ⟨_, rfl⟩
      have gX : ∀ ws os T, (M ws os (R ++ bX :: T))[H.length + 5 + R.length]? = some (.box 73 [I x.op, U x.word, St x.name, Ex.sl x.args]) := fun ws os T => by
        rw [hM, hbX, List.getElem?_append_right (by omega), show H.length + 5 + R.length - H.length = R.length + 1 + 1 + 1 + 1 + 1 from by omega]; simp
      rw [← hbX]
      have gX0 := gX ws pr []
      have ci' := ci (R ++ [bX])
      obtain ⟨V, hV⟩ : ∃ V, V = M ws pr (R ++ [bX]) := ⟨_, rfl⟩
      rw [← hV] at gX0 ci' ⊢
      refine awp_cut (fun _ => false) (fun _ => none) (fun f H' => H' = V ++ [.box 73 [I y.op, U y.word, St y.name, Ex.sl y.args]] ∧ f 1 = kx ∧ f 2 = .bp (H.length + 2) 0 ∧ f 4 = .bp (H.length + 3) 0 ∧ f 5 = .bp (H.length + 4) 0 ∧ f 6 = woS H.length ws ∧ f 24 = Ex.sl a ∧ f 25 = I a.length ∧ f 26 = I i ∧ f 9 = .bp V.length 0) (by kernel_rfl) ?_ ?_
      · simp -dsimp [g1, g2, g4, g5, g6, g24, g25, g26, g8, gX0]
        refine acallsW_of ci' ?_
        rintro r _ ⟨rfl, rfl⟩
        simp -dsimp [g1, g2, g4, g5, g6, g24, g25, g26]
      clear g g1 g2 g4 g5 g6 g24 g25 g26 g8
      have hVl : V.length = H.length + 6 + R.length := by rw [hV, hMl]; simp; omega
      have hVM : V ++ [.box 73 [I y.op, U y.word, St y.name, Ex.sl y.args]] = M ws pr (R ++ [bX, .box 73 y.cells]) := by rw [hV, hMa, Ex.cells_eq]; simp
      rw [hVM, hVl]
      clear hV hVl hVM gX0 ci' V
      rintro g _ ⟨rfl, g1, g2, g4, g5, g6, g24, g25, g26, g9⟩
      obtain ⟨R', hR'⟩ : ∃ R', R' = R ++ [bX, .box 73 y.cells] := ⟨_, rfl⟩
      have gY : ∀ ws os, (M ws os R')[H.length + 6 + R.length]? = some (.box 73 [I y.op, U y.word, St y.name, Ex.sl y.args]) := fun ws os => by
        rw [hM, hR', List.getElem?_append_right (by omega), show H.length + 6 + R.length - H.length = R.length + 1 + 1 + 1 + 1 + 1 + 1 from by omega]; simp
      rw [← hR']
      clear hR' gX hbX
      refine awp_cut (fun d => d == 37) (fun _ => none) (fun f H' => H' = M ws (pr ++ [y]) R' ∧ f 1 = kx ∧ f 2 = .bp (H.length + 2) 0 ∧ f 4 = .bp (H.length + 3) 0 ∧ f 5 = .bp (H.length + 4) 0 ∧ f 6 = woS H.length ws ∧ f 24 = Ex.sl a ∧ f 25 = I a.length ∧ f 26 = I i ∧ f 9 = .bp (H.length + 6 + R.length) 0) (by kernel_rfl) ?_ ?_
      · have hmp : (pr ++ [y]).map Ex.cells = pr.map Ex.cells ++ [[I y.op, U y.word, St y.name, Ex.sl y.args]] := by rw [List.map_append, ← Ex.cells_eq]; rfl
        simp -dsimp [g1, g2, g4, g5, g6, g24, g25, g26, g9, gY, m4]
        refine appendVW_own (k := H.length + 1) (es := pr.map Ex.cells) (m1 _ _ _) (by simp; omega) (by simp; omega) ?_
        rw [← hmp]
        have mg1' := mg1 ws pr R' (pr ++ [y])
        have ms1' := ms1 ws pr R' (pr ++ [y])
        obtain ⟨V, hV⟩ : ∃ V, V = (M ws pr R').set (H.length + 1) (exB (pr ++ [y])) := ⟨_, rfl⟩
        obtain ⟨sx, hsx⟩ : ∃ sx, sx = ownS (H.length + 1) ((pr ++ [y]).map Ex.cells) := ⟨_, rfl⟩
        have ms1' : V.set (H.length + 4) (.box 73 [I o, U w, St n, ownS (H.length + 1) ((pr ++ [y]).map Ex.cells)]) = M ws (pr ++ [y]) R' := by rw [hV]; exact ms1'
        rw [← hsx] at ms1'
        rw [← hV, ← hsx]
        rw [← hV] at mg1'
        have o1 : AV.one sx = true := by rw [hsx]; exact one_ownS _ _
        have o2 : avCells sx = some [sx] := by rw [hsx]; exact avCells_ownS _ _
        simp -dsimp [g1, g2, g4, g5, g6, g24, g25, g26, g9, mg1', ms1', o1, o2]
      clear g g1 g2 g4 g5 g6 g24 g25 g26 g9
      rintro g _ ⟨rfl, g1, g2, g4, g5, g6, g24, g25, g26, g9⟩
      refine awp_all (fun d => d == 46) (fun _ => none) (by kernel_rfl) ?_
      simp -dsimp [g1, g2, g4, g5, g6, g24, g25, g26, g9, gY]
      refine condVW_introE (fun h1 => ?_) (fun h1 h1a h1b => ?_)
      · rw [hwt, if_pos h1]
        simp -dsimp [g1, g2, g4, g5, g6, g24, g25, g26, g9, gY]
        refine appendVW_own (k := H.length) (es := ws.map fun x => [U x]) (m0 _ _ _) (by simp; omega) (by simp; omega) ?_
        have hmp : (ws.map fun x => [U x]) ++ [[U y.word]] = (ws ++ [y.word]).map fun x => [U x] := by simp
        rw [hmp]
        have ms0' := ms0 ws (pr ++ [y]) R' (ws ++ [y.word])
        obtain ⟨V, hV⟩ : ∃ V, V = (M ws (pr ++ [y]) R').set H.length (woB (ws ++ [y.word])) := ⟨_, rfl⟩
        obtain ⟨sx, hsx⟩ : ∃ sx, sx = ownS H.length ((ws ++ [y.word]).map fun x => [U x]) := ⟨_, rfl⟩
        rw [← hV] at ms0'
        rw [← hV, ← hsx]
        have o1 : AV.one sx = true := by rw [hsx]; exact one_ownS _ _
        simp -dsimp [g1, g2, g4, g5, g6, g24, g25, g26, g9, o1]
        exact ⟨⟨R', ms0'⟩, hsx⟩
      · rw [hwt, if_neg h1]
        simp -dsimp [g1, g2, g4, g5, g6, g24, g25, g26, g9]
        exact ⟨R', rfl⟩
    clear g g1 g2 g4 g5 g6
    rintro g _ ⟨⟨R, rfl⟩, g1, g2, g4, g5, g6⟩
    have hac : exsCount a ≤ 2^36 := by omega
    clear ms1 mg1 ms0 hcc
    obtain ⟨W, hW⟩ : ∃ W, W = wordsC os := ⟨_, rfl⟩
    rw [← hW] at g6 ⊢
    obtain ⟨N, hN⟩ : ∃ N : List Blk → List Blk, ∀ L, N L = M W os L := ⟨_, fun _ => rfl⟩
    have hNH : ∀ L, N L = H ++ (woB W :: exB os :: bE :: bZ :: .box 73 [I o, U w, St n, exS (H.length + 1) os] :: L) := fun L => by rw [hN, hM]
    have v2 : ∀ L, (N L)[H.length + 2]? = some (.box 73 [I o, U w, St n, Ex.sl a]) := fun L => by rw [hN, m2]
    have v4 : ∀ L, (N L)[H.length + 4]? = some (.box 73 [I o, U w, St n, exS (H.length + 1) os]) := fun L => by rw [hN, m4]
    have v1 : ∀ L, (N L)[H.length + 1]? = some (exB os) := fun L => by rw [hN, m1]
    have v3 : ∀ L, (N L)[H.length + 3]? = some (.box 73 [I 0, U 0, St ByteArray.empty, nilS]) := fun L => by rw [hN, hM, hbZ]; simp
    have vs3 : ∀ L X, ∃ L', (N L).set (H.length + 3) X = H ++ L' ∧ L'[1]? = some (exB os) ∧ L'[3]? = some X := fun L X => ⟨woB W :: exB os :: bE :: X :: .box 73 [I o, U w, St n, exS (H.length + 1) os] :: L, by rw [hNH]; simp, rfl, rfl⟩
    have vg3 : ∀ L X, ((N L).set (H.length + 3) X)[H.length + 3]? = some X := fun L X => by rw [List.getElem?_set_self]; rw [hNH]; simp
    have vN : ∀ L X, N L ++ X = N (L ++ X) := fun L X => by rw [hN, hN, hMa]
    have vS : ∀ L i X, (N L).set (H.length + 5 + i) X = N (L.set i X) := fun L i X => by
      rw [hNH, hNH, show H.length + 5 + i = H.length + (i + 1 + 1 + 1 + 1 + 1) from by omega]; simp
    have vI : ∀ L i, (N L)[H.length + 5 + i]? = L[i]? := fun L i => by
      rw [hNH, show H.length + 5 + i = H.length + (i + 1 + 1 + 1 + 1 + 1) from by omega]; simp
    have vL : ∀ L, (N L).length = H.length + 5 + L.length := fun L => by rw [hN, hMl]
    have hNR : M W os R = N R := by rw [hN]
    rw [hNR]
    clear hN hNR
    obtain ⟨t, ht1, ht2⟩ := hkn
    have hme : ∀ L, mapEs (N L) kx = some (strM kA t) := fun L => by rw [hNH]; exact ht1 _
    have hfi := mfind_str kA n t
    rw [ht2 n] at hfi
    have finA : ∀ (x : Ex) L, E = x → Tidy H (WeakE fun r H' => r = AE.ret (.agg [I E.op, U E.word, St E.name, Ex.sl E.args]) ∧ H' = H) (.ret (.agg [I x.op, U x.word, St x.name, Ex.sl x.args])) (H ++ L) := fun x L h => by
      rw [h]; exact tidy_same rfl (tidy_weak (.refl _) ⟨rfl, rfl⟩)
    have finO : ∀ L, E = .mk o w n os → L[1]? = some (exB os) → Tidy H (WeakE fun r H' => r = AE.ret (.agg [I E.op, U E.word, St E.name, Ex.sl E.args]) ∧ H' = H) (.ret (.agg [I o, U w, St n, exS (H.length + 1) os])) (H ++ L) := fun L h hL => by
      refine tidy_giveO (f := fun x => .agg [I o, U w, St n, x]) hu 1 4 73 (os.map Ex.cells) hL (exs_frzB os) (fun x => by simp [AV.frz, frzL]) ?_
      intro x L' hx _
      rw [h]
      refine tidy_same ?_ (tidy_weak (.aggL (.cons (.refl _) (.cons (.refl _) (.cons (.refl _) (.cons hx.weak .nil))))) ⟨rfl, rfl⟩)
      rcases hx with ⟨rfl, _⟩ | rfl <;> rfl
    refine awp_cut (fun _ => false) (fun _ => none) (fun f H' => H' = N R ∧ f 2 = .bp (H.length + 2) 0 ∧ f 4 = .bp (H.length + 3) 0 ∧ f 5 = .bp (H.length + 4) 0 ∧ f 6 = woS H.length W ∧ f 10 = U ((K n).getD 0) ∧ f 11 = Bo (K n).isSome) (by kernel_rfl) ?_ ?_
    · cases hq : K n with
      | none =>
        rw [hq] at hfi
        simp -dsimp [g1, g2, g4, g5, g6, v2, hme, hfi]
        rfl
      | some v =>
        rw [hq] at hfi
        simp -dsimp [g1, g2, g4, g5, g6, v2, hme, hfi]
    clear g g1 g2 g4 g5 g6 hme
    rintro g _ ⟨rfl, g2, g4, g5, g6, g10, g11⟩
    refine awp_cutA (fun f H' => (∃ L, H' = N L) ∧ f 4 = .bp (H.length + 3) 0 ∧ f 5 = .bp (H.length + 4) 0 ∧ E = .mk o w n os) ?_ ?_
    rotate_left
    · clear g g2 g4 g5 g6 g10 g11
      rintro g _ ⟨⟨L, rfl⟩, g4, g5, hEo⟩
      refine awp_all (fun _ => false) (fun _ => none) (by kernel_rfl) ?_
      simp -dsimp [g4, g5, v4, v3, vg3]
      obtain ⟨L', h1, h2, _⟩ := vs3 L (.box 73 [I o, U w, St n, exS (H.length + 1) os])
      rw [h1]
      exact finO L' hEo h2
    -- a number is stored, and it is over
    have cn := fun x H => const_ok x H
    simp only [Ex.cells_eq] at cn
    refine awp_block ?_
    refine awp_cut (fun _ => false) (fun _ => none) (fun f H' => H' = N R ∧ f 2 = .bp (H.length + 2) 0 ∧ f 4 = .bp (H.length + 3) 0 ∧ f 5 = .bp (H.length + 4) 0 ∧ f 6 = woS H.length W ∧ f 10 = U ((K n).getD 0) ∧ f 55 = Bo (o == 2 && (K n).isSome)) (by kernel_rfl) ?_ ?_
    · simp -dsimp [g2, g4, g5, g6, g10, g11, v2]
      refine guardVW_introTE (fun h => ?_) (fun h h1 h2 => ?_)
      · simp -dsimp [h, g2, g4, g5, g6, g10, g11, v2]
      · simp -dsimp [h, h1, g2, g4, g5, g6, g10, g11, v2]
    clear g g2 g4 g5 g6 g10 g11
    rintro g _ ⟨rfl, g2, g4, g5, g6, g10, g55⟩
    by_cases hb : o = 2 ∧ (K n).isSome = true
    · obtain ⟨ho, hs⟩ := hb
      obtain ⟨v, hv⟩ := Option.isSome_iff_exists.1 hs
      have hEc : E = cEx v := by rw [hE, foldTop, if_pos ho, hv]
      refine awp_condT (by kernel_rfl) (by show g 55 = _; rw [g55, ho, hs]; rfl) ?_
      refine awp_all (fun _ => false) (fun _ => none) (by kernel_rfl) ?_
      rw [hv] at g10
      simp only [Option.getD_some] at g10
      simp -dsimp [g4, g10]
      refine acallsW_det (cn v _) ?_
      simp -dsimp [g4, v3, vg3]
      obtain ⟨L', h1, h2, _⟩ := vs3 R (.box 73 [I (cEx v).op, U (cEx v).word, St (cEx v).name, Ex.sl (cEx v).args])
      rw [h1]
      exact finA _ L' hEc
    have hE1 : E = if wArgN o = os.length then (if (os.all fun x => x.op == 1) = true then cEx (evalE o (os.map Ex.word)) else if o = 21 then pickX os (.mk o w n os) else .mk o w n os) else .mk o w n os := by
      rw [hE, foldTop]
      have : (if o = 2 then K n else none) = none := by
        split
        · rename_i h
          cases hq : K n with
          | none => rfl
          | some v => exact absurd ⟨h, by rw [hq]; rfl⟩ hb
        · rfl
      rw [this]
    refine awp_condF (by kernel_rfl) (by
      show g 55 = _; rw [g55]
      by_cases h2 : o = 2
      · have : (K n).isSome = false := by cases hq : (K n).isSome; rfl; exact absurd ⟨h2, hq⟩ hb
        rw [this]; simp
      · simp [h2]) ?_
    clear hb g55 g10 hE
    have ca := fun H => wargs_ok o H
    refine awp_cut (fun _ => false) (fun _ => none) (fun f H' => H' = N R ∧ f 2 = .bp (H.length + 2) 0 ∧ f 4 = .bp (H.length + 3) 0 ∧ f 5 = .bp (H.length + 4) 0 ∧ f 6 = woS H.length W ∧ f 64 = Bo (!decide (wArgN o = a.length))) (by kernel_rfl) ?_ ?_
    · simp -dsimp [g2, g4, g5, g6, v2]
      refine callDW_intro (ca _) ?_
      by_cases hA : wArgN o = a.length
      · have hn : ¬ ((a.length : Int) < 0) := by omega
        rw [hA] at ca ⊢
        simp -dsimp [g2, g4, g5, g6, v2, hn]
        refine callDW_intro (ca _) ?_
        simp -dsimp [g2, g4, g5, g6, v2, hn]
      · have hb : (wArgN o != (a.length : Int)) = true := by rw [bne_iff_ne]; exact hA
        simp -dsimp [g2, g4, g5, g6, v2]
        refine guardVW_introFD (fun hn => ?_) (fun hn => ?_)
        · simp -dsimp [g2, g4, g5, g6, v2, hn, hA]
        · simp -dsimp [g2, g4, g5, g6, v2, hn]
          refine callDW_intro (ca _) ?_
          simp -dsimp [g2, g4, g5, g6, v2, hn, hb, hA]
    clear g g2 g4 g5 g6
    rintro g _ ⟨rfl, g2, g4, g5, g6, g64⟩
    by_cases hA : wArgN o = a.length
    rotate_left
    · refine awp_condT (by kernel_rfl) (by show g 64 = _; rw [g64]; simp [hA]) ?_
      rw [if_neg (by rw [hosl]; exact hA)] at hE1
      refine awp_all (fun _ => false) (fun _ => none) (by kernel_rfl) ?_
      simp -dsimp [g4, g5, v4, v3, vg3]
      obtain ⟨L', h1, h2, _⟩ := vs3 R (.box 73 [I o, U w, St n, exS (H.length + 1) os])
      rw [h1]
      exact finO L' hE1 h2
    refine awp_condF (by kernel_rfl) (by show g 64 = _; rw [g64]; simp [hA]) ?_
    rw [if_pos (by rw [hosl]; exact hA)] at hE1
    have hWl : (W.length = os.length) ↔ (os.all fun x => x.op == 1) = true := by rw [hW]; exact wordsC_len os
    refine awp_cut (fun _ => false) (fun _ => none) (fun f H' => H' = N R ∧ f 2 = .bp (H.length + 2) 0 ∧ f 4 = .bp (H.length + 3) 0 ∧ f 5 = .bp (H.length + 4) 0 ∧ f 6 = woS H.length W ∧ f 79 = Bo ((W.length : Int) == a.length)) (by kernel_rfl) ?_ ?_
    · have v0 : (N R)[H.length]? = some (woB W) := by rw [hNH]; simp
      have hlv : lenV (N R) 1 (woS H.length W) = some W.length := by
        have := lenV_ownS v0
        simpa using this
      simp -dsimp [g2, g4, g5, g6, v2, hlv]
    clear g g2 g4 g5 g6 g64
    rintro g _ ⟨rfl, g2, g4, g5, g6, g79⟩
    by_cases hall : (os.all fun x => x.op == 1) = true
    · refine awp_condT (by kernel_rfl) (by show g 79 = _; rw [g79]; simp; rw [hWl.2 hall, hosl]) ?_
      rw [if_pos hall] at hE1
      have hWw := wordsC_all hall
      rw [← hW] at hWw
      rw [← hWw] at hE1
      have hlen : wArgN o = W.length := by rw [hA, ← hosl, hWl.2 hall]
      have hev : evalR o W = [U (evalE o W), I 0] := if_pos hlen
      have ce : ACalls Tryz.prog 55 [I o, woS H.length W] (N R) (fun e M => e = .ret (.tup (evalR o W)) ∧ ∃ L', M = H ++ L' ∧ L'[3]? = some bZ) := by
        rw [hNH]
        exact acalls_giveO (f := fun x => [I o, x]) hu 0 1 48 (W.map fun x => [U x]) rfl (wo_frzB W) (fun x => by simp [frzL, AV.frz]) (fun x L' hx hk => (weval_ok o W x hx _).mono (fun e M ⟨h1, h2⟩ => ⟨h1, L', h2, hk 3 bZ (by omega) rfl (by rw [hbZ]; rfl)⟩))
      rw [hev] at ce
      obtain ⟨v, hv⟩ : ∃ v, v = evalE o W := ⟨_, rfl⟩
      rw [← hv] at ce hE1
      refine awp_all (fun _ => false) (fun _ => none) (by kernel_rfl) ?_
      simp -dsimp [g2, g4, g6, v2]
      refine acallsW_of ce ?_
      rintro e M' ⟨rfl, L', rfl, hL3⟩
      simp -dsimp [g4]
      refine acallsW_det (cn v _) ?_
      rw [hbZ] at hL3
      obtain ⟨c1, hc1⟩ : ∃ c1, c1 = Blk.box 73 [I (cEx v).op, U (cEx v).word, St (cEx v).name, Ex.sl (cEx v).args] := ⟨_, rfl⟩
      have k4 : (L'.set 3 c1)[3]? = some c1 := List.getElem?_set_self (lt_of_get hL3)
      rw [hc1] at k4
      simp -dsimp [g4, hL3, k4]
      exact finA _ _ hE1
    refine awp_condF (by kernel_rfl) (by show g 79 = _; rw [g79]; simp; intro h; exact hall (hWl.1 (by omega))) ?_
    rw [if_neg hall] at hE1
    clear hWl hall ca hW
    by_cases h21 : o = 21
    rotate_left
    · rw [if_neg h21] at hE1
      have h21b : (o == 21) = false := by simpa using h21
      refine awp_cut (fun _ => false) (fun _ => none) (fun f H' => H' = N R ∧ f 4 = .bp (H.length + 3) 0 ∧ f 5 = .bp (H.length + 4) 0 ∧ f 95 = Bo false) (by kernel_rfl) ?_ ?_
      · simp -dsimp [g2, g4, g5, g6, v2, h21b]
      clear g g2 g4 g5 g6 g79
      rintro g _ ⟨rfl, g4, g5, g95⟩
      refine awp_condF (by kernel_rfl) (by show g 95 = _; rw [g95]) ?_
      refine awp_all (fun _ => false) (fun _ => none) (by kernel_rfl) ?_
      simp -dsimp [g4, g5]
      exact ⟨⟨R, rfl⟩, hE1⟩
    rw [if_pos h21] at hE1
    subst h21
    have hl3 : a.length = 3 := by have : (3 : Int) = a.length := hA; omega
    obtain ⟨x, y, z, rfl⟩ : ∃ x y z, os = [x, y, z] := by
      match os, hosl with
      | [x, y, z], _ => exact ⟨x, y, z, rfl⟩
      | [], h => simp at h; omega
      | [_], h => simp at h; omega
      | [_, _], h => simp at h; omega
      | _ :: _ :: _ :: _ :: _, h => simp at h; omega
    have hrow : exB [x, y, z] = .row 73 4 [[I x.op, U x.word, St x.name, Ex.sl x.args], [I y.op, U y.word, St y.name, Ex.sl y.args], [I z.op, U z.word, St z.name, Ex.sl z.args]] := by simp [ownB]
    have hhan : exS (H.length + 1) [x, y, z] = .hs (H.length + 1) 0 3 3 := by simp [ownS]
    rw [hhan] at v4
    rw [hrow] at v1
    refine awp_cut (fun _ => false) (fun _ => none) (fun f H' => H' = N R ∧ f 4 = .bp (H.length + 3) 0 ∧ f 5 = .bp (H.length + 4) 0 ∧ f 95 = Bo (x.op == 1)) (by kernel_rfl) ?_ ?_
    · simp -dsimp [g2, g4, g5, g6, v2, v4, v1]
    clear g g2 g4 g5 g6 g79
    rintro g _ ⟨rfl, g4, g5, g95⟩
    by_cases hx1 : x.op = 1
    rotate_left
    · refine awp_condF (by kernel_rfl) (by show g 95 = _; rw [g95]; simp [hx1]) ?_
      refine awp_all (fun _ => false) (fun _ => none) (by kernel_rfl) ?_
      simp -dsimp [g4, g5]
      exact ⟨⟨R, rfl⟩, by rw [hE1, pickX, if_neg hx1]⟩
    refine awp_condT (by kernel_rfl) (by show g 95 = _; rw [g95]; simp [hx1]) ?_
    rw [pickX, if_pos hx1] at hE1
    -- the way, and the other
    obtain ⟨bx, hbx⟩ : ∃ bx : Ex → Blk, ∀ e, bx e = .box 73 [I e.op, U e.word, St e.name, Ex.sl e.args] := ⟨_, fun _ => rfl⟩
    have hbx' : ∀ e : Ex, Blk.box 73 [I e.op, U e.word, St e.name, Ex.sl e.args] = bx e := fun e => (hbx e).symm
    refine awp_cutA (fun f H' => (∃ L u v, H' = N L ∧ f 14 = .bp u 0 ∧ f 15 = .bp v 0 ∧ (N L)[u]? = some (bx y) ∧ (N L)[v]? = some (bx z) ∧ u ≠ v ∧ u ≠ H.length + 3 ∧ H.length + 5 ≤ u ∧ H.length + 5 ≤ v) ∧ f 4 = .bp (H.length + 3) 0 ∧ f 5 = .bp (H.length + 4) 0) ?_ ?_
    · obtain ⟨V, hV⟩ : ∃ V, V = N R := ⟨_, rfl⟩
      have q4 : V[H.length + 4]? = some (.box 73 [I 21, U w, St n, .hs (H.length + 1) 0 3 3]) := by rw [hV]; exact v4 _
      have q1 : V[H.length + 1]? = some (.row 73 4 [[I x.op, U x.word, St x.name, Ex.sl x.args], [I y.op, U y.word, St y.name, Ex.sl y.args], [I z.op, U z.word, St z.name, Ex.sl z.args]]) := by rw [hV]; exact v1 _
      have q4L := fun L => get_app_old q4 L
      have q1L := fun L => get_app_old q1 L
      have hVl : V.length = H.length + 5 + R.length := by rw [hV, vL]
      have hVN : ∀ L, V ++ L = N (R ++ L) := fun L => by rw [hV, vN]
      rw [← hV]
      refine awp_region_tree (fun d => false) pickT (by kernel_rfl) ?_
      simp -dsimp [pickT, g4, g5, q4, q1, q4L, q1L, hbx']
      exact ⟨⟨R ++ [bx y, bx z], hVN _, by rw [← hVN]; simp, by rw [← hVN]; simp, by omega, by omega, by omega⟩, ⟨R ++ [bx z, bx y], hVN _, by rw [← hVN]; simp, by rw [← hVN]; simp, by omega, by omega, by omega⟩⟩
    clear g g4 g5 g95
    rintro g _ ⟨⟨L, u, v, rfl, g14, g15, hu1, hv1, huv, hu3, hu5, hv5⟩, g4, g5⟩
    rw [hbx] at hu1 hv1
    clear hbx hbx' bx
    have cs := fun (e : Ex) (he : e ∈ [x, y, z]) H => safe_ok _ e (Nat.lt_succ_self _) (by have := exs_mem_count he; omega) H
    have csy := fun H => cs y (by simp) H
    have csz := fun H => cs z (by simp) H
    simp only [Ex.cells_eq] at csy csz
    clear cs
    -- the way first
    obtain ⟨A, B, hAB⟩ : ∃ A B : Ex, (A, B) = if x.word = 0 then (z, y) else (y, z) := ⟨_, _, rfl⟩
    have hE2 : E = if B.safe = true then A else .mk 21 w n [x, y, z] := by
      rw [hE1]
      by_cases h : x.word = 0
      · rw [if_pos h] at hAB ⊢; cases hAB; rfl
      · rw [if_neg h] at hAB ⊢; cases hAB; rfl
    have cB : ∀ H, ACalls Tryz.prog 28 [.agg [I B.op, U B.word, St B.name, Ex.sl B.args]] H (fun r H' => r = .ret (Bo B.safe) ∧ H' = H) := by
      by_cases h : x.word = 0
      · rw [if_pos h] at hAB; cases hAB; exact csy
      · rw [if_neg h] at hAB; cases hAB; exact csz
    refine awp_cutA (fun f H' => (∃ L, H' = N L ∧ f 14 = .bp u 0 ∧ f 15 = .bp v 0 ∧ (N L)[u]? = some (.box 73 [I A.op, U A.word, St A.name, Ex.sl A.args]) ∧ (N L)[v]? = some (.box 73 [I B.op, U B.word, St B.name, Ex.sl B.args])) ∧ f 4 = .bp (H.length + 3) 0 ∧ f 5 = .bp (H.length + 4) 0) ?_ ?_
    · refine awp_cut (fun _ => false) (fun _ => none) (fun f H' => H' = N L ∧ f 14 = .bp u 0 ∧ f 15 = .bp v 0 ∧ f 4 = .bp (H.length + 3) 0 ∧ f 5 = .bp (H.length + 4) 0 ∧ f 120 = Bo (x.word == 0)) (by kernel_rfl) ?_ ?_
      · simp -dsimp [g4, g5, g14, g15, v4, v1]
      clear g g4 g5 g14 g15
      rintro g _ ⟨rfl, g14, g15, g4, g5, g120⟩
      by_cases h : x.word = 0
      · rw [if_pos h] at hAB; cases hAB
        refine awp_condT (by kernel_rfl) (by show g 120 = _; rw [g120]; simp [h]) ?_
        refine awp_all (fun _ => false) (fun _ => none) (by kernel_rfl) ?_
        obtain ⟨iu, rfl⟩ : ∃ iu, u = H.length + 5 + iu := ⟨u - (H.length + 5), by omega⟩
        obtain ⟨iv, rfl⟩ : ∃ iv, v = H.length + 5 + iv := ⟨v - (H.length + 5), by omega⟩
        rw [vI] at hu1 hv1
        obtain ⟨by1, hby1⟩ : ∃ b, b = Blk.box 73 [I y.op, U y.word, St y.name, Ex.sl y.args] := ⟨_, rfl⟩
        obtain ⟨bz1, hbz1⟩ : ∃ b, b = Blk.box 73 [I z.op, U z.word, St z.name, Ex.sl z.args] := ⟨_, rfl⟩
        have e1 : (L.set iu bz1)[iv]? = some bz1 := by rw [List.getElem?_set_ne (by omega), hbz1]; exact hv1
        have e2 : ((L.set iu bz1).set iv by1)[iv]? = some by1 := List.getElem?_set_self (by rw [List.length_set]; exact lt_of_get hv1)
        have e3 : ((L.set iu bz1).set iv by1)[iu]? = some bz1 := by rw [List.getElem?_set_ne (by omega)]; exact List.getElem?_set_self (lt_of_get hu1)
        rw [hbz1] at e1
        rw [hby1, hbz1] at e2 e3
        simp -dsimp [g4, g5, g14, g15, vI, vS, hu1, hv1, e1]
        exact ⟨_, rfl, e3, e2⟩
      · rw [if_neg h] at hAB; cases hAB
        refine awp_condF (by kernel_rfl) (by show g 120 = _; rw [g120]; simp [h]) ?_
        refine awp_all (fun _ => false) (fun _ => none) (by kernel_rfl) ?_
        simp -dsimp [g4, g5, g14, g15]
        exact ⟨L, rfl, hu1, hv1⟩
    clear g g4 g5 g14 g15
    rintro g _ ⟨⟨L, rfl, g14, g15, hA1, hB1⟩, g4, g5⟩
    obtain ⟨b, hb⟩ : ∃ b, b = B.safe := ⟨_, rfl⟩
    rw [← hb] at cB hE2
    refine awp_all (fun _ => false) (fun _ => none) (by kernel_rfl) ?_
    simp -dsimp [g4, g5, g14, g15, hB1]
    refine acallsW_det (cB _) ?_
    cases b
    · simp -dsimp [g4, g5]
      exact ⟨⟨L, rfl⟩, hE2⟩
    · simp -dsimp [g4, g5, g14, hA1, v3, vg3]
      obtain ⟨L', h1, h2, _⟩ := vs3 L (.box 73 [I A.op, U A.word, St A.name, Ex.sl A.args])
      rw [h1]
      exact finA _ L' hE2
end Go.Proofs
