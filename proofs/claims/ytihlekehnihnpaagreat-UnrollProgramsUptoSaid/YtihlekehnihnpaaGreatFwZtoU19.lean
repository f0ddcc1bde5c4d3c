/- Two rows given away at the end; what is decided of a condition; a row in a box given away. -/
import Derived.Test.YtihlekehnihnpaaGreatFwUtoU1
import Derived.Test.YtihlekehnihnpaaGreatG23toU7
set_option linter.unusedVariables false
set_option linter.unusedSimpArgs false
set_option maxHeartbeats 4000000
set_option maxRecDepth 100000
namespace Go.Mu
open Go.RowKit (Below)
section
variable {P : Program} {n : Nat} {Q : AQ}
theorem awp_condT {c : Operand} {x y : Code} {f : Fr} {H : List Blk} {ds : List ADef} (hc : opOk n c = true) (hv : ev f c = .v (.bool true)) (h : AWP P n x Q f H ds) : AWP P n (.cond c x y) Q f H ds :=
  awp_cond hc (by rw [hv]; exact h)
theorem awp_condF {c : Operand} {x y : Code} {f : Fr} {H : List Blk} {ds : List ADef} (hc : opOk n c = true) (hv : ev f c = .v (.bool false)) (h : AWP P n y Q f H ds) : AWP P n (.cond c x y) Q f H ds :=
  awp_cond hc (by rw [hv]; exact h)
theorem tidy_giveG {H G L : List Blk} {R : AE → List Blk → Prop} {r : AV} (hu : underH G.length G = true) (j sz : Nat) (t : TypeId) (es : List (List AV)) (hj : L[j]? = some (.row t sz es)) (hz : es.flatten.all AV.frzB = true)
    (h : Tidy H R (.ret (r.frz (G.length + j) sz es)) (G ++ (L.map (Blk.frz (G.length + j) sz es)).set j .gone)) : Tidy H R (.ret r) (G ++ L) := by
  obtain ⟨H1, r1, g, rest⟩ := h
  rw [← frzH_app j hu] at g
  exact ⟨H1, r1, .step _ _ (G.length + j) sz t es _ _ (by rw [List.getElem?_append_right (by omega)]; simpa using hj) hz g, rest⟩
theorem tidy_own2 {H G L : List Blk} {R : AE → List Blk → Prop} (hg : G.length = H.length) (hu : underH G.length G = true) (t1 t2 s1 s2 : Nat) (e1 e2 : List (List AV)) (hz1 : e1.flatten.all AV.frzB = true) (hz2 : e2.flatten.all AV.frzB = true)
    (h : R (.ret (.tup [.vs s1 e1, .vs s2 e2])) G) : WeakE (Tidy H R) (.ret (.tup [ownS H.length e1, ownS (H.length + 1) e2])) (G ++ ownB t1 s1 e1 :: ownB t2 s2 e2 :: L) := by
  have hT : ∀ L r, r.under H.length = true → R (.ret r) G → Tidy H R (.ret r) (G ++ L) := fun L r h1 h2 => tidy_to (by omega) (fun _ => hu) (by rw [hg]; exact h1) h2
  have two : ∀ (L : List Blk) (x : AV), Weak x (.vs s1 e1) → (∀ k z e, x.frz k z e = x) → L[1]? = some (ownB t2 s2 e2) → WeakE (Tidy H R) (.ret (.tup [x, ownS (H.length + 1) e2])) (G ++ L) := by
    intro L x hx hfx hj
    by_cases he : e2 = []
    · subst he
      rw [ownS_nil]
      refine tidy_weak (.tupL (.cons hx (.cons (.nil s2) .nil))) (hT _ _ rfl h)
    · refine ⟨.tup [.vs s1 e1, ownS (H.length + 1) e2], .tupL (.cons hx (.cons (.refl _) .nil)), ?_⟩
      rw [ownB, if_neg he] at hj
      refine tidy_giveG hu 1 s2 t2 e2 hj hz2 ?_
      have hf : (AV.tup [.vs s1 e1, ownS (H.length + 1) e2]).frz (G.length + 1) s2 e2 = .tup [.vs s1 e1, .vs s2 e2] := by
        rw [hg]; simp only [AV.frz, frzL]; rw [frz_own _ _ _ he]
      rw [hf]
      exact hT _ _ rfl h
  by_cases he : e1 = []
  · subst he
    rw [ownS_nil]
    exact two _ _ (.nil s1) (fun _ _ _ => rfl) rfl
  · have hf : (AV.tup [ownS H.length e1, ownS (H.length + 1) e2]).frz (G.length + 0) s1 e1 = .tup [.vs s1 e1, ownS (H.length + 1) e2] := by
      rw [hg]; simp only [AV.frz, frzL, Nat.add_zero]; rw [frz_own _ _ _ he, frz_ownS_ne (by omega)]
    by_cases he2 : e2 = []
    · subst he2
      refine ⟨.tup [ownS H.length e1, .vs s2 []], .tupL (.cons (.refl _) (.cons (by rw [ownS_nil]; exact .nil s2) .nil)), ?_⟩
      refine tidy_giveG hu 0 s1 t1 e1 (by rw [ownB, if_neg he]; rfl) hz1 ?_
      have hf : (AV.tup [ownS H.length e1, .vs s2 []]).frz (G.length + 0) s1 e1 = .tup [.vs s1 e1, .vs s2 []] := by
        rw [hg]; simp only [AV.frz, frzL, Nat.add_zero]; rw [frz_own _ _ _ he]
      rw [hf]
      exact hT _ _ rfl h
    · refine tidy_weak (.refl _) ?_
      refine tidy_giveG hu 0 s1 t1 e1 (by rw [ownB, if_neg he]; rfl) hz1 ?_
      rw [hf]
      refine tidy_giveG hu 1 s2 t2 e2 ?_ hz2 ?_
      · have hid := frzB_id (k := G.length + 0) (sz := s1) (es := e1) (n := G.length) (by omega) (ownB t2 s2 e2) (under_ownB_plain hz2)
        simp only [List.map_cons, List.set_cons_zero, List.getElem?_cons_succ, List.getElem?_cons_zero]
        rw [hid, ownB, if_neg he2]
      · have hf2 : (AV.tup [.vs s1 e1, ownS (H.length + 1) e2]).frz (G.length + 1) s2 e2 = .tup [.vs s1 e1, .vs s2 e2] := by
          rw [hg]; simp only [AV.frz, frzL]; rw [frz_own _ _ _ he2]
        rw [hf2]
        exact hT _ _ rfl h
theorem awp_giveBox {c : Code} {f : Fr} {N L : List Blk} (hu : underH N.length N = true) (j sz : Nat) (t : TypeId) (es : List (List AV)) (hj : L[j]? = some (ownB t sz es)) (hz : es.flatten.all AV.frzB = true)
    (b : Nat) (bt : TypeId) (cs cs' : List AV) (hb : L[b]? = some (.box bt cs)) (hbj : b ≠ j) (hw : WeakL (cs.map (AV.frzS (N.length + j) sz es)) cs')
    (h : ∀ L' f', (∀ s, f' s = (f s).frzS (N.length + j) sz es) → L'.length = L.length → L'[b]? = some (.box bt cs') → (∀ i x, i ≠ j → i ≠ b → L[i]? = some x → x.under N.length = true → L'[i]? = some x) → AWP P n c Q f' (N ++ L') []) : AWP P n c Q f (N ++ L) [] := by
  refine awp_giveO hu j sz t es hj hz ?_
  have hb1 : ((L.map (Blk.frzS (N.length + j) sz es)).set j .gone)[b]? = some (.box bt (cs.map (AV.frzS (N.length + j) sz es))) := by
    rw [List.getElem?_set_ne (Ne.symm hbj), List.getElem?_map, hb]
    simp only [Option.map_some, blkS_box]
  have hb2 : (N ++ (L.map (Blk.frzS (N.length + j) sz es)).set j .gone)[N.length + b]? = some (.box bt (cs.map (AV.frzS (N.length + j) sz es))) := by
    rw [List.getElem?_append_right (by omega)]; simpa using hb1
  refine awp_weakbox (N.length + b) bt _ cs' hb2 hw ?_
  rw [List.set_append, if_neg (by omega), Nat.add_sub_cancel_left]
  refine h _ _ (fun _ => rfl) (by simp) ?_ ?_
  · have hlt := (List.getElem?_eq_some_iff.1 hb1).1
    rw [List.getElem?_set_self hlt]
  · intro i x hij hib hx hux
    rw [List.getElem?_set_ne (Ne.symm hib), List.getElem?_set_ne (Ne.symm hij), List.getElem?_map, hx]
    simp only [Option.map_some]
    rw [blkS_id (n := N.length) (by omega) x hux]
def Cx.lessR (cx : Cx) (b : Nat) (t : TypeId) (sz : Nat) (es : List (List AV)) : Cx := { cx with H := cx.H.set b (.row t sz es) }
theorem weakR_facts {es es' : List (List AV)} (h : WeakR es es') : es.length = es'.length ∧ (∀ sz, (∀ e ∈ es, e.length = sz) → ∀ e ∈ es', e.length = sz) ∧ WeakL es.flatten es'.flatten := by
  induction h with
  | nil => exact ⟨rfl, fun sz h => h, WeakL.nil⟩
  | cons h hs ih =>
    refine ⟨by simp [ih.1], fun sz hz e he => ?_, by simpa using h.append ih.2.2⟩
    rcases List.mem_cons.1 he with rfl | he
    · rw [← h.len]; exact hz _ (List.mem_cons_self ..)
    · exact ih.2.1 sz (fun e he => hz e (List.mem_cons_of_mem _ he)) e he
theorem le_lessR {cx : Cx} {b : Nat} {t : TypeId} {sz : Nat} {es es' : List (List AV)} (hb : cx.H[b]? = some (.row t sz es)) (hl : es.length = es'.length) : Le cx (cx.lessR b t sz es') := by
  have hlt := (List.getElem?_eq_some_iff.1 hb).1
  refine ⟨fun _ _ _ _ h => h, fun _ h => h, fun k bl h hf => ?_, fun k t' sz' es0 h => ?_⟩
  · have hk : b ≠ k := fun e => by subst e; rw [hb] at h; cases h; cases hf
    exact ⟨bl, by simp only [Cx.lessR]; rw [List.getElem?_set_ne hk]; exact h, hf, rfl⟩
  · by_cases hk : b = k
    · subst hk
      rw [hb] at h
      cases h
      exact .inr ⟨es', by simp [Cx.lessR, hlt], by omega, fun _ => ⟨rfl, rfl⟩⟩
    · exact .inr ⟨es0, by simp only [Cx.lessR]; rw [List.getElem?_set_ne hk]; exact h, Nat.le_refl _, fun _ => ⟨rfl, rfl⟩⟩
theorem hrel_lessR {B : Nat} {w0 : World} {cx : Cx} (h : HRel B w0 cx) {b : Nat} {t : TypeId} {sz : Nat} {es es' : List (List AV)} (hb : cx.H[b]? = some (.row t sz es)) (hw : WeakR es es') : HRel B w0 (cx.lessR b t sz es') := by
  obtain ⟨hl, hz, hwl⟩ := weakR_facts hw
  have hle := le_lessR hb hl
  have hlt := (List.getElem?_eq_some_iff.1 hb).1
  have key : ∀ (i : Nat) (bl : Blk), (cx.lessR b t sz es').H[i]? = some bl → (i = b ∧ bl = .row t sz es') ∨ (i ≠ b ∧ cx.H[i]? = some bl) := by
    intro i bl hi
    by_cases hk : b = i
    · subst hk; simp [Cx.lessR, hlt] at hi; exact .inl ⟨rfl, hi.symm⟩
    · simp only [Cx.lessR] at hi; rw [List.getElem?_set_ne hk] at hi; exact .inr ⟨Ne.symm hk, hi⟩
  have key2 : ∀ (i : Nat) (bl : Blk), (cx.lessR b t sz es').H[i]? = some bl → bl.live = true → ∃ bl', cx.H[i]? = some bl' ∧ bl'.live = true := by
    intro i bl hi hl
    rcases key i bl hi with ⟨rfl, rfl⟩ | ⟨_, h2⟩
    · exact ⟨_, hb, rfl⟩
    · exact ⟨_, h2, hl⟩
  refine ⟨h.below, h.base, h.frz, fun i bl hi => ?_, fun i j b1 b2 a1 a2 l1 l2 he => ?_⟩
  · rcases key i bl hi with ⟨rfl, rfl⟩ | ⟨hne, hi'⟩
    · obtain ⟨h1, h2, h3, h4, h5, h6, vals, h7, h8, h9, h10⟩ := h.blk _ _ hb
      refine ⟨h1, h2, h3, hz _ h4, ?_, h6, vals, h7, h8, ?_, h10⟩
      · show es'.length ≤ _; rw [← hl]; exact h5
      · rw [← hl]; exact (h9.mono hle).weakens hwl
    · have hbr := h.blk i bl hi'
      exact hbr.mono hle fun hl => ⟨rfl, rfl, rfl, (hbr.lt hl).2.2⟩
  · obtain ⟨b1', a1', l1'⟩ := key2 i b1 a1 l1
    obtain ⟨b2', a2', l2'⟩ := key2 j b2 a2 l2
    exact h.inj i j b1' b2' a1' a2' l1' l2' he
theorem awp_weakrow {c : Code} {f : Fr} {H : List Blk} (b : Nat) (t : TypeId) (sz : Nat) (es es' : List (List AV)) (hb : H[b]? = some (.row t sz es)) (hw : WeakR es es') (h : AWP P n c Q f (H.set b (.row t sz es')) []) : AWP P n c Q f H [] := by
  intro ro hro B w0 cx0 cx a h1 h2 h3 h4 h5
  subst h3
  refine h ro hro B w0 cx0 (cx.lessR b t sz es') a (hrel_lessR h1 hb hw) (h2.trans (le_lessR hb (weakR_facts hw).1)) rfl (h4.mono' (le_lessR hb (weakR_facts hw).1)) ?_
  cases hd : a.defers with
  | nil => trivial
  | cons d l => rw [hd] at h5; exact h5.elim
theorem weakR_refl : ∀ (l : List (List AV)), WeakR l l
  | [] => .nil
  | e :: l => .cons (.refl e) (weakR_refl l)
theorem weakR_app {a a' b b' : List (List AV)} (h : WeakR a a') (k : WeakR b b') : WeakR (a ++ b) (a' ++ b') := by
  induction h with
  | nil => exact k
  | cons h _ ih => exact .cons h ih
theorem awp_weakO {c : Code} {f : Fr} {H : List Blk} (b : Nat) (t : TypeId) (sz : Nat) (es es' : List (List AV)) (hb : H[b]? = some (ownB t sz es)) (hw : WeakR es es') (h : AWP P n c Q f (H.set b (ownB t sz es')) []) : AWP P n c Q f H [] := by
  by_cases he : es = []
  · subst he
    cases hw
    rw [set_same hb] at h
    exact h
  · have he' : es' ≠ [] := fun e => by subst e; cases hw; exact he rfl
    rw [ownB, if_neg he] at hb
    rw [ownB, if_neg he'] at h
    exact awp_weakrow b t sz es es' hb hw h
theorem awp_giveRow {c : Code} {f : Fr} {N L : List Blk} (hu : underH N.length N = true) (j sz : Nat) (t : TypeId) (es : List (List AV)) (hj : L[j]? = some (.row t sz es)) (hz : es.flatten.all AV.frzB = true)
    (h : ∀ L' f', (∀ s, f' s = (f s).frz (N.length + j) sz es) → L'.length = L.length → (∀ i x, i ≠ j → L[i]? = some x → x.under N.length = true → L'[i]? = some x) → AWP P n c Q f' (N ++ L') []) : AWP P n c Q f (N ++ L) [] := by
  refine awp_give (N.length + j) sz t es (by rw [List.getElem?_append_right (by omega)]; simpa using hj) hz ?_
  rw [frzH_app j hu]
  refine h _ _ (fun _ => rfl) (by simp) ?_
  intro i x hij hx hux
  rw [List.getElem?_set_ne (Ne.symm hij), List.getElem?_map, hx]
  simp only [Option.map_some]
  rw [frzB_id (Nat.le_add_right _ _) x hux]
def M2 (H : List Blk) (c : Nat) (X o t : Blk) (L : List Blk) : List Blk := H.set c X ++ o :: t :: L
variable {H : List Blk} {c : Nat}
theorem w2_eq (X o t : Blk) (L : List Blk) : M2 H c X o t L = H.set c X ++ o :: t :: L := rfl
theorem w2_app (X o t : Blk) (L R : List Blk) : M2 H c X o t L ++ R = M2 H c X o t (L ++ R) := by simp [M2]
theorem w2_len (X o t : Blk) (L : List Blk) : (M2 H c X o t L).length = H.length + 2 + L.length := by simp [M2]; omega
theorem w2_get (hc : c < H.length) (X o t : Blk) (L : List Blk) : (M2 H c X o t L)[c]? = some X := by
  rw [M2, List.getElem?_append_left (by simpa using hc), List.getElem?_set_self hc]
theorem w2_set (hc : c < H.length) (X Y o t : Blk) (L : List Blk) : (M2 H c X o t L).set c Y = M2 H c Y o t L := by
  rw [M2, List.set_append, if_pos (by simpa using hc), List.set_set]; rfl
theorem w2_getO (X o t : Blk) (L : List Blk) : (M2 H c X o t L)[H.length]? = some o := by
  rw [M2, List.getElem?_append_right (by simp)]; simp
theorem w2_getT (X o t : Blk) (L : List Blk) : (M2 H c X o t L)[H.length + 1]? = some t := by
  rw [M2, List.getElem?_append_right (by simp)]; simp
theorem w2_setO (X o o' t : Blk) (L : List Blk) : (M2 H c X o t L).set H.length o' = M2 H c X o' t L := by
  rw [M2, List.set_append, if_neg (by simp)]; simp [M2]
theorem w2_setT (X o t t' : Blk) (L : List Blk) : (M2 H c X o t L).set (H.length + 1) t' = M2 H c X o t' L := by
  rw [M2, List.set_append, if_neg (by simp)]; simp [M2]
theorem w2_getN (X o t : Blk) (L : List Blk) (i : Nat) : (M2 H c X o t L)[H.length + 2 + i]? = L[i]? := by
  rw [M2, List.getElem?_append_right (by simp; omega)]
  have : H.length + 2 + i - (H.set c X).length = i + 2 := by simp; omega
  rw [this]; rfl
theorem w2_setN (X o t : Blk) (L : List Blk) (i : Nat) (Y : Blk) : (M2 H c X o t L).set (H.length + 2 + i) Y = M2 H c X o t (L.set i Y) := by
  rw [M2, List.set_append, if_neg (by simp; omega)]
  have : H.length + 2 + i - (H.set c X).length = i + 2 := by simp; omega
  rw [this]; rfl
end
end Go.Mu
namespace Go.Proofs
open Go.Mu
abbrev layB (n : Int) : Blk := .box 182 [I n]
abbrev fullV : AV := .ifc 179 (.agg [])
abbrev stB (l : List Sm) : Blk := ownB 57 16 (l.map Sm.cells)
abbrev stS (k : Nat) (l : List Sm) : AV := ownS k (l.map Sm.cells)
abbrev tmB (l : List Tm) : Blk := ownB 116 4 (l.map Tm.cells)
abbrev tmS (k : Nat) (l : List Tm) : AV := ownS k (l.map Tm.cells)
abbrev subB (l : List (List Tm)) : Blk := ownB 39 1 (l.map fun a => [Tm.sl a])
abbrev subS (k : Nat) (l : List (List Tm)) : AV := ownS k (l.map fun a => [Tm.sl a])
theorem tms_frzB (l : List Tm) : (l.map Tm.cells).flatten.all AV.frzB = true := map_frzB _ (fun x => by simp [AV.frzB]) l
theorem subs_frzB' (l : List (List Tm)) : (l.map fun a => [Tm.sl a]).flatten.all AV.frzB = true := map_frzB _ (fun x => by simp [AV.frzB]) l
def LayR (c : Nat) (H : List Blk) (r : Option (List Sm × List Tm × Int)) (e : AE) (H' : List Blk) : Prop := match r with
  | some (b, t, l1) => e = .ret (.tup [Sm.sl b, Tm.sl t]) ∧ H' = H.set c (layB l1)
  | none => e = .pan fullV ∧ H' = H.set c (layB (-1))
def RecB (rec : List Sm → Int → LR) : Prop := ∀ l left b t l1, 0 ≤ left → rec l left = some (b, t, l1) → 0 ≤ l1 ∧ (b.length : Int) + l1 ≤ left ∧ t.length = l.length
theorem round_bnd {rec : List Sm → Int → LR} (hr : RecB rec) (nm : ByteArray) (lo : Int) (body : List Sm) (c : Nat) : ∀ n left bs ts l1, 0 ≤ left → roundGo rec nm lo body c n left = some (bs, ts, l1) → 0 ≤ l1 ∧ (bs.length : Int) + l1 ≤ left ∧ ts.length = c := by
  induction c with
  | zero => intro n left bs ts l1 h0 h; simp only [roundGo, Option.some.injEq, Prod.mk.injEq] at h; obtain ⟨rfl, rfl, rfl⟩ := h; simp; omega
  | succ c ih =>
    intro n left bs ts l1 h0 h
    rw [roundGo] at h
    split at h
    · cases h
    · rename_i b t l2 h1
      obtain ⟨⟨b3, t3, l3⟩, h3, h4⟩ := Option.map_eq_some_iff.1 h
      simp only [Prod.mk.injEq] at h4
      obtain ⟨rfl, rfl, rfl⟩ := h4
      have a := hr _ _ _ _ _ h0 h1
      have b := ih _ _ _ _ _ a.1 h3
      refine ⟨b.1, ?_, by simp [b.2.2]⟩
      rw [List.length_append]; omega
theorem layGo_bnd {rec : List Sm → Int → LR} (hr : RecB rec) : RecB (layGo rec) := by
  intro l
  induction l with
  | nil => intro left b t l1 h0 h; simp only [layGo, Option.some.injEq, Prod.mk.injEq] at h; obtain ⟨rfl, rfl, rfl⟩ := h; simp; omega
  | cons s l ih =>
    intro left b t l1 h0 h
    rw [layGo] at h
    split at h
    · split at h
      · cases h
      · rename_i bs ts l2 h1
        obtain ⟨⟨b3, t3, l3⟩, h3, h4⟩ := Option.map_eq_some_iff.1 h
        simp only [Prod.mk.injEq] at h4
        obtain ⟨rfl, rfl, rfl⟩ := h4
        have a := round_bnd hr _ _ _ _ _ _ _ _ _ h0 h1
        have b := ih _ _ _ _ a.1 h3
        refine ⟨b.1, ?_, by simp [b.2.2]⟩
        rw [List.length_append]; omega
    · split at h
      · cases h
      · rename_i hl
        split at h
        · cases h
        · rename_i b1 t1 l2 h1
          split at h
          · cases h
          · rename_i b2 t2 l3 h2
            obtain ⟨⟨b3, t3, l4⟩, h3, h4⟩ := Option.map_eq_some_iff.1 h
            simp only [Prod.mk.injEq] at h4
            obtain ⟨rfl, rfl, rfl⟩ := h4
            have a := hr _ _ _ _ _ (by omega) h1
            have a2 := hr _ _ _ _ _ a.1 h2
            have b := ih _ _ _ _ a2.1 h3
            refine ⟨b.1, ?_, by simp [b.2.2]⟩
            rw [List.length_cons]; omega
theorem layM_bnd (d : Nat) : RecB (layM d) := by
  induction d with
  | zero => intro l left b t l1 _ h; cases h
  | succ d ih => exact layGo_bnd ih
def LayI (H : List Blk) (c : Nat) (n0 : Int) (E : LR) (rest : Int → LR) (i : Nat) (f4 f5 : AV) (H' : List Blk) : Prop :=
  ∃ out ts left L, H' = M2 H c (layB left) (stB out) (tmB ts) L ∧ f4 = stS H.length out ∧ f5 = tmS (H.length + 1) ts ∧ 0 ≤ left ∧ (out.length : Int) + left ≤ n0 ∧ ts.length = i ∧ (rest left).map (fun r => (out ++ r.1, ts ++ r.2.1, r.2.2)) = E
def LayF (H : List Blk) (c : Nat) (E : LR) (f4 f5 : AV) (H' : List Blk) : Prop :=
  ∃ out ts left L, H' = M2 H c (layB left) (stB out) (tmB ts) L ∧ f4 = stS H.length out ∧ f5 = tmS (H.length + 1) ts ∧ E = some (out, ts, left)
def RouI (H : List Blk) (c : Nat) (n0 : Int) (E1 : Option (List Sm × List (List Tm) × Int)) (ts : List Tm) (L : List Blk) (bX : Blk) (k : Nat) (rest : Int → Option (List Sm × List (List Tm) × Int)) (n : Nat) (f4 f5 : AV) (H' : List Blk) : Prop :=
  ∃ out subs left L2, H' = M2 H c (layB left) (stB out) (tmB ts) (L ++ bX :: subB subs :: .box 116 [I 6, nilS, Bo false, subS k subs] :: L2) ∧ f4 = stS H.length out ∧ f5 = tmS (H.length + 1) ts ∧ 0 ≤ left ∧ (out.length : Int) + left ≤ n0 ∧ subs.length = n ∧ (rest left).map (fun r => (out ++ r.1, subs ++ r.2.1, r.2.2)) = E1
end Go.Proofs
namespace Go.Proofs
open Go.Mu
theorem fors_body {s : Sm} (h : s.fors = true) : smsFors s.body = true ∧ smsFors s.els = true ∧ (s.kind = 5 → 0 ≤ s.low ∧ s.low ≤ s.high ∧ s.high ≤ 65536) := by
  rw [Sm.fors_eq] at h
  simp only [Bool.and_eq_true] at h
  refine ⟨h.1.2, h.2, fun hk => ?_⟩
  have := h.1.1
  simp only [hk, if_true, Bool.and_eq_true, decide_eq_true_eq] at this
  omega
theorem high_get {l : List Sm} {i : Nat} (h : i < l.length) : l[i].high2 ≤ smsHigh l := by
  induction l generalizing i with
  | nil => simp at h
  | cons s l ih =>
    rw [smsHigh]
    cases i with
    | zero => exact Nat.le_max_left _ _
    | succ i => exact Nat.le_trans (ih (by simpa using h)) (Nat.le_max_right _ _)
theorem lay_stmts_ok (d : Nat) : ∀ (l : List Sm) (n0 : Int), smsHigh l < d → smsCount l ≤ 2^36 → smsFors l = true → 0 ≤ n0 → n0 ≤ 65536 → ∀ (H : List Blk) (c : Nat), H[c]? = some (layB n0) →
    ACalls Tryz.prog 103 [.bp c 0, Sm.sl l] H (LayR c H (layM d l n0)) := by
  induction d with
  | zero => intro l n0 h; omega
  | succ d ih =>
    intro l n0 hh hcl hfl hn0 hn1 H c hc
    refine acalls_under fun hu _ => acalls_tidy (acalls_weakE (acalls_spare 2 (acalls_of_awp Tryz.func103 rfl (by kernel_rfl) ?_)))
    have hlen := sms_len l
    have hcH := lt_of_get hc
    obtain ⟨E, hE⟩ : ∃ E, E = layM (d + 1) l n0 := ⟨_, rfl⟩
    rw [← hE]
    rw [layM] at hE
    have hR := layM_bnd d
    have hGu : ∀ n, underH (H.set c (layB n)).length (H.set c (layB n)) = true := fun n => by rw [List.length_set]; exact underH_set hu rfl
    have fin : ∀ out ts left L, E = some (out, ts, left) → WeakE (Tidy H (LayR c H E)) (.ret (.tup [stS H.length out, tmS (H.length + 1) ts])) (M2 H c (layB left) (stB out) (tmB ts) L) := fun out ts left L h =>
      tidy_own2 (by simp) (hGu left) _ _ 16 4 _ _ (sms_frzB out) (tms_frzB ts) (by rw [h]; exact ⟨rfl, rfl⟩)
    have finP : ∀ o t L, E = none → Tidy H (LayR c H E) (.pan fullV) (M2 H c (layB (-1)) o t L) := fun o t L h =>
      tidy_toP (by simp) (fun _ => hGu _) (by rfl) (by rw [h]; exact ⟨rfl, rfl⟩)
    have hM0 : H ++ List.replicate 2 Blk.pend = M2 H c (layB n0) (stB []) (tmB []) [] := by rw [w2_eq, set_same hc]; simp [ownB]
    rw [hM0]
    have gC := fun X o t L => w2_get (H := H) (o := o) (t := t) (L := L) hcH X
    have sC := fun X Y o t L => w2_set (H := H) (o := o) (t := t) (L := L) hcH X Y
    refine awp_cut (fun _ => false) (fun _ => none) (fun f H' => H' = M2 H c (layB n0) (stB []) (tmB []) [] ∧ f 0 = .bp c 0 ∧ f 1 = Sm.sl l ∧ f 4 = nilS ∧ f 5 = nilS) (by kernel_rfl) ?_ ?_
    · simp -dsimp
    clear hM0
    rintro g _ ⟨rfl, g0, g1, g4, g5⟩
    refine awp_cutA (fun f H' => LayF H c E (f 4) (f 5) H') ?_ ?_
    rotate_left
    · clear g g0 g1 g4 g5
      rintro g _ ⟨out, ts, left, L, rfl, g4, g5, h⟩
      refine awp_all (fun _ => false) (fun _ => none) (by kernel_rfl) ?_
      simp -dsimp [g4, g5]
      exact fin _ _ _ _ h
    refine awp_cut (fun _ => false) (fun _ => none) (fun f H' => H' = M2 H c (layB n0) (stB []) (tmB []) [] ∧ f 0 = .bp c 0 ∧ f 17 = Sm.sl l ∧ f 18 = I l.length ∧ f 19 = I 0 ∧ f 4 = nilS ∧ f 5 = nilS) (by kernel_rfl) ?_ ?_
    · simp -dsimp [g0, g1, g4, g5]
    clear g g0 g1 g4 g5
    rintro g _ ⟨rfl, g0, g17, g18, g19, g4, g5⟩
    refine awp_block ?_
    refine awp_loopI (fun (i : Nat) f H' => LayI H c n0 E (layGo (layM d) (l.drop i)) i (f 4) (f 5) H' ∧ f 0 = .bp c 0 ∧ f 17 = Sm.sl l ∧ f 18 = I l.length ∧ f 19 = I i ∧ i ≤ l.length) (fun i => l.length - i) 0
      ⟨⟨[], [], n0, [], rfl, by rw [g4]; exact (ownS_nil _).symm, by rw [g5]; exact (ownS_nil _).symm, hn0, by simp, rfl, by rw [hE]; cases hq : layGo (layM d) l n0 <;> simp [hq]⟩, g0, g17, g18, g19, by omega⟩ ?_
    clear g g0 g17 g18 g19 g4 g5 hE
    rintro i g _ ⟨⟨out, ts, left, L, rfl, g4, g5, hl0, hol, htl, hinv⟩, g0, g17, g18, g19, hi⟩
    obtain ⟨V, hV⟩ : ∃ V, V = M2 H c (layB left) (stB out) (tmB ts) L := ⟨_, rfl⟩
    rw [← hV]
    refine awp_cut (fun _ => false) (fun _ => none) (fun f H' => V = H' ∧ f 0 = .bp c 0 ∧ f 17 = Sm.sl l ∧ f 18 = I l.length ∧ f 19 = I i ∧ f 4 = stS H.length out ∧ f 5 = tmS (H.length + 1) ts ∧ f 20 = Bo (decide ((i : Int) < l.length))) (by kernel_rfl) ?_ ?_
    · simp -dsimp [g0, g17, g18, g19, g4, g5]
    clear g g0 g17 g18 g19 g4 g5
    rintro g _ ⟨rfl, g0, g17, g18, g19, g4, g5, g20⟩
    refine awp_cut (fun _ => false) (fun _ => none) (fun f H' => V = H' ∧ f 0 = .bp c 0 ∧ f 17 = Sm.sl l ∧ f 18 = I l.length ∧ f 19 = I i ∧ f 4 = stS H.length out ∧ f 5 = tmS (H.length + 1) ts ∧ i < l.length) (by kernel_rfl) ?_ ?_
    · simp -dsimp [g20]
      refine condVW_introD (fun hlt => ?_) (fun hlt => ?_)
      · simp -dsimp [g0, g17, g18, g19, g4, g5]
        omega
      · rw [drop_end hlt, layGo] at hinv
        simp -dsimp [g4, g5]
        exact ⟨out, ts, left, L, hV, rfl, rfl, by rw [← hinv]; simp⟩
    clear g g0 g17 g18 g19 g4 g5 g20
    rintro g _ ⟨rfl, g0, g17, g18, g19, g4, g5, hlt⟩
    have hlx : l[i]? = some l[i] := List.getElem?_eq_getElem hlt
    have hgx := sms_get hlt
    have hfx := fors_get hfl hlt
    have hhx := high_get hlt
    rw [drop_cons hlt, layGo] at hinv
    obtain ⟨x, hx⟩ : ∃ x, x = l[i] := ⟨_, rfl⟩
    rw [← hx] at hlx hgx hfx hhx hinv
    clear hx
    have hcx := Sm.count_eq x
    rw [Sm.high2_eq] at hhx
    obtain ⟨hfb, hfe, hfk⟩ := fors_body hfx
    refine awp_cutA (fun f H' => LayI H c n0 E (layGo (layM d) (l.drop (i + 1))) (i + 1) (f 4) (f 5) H' ∧ f 0 = .bp c 0 ∧ f 17 = Sm.sl l ∧ f 18 = I l.length ∧ f 19 = I i) ?_ ?_
    rotate_left
    · clear g g0 g17 g18 g19 g4 g5
      rintro g H' ⟨ho, g0, g17, g18, g19⟩
      replace ho := Hid.mk ho
      refine awp_all (fun _ => false) (fun _ => none) (by kernel_rfl) ?_
      simp -dsimp [g0, g17, g18, g19]
      exact ⟨i + 1, by omega, ho.out, wrapS (by omega), by omega⟩
    obtain ⟨rest, hrest⟩ : ∃ rest, rest = layGo (layM d) (l.drop (i + 1)) := ⟨_, rfl⟩
    rw [← hrest] at hinv ⊢
    clear hrest
    refine awp_block ?_
    obtain ⟨bX, hbX⟩ : ∃ bX, bX = Blk.box 57 x.cells := ⟨_, rfl⟩
    simp only [Sm.cells_eq] at hbX
    refine awp_cut (fun _ => false) (fun _ => none) (fun f H' => H' = V ++ [bX] ∧ f 0 = .bp c 0 ∧ f 17 = Sm.sl l ∧ f 18 = I l.length ∧ f 19 = I i ∧ f 4 = stS H.length out ∧ f 5 = tmS (H.length + 1) ts ∧ f 7 = .bp V.length 0) (by kernel_rfl) ?_ ?_
    · simp -dsimp [g0, g17, g18, g19, g4, g5, hlx, hbX]
    clear g g0 g17 g18 g19 g4 g5
    obtain ⟨k1, hk1⟩ : ∃ k1, k1 = H.length + 2 + L.length := ⟨_, rfl⟩
    rw [hV, w2_len, ← hk1, w2_app]
    clear hV V
    rintro g _ ⟨rfl, g0, g17, g18, g19, g4, g5, g7⟩
    have gX : ∀ X o t R, (M2 H c X o t (L ++ bX :: R))[k1]? = some (.box 57 [I x.kind, St x.name, St.sl x.names, I x.e.op, U x.e.word, St x.e.name, Ex.sl x.e.args, I x.a.op, U x.a.word, St x.a.name, Ex.sl x.a.args, Ex.sl x.args, U x.low, U x.high, Sm.sl x.body, Sm.sl x.els]) := fun X o t R => by rw [hk1, w2_getN, ← hbX]; simp
    have sX : ∀ X o t R Y, (M2 H c X o t (L ++ bX :: R)).set k1 Y = M2 H c X o t (L ++ Y :: R) := fun X o t R Y => by rw [hk1, w2_setN]; simp
    refine awp_cutA (fun f H' => H' = M2 H c (layB left) (stB out) (tmB ts) (L ++ [bX]) ∧ f 0 = .bp c 0 ∧ f 17 = Sm.sl l ∧ f 18 = I l.length ∧ f 19 = I i ∧ f 4 = stS H.length out ∧ f 5 = tmS (H.length + 1) ts ∧ f 7 = .bp k1 0 ∧ ¬ x.kind = 5) ?_ ?_
    · refine awp_cut (fun _ => false) (fun _ => none) (fun f H' => H' = M2 H c (layB left) (stB out) (tmB ts) (L ++ [bX]) ∧ f 0 = .bp c 0 ∧ f 17 = Sm.sl l ∧ f 18 = I l.length ∧ f 19 = I i ∧ f 4 = stS H.length out ∧ f 5 = tmS (H.length + 1) ts ∧ f 7 = .bp k1 0 ∧ f 25 = Bo (x.kind == 5)) (by kernel_rfl) ?_ ?_
      · simp -dsimp [g0, g17, g18, g19, g4, g5, g7, gX]
      clear g g0 g17 g18 g19 g4 g5 g7
      rintro g _ ⟨rfl, g0, g17, g18, g19, g4, g5, g7, g25⟩
      by_cases hk : x.kind = 5
      · rw [if_pos hk] at hinv
        refine awp_condT (by kernel_rfl) (by show g 25 = _; rw [g25]; simp [hk]) ?_
        refine awp_spare 1 ?_
        rw [w2_app]
        obtain ⟨kb, hkb⟩ : ∃ kb, kb = k1 + 1 := ⟨_, rfl⟩
        obtain ⟨kt, hkt⟩ : ∃ kt, kt = k1 + 2 := ⟨_, rfl⟩
        obtain ⟨V, hV⟩ : ∃ V, V = M2 H c (layB left) (stB out) (tmB ts) (L ++ [bX] ++ List.replicate 1 Blk.pend) := ⟨_, rfl⟩
        have hVl : V.length = kt := by rw [hV, w2_len, hkt, hk1]; simp; omega
        rw [← hV]
        refine awp_cut (fun _ => false) (fun _ => none) (fun f H' => H' = V ++ [.box 116 [I 6, nilS, Bo false, nilS]] ∧ f 0 = .bp c 0 ∧ f 17 = Sm.sl l ∧ f 18 = I l.length ∧ f 19 = I i ∧ f 4 = stS H.length out ∧ f 5 = tmS (H.length + 1) ts ∧ f 7 = .bp k1 0 ∧ f 8 = .bp V.length 0) (by kernel_rfl) ?_ ?_
        · simp -dsimp [g0, g17, g18, g19, g4, g5, g7]
        clear g g0 g17 g18 g19 g4 g5 g7 g25
        rw [hVl, hV, w2_app]
        rintro g _ ⟨rfl, g0, g17, g18, g19, g4, g5, g7, g8⟩
        clear hV hVl V
        have gB : ∀ X o t b R, (M2 H c X o t (L ++ bX :: b :: R))[kb]? = some b := fun X o t b R => by rw [hkb, hk1, show H.length + 2 + L.length + 1 = H.length + 2 + (L.length + 1) from by omega, w2_getN]; simp
        have sB : ∀ X o t b R Y, (M2 H c X o t (L ++ bX :: b :: R)).set kb Y = M2 H c X o t (L ++ bX :: Y :: R) := fun X o t b R Y => by rw [hkb, hk1, show H.length + 2 + L.length + 1 = H.length + 2 + (L.length + 1) from by omega, w2_setN]; simp
        have gT : ∀ X o t b y R, (M2 H c X o t (L ++ bX :: b :: y :: R))[kt]? = some y := fun X o t b y R => by rw [hkt, hk1, show H.length + 2 + L.length + 2 = H.length + 2 + (L.length + 2) from by omega, w2_getN]; simp
        have sT : ∀ X o t b y R Y, (M2 H c X o t (L ++ bX :: b :: y :: R)).set kt Y = M2 H c X o t (L ++ bX :: b :: Y :: R) := fun X o t b y R Y => by rw [hkt, hk1, show H.length + 2 + L.length + 2 = H.length + 2 + (L.length + 2) from by omega, w2_setN]; simp
        have hL : L ++ [bX] ++ List.replicate 1 Blk.pend ++ [Blk.box 116 [I 6, nilS, Bo false, nilS]] = L ++ bX :: subB [] :: [.box 116 [I 6, nilS, Bo false, subS kb []]] := by simp [ownB, ownS]
        rw [hL]
        clear hL
        obtain ⟨R0, hR0⟩ : ∃ R0, R0 = subB [] :: [Blk.box 116 [I 6, nilS, Bo false, subS kb []]] := ⟨_, rfl⟩
        rw [← hR0]
        obtain ⟨cnt, hcnt⟩ : ∃ cnt, cnt = (x.high - x.low).toNat := ⟨_, rfl⟩
        have hcn : x.high - x.low = (cnt : Int) := by rw [hcnt]; omega
        obtain ⟨q1, q2, q3⟩ := hfk hk
        obtain ⟨E1, hE1⟩ : ∃ E1, E1 = (roundGo (layM d) x.name x.low x.body cnt 0 left).map (fun r => (out ++ r.1, r.2.1, r.2.2)) := ⟨_, rfl⟩
        rw [← hcnt] at hinv
        have hEn : E1 = none → E = none := fun h => by
          rw [hE1] at h
          rw [Option.map_eq_none_iff.1 h] at hinv
          rw [← hinv]; rfl
        refine awp_cutA (fun f H' => ∃ out' subs left' L2, H' = M2 H c (layB left') (stB out') (tmB ts) (L ++ bX :: subB subs :: .box 116 [I 6, nilS, Bo false, subS kb subs] :: L2) ∧ f 0 = .bp c 0 ∧ f 17 = Sm.sl l ∧ f 18 = I l.length ∧ f 19 = I i ∧ f 4 = stS H.length out' ∧ f 5 = tmS (H.length + 1) ts ∧ f 8 = .bp kt 0 ∧ E1 = some (out', subs, left') ∧ 0 ≤ left' ∧ (out'.length : Int) + left' ≤ n0) ?_ ?_
        · have w3 : IntKind.u64.wrap (x.high - x.low) = (cnt : Int) := by rw [hcn]; exact wrapU (by omega) (by omega)
          refine awp_cut (fun _ => false) (fun _ => none) (fun f H' => H' = M2 H c (layB left) (stB out) (tmB ts) (L ++ bX :: R0) ∧ f 0 = .bp c 0 ∧ f 17 = Sm.sl l ∧ f 18 = I l.length ∧ f 19 = I i ∧ f 4 = stS H.length out ∧ f 5 = tmS (H.length + 1) ts ∧ f 7 = .bp k1 0 ∧ f 8 = .bp kt 0 ∧ f 31 = U cnt ∧ f 32 = U 0) (by kernel_rfl) ?_ ?_
          · simp -dsimp [g0, g17, g18, g19, g4, g5, g7, g8, gX, w3]
          clear g g0 g17 g18 g19 g4 g5 g7 g8
          rintro g _ ⟨rfl, g0, g17, g18, g19, g4, g5, g7, g8, g31, g32⟩
          refine awp_block ?_
          refine awp_loopI (fun (n : Nat) f H' => RouI H c n0 E1 ts L bX kb (roundGo (layM d) x.name x.low x.body (cnt - n) n) n (f 4) (f 5) H' ∧ f 0 = .bp c 0 ∧ f 17 = Sm.sl l ∧ f 18 = I l.length ∧ f 19 = I i ∧ f 7 = .bp k1 0 ∧ f 8 = .bp kt 0 ∧ f 31 = U cnt ∧ f 32 = U n ∧ n ≤ cnt) (fun n => cnt - n) 0
            ⟨⟨out, [], left, [], by rw [hR0], g4, g5, hl0, hol, rfl, by rw [hE1]; rfl⟩, g0, g17, g18, g19, g7, g8, g31, g32, by omega⟩ ?_
          clear g g0 g17 g18 g19 g4 g5 g7 g8 g31 g32 hR0 R0
          rintro n g _ ⟨⟨out', subs, left', L2, rfl, g4, g5, hl0', hol', hsl, hinv'⟩, g0, g17, g18, g19, g7, g8, g31, g32, hn⟩
          obtain ⟨V, hV⟩ : ∃ V, V = M2 H c (layB left') (stB out') (tmB ts) (L ++ bX :: subB subs :: .box 116 [I 6, nilS, Bo false, subS kb subs] :: L2) := ⟨_, rfl⟩
          rw [← hV]
          refine awp_cut (fun _ => false) (fun _ => none) (fun f H' => V = H' ∧ f 0 = .bp c 0 ∧ f 17 = Sm.sl l ∧ f 18 = I l.length ∧ f 19 = I i ∧ f 4 = stS H.length out' ∧ f 5 = tmS (H.length + 1) ts ∧ f 7 = .bp k1 0 ∧ f 8 = .bp kt 0 ∧ f 31 = U cnt ∧ f 32 = U n ∧ f 33 = Bo (decide ((n : Int) < cnt))) (by kernel_rfl) ?_ ?_
          · simp -dsimp [g0, g17, g18, g19, g4, g5, g7, g8, g31, g32]
          clear g g0 g17 g18 g19 g4 g5 g7 g8 g31 g32
          rintro g _ ⟨rfl, g0, g17, g18, g19, g4, g5, g7, g8, g31, g32, g33⟩
          refine awp_cut (fun _ => false) (fun _ => none) (fun f H' => V = H' ∧ f 0 = .bp c 0 ∧ f 17 = Sm.sl l ∧ f 18 = I l.length ∧ f 19 = I i ∧ f 4 = stS H.length out' ∧ f 5 = tmS (H.length + 1) ts ∧ f 7 = .bp k1 0 ∧ f 8 = .bp kt 0 ∧ f 31 = U cnt ∧ f 32 = U n ∧ n < cnt) (by kernel_rfl) ?_ ?_
          · simp -dsimp [g33]
            refine condVW_introD (fun hlt => ?_) (fun hlt => ?_)
            · simp -dsimp [g0, g17, g18, g19, g4, g5, g7, g8, g31, g32]
              omega
            · have hnc : cnt - n = 0 := by omega
              rw [hnc, roundGo] at hinv'
              simp -dsimp [g0, g17, g18, g19, g4, g5, g7, g8]
              exact ⟨out', subs, left', ⟨L2, hV⟩, rfl, by rw [← hinv']; simp, hl0', hol'⟩
          clear g g0 g17 g18 g19 g4 g5 g7 g8 g31 g32 g33
          rintro g _ ⟨rfl, g0, g17, g18, g19, g4, g5, g7, g8, g31, g32, hlt'⟩
          have hcn1 : cnt - n = (cnt - (n + 1)) + 1 := by omega
          rw [hcn1, roundGo] at hinv'
          refine awp_cutA (fun f H' => RouI H c n0 E1 ts L bX kb (roundGo (layM d) x.name x.low x.body (cnt - (n + 1)) (n + 1)) (n + 1) (f 4) (f 5) H' ∧ f 0 = .bp c 0 ∧ f 17 = Sm.sl l ∧ f 18 = I l.length ∧ f 19 = I i ∧ f 7 = .bp k1 0 ∧ f 8 = .bp kt 0 ∧ f 31 = U cnt ∧ f 32 = U n) ?_ ?_
          rotate_left
          · clear g g0 g17 g18 g19 g4 g5 g7 g8 g31 g32
            rintro g H' ⟨ho, g0, g17, g18, g19, g7, g8, g31, g32⟩
            replace ho := Hid.mk ho
            have w4 : IntKind.u64.wrap ((n : Int) + 1) = ((n + 1 : Nat) : Int) := by rw [wrapU (by omega) (by omega)]; rfl
            refine awp_all (fun _ => false) (fun _ => none) (by kernel_rfl) ?_
            simp -dsimp [g0, g17, g18, g19, g7, g8, g31, g32]
            exact ⟨n + 1, by omega, ho.out, w4, by omega⟩
          obtain ⟨rst, hrst⟩ : ∃ rst, rst = roundGo (layM d) x.name x.low x.body (cnt - (n + 1)) (n + 1) := ⟨_, rfl⟩
          rw [← hrst] at hinv' ⊢
          clear hrst
          refine awp_block ?_
          refine awp_cut (fun _ => false) (fun _ => none) (fun f H' => V = H' ∧ f 0 = .bp c 0 ∧ f 17 = Sm.sl l ∧ f 18 = I l.length ∧ f 19 = I i ∧ f 4 = stS H.length out' ∧ f 5 = tmS (H.length + 1) ts ∧ f 7 = .bp k1 0 ∧ f 8 = .bp kt 0 ∧ f 31 = U cnt ∧ f 32 = U n ∧ f 9 = U n) (by kernel_rfl) ?_ ?_
          · simp -dsimp [g0, g17, g18, g19, g4, g5, g7, g8, g31, g32]
          clear g g0 g17 g18 g19 g4 g5 g7 g8 g31 g32
          rintro g _ ⟨rfl, g0, g17, g18, g19, g4, g5, g7, g8, g31, g32, g9⟩
          have w5 : IntKind.u64.wrap (x.low + n) = x.low + n := wrapU (by omega) (by omega)
          have hVx := gX (layB left') (stB out') (tmB ts) (subB subs :: .box 116 [I 6, nilS, Bo false, subS kb subs] :: L2)
          rw [← hV] at hVx
          have hVc : V[c]? = some (layB left') := by rw [hV]; exact gC _ _ _ _
          have cp := put_ok x.name (x.low + n) x.body (by omega) V
          obtain ⟨B, hB⟩ : ∃ B, B = smsPut x.name (x.low + n) x.body := ⟨_, rfl⟩
          have hBc : smsCount B ≤ smsCount x.body := by rw [hB]; exact smsPut_count _ _ _
          have cl := ih B left' (by rw [hB, put_high]; omega) (by omega) (by rw [hB, put_fors]; exact hfb) hl0' (by omega) V c hVc
          rw [← hB] at cp hinv'
          have hlb := hR B left'
          obtain ⟨Y, hY⟩ : ∃ Y, Y = layM d B left' := ⟨_, rfl⟩
          rw [← hY] at cl hinv' hlb
          refine awp_all (fun d => d == 51 || d == 56) (fun i => if i = 10 then some [(0, []), (1, []), (3, []), (4, []), (5, []), (6, []), (2, [3, 4, 6]), (7, []), (8, []), (9, []), (10, [])] else none) (by kernel_rfl) ?_
          simp -dsimp [g0, g17, g18, g19, g4, g5, g7, g8, g31, g32, g9, hVx, w5]
          refine acallsW_det cp ?_
          simp -dsimp
          refine acallsW_of cl ?_
          rintro e H' hr
          cases Y with
          | none =>
            obtain ⟨rfl, rfl⟩ := hr
            simp -dsimp
            rw [hV, sC]
            exact finP _ _ _ (hEn hinv'.symm)
          | some r =>
            obtain ⟨b, t, l1⟩ := r
            obtain ⟨b1, b2, b3⟩ := hlb b t l1 hl0' rfl
            obtain ⟨rfl, rfl⟩ := hr
            rw [hV, sC]
            simp -dsimp [g0, g17, g18, g19, g4, g5, g7, g8, g31, g32, g9, gT]
            refine appendVW_own (k := H.length) (es := out'.map Sm.cells) (by rw [w2_getO]) (by simp; omega) (by simp; omega) ?_
            rw [w2_setO, ← List.map_append]
            simp -dsimp [g0, g17, g18, g19, g4, g5, g7, g8, g31, g32, g9, gT]
            refine appendVW_own (k := kb) (es := subs.map fun a => [Tm.sl a]) (by rw [gB]) (by simp; omega) (by simp; omega) ?_
            have hsb : subs.map (fun a => [Tm.sl a]) ++ [[Tm.sl t]] = (subs ++ [t]).map fun a => [Tm.sl a] := by simp
            rw [sB, hsb]
            simp -dsimp [g0, g17, g18, g19, g4, g5, g7, g8, g31, g32, g9, gT, sT]
            refine ⟨out' ++ b, subs ++ [t], l1, L2, by simp only [stB, subB, subS, List.map_append, List.map_cons, List.map_nil], by rw [stS, List.map_append], rfl, b1, by rw [List.length_append]; omega, by simp [hsl], ?_⟩
            rw [← hinv']
            cases hq2 : rst l1 <;> simp [hq2]
        · clear g g0 g17 g18 g19 g4 g5 g7 g8
          rintro g _ ⟨out', subs, left', L2, rfl, g0, g17, g18, g19, g4, g5, g8, h1, hl', ho'⟩
          have hkb2 : kb = H.length + (2 + L.length + 1) := by omega
          have hNl : (H.set c (layB left')).length = H.length := by simp
          rw [w2_eq (layB left') (stB out') (tmB ts)]
          refine awp_giveBox (hGu left') (2 + L.length + 1) 1 39 (subs.map fun a => [Tm.sl a]) (by
            rw [show 2 + L.length + 1 = L.length + 1 + 1 + 1 from by omega]; simp) (subs_frzB' subs) (2 + L.length + 1 + 1) 116 _ (Tm.mk 6 [] false subs).cells (by
            rw [show 2 + L.length + 1 + 1 = L.length + 1 + 1 + 1 + 1 from by omega]; simp; rfl) (by omega) (by
            rw [hNl, ← hkb2, Tm.cells_eq]
            simp only [List.map_cons, List.map_nil, frzS_v, frzS_own]
            exact .cons (.refl _) (.cons (.nil 1) (.cons (.refl _) (.cons (Weak.gvS _ _) .nil)))) ?_
          intro L' f' hf' hLl hLb hLo
          rw [hNl, ← hkb2] at hf'
          obtain ⟨L1, rfl⟩ : ∃ L1, L' = stB out' :: tmB ts :: L1 := by
            have e0 := hLo 0 (stB out') (by omega) (by omega) rfl (under_ownB_plain (sms_frzB out'))
            have e1 := hLo 1 (tmB ts) (by omega) (by omega) rfl (under_ownB_plain (tms_frzB ts))
            match L', e0, e1 with
            | a :: b :: L1, e0, e1 =>
              simp only [List.getElem?_cons_zero, List.getElem?_cons_succ, Option.some.injEq] at e0 e1
              subst e0 e1
              exact ⟨L1, rfl⟩
          have hgt : (M2 H c (layB left') (stB out') (tmB ts) L1)[kt]? = some (.box 116 (Tm.mk 6 [] false subs).cells) := by
            rw [hkt, hk1, show H.length + 2 + L.length + 2 = H.length + 2 + (L.length + 2) from by omega, w2_getN, ← hLb, show 2 + L.length + 1 + 1 = L.length + 2 + 1 + 1 from by omega]
            rfl
          have f0 : f' 0 = .bp c 0 := by rw [hf', g0]; simp
          have f17 : f' 17 = Sm.sl l := by rw [hf', g17]; simp
          have f18 : f' 18 = I l.length := by rw [hf', g18]; simp
          have f19 : f' 19 = I i := by rw [hf', g19]; simp
          have f4 : f' 4 = stS H.length out' := by rw [hf', g4]; exact frzS_ne (by omega)
          have f5 : f' 5 = tmS (H.length + 1) ts := by rw [hf', g5]; exact frzS_ne (by omega)
          have f8 : f' 8 = .bp kt 0 := by rw [hf', g8]; simp
          clear hf' g0 g17 g18 g19 g4 g5 g8
          rw [← w2_eq (layB left') (stB out') (tmB ts) L1]
          refine awp_all (fun d => d == 62) (fun _ => none) (by kernel_rfl) ?_
          rw [Tm.cells_eq] at hgt
          simp -dsimp [f0, f17, f18, f19, f4, f5, f8, hgt]
          refine appendVW_own (k := H.length + 1) (es := ts.map Tm.cells) (by rw [w2_getT]) (by simp; omega) (by simp; omega) ?_
          have hsb : ts.map Tm.cells ++ [[I (Tm.mk 6 [] false subs).kind, Pk.sls (Tm.mk 6 [] false subs).lines, Bo (Tm.mk 6 [] false subs).taken, Tm.sls (Tm.mk 6 [] false subs).subs]] = (ts ++ [Tm.mk 6 [] false subs]).map Tm.cells := by simp
          rw [w2_setT, hsb]
          simp -dsimp [f0, f17, f18, f19, f4, f5, f8]
          refine ⟨out', ts ++ [Tm.mk 6 [] false subs], left', L1, by rw [tmB, ← hsb], rfl, by rw [tmS, ← hsb], hl', ho', by simp [htl], ?_⟩
          rw [hE1] at h1
          cases hq : roundGo (layM d) x.name x.low x.body cnt 0 left with
          | none => rw [hq] at h1; cases h1
          | some r =>
            obtain ⟨bs, tss, l1⟩ := r
            rw [hq] at h1 hinv
            simp only [Option.map_some, Option.some.injEq, Prod.mk.injEq] at h1
            obtain ⟨rfl, rfl, rfl⟩ := h1
            rw [← hinv]
            cases hq2 : rest l1 <;> simp [hq2]
      · refine awp_condF (by kernel_rfl) (by show g 25 = _; rw [g25]; simp [hk]) ?_
        refine awp_all (fun _ => false) (fun _ => none) (by kernel_rfl) ?_
        simp -dsimp [g0, g17, g18, g19, g4, g5, g7]
        exact hk
    clear g g0 g17 g18 g19 g4 g5 g7
    rintro g _ ⟨rfl, g0, g17, g18, g19, g4, g5, g7, hk⟩
    rw [if_neg hk] at hinv
    have wl : IntKind.i64.wrap (left - 1) = left - 1 := wrapI (by omega) (by omega)
    refine awp_cut (fun _ => false) (fun _ => none) (fun f H' => H' = M2 H c (layB (left - 1)) (stB out) (tmB ts) (L ++ [bX]) ∧ f 0 = .bp c 0 ∧ f 17 = Sm.sl l ∧ f 18 = I l.length ∧ f 19 = I i ∧ f 4 = stS H.length out ∧ f 5 = tmS (H.length + 1) ts ∧ f 7 = .bp k1 0 ∧ 0 ≤ left - 1) (by kernel_rfl) ?_ ?_
    · simp -dsimp [g0, g17, g18, g19, g4, g5, g7, gC, sC, wl]
      refine condVW_introD (fun hlt => ?_) (fun hlt => ?_)
      · rw [if_pos hlt] at hinv
        simp -dsimp
        have : left - 1 = -1 := by omega
        rw [this]
        exact finP _ _ _ hinv.symm
      · simp -dsimp [g0, g17, g18, g19, g4, g5, g7]
        omega
    clear g g0 g17 g18 g19 g4 g5 g7
    rintro g _ ⟨rfl, g0, g17, g18, g19, g4, g5, g7, hl1⟩
    rw [if_neg (by omega)] at hinv
    -- the body
    obtain ⟨Y, hY⟩ : ∃ Y, Y = layM d x.body (left - 1) := ⟨_, rfl⟩
    have cl := fun L' => ih x.body (left - 1) (by omega) (by omega) hfb hl1 (by omega) (M2 H c (layB (left - 1)) (stB out) (tmB ts) L') c (gC _ _ _ _)
    have hlb := hR x.body (left - 1)
    rw [← hY] at cl hlb hinv
    refine awp_cut (fun _ => false) (fun _ => none) (fun f H' => ∃ b ta l1, Y = some (b, ta, l1) ∧ H' = M2 H c (layB l1) (stB out) (tmB ts) (L ++ [bX]) ∧ f 0 = .bp c 0 ∧ f 17 = Sm.sl l ∧ f 18 = I l.length ∧ f 19 = I i ∧ f 4 = stS H.length out ∧ f 5 = tmS (H.length + 1) ts ∧ f 7 = .bp k1 0 ∧ f 12 = Sm.sl b ∧ f 13 = Tm.sl ta) (by kernel_rfl) ?_ ?_
    · simp -dsimp [g0, g17, g18, g19, g4, g5, g7, gX]
      refine acallsW_of (cl _) ?_
      rintro e H' hr
      cases Y with
      | none =>
        obtain ⟨rfl, rfl⟩ := hr
        simp -dsimp
        rw [sC]
        exact finP _ _ _ hinv.symm
      | some r =>
        obtain ⟨b, t, l1⟩ := r
        obtain ⟨rfl, rfl⟩ := hr
        rw [sC]
        simp -dsimp [g0, g17, g18, g19, g4, g5, g7]
        exact ⟨_, _, _, ⟨rfl, rfl, rfl⟩, rfl, rfl, rfl⟩
    clear g g0 g17 g18 g19 g4 g5 g7 cl hY
    rintro g _ ⟨b, ta, l1, rfl, rfl, g0, g17, g18, g19, g4, g5, g7, g12, g13⟩
    obtain ⟨b1, b2, b3⟩ := hlb b ta l1 hl1 rfl
    simp only [] at hinv
    -- what is otherwise
    obtain ⟨Y, hY⟩ : ∃ Y, Y = layM d x.els l1 := ⟨_, rfl⟩
    have cl := fun L' => ih x.els l1 (by omega) (by omega) hfe b1 (by omega) (M2 H c (layB l1) (stB out) (tmB ts) L') c (gC _ _ _ _)
    have hle := hR x.els l1
    rw [← hY] at cl hle hinv
    refine awp_cut (fun _ => false) (fun _ => none) (fun f H' => ∃ e tb l2, Y = some (e, tb, l2) ∧ H' = M2 H c (layB l2) (stB out) (tmB ts) (L ++ [bX]) ∧ f 0 = .bp c 0 ∧ f 17 = Sm.sl l ∧ f 18 = I l.length ∧ f 19 = I i ∧ f 4 = stS H.length out ∧ f 5 = tmS (H.length + 1) ts ∧ f 7 = .bp k1 0 ∧ f 12 = Sm.sl b ∧ f 13 = Tm.sl ta ∧ f 14 = Sm.sl e ∧ f 15 = Tm.sl tb) (by kernel_rfl) ?_ ?_
    · simp -dsimp [g0, g17, g18, g19, g4, g5, g7, g12, g13, gX]
      refine acallsW_of (cl _) ?_
      rintro e H' hr
      cases Y with
      | none =>
        obtain ⟨rfl, rfl⟩ := hr
        simp -dsimp
        rw [sC]
        exact finP _ _ _ hinv.symm
      | some r =>
        obtain ⟨e, t, l2⟩ := r
        obtain ⟨rfl, rfl⟩ := hr
        rw [sC]
        simp -dsimp [g0, g17, g18, g19, g4, g5, g7, g12, g13]
        exact ⟨_, _, _, ⟨rfl, rfl, rfl⟩, rfl, rfl, rfl⟩
    clear g g0 g17 g18 g19 g4 g5 g7 g12 g13 cl hY
    rintro g _ ⟨e, tb, l2, rfl, rfl, g0, g17, g18, g19, g4, g5, g7, g12, g13, g14, g15⟩
    obtain ⟨e1, e2, e3⟩ := hle e tb l2 b1 rfl
    simp only [] at hinv
    -- the statement
    obtain ⟨bW, hbW⟩ : ∃ bW, bW = Blk.box 57 (x.withB b e).cells := ⟨_, rfl⟩
    have hWc : (x.withB b e).cells = [I x.kind, St x.name, St.sl x.names, I x.e.op, U x.e.word, St x.e.name, Ex.sl x.e.args, I x.a.op, U x.a.word, St x.a.name, Ex.sl x.a.args, Ex.sl x.args, U x.low, U x.high, Sm.sl b, Sm.sl e] := by rw [Sm.cells_eq]; rfl
    rw [hWc] at hbW
    refine awp_cut (fun _ => false) (fun _ => none) (fun f H' => H' = M2 H c (layB l2) (stB out) (tmB ts) (L ++ [bW]) ∧ f 0 = .bp c 0 ∧ f 17 = Sm.sl l ∧ f 18 = I l.length ∧ f 19 = I i ∧ f 4 = stS H.length out ∧ f 5 = tmS (H.length + 1) ts ∧ f 7 = .bp k1 0 ∧ f 13 = Tm.sl ta ∧ f 15 = Tm.sl tb) (by kernel_rfl) ?_ ?_
    · have gY : ∀ X o t R Y, (M2 H c X o t (L ++ Y :: R))[k1]? = some Y := fun X o t R Y => by rw [hk1, w2_getN]; simp
      have sY : ∀ X o t R Y Z, (M2 H c X o t (L ++ Y :: R)).set k1 Z = M2 H c X o t (L ++ Z :: R) := fun X o t R Y Z => by rw [hk1, w2_setN]; simp
      simp -dsimp [g0, g17, g18, g19, g4, g5, g7, g12, g13, g14, g15, gX, sX, gY, sY, hbW]
    clear g g0 g17 g18 g19 g4 g5 g7 g12 g13 g14 g15 gX sX
    rintro g _ ⟨rfl, g0, g17, g18, g19, g4, g5, g7, g13, g15⟩
    have gX : ∀ X o t R, (M2 H c X o t (L ++ bW :: R))[k1]? = some (.box 57 [I x.kind, St x.name, St.sl x.names, I x.e.op, U x.e.word, St x.e.name, Ex.sl x.e.args, I x.a.op, U x.a.word, St x.a.name, Ex.sl x.a.args, Ex.sl x.args, U x.low, U x.high, Sm.sl b, Sm.sl e]) := fun X o t R => by rw [hk1, w2_getN, ← hbW]; simp
    obtain ⟨V, hV⟩ : ∃ V, V = M2 H c (layB l2) (stB out) (tmB ts) (L ++ [bW]) := ⟨_, rfl⟩
    obtain ⟨kt, hkt⟩ : ∃ kt, kt = H.length + 2 + (L.length + 1) := ⟨_, rfl⟩
    have hVl : V.length = kt := by rw [hV, w2_len, hkt]; simp
    rw [← hV]
    refine awp_cut (fun _ => false) (fun _ => none) (fun f H' => H' = V ++ [.box 116 [I 1, nilS, Bo false, nilS]] ∧ f 0 = .bp c 0 ∧ f 17 = Sm.sl l ∧ f 18 = I l.length ∧ f 19 = I i ∧ f 4 = stS H.length out ∧ f 5 = tmS (H.length + 1) ts ∧ f 7 = .bp k1 0 ∧ f 13 = Tm.sl ta ∧ f 15 = Tm.sl tb ∧ f 16 = .bp V.length 0) (by kernel_rfl) ?_ ?_
    · simp -dsimp [g0, g17, g18, g19, g4, g5, g7, g13, g15]
    clear g g0 g17 g18 g19 g4 g5 g7 g13 g15
    rw [hVl, hV, w2_app]
    clear hV hVl V
    rintro g _ ⟨rfl, g0, g17, g18, g19, g4, g5, g7, g13, g15, g16⟩
    rw [List.append_assoc]
    have gT : ∀ X o t y, (M2 H c X o t (L ++ [bW, y]))[kt]? = some y := fun X o t y => by rw [hkt, w2_getN]; simp
    have sT : ∀ X o t y Y, (M2 H c X o t (L ++ [bW, y])).set kt Y = M2 H c X o t (L ++ [bW, Y]) := fun X o t y Y => by rw [hkt, w2_setN]; simp
    refine awp_cut (fun _ => false) (fun _ => none) (fun f H' => (∃ cs, H' = M2 H c (layB l2) (stB out) (tmB ts) (L ++ [bW, .box 116 cs]) ∧ WeakL cs (termOf x.kind ta tb).cells) ∧ f 0 = .bp c 0 ∧ f 17 = Sm.sl l ∧ f 18 = I l.length ∧ f 19 = I i ∧ f 4 = stS H.length out ∧ f 5 = tmS (H.length + 1) ts ∧ f 7 = .bp k1 0 ∧ f 16 = .bp kt 0) (by kernel_rfl) ?_ ?_
    · by_cases h3 : x.kind = 3
      · have ht : (termOf x.kind ta tb).cells = [I 3, Pk.sls [], Bo false, .vs 1 [[Tm.sl ta], [Tm.sl tb]]] := by rw [termOf, if_pos h3, Tm.cells_eq]; rfl
        rw [ht]
        simp -dsimp [g0, g17, g18, g19, g4, g5, g7, g13, g15, g16, gX, gT, sT, h3]
        exact ⟨_, rfl, .cons (.refl _) (.cons (.nil 1) (.cons (.refl _) (.cons (.refl _) .nil)))⟩
      · have hb3 : (x.kind == 3) = false := by simpa using h3
        by_cases h4 : x.kind = 4
        · have ht : (termOf x.kind ta tb).cells = [I 5, Pk.sls [], Bo false, .vs 1 [[Tm.sl ta]]] := by rw [termOf, if_neg h3, if_pos h4, Tm.cells_eq]; rfl
          rw [ht]
          simp -dsimp [g0, g17, g18, g19, g4, g5, g7, g13, g15, g16, gX, gT, sT, h4]
          exact ⟨_, rfl, .cons (.refl _) (.cons (.nil 1) (.cons (.refl _) (.cons (.refl _) .nil)))⟩
        · have hb4 : (x.kind == 4) = false := by simpa using h4
          have ht : (termOf x.kind ta tb).cells = [I 1, Pk.sls [], Bo false, Tm.sls []] := by rw [termOf, if_neg h3, if_neg h4, Tm.cells_eq]; rfl
          rw [ht]
          simp -dsimp [g0, g17, g18, g19, g4, g5, g7, g13, g15, g16, gX, gT, sT, hb3, hb4]
          exact ⟨_, rfl, .cons (.refl _) (.cons (.nil 1) (.cons (.refl _) (.cons (.nil 1) .nil)))⟩
    clear g g0 g17 g18 g19 g4 g5 g7 g13 g15 g16
    rintro g _ ⟨⟨cs, rfl, hw⟩, g0, g17, g18, g19, g4, g5, g7, g16⟩
    refine awp_weakbox kt 116 cs _ (gT _ _ _ _) hw ?_
    rw [sT]
    obtain ⟨tm, htm⟩ : ∃ tm, tm = termOf x.kind ta tb := ⟨_, rfl⟩
    rw [← htm]
    clear hw cs
    simp only [Tm.cells_eq]
    refine awp_all (fun d => d == 112 || d == 116) (fun i => if i = 25 then some [(0, []), (1, []), (2, []), (4, []), (5, []), (6, []), (3, [5, 6]), (7, []), (8, []), (9, [])] else none) (by kernel_rfl) ?_
    simp -dsimp [g0, g17, g18, g19, g4, g5, g7, g16, gX, gT]
    refine appendVW_own (k := H.length) (es := out.map Sm.cells) (by rw [w2_getO]) (by simp; omega) (by simp; omega) ?_
    rw [w2_setO]
    simp -dsimp [g0, g17, g18, g19, g4, g5, g7, g16, gX, gT]
    refine appendVW_own (k := H.length + 1) (es := ts.map Tm.cells) (by rw [w2_getT]) (by simp; omega) (by simp; omega) ?_
    rw [w2_setT]
    simp -dsimp [g0, g17, g18, g19, g4, g5, g7, g16]
    have ho1 : out.map Sm.cells ++ [[I x.kind, St x.name, St.sl x.names, I x.e.op, U x.e.word, St x.e.name, Ex.sl x.e.args, I x.a.op, U x.a.word, St x.a.name, Ex.sl x.a.args, Ex.sl x.args, U x.low, U x.high, Sm.sl b, Sm.sl e]] = (out ++ [x.withB b e]).map Sm.cells := by rw [List.map_append, List.map_cons, hWc]; rfl
    have ht1 : ts.map Tm.cells ++ [[I tm.kind, Pk.sls tm.lines, Bo tm.taken, Tm.sls tm.subs]] = (ts ++ [tm]).map Tm.cells := by rw [List.map_append, List.map_cons, Tm.cells_eq]; rfl
    refine ⟨out ++ [x.withB b e], ts ++ [tm], l2, _, by rw [stB, tmB, ← ho1, ← ht1], by rw [stS, ← ho1], by rw [tmS, ← ht1], e1, by rw [List.length_append]; simp; omega, by simp [htl], ?_⟩
    rw [← hinv, htm]
    cases hq : rest l2 <;> simp [hq]
end Go.Proofs
namespace Go.Proofs
open Go.Mu
theorem lrec_none (a b c : Nat) (H : List Blk) : RecSem Tryz.prog ⟨102, [.bp a 0, .bp b 0, .bp c 0], none⟩ (.v .nilIface) H (fun H' => H' = H) := by
  refine recSem_of_vc (hn := fun _ => false) (od := fun _ => none) Tryz.func102 rfl rfl (by kernel_rfl) ?_
  show vcC _ _ _ _ _ (recQ _) _ _ _
  simp -dsimp
theorem lrec_some (a b c : Nat) (H : List Blk) (x y z : List AV) (ha : H[a]? = some (.box 35 x)) (hb : H[b]? = some (.box 39 y)) (hc : H[c]? = some (.box 40 z)) (hx : x.length = 1) (hy : y.length = 1) (hz : z.length = 1) (hab : a ≠ b) (hac : a ≠ c) (hbc : b ≠ c) :
    RecSem Tryz.prog ⟨102, [.bp a 0, .bp b 0, .bp c 0], none⟩ fullV H (fun H' => ∃ L, H' = ((H.set a (.box 35 [nilS])).set b (.box 39 [nilS])).set c (.box 40 [I 13]) ++ L) := by
  refine recSem_of_vc (hn := fun _ => false) (od := fun _ => none) Tryz.func102 rfl rfl (by kernel_rfl) ?_
  show vcC _ _ _ _ _ (recQ _) _ _ _
  have la := lt_of_get ha
  have lb := lt_of_get hb
  have lc := lt_of_get hc
  obtain ⟨x0, rfl⟩ : ∃ x0, x = [x0] := by match x, hx with | [x0], _ => exact ⟨x0, rfl⟩
  obtain ⟨y0, rfl⟩ : ∃ x0, y = [x0] := by match y, hy with | [x0], _ => exact ⟨x0, rfl⟩
  obtain ⟨z0, rfl⟩ : ∃ x0, z = [x0] := by match z, hz with | [x0], _ => exact ⟨x0, rfl⟩
  have e1 : ∀ L, (H ++ L)[a]? = some (.box 35 [x0]) := fun L => get_app_old ha L
  have e2 : ∀ L X, (H.set a X ++ L)[b]? = some (.box 39 [y0]) := fun L X => by rw [List.getElem?_append_left (by simpa using lb), List.getElem?_set_ne hab]; exact hb
  have e3 : ∀ L X Y, ((H.set a X).set b Y ++ L)[c]? = some (.box 40 [z0]) := fun L X Y => by rw [List.getElem?_append_left (by simpa using lc), List.getElem?_set_ne hbc, List.getElem?_set_ne hac]; exact hc
  have s1 : ∀ L X, (H ++ L).set a X = H.set a X ++ L := fun L X => by rw [List.set_append, if_pos la]
  have s2 : ∀ L X Y, (H.set a X ++ L).set b Y = (H.set a X).set b Y ++ L := fun L X Y => by rw [List.set_append, if_pos (by simpa using lb)]
  have s3 : ∀ L X Y Z, ((H.set a X).set b Y ++ L).set c Z = ((H.set a X).set b Y).set c Z ++ L := fun L X Y Z => by rw [List.set_append, if_pos (by simpa using lc)]
  simp -dsimp [assertV, fullV, e1, e2, e3, s1, s2, s3]
def layE (l : List Sm) : List Sm × List Tm × Int := match layM (smsHigh l + 1) l 65536 with | some (b, t, _) => (b, t, 0) | none => ([], [], 13)
theorem lay_ok (l : List Sm) (hc : smsCount l ≤ 2^36) (hf : smsFors l = true) (H : List Blk) : ACalls Tryz.prog 55 [Sm.sl l] H (fun e H' => e = .ret (.tup [Sm.sl (layE l).1, Tm.sl (layE l).2.1, I (layE l).2.2]) ∧ H' = H) := by
  refine acalls_tidy (acalls_weakE (acalls_of_vcD (hn := fun _ => false) (od := fun i => if i = 4 then some [(0, []), (1, []), (2, [1]), (3, []), (4, [])] else none) Tryz.func55 rfl (by kernel_rfl) ?_))
  obtain ⟨M, hM⟩ : ∃ M : Int → List Blk, M = fun n => H ++ [.box 35 [nilS], .box 39 [nilS], .box 40 [I 0], layB n] := ⟨_, rfl⟩
  have hMe : ∀ n, M n = H ++ [.box 35 [nilS], .box 39 [nilS], .box 40 [I 0], layB n] := fun n => by rw [hM]
  have hMs : ∀ n, (M 65536).set (H.length + 3) (layB n) = M n := fun n => by rw [hMe, hMe]; simp
  have cl := lay_stmts_ok (smsHigh l + 1) l 65536 (Nat.lt_succ_self _) hc hf (by omega) (by omega) (M 65536) (H.length + 3) (by rw [hMe]; simp)
  clear hM
  unfold layE
  simp -dsimp
  rw [← hMe]
  refine acallsW_of cl ?_
  rintro e H' hr
  obtain ⟨Y, hY⟩ : ∃ Y, Y = layM (smsHigh l + 1) l 65536 := ⟨_, rfl⟩
  rw [← hY] at hr ⊢
  clear hY
  cases Y with
  | none =>
    obtain ⟨rfl, rfl⟩ := hr
    rw [hMs]
    simp -dsimp
    refine recW_of (lrec_some _ _ _ _ [nilS] [nilS] [I 0] (by rw [hMe]; simp) (by rw [hMe]; simp) (by rw [hMe]; simp) rfl rfl rfl (by omega) (by omega) (by omega)) ?_
    rintro H' ⟨L, rfl⟩
    rw [hMe]
    simp -dsimp
    refine tidy_weak (.tupL (.cons (.nil 16) (.cons (.nil 4) (.cons (.refl _) .nil)))) ?_
    exact tidy_same rfl ⟨rfl, rfl⟩
  | some r =>
    obtain ⟨b, tm, l1⟩ := r
    obtain ⟨rfl, rfl⟩ := hr
    rw [hMs, hMe]
    simp -dsimp
    refine recW_of (lrec_none _ _ _ _) ?_
    rintro H' rfl
    simp -dsimp
    exact tidy_weak (.refl _) (tidy_same rfl ⟨rfl, rfl⟩)
end Go.Proofs
namespace Go.Proofs
open Go.Mu
mutual
def Sm.uses (k : Int) : Sm → Bool
  | .mk kd _ _ _ _ _ _ _ b el => kd == k || (smsUses k b || smsUses k el)
def smsUses (k : Int) : List Sm → Bool
  | [] => false
  | s :: l => s.uses k || smsUses k l
end
theorem Sm.uses_eq (k : Int) (s : Sm) : s.uses k = (s.kind == k || (smsUses k s.body || smsUses k s.els)) := by cases s; rw [Sm.uses]; rfl
abbrev formB (a b c d : Bool) : Blk := .box 30 [Bo a, Bo b, Bo c, Bo d]
def FormI (G : Bool → Bool → List Blk) (A B : Bool) (l : List Sm) (H' : List Blk) : Prop := ∃ a' b' L, H' = G a' b' ++ L ∧ (a' || smsUses 6 l) = A ∧ (b' || smsUses 5 l) = B
theorem form1_ok (m : Nat) : ∀ (l : List Sm) (a b cc dd : Bool), smsCount l < m → smsCount l ≤ 2^36 → ∀ (H : List Blk) (c w : Nat), c ≠ w → H[c]? = some (formB a b cc dd) → H[w]? = some (.box 169 [.fn (.func 97) [] [.bp c 0, .bp w 0]]) →
    ACalls Tryz.prog 97 [Sm.sl l, .bp c 0, .bp w 0] H (fun e H' => e = .ret (.tup []) ∧ H' = H.set c (formB (a || smsUses 6 l) (b || smsUses 5 l) cc dd)) := by
  induction m with
  | zero => intro l a b cc dd h; omega
  | succ m ih =>
    intro l a b cc dd hm hcl H c w hcw hc hw
    refine acalls_tidy (acalls_of_awp Tryz.func97 rfl (by kernel_rfl) ?_)
    have hlen := sms_len l
    have hcH := lt_of_get hc
    have hwH := lt_of_get hw
    obtain ⟨G, hG⟩ : ∃ G : Bool → Bool → List Blk, ∀ a b, G a b = H.set c (formB a b cc dd) := ⟨_, fun _ _ => rfl⟩
    have gl : ∀ a b, (G a b).length = H.length := fun a b => by rw [hG]; simp
    have gg : ∀ a b L, (G a b ++ L)[c]? = some (formB a b cc dd) := fun n k L => by rw [hG]; exact s1_get hcH _ _
    have gw : ∀ a b L, (G a b ++ L)[w]? = some (.box 169 [.fn (.func 97) [] [.bp c 0, .bp w 0]]) := fun n k L => by rw [hG, List.getElem?_append_left (by simpa using hwH), List.getElem?_set_ne hcw]; exact hw
    have gs : ∀ a b a' b' L, (G a b ++ L).set c (formB a' b' cc dd) = G a' b' ++ L := fun n k n' k' L => by rw [hG, hG]; exact s1_set hcH _ _ _
    have done : ∀ a' b' L, a' = (a || smsUses 6 l) → b' = (b || smsUses 5 l) → Tidy H (fun x H' => x = AE.ret (.tup []) ∧ H' = H.set c (formB (a || smsUses 6 l) (b || smsUses 5 l) cc dd)) (.ret (.tup [])) (G a' b' ++ L) := fun a' b' L h1 h2 => by
      rw [hG, h1, h2]; exact tidy_s1 (fun _ => rfl) rfl ⟨rfl, rfl⟩
    have hH : H = G a b := by rw [hG, s1_same hc]
    clear hG
    refine awp_cut (fun _ => false) (fun _ => none) (fun f H' => H' = G a b ++ [] ∧ f 1 = .bp c 0 ∧ f 2 = .bp w 0 ∧ f 6 = Sm.sl l ∧ f 7 = I l.length ∧ f 8 = I 0) (by kernel_rfl) ?_ ?_
    · simp -dsimp
      exact hH
    rintro g _ ⟨rfl, g1, g2, g6, g7, g8⟩
    refine awp_block ?_
    refine awp_loopI (fun (i : Nat) f H' => FormI G (a || smsUses 6 l) (b || smsUses 5 l) (l.drop i) H' ∧ f 1 = .bp c 0 ∧ f 2 = .bp w 0 ∧ f 6 = Sm.sl l ∧ f 7 = I l.length ∧ f 8 = I i ∧ i ≤ l.length) (fun i => l.length - i) 0
      ⟨⟨a, b, [], rfl, rfl, rfl⟩, g1, g2, g6, g7, g8, by omega⟩ ?_
    clear g g1 g2 g6 g7 g8
    rintro i g _ ⟨⟨a', b', L, rfl, ha, hb⟩, g1, g2, g6, g7, g8, hi⟩
    refine awp_cut (fun _ => false) (fun _ => none) (fun f H' => H' = G a' b' ++ L ∧ f 1 = .bp c 0 ∧ f 2 = .bp w 0 ∧ f 6 = Sm.sl l ∧ f 7 = I l.length ∧ f 8 = I i ∧ f 9 = Bo (decide ((i : Int) < l.length))) (by kernel_rfl) ?_ ?_
    · simp -dsimp [g1, g2, g6, g7, g8]
    clear g g1 g2 g6 g7 g8
    rintro g _ ⟨rfl, g1, g2, g6, g7, g8, g9⟩
    refine awp_cut (fun _ => false) (fun _ => none) (fun f H' => H' = G a' b' ++ L ∧ f 1 = .bp c 0 ∧ f 2 = .bp w 0 ∧ f 6 = Sm.sl l ∧ f 7 = I l.length ∧ f 8 = I i ∧ i < l.length) (by kernel_rfl) ?_ ?_
    · simp -dsimp [g9]
      refine condVW_introD (fun hlt => ?_) (fun hlt => ?_)
      · simp -dsimp [g1, g2, g6, g7, g8]
        omega
      · rw [drop_end hlt, smsUses, Bool.or_false] at ha hb
        simp -dsimp
        exact done _ _ _ ha hb
    clear g g1 g2 g6 g7 g8 g9
    rintro g _ ⟨rfl, g1, g2, g6, g7, g8, hlt⟩
    have hlx := List.getElem?_eq_getElem hlt
    have hgx := sms_get hlt
    rw [drop_cons hlt, smsUses, Sm.uses_eq] at ha hb
    obtain ⟨x, hx⟩ : ∃ x, x = l[i] := ⟨_, rfl⟩
    rw [← hx] at hlx hgx ha hb
    clear hx
    have hcx := Sm.count_eq x
    refine awp_cutA (fun f H' => FormI G (a || smsUses 6 l) (b || smsUses 5 l) (l.drop (i + 1)) H' ∧ f 1 = .bp c 0 ∧ f 2 = .bp w 0 ∧ f 6 = Sm.sl l ∧ f 7 = I l.length ∧ f 8 = I i) ?_ ?_
    rotate_left
    · clear g g1 g2 g6 g7 g8
      rintro g H' ⟨ho, g1, g2, g6, g7, g8⟩
      replace ho := Hid.mk ho
      refine awp_all (fun _ => false) (fun _ => none) (by kernel_rfl) ?_
      simp -dsimp [g1, g2, g6, g7, g8]
      exact ⟨i + 1, by omega, ho.out, wrapS (by omega), by omega⟩
    refine awp_block ?_
    obtain ⟨bX, hbX⟩ : ∃ bX, bX = Blk.box 57 x.cells := ⟨_, rfl⟩
    simp only [Sm.cells_eq] at hbX
    obtain ⟨k, hk⟩ : ∃ k, k = (G a' b' ++ L).length := ⟨_, rfl⟩
    have hk2 : k = H.length + L.length := by rw [hk, List.length_append, gl]
    refine awp_cut (fun _ => false) (fun _ => none) (fun f H' => H' = G a' b' ++ L ++ [bX] ∧ f 1 = .bp c 0 ∧ f 2 = .bp w 0 ∧ f 6 = Sm.sl l ∧ f 7 = I l.length ∧ f 8 = I i ∧ f 5 = .bp k 0) (by kernel_rfl) ?_ ?_
    · obtain ⟨V, hV⟩ : ∃ V, V = G a' b' ++ L := ⟨_, rfl⟩
      rw [← hV] at hk ⊢
      simp -dsimp [g1, g2, g6, g7, g8, hlx, hbX, hk]
    clear g g1 g2 g6 g7 g8
    rintro g _ ⟨rfl, g1, g2, g6, g7, g8, g5⟩
    rw [List.append_assoc]
    obtain ⟨L1, hL1⟩ : ∃ L1, L1 = L ++ [bX] := ⟨_, rfl⟩
    have gX : ∀ a b, (G a b ++ L1)[k]? = some (.box 57 [I x.kind, St x.name, St.sl x.names, I x.e.op, U x.e.word, St x.e.name, Ex.sl x.e.args, I x.a.op, U x.a.word, St x.a.name, Ex.sl x.a.args, Ex.sl x.args, U x.low, U x.high, Sm.sl x.body, Sm.sl x.els]) := fun a b => by
      rw [hL1, hk2, List.getElem?_append_right (by rw [gl]; omega), gl, Nat.add_sub_cancel_left, List.getElem?_append_right (by omega), Nat.sub_self, ← hbX]; rfl
    rw [← hL1]
    clear hL1 hk hk2 hbX
    refine awp_cut (fun _ => false) (fun _ => none) (fun f H' => H' = G a' (b' || x.kind == 5) ++ L1 ∧ f 1 = .bp c 0 ∧ f 2 = .bp w 0 ∧ f 6 = Sm.sl l ∧ f 7 = I l.length ∧ f 8 = I i ∧ f 5 = .bp k 0) (by kernel_rfl) ?_ ?_
    · clear ha hb
      cases b' <;> simp -dsimp [g1, g2, g6, g7, g8, g5, gg, gX, gs]
    clear g g1 g2 g6 g7 g8 g5
    rintro g _ ⟨rfl, g1, g2, g6, g7, g8, g5⟩
    obtain ⟨b2, hb2⟩ : ∃ b2, b2 = (b' || x.kind == 5) := ⟨_, rfl⟩
    rw [← hb2]
    refine awp_cut (fun _ => false) (fun _ => none) (fun f H' => H' = G (a' || x.kind == 6) b2 ++ L1 ∧ f 1 = .bp c 0 ∧ f 2 = .bp w 0 ∧ f 6 = Sm.sl l ∧ f 7 = I l.length ∧ f 8 = I i ∧ f 5 = .bp k 0) (by kernel_rfl) ?_ ?_
    · clear ha hb
      cases a' <;> simp -dsimp [g1, g2, g6, g7, g8, g5, gg, gX, gs]
    clear g g1 g2 g6 g7 g8 g5
    rintro g _ ⟨rfl, g1, g2, g6, g7, g8, g5⟩
    obtain ⟨a2, ha2⟩ : ∃ a2, a2 = (a' || x.kind == 6) := ⟨_, rfl⟩
    rw [← ha2]
    have c1 := fun a b L => ih x.body a b cc dd (by omega) (by omega) (G a b ++ L) c w hcw (gg _ _ _) (gw _ _ _)
    have c2 := fun a b L => ih x.els a b cc dd (by omega) (by omega) (G a b ++ L) c w hcw (gg _ _ _) (gw _ _ _)
    simp only [gs] at c1 c2
    refine awp_all (fun _ => false) (fun _ => none) (by kernel_rfl) ?_
    simp -dsimp [g1, g2, g6, g7, g8, g5, gw, gX]
    refine acallsW_of (c1 _ _ _) ?_
    rintro e _ ⟨rfl, rfl⟩
    simp -dsimp [g1, g2, g6, g7, g8, g5, gw, gX]
    refine acallsW_of (c2 _ _ _) ?_
    rintro e _ ⟨rfl, rfl⟩
    simp -dsimp [g1, g2, g6, g7, g8, g5]
    refine ⟨_, _, L1, rfl, ?_, ?_⟩
    · rw [← ha, ha2]; simp only [Bool.or_assoc]
    · rw [← hb, hb2]; simp only [Bool.or_assoc]
end Go.Proofs
namespace Go.Proofs
open Go.Mu
def fcsUse (k : Int) : List Fc → Bool
  | [] => false
  | f :: l => smsUses k f.body || fcsUse k l
def vrsUse (k : Int) : List Vr → Bool
  | [] => false
  | v :: l => v.kind == k || vrsUse k l
def fcsVar (k : Int) : List Fc → Bool
  | [] => false
  | f :: l => vrsUse k f.vars || fcsVar k l
structure Fo where
  (calls fors arrays stack : Bool)
@[simp] def Fo.cells (f : Fo) : List AV := [Bo f.calls, Bo f.fors, Bo f.arrays, Bo f.stack]
def formT (p : Pg) : Fo := ⟨decide (1 < p.funcs.length) || fcsUse 6 p.funcs, fcsUse 5 p.funcs, fcsVar 2 p.funcs, decide (0 < p.regions.length) || fcsVar 3 p.funcs⟩
def formE (p : Pg) : Fo := if mayE p = 0 then formT p else ⟨false, false, false, false⟩
def FormJ (M : Bool → Bool → Bool → Bool → List Blk → List Blk) (T : Fo) (l : List Fc) (H' : List Blk) : Prop := ∃ a b c d L, H' = M a b c d L ∧ (a || fcsUse 6 l) = T.calls ∧ (b || fcsUse 5 l) = T.fors ∧ (c || fcsVar 2 l) = T.arrays ∧ (d || fcsVar 3 l) = T.stack
def FormK (M : Bool → Bool → Bool → Bool → List Blk → List Blk) (a b C D ra rs : Bool) (B : Blk) (L : List Blk) (l : List Vr) (H' : List Blk) : Prop := ∃ c d L2, H' = M a b c d (L ++ B :: L2) ∧ (c || (vrsUse 2 l || ra)) = C ∧ (d || (vrsUse 3 l || rs)) = D
theorem form_ok (p : Pg) (hp : p.Ok2) (hc : ∀ f ∈ p.funcs, smsCount f.body ≤ 2^36) (hv : ∀ f ∈ p.funcs, f.vars.length ≤ 2^36) (hfl : p.funcs.length ≤ 2^36) (hrl : p.regions.length ≤ 2^36) (H : List Blk) : ACalls Tryz.prog 53 [.agg p.cells] H (fun e H' => e = .ret (.agg (formE p).cells) ∧ H' = H) := by
  refine acalls_tidy (acalls_of_awp Tryz.func53 rfl (by kernel_rfl) ?_)
  obtain ⟨bP, hbP⟩ : ∃ bP, bP = Blk.box 25 [Rg.sl p.regions, Fc.sl p.funcs] := ⟨_, rfl⟩
  refine awp_cut (fun _ => false) (fun _ => none) (fun f H' => H' = H ++ [bP, formB false false false false] ∧ f 1 = .bp H.length 0 ∧ f 2 = .bp (H.length + 1) 0) (by kernel_rfl) ?_ ?_
  · rw [hbP]
    simp -dsimp
  rintro g _ ⟨rfl, g1, g2⟩
  refine awp_cut (fun _ => false) (fun _ => none) (fun f H' => H' = H ++ [bP, formB false false false false, formB false false false false] ∧ f 1 = .bp H.length 0 ∧ f 2 = .bp (H.length + 1) 0 ∧ f 3 = .bp (H.length + 2) 0) (by kernel_rfl) ?_ ?_
  · simp -dsimp [g1, g2]
  clear g g1 g2
  rintro g _ ⟨rfl, g1, g2, g3⟩
  obtain ⟨V, hV⟩ : ∃ V, V = H ++ [bP, formB false false false false, formB false false false false] := ⟨_, rfl⟩
  have hV0 : V[H.length]? = some (.box 25 [Rg.sl p.regions, Fc.sl p.funcs]) := by rw [hV, ← hbP]; simp
  have hV1 : V[H.length + 1]? = some (formB false false false false) := by rw [hV]; simp
  have hV2 : V[H.length + 2]? = some (formB false false false false) := by rw [hV]; simp
  have hVs : V.set (H.length + 1) (formB false false false false) = V := by rw [hV]; simp
  have fin : ∀ L e H', e = AE.ret (.agg (formE p).cells) → H' = H ++ L → Tidy H (fun e H' => e = .ret (.agg (formE p).cells) ∧ H' = H) e H' := fun L e H' h1 h2 => by
    rw [h1, h2]; exact tidy_same rfl ⟨rfl, rfl⟩
  rw [← hV]
  have cm := fun H => may_ok p hp H
  simp only [Pg.cells] at cm
  refine awp_cut (fun _ => false) (fun _ => none) (fun f H' => V = H' ∧ f 1 = .bp H.length 0 ∧ f 2 = .bp (H.length + 1) 0 ∧ f 3 = .bp (H.length + 2) 0 ∧ mayE p = 0) (by kernel_rfl) ?_ ?_
  · simp -dsimp [g1, g2, g3, hV0]
    refine acallsW_det (cm _) ?_
    simp -dsimp
    refine condVW_introNE (fun h1 h1a h1b => ?_) (fun h1 => ?_)
    · simp -dsimp [g1, g2, g3, hV0, hV1, hV2, hVs]
      exact fin _ _ _ (by rw [formE, if_neg h1]; rfl) hV
    · simp -dsimp [g1, g2, g3]
      exact h1
  clear g g1 g2 g3
  rintro g _ ⟨rfl, g1, g2, g3, hmay⟩
  obtain ⟨bW, hbW⟩ : ∃ bW, bW = Blk.box 169 [.fn (.func 97) [] [.bp (H.length + 2) 0, .bp (H.length + 3) 0]] := ⟨_, rfl⟩
  obtain ⟨M, hM⟩ : ∃ M : Bool → Bool → Bool → Bool → List Blk → List Blk, M = fun a b c d L => H ++ bP :: formB false false false false :: formB a b c d :: bW :: L := ⟨_, rfl⟩
  have hMe : ∀ a b c d L, M a b c d L = H ++ bP :: formB false false false false :: formB a b c d :: bW :: L := fun a b c d L => by rw [hM]
  have hMa : ∀ a b c d L R, M a b c d L ++ R = M a b c d (L ++ R) := fun a b c d L R => by rw [hMe, hMe]; simp
  have hMl : ∀ a b c d L, (M a b c d L).length = H.length + 4 + L.length := fun a b c d L => by rw [hMe]; simp; omega
  have m0 : ∀ a b c d L, (M a b c d L)[H.length]? = some (.box 25 [Rg.sl p.regions, Fc.sl p.funcs]) := fun a b c d L => by rw [hMe, ← hbP]; simp
  have m1 : ∀ a b c d L, (M a b c d L)[H.length + 1]? = some (formB false false false false) := fun a b c d L => by rw [hMe]; simp
  have m2 : ∀ a b c d L, (M a b c d L)[H.length + 2]? = some (formB a b c d) := fun a b c d L => by rw [hMe]; simp
  have m3 : ∀ a b c d L, (M a b c d L)[H.length + 3]? = some (.box 169 [.fn (.func 97) [] [.bp (H.length + 2) 0, .bp (H.length + 3) 0]]) := fun a b c d L => by rw [hMe, ← hbW]; simp
  have mN : ∀ a b c d L i, (M a b c d L)[H.length + 4 + i]? = L[i]? := fun a b c d L i => by
    rw [hMe, List.getElem?_append_right (by omega), show H.length + 4 + i - H.length = i + 1 + 1 + 1 + 1 from by omega]; rfl
  have ms : ∀ a b c d a' b' c' d' L, (M a b c d L).set (H.length + 2) (formB a' b' c' d') = M a' b' c' d' L := fun a b c d a' b' c' d' L => by rw [hMe, hMe]; simp
  clear hM
  have hfin : ∀ a b c d L, (⟨a, b, c, d⟩ : Fo) = formT p → ∃ L', M a b c d L = H ++ L' := fun a b c d L _ => ⟨_, hMe _ _ _ _ _⟩
  obtain ⟨z, hz⟩ : ∃ z, z = formB false false false false := ⟨_, rfl⟩
  obtain ⟨b1, hb1⟩ : ∃ b1, b1 = decide (1 < p.funcs.length) := ⟨_, rfl⟩
  obtain ⟨b4, hb4⟩ : ∃ b4, b4 = decide (0 < p.regions.length) := ⟨_, rfl⟩
  have e1 : decide ((1 : Int) < p.funcs.length) = b1 := by rw [hb1]; by_cases h : 1 < p.funcs.length <;> simp [h] <;> omega
  have e4 : decide ((0 : Int) < p.regions.length) = b4 := by rw [hb4]; by_cases h : 0 < p.regions.length <;> simp [h] <;> omega
  refine awp_cut (fun _ => false) (fun _ => none) (fun f H' => H' = H ++ [bP, z, formB b1 false false false] ∧ f 1 = .bp H.length 0 ∧ f 2 = .bp (H.length + 1) 0 ∧ f 3 = .bp (H.length + 2) 0) (by kernel_rfl) ?_ ?_
  · have hVt : ∀ X, V.set (H.length + 2) X = H ++ [bP, z, X] := fun X => by rw [hV, hz]; simp
    simp -dsimp [g1, g2, g3, hV0, hV2, hVt, e1]
  clear g g1 g2 g3 hV hV0 hV1 hV2 hVs V
  rintro g _ ⟨rfl, g1, g2, g3⟩
  obtain ⟨V, hV⟩ : ∃ V, V = H ++ [bP, z, formB b1 false false false] := ⟨_, rfl⟩
  have hV0 : V[H.length]? = some (.box 25 [Rg.sl p.regions, Fc.sl p.funcs]) := by rw [hV, ← hbP]; simp
  have hV2 : V[H.length + 2]? = some (formB b1 false false false) := by rw [hV]; simp
  have hVt : ∀ X, V.set (H.length + 2) X = H ++ [bP, z, X] := fun X => by rw [hV]; simp
  rw [← hV]
  refine awp_cut (fun _ => false) (fun _ => none) (fun f H' => H' = H ++ [bP, z, formB b1 false false b4] ∧ f 1 = .bp H.length 0 ∧ f 2 = .bp (H.length + 1) 0 ∧ f 3 = .bp (H.length + 2) 0) (by kernel_rfl) ?_ ?_
  · simp -dsimp [g1, g2, g3, hV0, hV2, hVt, e4, hb4.symm]
  clear g g1 g2 g3 hV hV0 hV2 hVt V
  rintro g _ ⟨rfl, g1, g2, g3⟩
  obtain ⟨x3, hx3⟩ : ∃ x3, x3 = formB b1 false false b4 := ⟨_, rfl⟩
  rw [← hx3]
  refine awp_cut (fun _ => false) (fun _ => none) (fun f H' => H' = H ++ [bP, z, x3, .box 169 [.v .nilFunc]] ∧ f 1 = .bp H.length 0 ∧ f 2 = .bp (H.length + 1) 0 ∧ f 3 = .bp (H.length + 2) 0 ∧ f 4 = .bp (H.length + 3) 0) (by kernel_rfl) ?_ ?_
  · simp -dsimp [g1, g2, g3]
  clear g g1 g2 g3
  rintro g _ ⟨rfl, g1, g2, g3, g4⟩
  refine awp_cut (fun _ => false) (fun _ => none) (fun f H' => H' = M b1 false false b4 [] ∧ f 1 = .bp H.length 0 ∧ f 2 = .bp (H.length + 1) 0 ∧ f 3 = .bp (H.length + 2) 0 ∧ f 4 = .bp (H.length + 3) 0) (by kernel_rfl) ?_ ?_
  · rw [hMe, ← hz, ← hx3, hbW]
    simp -dsimp [g1, g2, g3, g4]
  clear g g1 g2 g3 g4 hx3 x3
  rw [← hz] at hMe
  clear hz
  rintro g _ ⟨rfl, g1, g2, g3, g4⟩
  -- functions
  refine awp_cutA (fun f H' => FormJ M (formT p) [] H' ∧ f 2 = .bp (H.length + 1) 0 ∧ f 3 = .bp (H.length + 2) 0) ?_ ?_
  rotate_left
  · clear g g1 g2 g3 g4
    rintro g _ ⟨⟨a, b, c, d, L, rfl, h1, h2, h3, h4⟩, g2, g3⟩
    simp only [fcsUse, fcsVar, Bool.or_false] at h1 h2 h3 h4
    refine awp_all (fun _ => false) (fun _ => none) (by kernel_rfl) ?_
    have q1 : ∀ X, ((M a b c d L).set (H.length + 1) X)[H.length + 1]? = some X := fun X => by rw [List.getElem?_set_self (by rw [hMl]; omega)]
    have q2 : ∀ X, ∃ L', (M a b c d L).set (H.length + 1) X = H ++ L' := fun X => ⟨bP :: X :: formB a b c d :: bW :: L, by rw [hMe]; simp⟩
    simp -dsimp [g2, g3, m2, m1, q1]
    obtain ⟨L', hL'⟩ := q2 (formB a b c d)
    rw [hL', h1, h2, h3, h4]
    refine tidy_same rfl ⟨?_, rfl⟩
    rw [formE, if_pos hmay]
  refine awp_cut (fun _ => false) (fun _ => none) (fun f H' => H' = M b1 false false b4 [] ∧ f 2 = .bp (H.length + 1) 0 ∧ f 3 = .bp (H.length + 2) 0 ∧ f 4 = .bp (H.length + 3) 0 ∧ f 25 = Fc.sl p.funcs ∧ f 26 = I p.funcs.length ∧ f 27 = I 0) (by kernel_rfl) ?_ ?_
  · simp -dsimp [g1, g2, g3, g4, m0]
  clear g g1 g2 g3 g4
  rintro g _ ⟨rfl, g2, g3, g4, g25, g26, g27⟩
  refine awp_block ?_
  refine awp_loopI (fun (i : Nat) f H' => FormJ M (formT p) (p.funcs.drop i) H' ∧ f 2 = .bp (H.length + 1) 0 ∧ f 3 = .bp (H.length + 2) 0 ∧ f 4 = .bp (H.length + 3) 0 ∧ f 25 = Fc.sl p.funcs ∧ f 26 = I p.funcs.length ∧ f 27 = I i ∧ i ≤ p.funcs.length) (fun i => p.funcs.length - i) 0
    ⟨⟨b1, false, false, b4, [], rfl, by rw [hb1]; rfl, rfl, rfl, by rw [hb4]; rfl⟩, g2, g3, g4, g25, g26, g27, by omega⟩ ?_
  clear g g2 g3 g4 g25 g26 g27
  rintro i g _ ⟨⟨a, b, c, d, L, rfl, h1, h2, h3, h4⟩, g2, g3, g4, g25, g26, g27, hi⟩
  refine awp_cut (fun _ => false) (fun _ => none) (fun f H' => H' = M a b c d L ∧ f 2 = .bp (H.length + 1) 0 ∧ f 3 = .bp (H.length + 2) 0 ∧ f 4 = .bp (H.length + 3) 0 ∧ f 25 = Fc.sl p.funcs ∧ f 26 = I p.funcs.length ∧ f 27 = I i ∧ f 28 = Bo (decide ((i : Int) < p.funcs.length))) (by kernel_rfl) ?_ ?_
  · simp -dsimp [g2, g3, g4, g25, g26, g27]
  clear g g2 g3 g4 g25 g26 g27
  rintro g _ ⟨rfl, g2, g3, g4, g25, g26, g27, g28⟩
  refine awp_cut (fun _ => false) (fun _ => none) (fun f H' => H' = M a b c d L ∧ f 2 = .bp (H.length + 1) 0 ∧ f 3 = .bp (H.length + 2) 0 ∧ f 4 = .bp (H.length + 3) 0 ∧ f 25 = Fc.sl p.funcs ∧ f 26 = I p.funcs.length ∧ f 27 = I i ∧ i < p.funcs.length) (by kernel_rfl) ?_ ?_
  · simp -dsimp [g28]
    refine condVW_introD (fun hlt => ?_) (fun hlt => ?_)
    · simp -dsimp [g2, g3, g4, g25, g26, g27]
      omega
    · rw [drop_end hlt] at h1 h2 h3 h4
      simp -dsimp [g2, g3]
      exact ⟨a, b, c, d, L, rfl, h1, h2, h3, h4⟩
  clear g g2 g3 g4 g25 g26 g27 g28
  rintro g _ ⟨rfl, g2, g3, g4, g25, g26, g27, hlt⟩
  have hlx : p.funcs[i]? = some p.funcs[i] := List.getElem?_eq_getElem hlt
  have hmx := List.getElem_mem hlt
  rw [drop_cons hlt] at h1 h2 h3 h4
  obtain ⟨x, hx⟩ : ∃ x, x = p.funcs[i] := ⟨_, rfl⟩
  rw [← hx] at hlx hmx h1 h2 h3 h4
  clear hx
  have hxc := hc x hmx
  have hxv := hv x hmx
  rw [fcsUse] at h1 h2
  rw [fcsVar] at h3 h4
  refine awp_cutA (fun f H' => FormJ M (formT p) (p.funcs.drop (i + 1)) H' ∧ f 2 = .bp (H.length + 1) 0 ∧ f 3 = .bp (H.length + 2) 0 ∧ f 4 = .bp (H.length + 3) 0 ∧ f 25 = Fc.sl p.funcs ∧ f 26 = I p.funcs.length ∧ f 27 = I i) ?_ ?_
  rotate_left
  · clear g g2 g3 g4 g25 g26 g27
    rintro g H' ⟨ho, g2, g3, g4, g25, g26, g27⟩
    replace ho := Hid.mk ho
    refine awp_all (fun _ => false) (fun _ => none) (by kernel_rfl) ?_
    simp -dsimp [g2, g3, g4, g25, g26, g27]
    exact ⟨i + 1, by omega, ho.out, wrapS (by omega), by omega⟩
  refine awp_block ?_
  obtain ⟨k, hk⟩ : ∃ k, k = (M a b c d L).length := ⟨_, rfl⟩
  obtain ⟨bF, hbF⟩ : ∃ bF, bF = Blk.box 37 [St x.name, Vr.sl x.params, Vr.sl x.vars, St.sl x.rets, Sm.sl x.body] := ⟨_, rfl⟩
  refine awp_cut (fun _ => false) (fun _ => none) (fun f H' => H' = M a b c d L ++ [bF] ∧ f 2 = .bp (H.length + 1) 0 ∧ f 3 = .bp (H.length + 2) 0 ∧ f 4 = .bp (H.length + 3) 0 ∧ f 25 = Fc.sl p.funcs ∧ f 26 = I p.funcs.length ∧ f 27 = I i ∧ f 6 = .bp k 0) (by kernel_rfl) ?_ ?_
  · rw [hbF, hk]
    simp -dsimp [g2, g3, g4, g25, g26, g27, hlx]
  clear g g2 g3 g4 g25 g26 g27
  rintro g _ ⟨rfl, g2, g3, g4, g25, g26, g27, g6⟩
  rw [hMa]
  rw [hMl] at hk
  have gF : ∀ a b c d R, (M a b c d (L ++ bF :: R))[k]? = some (.box 37 [St x.name, Vr.sl x.params, Vr.sl x.vars, St.sl x.rets, Sm.sl x.body]) := fun a b c d R => by rw [hk, mN, ← hbF]; simp
  clear hk
  refine awp_cutA (fun f H' => FormK M a b (formT p).arrays (formT p).stack (fcsVar 2 (p.funcs.drop (i + 1))) (fcsVar 3 (p.funcs.drop (i + 1))) bF L [] H' ∧ f 2 = .bp (H.length + 1) 0 ∧ f 3 = .bp (H.length + 2) 0 ∧ f 4 = .bp (H.length + 3) 0 ∧ f 25 = Fc.sl p.funcs ∧ f 26 = I p.funcs.length ∧ f 27 = I i ∧ f 6 = .bp k 0) ?_ ?_
  · refine awp_cut (fun _ => false) (fun _ => none) (fun f H' => H' = M a b c d (L ++ [bF]) ∧ f 2 = .bp (H.length + 1) 0 ∧ f 3 = .bp (H.length + 2) 0 ∧ f 4 = .bp (H.length + 3) 0 ∧ f 25 = Fc.sl p.funcs ∧ f 26 = I p.funcs.length ∧ f 27 = I i ∧ f 6 = .bp k 0 ∧ f 32 = Vr.sl x.vars ∧ f 33 = I x.vars.length ∧ f 34 = I 0) (by kernel_rfl) ?_ ?_
    · simp -dsimp [g2, g3, g4, g25, g26, g27, g6, gF]
    clear g g2 g3 g4 g25 g26 g27 g6
    rintro g _ ⟨rfl, g2, g3, g4, g25, g26, g27, g6, g32, g33, g34⟩
    refine awp_block ?_
    refine awp_loopI (fun (j : Nat) f H' => FormK M a b (formT p).arrays (formT p).stack (fcsVar 2 (p.funcs.drop (i + 1))) (fcsVar 3 (p.funcs.drop (i + 1))) bF L (x.vars.drop j) H' ∧ f 2 = .bp (H.length + 1) 0 ∧ f 3 = .bp (H.length + 2) 0 ∧ f 4 = .bp (H.length + 3) 0 ∧ f 25 = Fc.sl p.funcs ∧ f 26 = I p.funcs.length ∧ f 27 = I i ∧ f 6 = .bp k 0 ∧ f 32 = Vr.sl x.vars ∧ f 33 = I x.vars.length ∧ f 34 = I j ∧ j ≤ x.vars.length) (fun j => x.vars.length - j) 0
      ⟨⟨c, d, [], rfl, h3, h4⟩, g2, g3, g4, g25, g26, g27, g6, g32, g33, g34, by omega⟩ ?_
    clear g g2 g3 g4 g25 g26 g27 g6 g32 g33 g34 h3 h4 c d
    rintro j g _ ⟨⟨c, d, L2, rfl, h3, h4⟩, g2, g3, g4, g25, g26, g27, g6, g32, g33, g34, hj⟩
    refine awp_cut (fun _ => false) (fun _ => none) (fun f H' => H' = M a b c d (L ++ bF :: L2) ∧ f 2 = .bp (H.length + 1) 0 ∧ f 3 = .bp (H.length + 2) 0 ∧ f 4 = .bp (H.length + 3) 0 ∧ f 25 = Fc.sl p.funcs ∧ f 26 = I p.funcs.length ∧ f 27 = I i ∧ f 6 = .bp k 0 ∧ f 32 = Vr.sl x.vars ∧ f 33 = I x.vars.length ∧ f 34 = I j ∧ f 35 = Bo (decide ((j : Int) < x.vars.length))) (by kernel_rfl) ?_ ?_
    · simp -dsimp [g2, g3, g4, g25, g26, g27, g6, g32, g33, g34]
    clear g g2 g3 g4 g25 g26 g27 g6 g32 g33 g34
    rintro g _ ⟨rfl, g2, g3, g4, g25, g26, g27, g6, g32, g33, g34, g35⟩
    refine awp_cut (fun _ => false) (fun _ => none) (fun f H' => H' = M a b c d (L ++ bF :: L2) ∧ f 2 = .bp (H.length + 1) 0 ∧ f 3 = .bp (H.length + 2) 0 ∧ f 4 = .bp (H.length + 3) 0 ∧ f 25 = Fc.sl p.funcs ∧ f 26 = I p.funcs.length ∧ f 27 = I i ∧ f 6 = .bp k 0 ∧ f 32 = Vr.sl x.vars ∧ f 33 = I x.vars.length ∧ f 34 = I j ∧ j < x.vars.length) (by kernel_rfl) ?_ ?_
    · simp -dsimp [g35]
      refine condVW_introD (fun hlt2 => ?_) (fun hlt2 => ?_)
      · simp -dsimp [g2, g3, g4, g25, g26, g27, g6, g32, g33, g34]
        omega
      · rw [drop_end hlt2] at h3 h4
        simp -dsimp [g2, g3, g4, g25, g26, g27, g6]
        exact ⟨c, d, L2, rfl, h3, h4⟩
    clear g g2 g3 g4 g25 g26 g27 g6 g32 g33 g34 g35
    rintro g _ ⟨rfl, g2, g3, g4, g25, g26, g27, g6, g32, g33, g34, hlt2⟩
    have hly : x.vars[j]? = some x.vars[j] := List.getElem?_eq_getElem hlt2
    rw [drop_cons hlt2, vrsUse] at h3 h4
    obtain ⟨y, hy⟩ : ∃ y, y = x.vars[j] := ⟨_, rfl⟩
    rw [← hy] at hly h3 h4
    clear hy
    refine awp_cutA (fun f H' => FormK M a b (formT p).arrays (formT p).stack (fcsVar 2 (p.funcs.drop (i + 1))) (fcsVar 3 (p.funcs.drop (i + 1))) bF L (x.vars.drop (j + 1)) H' ∧ f 2 = .bp (H.length + 1) 0 ∧ f 3 = .bp (H.length + 2) 0 ∧ f 4 = .bp (H.length + 3) 0 ∧ f 25 = Fc.sl p.funcs ∧ f 26 = I p.funcs.length ∧ f 27 = I i ∧ f 6 = .bp k 0 ∧ f 32 = Vr.sl x.vars ∧ f 33 = I x.vars.length ∧ f 34 = I j) ?_ ?_
    rotate_left
    · clear g g2 g3 g4 g25 g26 g27 g6 g32 g33 g34
      rintro g H' ⟨ho, g2, g3, g4, g25, g26, g27, g6, g32, g33, g34⟩
      replace ho := Hid.mk ho
      refine awp_all (fun _ => false) (fun _ => none) (by kernel_rfl) ?_
      simp -dsimp [g2, g3, g4, g25, g26, g27, g6, g32, g33, g34]
      exact ⟨j + 1, by omega, ho.out, wrapS (by omega), by omega⟩
    refine awp_block ?_
    obtain ⟨u, hu⟩ : ∃ u, u = (M a b c d (L ++ bF :: L2)).length := ⟨_, rfl⟩
    obtain ⟨bY, hbY⟩ : ∃ bY, bY = Blk.box 67 [St y.name, I y.kind, I y.size, Bo y.secret] := ⟨_, rfl⟩
    refine awp_cut (fun _ => false) (fun _ => none) (fun f H' => H' = M a b c d (L ++ bF :: L2) ++ [bY] ∧ f 2 = .bp (H.length + 1) 0 ∧ f 3 = .bp (H.length + 2) 0 ∧ f 4 = .bp (H.length + 3) 0 ∧ f 25 = Fc.sl p.funcs ∧ f 26 = I p.funcs.length ∧ f 27 = I i ∧ f 6 = .bp k 0 ∧ f 32 = Vr.sl x.vars ∧ f 33 = I x.vars.length ∧ f 34 = I j ∧ f 8 = .bp u 0) (by kernel_rfl) ?_ ?_
    · rw [hbY, hu]
      simp -dsimp [g2, g3, g4, g25, g26, g27, g6, g32, g33, g34, hly]
    clear g g2 g3 g4 g25 g26 g27 g6 g32 g33 g34
    rintro g _ ⟨rfl, g2, g3, g4, g25, g26, g27, g6, g32, g33, g34, g8⟩
    rw [hMa, List.append_assoc, List.cons_append]
    rw [hMl] at hu
    have gY : ∀ a b c d, (M a b c d (L ++ bF :: (L2 ++ [bY])))[u]? = some (.box 67 [St y.name, I y.kind, I y.size, Bo y.secret]) := fun a b c d => by
      rw [hu, mN, ← hbY, List.getElem?_append_right (by simp), List.length_append, Nat.add_sub_cancel_left, List.length_cons, List.getElem?_cons_succ, List.getElem?_append_right (Nat.le_refl _), Nat.sub_self]; rfl
    obtain ⟨L3, hL3⟩ : ∃ L3, L3 = L2 ++ [bY] := ⟨_, rfl⟩
    rw [← hL3] at gY ⊢
    refine awp_cut (fun _ => false) (fun _ => none) (fun f H' => H' = M a b (c || y.kind == 2) d (L ++ bF :: L3) ∧ f 2 = .bp (H.length + 1) 0 ∧ f 3 = .bp (H.length + 2) 0 ∧ f 4 = .bp (H.length + 3) 0 ∧ f 25 = Fc.sl p.funcs ∧ f 26 = I p.funcs.length ∧ f 27 = I i ∧ f 6 = .bp k 0 ∧ f 32 = Vr.sl x.vars ∧ f 33 = I x.vars.length ∧ f 34 = I j ∧ f 8 = .bp u 0) (by kernel_rfl) ?_ ?_
    · clear h3 h4
      cases c <;> simp -dsimp [g2, g3, g4, g25, g26, g27, g6, g32, g33, g34, g8, m2, gY, ms]
    clear g g2 g3 g4 g25 g26 g27 g6 g32 g33 g34 g8
    rintro g _ ⟨rfl, g2, g3, g4, g25, g26, g27, g6, g32, g33, g34, g8⟩
    obtain ⟨c2, hc2⟩ : ∃ c2, c2 = (c || y.kind == 2) := ⟨_, rfl⟩
    rw [← hc2]
    have h3' : (c2 || (vrsUse 2 (x.vars.drop (j + 1)) || fcsVar 2 (p.funcs.drop (i + 1)))) = (formT p).arrays := by rw [← h3, hc2]; simp only [Bool.or_assoc]
    have h4' : ((d || y.kind == 3) || (vrsUse 3 (x.vars.drop (j + 1)) || fcsVar 3 (p.funcs.drop (i + 1)))) = (formT p).stack := by rw [← h4]; simp only [Bool.or_assoc]
    have hdone : FormK M a b (formT p).arrays (formT p).stack (fcsVar 2 (p.funcs.drop (i + 1))) (fcsVar 3 (p.funcs.drop (i + 1))) bF L (x.vars.drop (j + 1)) (M a b c2 (d || y.kind == 3) (L ++ bF :: L3)) := ⟨c2, _, L3, rfl, h3', h4'⟩
    clear h3 h4 h3' h4' h1 h2
    replace hdone := Hid.mk hdone
    refine awp_all (fun _ => false) (fun _ => none) (by kernel_rfl) ?_
    cases d
    · simp -dsimp [g2, g3, g4, g25, g26, g27, g6, g32, g33, g34, g8, m2, gY, ms]
      have := hdone.out
      rwa [Bool.false_or] at this
    · simp -dsimp [g2, g3, g4, g25, g26, g27, g6, g32, g33, g34, g8, m2, gY, ms]
      have := hdone.out
      rwa [Bool.true_or] at this
  · clear g g2 g3 g4 g25 g26 g27 g6 h3 h4 c d
    rintro g _ ⟨⟨c, d, L2, rfl, h3, h4⟩, g2, g3, g4, g25, g26, g27, g6⟩
    simp only [vrsUse, Bool.false_or] at h3 h4
    have cw := fun L => form1_ok _ x.body a b c d (Nat.lt_succ_self _) hxc (M a b c d L) (H.length + 2) (H.length + 3) (by omega) (m2 _ _ _ _ _) (m3 _ _ _ _ _)
    simp only [ms] at cw
    refine awp_all (fun _ => false) (fun _ => none) (by kernel_rfl) ?_
    simp -dsimp [g2, g3, g4, g25, g26, g27, g6, m3, gF]
    refine acallsW_of (cw _) ?_
    rintro e _ ⟨rfl, rfl⟩
    simp -dsimp [g2, g3, g4, g25, g26, g27]
    refine ⟨_, _, c, d, _, rfl, ?_, ?_, h3, h4⟩
    · rw [← h1]; simp only [Bool.or_assoc]
    · rw [← h2]; simp only [Bool.or_assoc]
end Go.Proofs
namespace Go.Proofs
open Go.Mu
theorem ruses_ok (kd : Int) (m : Nat) : ∀ (l : List Sm), smsCount l < m → smsCount l ≤ 2^40 → ∀ (H : List Blk), ACalls Tryz.prog 51 [Sm.sl l, I kd] H (fun e H' => e = .ret (Bo (smsUses kd l)) ∧ H' = H) := by
  induction m with
  | zero => intro l h; omega
  | succ m ih =>
    intro l hm hc H
    refine acalls_tidy (acalls_of_vc (hn := fun _ => false) (od := fun _ => none) Tryz.func51 rfl (by kernel_rfl) ?_)
    have hlen := sms_len l
    obtain ⟨E, hE⟩ : ∃ E, E = smsUses kd l := ⟨_, rfl⟩
    rw [← hE]
    have fin : ∀ b, b = E → Tidy H (fun e H' => e = .ret (Bo E) ∧ H' = H) (.ret (Bo b)) H := fun b h => by rw [h]; exact tidy_now rfl ⟨rfl, rfl⟩
    simp -dsimp
    refine loop_rule (hn := fun _ => false) (od := fun _ => none) (fun (i : Nat) f H' => H = H' ∧ f 0 = Sm.sl l ∧ f 1 = I kd ∧ f 5 = I i ∧ i ≤ l.length ∧ E = smsUses kd (l.drop i)) (fun i => l.length - i) (by kernel_rfl) 0 (by simp; exact hE) ?_
    clear hE
    rintro i f _ ⟨rfl, f0, f1, f5, hi, hinv⟩
    replace hinv := Hid.mk hinv
    simp -dsimp [f0, f1, f5]
    refine condVW_introD (fun hlt => ?_) (fun hlt => ?_)
    · replace hinv := hinv.out
      rw [drop_cons hlt, smsUses, Sm.uses_eq] at hinv
      have hlx := List.getElem?_eq_getElem hlt
      have hgx := sms_get hlt
      obtain ⟨x, hx⟩ : ∃ x, x = l[i] := ⟨_, rfl⟩
      rw [← hx] at hinv hlx hgx
      clear hx
      have hcx := Sm.count_eq x
      have c1 := fun H => ih x.body (by omega) (by omega) H
      have c2 := fun H => ih x.els (by omega) (by omega) H
      obtain ⟨b1, hb1⟩ : ∃ b1, b1 = smsUses kd x.body := ⟨_, rfl⟩
      obtain ⟨b2, hb2⟩ : ∃ b2, b2 = smsUses kd x.els := ⟨_, rfl⟩
      rw [← hb1] at c1 hinv
      rw [← hb2] at c2 hinv
      replace hinv := Hid.mk hinv
      by_cases hk : x.kind = kd
      · simp -dsimp [f0, f1, f5, hlx, hk]
        exact fin _ (by rw [hinv.out]; simp [hk])
      · have hkb : (x.kind == kd) = false := by simpa using hk
        simp -dsimp [f0, f1, f5, hlx, hkb]
        refine acallsW_det (c1 _) ?_
        cases b1
        · simp -dsimp [f0, f1, f5, hlx, hkb]
          refine acallsW_det (c2 _) ?_
          cases b2
          · simp -dsimp [f0, f1, f5]
            exact ⟨i + 1, by omega, wrapS (by omega), by omega, by rw [hinv.out, hkb]; rfl⟩
          · simp -dsimp
            exact fin _ (by rw [hinv.out, hkb]; rfl)
        · simp -dsimp
          exact fin _ (by rw [hinv.out, hkb]; rfl)
    · replace hinv := hinv.out
      rw [drop_end hlt, smsUses] at hinv
      simp -dsimp
      exact fin _ hinv.symm
def FormK2 (M : Bool → Bool → Bool → Bool → List Blk → List Blk) (a b C D ra rs : Bool) (L : List Blk) (l : List Vr) (H' : List Blk) : Prop := ∃ c d, H' = M a b c d L ∧ (c || (vrsUse 2 l || ra)) = C ∧ (d || (vrsUse 3 l || rs)) = D
theorem rform_ok (p : Pg) (hc : ∀ f ∈ p.funcs, smsCount f.body ≤ 2^40) (hv : ∀ f ∈ p.funcs, f.vars.length ≤ 2^40) (hfl : p.funcs.length ≤ 2^40) (hrl : p.regions.length ≤ 2^40) (H : List Blk) : ACalls Tryz.prog 13 [.agg p.cells] H (fun e H' => e = .ret (.agg (formT p).cells) ∧ H' = H) := by
  refine acalls_tidy (acalls_of_awp Tryz.func13 rfl (by kernel_rfl) ?_)
  obtain ⟨bP, hbP⟩ : ∃ bP, bP = Blk.box 25 [Rg.sl p.regions, Fc.sl p.funcs] := ⟨_, rfl⟩
  obtain ⟨z, hz⟩ : ∃ z, z = formB false false false false := ⟨_, rfl⟩
  refine awp_cut (fun _ => false) (fun _ => none) (fun f H' => H' = H ++ [bP, z] ∧ f 1 = .bp H.length 0 ∧ f 2 = .bp (H.length + 1) 0) (by kernel_rfl) ?_ ?_
  · rw [hbP, hz]
    simp -dsimp
  rintro g _ ⟨rfl, g1, g2⟩
  obtain ⟨b1, hb1⟩ : ∃ b1, b1 = decide (1 < p.funcs.length) := ⟨_, rfl⟩
  obtain ⟨b4, hb4⟩ : ∃ b4, b4 = decide (0 < p.regions.length) := ⟨_, rfl⟩
  have e1 : decide ((1 : Int) < p.funcs.length) = b1 := by rw [hb1]; by_cases h : 1 < p.funcs.length <;> simp [h] <;> omega
  have e4 : decide ((0 : Int) < p.regions.length) = b4 := by rw [hb4]; by_cases h : 0 < p.regions.length <;> simp [h] <;> omega
  obtain ⟨M, hM⟩ : ∃ M : Bool → Bool → Bool → Bool → List Blk → List Blk, M = fun a b c d L => H ++ bP :: z :: formB a b c d :: L := ⟨_, rfl⟩
  have hMe : ∀ a b c d L, M a b c d L = H ++ bP :: z :: formB a b c d :: L := fun a b c d L => by rw [hM]
  have m0 : ∀ a b c d L, (M a b c d L)[H.length]? = some (.box 25 [Rg.sl p.regions, Fc.sl p.funcs]) := fun a b c d L => by rw [hMe, ← hbP]; simp
  have m1 : ∀ a b c d L, (M a b c d L)[H.length + 1]? = some (formB false false false false) := fun a b c d L => by rw [hMe, hz]; simp
  have m2 : ∀ a b c d L, (M a b c d L)[H.length + 2]? = some (formB a b c d) := fun a b c d L => by rw [hMe]; simp
  have ms : ∀ a b c d a' b' c' d' L, (M a b c d L).set (H.length + 2) (formB a' b' c' d') = M a' b' c' d' L := fun a b c d a' b' c' d' L => by rw [hMe, hMe]; simp
  clear hM
  have hg0 : (H ++ [bP, z])[H.length]? = some (.box 25 [Rg.sl p.regions, Fc.sl p.funcs]) := by rw [← hbP]; simp
  obtain ⟨V, hV⟩ : ∃ V, V = H ++ [bP, z] := ⟨_, rfl⟩
  have hVl : V.length = H.length + 2 := by rw [hV]; simp
  have hVM : ∀ a b c d, V ++ [formB a b c d] = M a b c d [] := fun a b c d => by rw [hMe, hV]; simp
  rw [← hV] at hg0 ⊢
  refine awp_cut (fun _ => false) (fun _ => none) (fun f H' => H' = M b1 false false b4 [] ∧ f 1 = .bp H.length 0 ∧ f 2 = .bp (H.length + 1) 0 ∧ f 3 = .bp V.length 0) (by kernel_rfl) ?_ ?_
  · simp -dsimp [g1, g2, hg0, e1, e4, hb4.symm, hb1.symm]
    exact hVM _ _ _ _
  clear g g1 g2
  rw [hVl]
  rintro g _ ⟨rfl, g1, g2, g3⟩
  clear hV hVl hVM hg0 V
  refine awp_cutA (fun f H' => FormJ M (formT p) [] H' ∧ f 2 = .bp (H.length + 1) 0 ∧ f 3 = .bp (H.length + 2) 0) ?_ ?_
  rotate_left
  · clear g g1 g2 g3
    rintro g _ ⟨⟨a, b, c, d, L, rfl, h1, h2, h3, h4⟩, g2, g3⟩
    simp only [fcsUse, fcsVar, Bool.or_false] at h1 h2 h3 h4
    refine awp_all (fun _ => false) (fun _ => none) (by kernel_rfl) ?_
    have q1 : ∀ X, ((M a b c d L).set (H.length + 1) X)[H.length + 1]? = some X := fun X => by rw [List.getElem?_set_self (by rw [hMe]; simp)]
    have q2 : ∀ X, (M a b c d L).set (H.length + 1) X = H ++ bP :: X :: formB a b c d :: L := fun X => by rw [hMe]; simp
    simp -dsimp [g2, g3, m2, m1, q1]
    rw [q2, h1, h2, h3, h4]
    exact tidy_same rfl ⟨rfl, rfl⟩
  refine awp_cut (fun _ => false) (fun _ => none) (fun f H' => H' = M b1 false false b4 [] ∧ f 1 = .bp H.length 0 ∧ f 2 = .bp (H.length + 1) 0 ∧ f 3 = .bp (H.length + 2) 0 ∧ f 4 = I 0) (by kernel_rfl) ?_ ?_
  · simp -dsimp [g1, g2, g3]
  clear g g1 g2 g3
  rintro g _ ⟨rfl, g1, g2, g3, g4⟩
  refine awp_block ?_
  refine awp_loopI (fun (i : Nat) f H' => FormJ M (formT p) (p.funcs.drop i) H' ∧ f 1 = .bp H.length 0 ∧ f 2 = .bp (H.length + 1) 0 ∧ f 3 = .bp (H.length + 2) 0 ∧ f 4 = I i ∧ i ≤ p.funcs.length) (fun i => p.funcs.length - i) 0
    ⟨⟨b1, false, false, b4, [], rfl, by rw [hb1]; rfl, rfl, rfl, by rw [hb4]; rfl⟩, g1, g2, g3, g4, by omega⟩ ?_
  clear g g1 g2 g3 g4
  rintro i g _ ⟨⟨a, b, c, d, L, rfl, h1, h2, h3, h4⟩, g1, g2, g3, g4, hi⟩
  refine awp_cut (fun _ => false) (fun _ => none) (fun f H' => H' = M a b c d L ∧ f 1 = .bp H.length 0 ∧ f 2 = .bp (H.length + 1) 0 ∧ f 3 = .bp (H.length + 2) 0 ∧ f 4 = I i ∧ i < p.funcs.length) (by kernel_rfl) ?_ ?_
  · simp -dsimp [g1, g2, g3, g4, m0]
    refine condVW_introD (fun hlt => ?_) (fun hlt => ?_)
    · simp -dsimp [g1, g2, g3, g4]
      omega
    · rw [drop_end hlt] at h1 h2 h3 h4
      simp -dsimp [g2, g3]
      exact ⟨a, b, c, d, L, rfl, h1, h2, h3, h4⟩
  clear g g1 g2 g3 g4
  rintro g _ ⟨rfl, g1, g2, g3, g4, hlt⟩
  have hlx : p.funcs[i]? = some p.funcs[i] := List.getElem?_eq_getElem hlt
  have hmx := List.getElem_mem hlt
  rw [drop_cons hlt] at h1 h2 h3 h4
  obtain ⟨x, hx⟩ : ∃ x, x = p.funcs[i] := ⟨_, rfl⟩
  rw [← hx] at hlx hmx h1 h2 h3 h4
  clear hx
  have hxc := hc x hmx
  have hxv := hv x hmx
  rw [fcsUse] at h1 h2
  rw [fcsVar] at h3 h4
  have w1 : IntKind.i64.wrap ((i : Int) + 1) = ((i + 1 : Nat) : Int) := wrapS (by omega)
  refine awp_cutA (fun f H' => FormJ M (formT p) (p.funcs.drop (i + 1)) H' ∧ f 1 = .bp H.length 0 ∧ f 2 = .bp (H.length + 1) 0 ∧ f 3 = .bp (H.length + 2) 0 ∧ f 4 = I i) ?_ ?_
  rotate_left
  · clear g g1 g2 g3 g4
    rintro g H' ⟨ho, g1, g2, g3, g4⟩
    replace ho := Hid.mk ho
    refine awp_all (fun _ => false) (fun _ => none) (by kernel_rfl) ?_
    simp -dsimp [g1, g2, g3, g4]
    exact ⟨i + 1, by omega, ho.out, w1, by omega⟩
  refine awp_block ?_
  have c6 := fun H => ruses_ok 6 _ x.body (Nat.lt_succ_self _) hxc H
  have c5 := fun H => ruses_ok 5 _ x.body (Nat.lt_succ_self _) hxc H
  refine awp_cut (fun _ => false) (fun _ => none) (fun f H' => H' = M (a || smsUses 6 x.body) b c d L ∧ f 1 = .bp H.length 0 ∧ f 2 = .bp (H.length + 1) 0 ∧ f 3 = .bp (H.length + 2) 0 ∧ f 4 = I i) (by kernel_rfl) ?_ ?_
  · clear h1 h2 h3 h4
    cases a
    · simp -dsimp [g1, g2, g3, g4, m0, m2, ms, hlx]
      refine acallsW_det (c6 _) ?_
      simp -dsimp [g1, g2, g3, g4, m2, ms]
    · simp -dsimp [g1, g2, g3, g4, m2, ms]
  clear g g1 g2 g3 g4
  rintro g _ ⟨rfl, g1, g2, g3, g4⟩
  obtain ⟨a2, ha2⟩ : ∃ a2, a2 = (a || smsUses 6 x.body) := ⟨_, rfl⟩
  rw [← ha2]
  refine awp_cut (fun _ => false) (fun _ => none) (fun f H' => H' = M a2 (b || smsUses 5 x.body) c d L ∧ f 1 = .bp H.length 0 ∧ f 2 = .bp (H.length + 1) 0 ∧ f 3 = .bp (H.length + 2) 0 ∧ f 4 = I i) (by kernel_rfl) ?_ ?_
  · clear h1 h2 h3 h4
    cases b
    · simp -dsimp [g1, g2, g3, g4, m0, m2, ms, hlx]
      refine acallsW_det (c5 _) ?_
      simp -dsimp [g1, g2, g3, g4, m2, ms]
    · simp -dsimp [g1, g2, g3, g4, m2, ms]
  clear g g1 g2 g3 g4
  rintro g _ ⟨rfl, g1, g2, g3, g4⟩
  obtain ⟨b2, hb2⟩ : ∃ b2, b2 = (b || smsUses 5 x.body) := ⟨_, rfl⟩
  rw [← hb2]
  have h1' : (a2 || fcsUse 6 (p.funcs.drop (i + 1))) = (formT p).calls := by rw [← h1, ha2]; simp only [Bool.or_assoc]
  have h2' : (b2 || fcsUse 5 (p.funcs.drop (i + 1))) = (formT p).fors := by rw [← h2, hb2]; simp only [Bool.or_assoc]
  clear h1 h2 ha2 hb2
  obtain ⟨T, hT⟩ : ∃ T, T = formT p := ⟨_, rfl⟩
  rw [← hT] at h1' h2' h3 h4 ⊢
  clear hT
  obtain ⟨r2, hr2⟩ : ∃ r, r = fcsVar 2 (p.funcs.drop (i + 1)) := ⟨_, rfl⟩
  obtain ⟨r3, hr3⟩ : ∃ r, r = fcsVar 3 (p.funcs.drop (i + 1)) := ⟨_, rfl⟩
  rw [← hr2] at h3
  rw [← hr3] at h4
  refine awp_cut (fun _ => false) (fun _ => none) (fun f H' => H' = M a2 b2 c d L ∧ f 1 = .bp H.length 0 ∧ f 2 = .bp (H.length + 1) 0 ∧ f 3 = .bp (H.length + 2) 0 ∧ f 4 = I i ∧ f 5 = I 0) (by kernel_rfl) ?_ ?_
  · simp -dsimp [g1, g2, g3, g4]
  clear g g1 g2 g3 g4
  rintro g _ ⟨rfl, g1, g2, g3, g4, g5⟩
  refine awp_block ?_
  refine awp_loopI (fun (j : Nat) f H' => FormK2 M a2 b2 T.arrays T.stack r2 r3 L (x.vars.drop j) H' ∧ f 1 = .bp H.length 0 ∧ f 2 = .bp (H.length + 1) 0 ∧ f 3 = .bp (H.length + 2) 0 ∧ f 4 = I i ∧ f 5 = I j ∧ j ≤ x.vars.length) (fun j => x.vars.length - j) 0
    ⟨⟨c, d, rfl, h3, h4⟩, g1, g2, g3, g4, g5, by omega⟩ ?_
  clear g g1 g2 g3 g4 g5 h3 h4 c d
  rintro j g _ ⟨⟨c, d, rfl, h3, h4⟩, g1, g2, g3, g4, g5, hj⟩
  refine awp_cut (fun _ => false) (fun _ => none) (fun f H' => H' = M a2 b2 c d L ∧ f 1 = .bp H.length 0 ∧ f 2 = .bp (H.length + 1) 0 ∧ f 3 = .bp (H.length + 2) 0 ∧ f 4 = I i ∧ f 5 = I j ∧ j < x.vars.length) (by kernel_rfl) ?_ ?_
  · simp -dsimp [g1, g2, g3, g4, g5, m0, hlx]
    refine condVW_introD (fun hlt2 => ?_) (fun hlt2 => ?_)
    · simp -dsimp [g1, g2, g3, g4, g5]
      omega
    · rw [drop_end hlt2, vrsUse, Bool.false_or] at h3 h4
      simp -dsimp [g1, g2, g3, g4]
      exact ⟨a2, b2, c, d, L, rfl, h1', h2', by rw [h3.symm, hr2], by rw [h4.symm, hr3]⟩
  clear g g1 g2 g3 g4 g5
  rintro g _ ⟨rfl, g1, g2, g3, g4, g5, hlt2⟩
  have hly : x.vars[j]? = some x.vars[j] := List.getElem?_eq_getElem hlt2
  rw [drop_cons hlt2, vrsUse] at h3 h4
  obtain ⟨y, hy⟩ : ∃ y, y = x.vars[j] := ⟨_, rfl⟩
  rw [← hy] at hly h3 h4
  clear hy
  have w2 : IntKind.i64.wrap ((j : Int) + 1) = ((j + 1 : Nat) : Int) := wrapS (by omega)
  refine awp_cutA (fun f H' => FormK2 M a2 b2 T.arrays T.stack r2 r3 L (x.vars.drop (j + 1)) H' ∧ f 1 = .bp H.length 0 ∧ f 2 = .bp (H.length + 1) 0 ∧ f 3 = .bp (H.length + 2) 0 ∧ f 4 = I i ∧ f 5 = I j) ?_ ?_
  rotate_left
  · clear g g1 g2 g3 g4 g5
    rintro g H' ⟨ho, g1, g2, g3, g4, g5⟩
    replace ho := Hid.mk ho
    refine awp_all (fun _ => false) (fun _ => none) (by kernel_rfl) ?_
    simp -dsimp [g1, g2, g3, g4, g5]
    exact ⟨j + 1, by omega, ho.out, w2, by omega⟩
  refine awp_block ?_
  refine awp_cut (fun _ => false) (fun _ => none) (fun f H' => H' = M a2 b2 (c || y.kind == 2) d L ∧ f 1 = .bp H.length 0 ∧ f 2 = .bp (H.length + 1) 0 ∧ f 3 = .bp (H.length + 2) 0 ∧ f 4 = I i ∧ f 5 = I j) (by kernel_rfl) ?_ ?_
  · clear h3 h4 h1' h2'
    cases c <;> simp -dsimp [g1, g2, g3, g4, g5, m0, m2, ms, hlx, hly]
  clear g g1 g2 g3 g4 g5
  rintro g _ ⟨rfl, g1, g2, g3, g4, g5⟩
  have hdone : FormK2 M a2 b2 T.arrays T.stack r2 r3 L (x.vars.drop (j + 1)) (M a2 b2 (c || y.kind == 2) (d || y.kind == 3) L) := ⟨_, _, rfl, by rw [← h3]; simp only [Bool.or_assoc], by rw [← h4]; simp only [Bool.or_assoc]⟩
  obtain ⟨c2, hc2⟩ : ∃ c2, c2 = (c || y.kind == 2) := ⟨_, rfl⟩
  rw [← hc2] at hdone ⊢
  clear h3 h4 h1' h2' hc2
  replace hdone := Hid.mk hdone
  refine awp_all (fun _ => false) (fun _ => none) (by kernel_rfl) ?_
  cases d
  · simp -dsimp [g1, g2, g3, g4, g5, m0, m2, ms, hlx, hly]
    have := hdone.out
    rwa [Bool.false_or] at this
  · simp -dsimp [g1, g2, g3, g4, g5, m0, m2, ms, hlx, hly]
    have := hdone.out
    rwa [Bool.true_or] at this
end Go.Proofs
namespace Go.Proofs
open Go.Mu
def Fc.nil : Fc := ⟨ByteArray.empty, [], [], [], []⟩
def Pg.nil : Pg := ⟨[], []⟩
def lastF (p : Pg) : Fc := p.funcs[p.funcs.length - 1]?.getD Fc.nil
theorem may_len {p : Pg} (h : mayE p = 0) : 1 ≤ p.funcs.length ∧ p.funcs.length ≤ 64 := by
  unfold mayE at h
  obtain ⟨h, _⟩ := then_inv h
  unfold manyE at h
  obtain ⟨h, _⟩ := then_inv h
  have := must_inv h (by decide)
  simp only [Bool.and_eq_true, decide_eq_true_eq] at this
  omega
def roundsE (p : Pg) : Int × Int := if mayE p = 0 then (smsRounds (lastF p).body, 0) else (0, mayE p)
structure Pg.OkU (p : Pg) : Prop where
  ok2 : p.Ok2
  words : ∀ f ∈ p.funcs, smsWordsOk f.body = true
theorem rounds_prog_ok (p : Pg) (hp : p.OkU) (H : List Blk) : ACalls Tryz.prog 52 [.agg p.cells] H (fun e H' => e = .ret (.tup [I (roundsE p).1, I (roundsE p).2]) ∧ H' = H) := by
  refine acalls_tidy (acalls_of_vc (hn := fun _ => false) (od := fun _ => none) Tryz.func52 rfl (by kernel_rfl) ?_)
  have cm := fun H => may_ok p hp.ok2 H
  simp only [Pg.cells] at cm
  simp -dsimp
  refine acallsW_det (cm _) ?_
  simp -dsimp
  refine condVW_introNE (fun h1 h1a h1b => ?_) (fun h1 => ?_)
  · simp -dsimp
    exact tidy_same rfl ⟨by rw [roundsE, if_neg h1], rfl⟩
  · have hl := may_len h1
    have hlx : p.funcs[p.funcs.length - 1]? = some p.funcs[p.funcs.length - 1] := List.getElem?_eq_getElem (by omega)
    have hmx := List.getElem_mem (l := p.funcs) (n := p.funcs.length - 1) (by omega)
    have hla : lastF p = p.funcs[p.funcs.length - 1] := by rw [lastF, hlx]; rfl
    rw [← hla] at hlx hmx
    have hsh := may_shape h1 hp.words (lastF p) hmx
    have hc36 := hp.ok2.body36 (lastF p) hmx
    have cr := fun H => rounds_ok _ (lastF p).body (Nat.lt_succ_self _) (by omega) hsh.1 H
    have w1 : IntKind.i64.wrap ((p.funcs.length : Int) - 1) = ((p.funcs.length - 1 : Nat) : Int) := by rw [wrapI (by omega) (by omega)]; omega
    simp -dsimp [w1, hlx]
    refine acallsW_det (cr _) ?_
    simp -dsimp
    exact tidy_same rfl ⟨by rw [roundsE, if_pos h1], rfl⟩
end Go.Proofs
namespace Go.Proofs
open Go.Mu
def Sm.own (s : Sm) : Nat := 1 + s.names.length + s.e.count + s.a.count + exsCount s.args
theorem Sm.count_own (s : Sm) : s.count = s.own + smsCount s.body + smsCount s.els := by rw [Sm.count_eq, Sm.own]
mutual
def Sm.owns (K : Nat) : Sm → Bool
  | .mk k n ns e a l lo hi b el => decide (1 + ns.length + e.count + a.count + exsCount l ≤ K) && smsOwns K b && smsOwns K el
def smsOwns (K : Nat) : List Sm → Bool
  | [] => true
  | s :: l => s.owns K && smsOwns K l
end
theorem Sm.owns_eq (K : Nat) (s : Sm) : s.owns K = (decide (s.own ≤ K) && smsOwns K s.body && smsOwns K s.els) := by cases s; rw [Sm.owns]; rfl
theorem owns_of (K m : Nat) : ∀ l : List Sm, smsCount l ≤ m → m ≤ K → smsOwns K l = true := by
  induction m with
  | zero => intro l hl _; have := sms_len l; obtain rfl : l = [] := List.eq_nil_of_length_eq_zero (by omega); rfl
  | succ m ih =>
    intro l
    induction l with
    | nil => intro _ _; rfl
    | cons s l ihl =>
      intro h hK
      simp only [smsCount] at h
      have hc := s.count_own
      have ho : 1 ≤ s.own := by unfold Sm.own; omega
      rw [smsOwns, ihl (by omega) hK, Sm.owns_eq, ih s.body (by omega) (by omega), ih s.els (by omega) (by omega), decide_eq_true (by omega)]
      rfl
theorem owns_put (K : Nat) (nm : ByteArray) (n : Int) (m : Nat) : ∀ l : List Sm, smsCount l ≤ m → smsOwns K l = true → smsOwns K (smsPut nm n l) = true := by
  induction m with
  | zero => intro l hl _; have := sms_len l; obtain rfl : l = [] := List.eq_nil_of_length_eq_zero (by omega); rfl
  | succ m ih =>
    intro l
    induction l with
    | nil => intro _ _; rfl
    | cons s l ihl =>
      intro h ho
      simp only [smsCount] at h
      rw [smsOwns, Bool.and_eq_true, Sm.owns_eq] at ho
      have ho' := ho.1
      simp only [Bool.and_eq_true, decide_eq_true_eq] at ho'
      have hc := Sm.count_eq s
      rw [smsPut, smsOwns, ihl (by omega) ho.2, Bool.and_true, Sm.put_eq]
      split
      · rw [Sm.owns_eq]; exact ho.1
      · have e1 := (ex_put_count nm n _).1 s.e (Nat.le_refl _)
        have e2 := (ex_put_count nm n _).1 s.a (Nat.le_refl _)
        have e3 := (ex_put_count nm n _).2 s.args (Nat.le_refl _)
        have o1 := ho'.1.1
        unfold Sm.own at o1
        rw [Sm.owns, ih s.body (by omega) ho'.1.2, ih s.els (by omega) ho'.2, decide_eq_true (by omega)]
        rfl
theorem smsCount_app (a b : List Sm) : smsCount (a ++ b) = smsCount a + smsCount b := by
  induction a with
  | nil => simp [smsCount]
  | cons x a ih => simp only [List.cons_append, smsCount, ih]; omega
def RecC (K : Nat) (rec : List Sm → Int → LR) : Prop := ∀ l left b t l1, smsOwns K l = true → 0 ≤ left → rec l left = some (b, t, l1) → (smsCount b : Int) + K * l1 ≤ K * left
theorem round_cnt {K : Nat} {rec : List Sm → Int → LR} (hr : RecC K rec) (hb : RecB rec) (nm : ByteArray) (lo : Int) (body : List Sm) (ho : smsOwns K body = true) (c : Nat) : ∀ n left bs ts l1, 0 ≤ left → roundGo rec nm lo body c n left = some (bs, ts, l1) → (smsCount bs : Int) + K * l1 ≤ K * left := by
  induction c with
  | zero => intro n left bs ts l1 h0 h; simp only [roundGo, Option.some.injEq, Prod.mk.injEq] at h; obtain ⟨rfl, rfl, rfl⟩ := h; simp [smsCount]
  | succ c ih =>
    intro n left bs ts l1 h0 h
    rw [roundGo] at h
    split at h
    · cases h
    · rename_i b t l2 h1
      obtain ⟨⟨b3, t3, l3⟩, h3, h4⟩ := Option.map_eq_some_iff.1 h
      simp only [Prod.mk.injEq] at h4
      obtain ⟨rfl, rfl, rfl⟩ := h4
      have a := hr _ _ _ _ _ (owns_put K nm _ _ body (Nat.le_refl _) ho) h0 h1
      have b' := ih _ _ _ _ _ (hb _ _ _ _ _ h0 h1).1 h3
      rw [smsCount_app]
      push_cast
      omega
theorem layGo_cnt {K : Nat} {rec : List Sm → Int → LR} (hr : RecC K rec) (hb : RecB rec) : RecC K (layGo rec) := by
  intro l
  induction l with
  | nil => intro left b t l1 _ h0 h; simp only [layGo, Option.some.injEq, Prod.mk.injEq] at h; obtain ⟨rfl, rfl, rfl⟩ := h; simp [smsCount]
  | cons s l ih =>
    intro left b t l1 ho h0 h
    rw [smsOwns, Bool.and_eq_true, Sm.owns_eq] at ho
    have ho' := ho.1
    simp only [Bool.and_eq_true, decide_eq_true_eq] at ho'
    rw [layGo] at h
    split at h
    · split at h
      · cases h
      · rename_i bs ts l2 h1
        obtain ⟨⟨b3, t3, l3⟩, h3, h4⟩ := Option.map_eq_some_iff.1 h
        simp only [Prod.mk.injEq] at h4
        obtain ⟨rfl, rfl, rfl⟩ := h4
        have a := round_cnt hr hb _ _ _ ho'.1.2 _ _ _ _ _ _ h0 h1
        have b' := ih _ _ _ _ ho.2 (round_bnd hb _ _ _ _ _ _ _ _ _ h0 h1).1 h3
        rw [smsCount_app]
        push_cast
        omega
    · split at h
      · cases h
      · rename_i hl
        split at h
        · cases h
        · rename_i b1 t1 l2 h1
          split at h
          · cases h
          · rename_i b2 t2 l3 h2
            obtain ⟨⟨b3, t3, l4⟩, h3, h4⟩ := Option.map_eq_some_iff.1 h
            simp only [Prod.mk.injEq] at h4
            obtain ⟨rfl, rfl, rfl⟩ := h4
            have q1 := hb _ _ _ _ _ (by omega) h1
            have q2 := hb _ _ _ _ _ q1.1 h2
            have a := hr _ _ _ _ _ ho'.1.2 (by omega) h1
            have a2 := hr _ _ _ _ _ ho'.2 q1.1 h2
            have b' := ih _ _ _ _ ho.2 q2.1 h3
            have hw : (s.withB b1 b2).count = s.own + smsCount b1 + smsCount b2 := by rw [Sm.count_own]; rfl
            rw [smsCount, hw]
            have hk : (K : Int) * (left - 1) = K * left - K := by rw [Int.mul_sub, Int.mul_one]
            rw [hk] at a
            push_cast
            omega
theorem layM_cnt (K d : Nat) : RecC K (layM d) := by
  induction d with
  | zero => intro l left b t l1 _ _ h; cases h
  | succ d ih => exact layGo_cnt ih (layM_bnd d)
theorem layE_cnt {l : List Sm} {K : Nat} (h : smsCount l ≤ K) : smsCount (layE l).1 ≤ K * 65536 := by
  unfold layE
  split
  · rename_i b t l1 hq
    have a := layM_cnt K _ l 65536 b t l1 (owns_of K _ l (Nat.le_refl _) h) (by omega) hq
    have b' := (layM_bnd _ l 65536 b t l1 (by omega) hq).1
    have : 0 ≤ (K : Int) * l1 := Int.mul_nonneg (by omega) b'
    show smsCount b ≤ _
    omega
  · simp [smsCount]
end Go.Proofs
namespace Go.Proofs
open Go.Mu
def Pg.withBody (p : Pg) (b : List Sm) : Pg := ⟨p.regions, [{ lastF p with body := b }]⟩
def unrollE (p : Pg) : Pg × List Tm × Int :=
  if mayE p = 0 then
    if (formT p).calls then (Pg.nil, [], 9)
    else if 65536 < smsRounds (lastF p).body then (Pg.nil, [], 13)
    else if (layE (lastF p).body).2.2 = 0 then
      if mayE (p.withBody (layE (lastF p).body).1) = 0 then (p.withBody (layE (lastF p).body).1, (layE (lastF p).body).2.1, 0)
      else (Pg.nil, [], mayE (p.withBody (layE (lastF p).body).1))
    else (Pg.nil, [], (layE (lastF p).body).2.2)
  else (Pg.nil, [], mayE p)
structure Pg.OkL (p : Pg) : Prop where
  oku : p.OkU
  okc : p.OkC
  out : ∀ f ∈ p.funcs, smsCount (layE f.body).1 ≤ 2^36
theorem nocalls_one {p : Pg} (hm : mayE p = 0) (hc : (formT p).calls = false) : p.funcs = [lastF p] := by
  have hl := may_len hm
  have h1 : ¬ 1 < p.funcs.length := by
    unfold formT at hc
    simp only [Bool.or_eq_false_iff, decide_eq_false_iff_not] at hc
    exact hc.1
  unfold lastF
  match hp : p.funcs, hl, h1 with
  | [f], _, _ => rfl
  | [], hl, _ => simp at hl
  | _ :: _ :: _, _, h1 => simp at h1
theorem withBody_ok2 {p : Pg} (hp : p.Ok2) (hm : lastF p ∈ p.funcs) {b : List Sm} (hb : smsCount b ≤ 2^36) : (p.withBody b).Ok2 := by
  have h1 := hp.ok
  have h2 := hp.nok
  refine ⟨⟨h1.regions, by simp [Pg.withBody], fun f hf => ?_, fun f hf => ?_, fun f hf => ?_, fun f hf => ?_⟩, ⟨h2.regions, fun f hf => ?_⟩, fun f hf => ?_⟩ <;> obtain rfl := List.mem_singleton.1 hf
  · show smsCount b ≤ _; omega
  · exact h1.params (lastF p) hm
  · exact h1.vars (lastF p) hm
  · exact h1.rets (lastF p) hm
  · exact h2.funcs (lastF p) hm
  · exact hb
theorem unroll_ok (p : Pg) (hp : p.OkL) (H : List Blk) : ACalls Tryz.prog 16 [.agg p.cells] H (fun e H' => e = .ret (.tup [.agg (unrollE p).1.cells, Tm.sl (unrollE p).2.1, I (unrollE p).2.2]) ∧ H' = H) := by
  refine acalls_under fun hu _ => acalls_tidy (acalls_weakE (acalls_of_awp Tryz.func16 rfl (by kernel_rfl) ?_))
  obtain ⟨E, hE⟩ : ∃ E, E = unrollE p := ⟨_, rfl⟩
  rw [← hE]
  unfold unrollE at hE
  obtain ⟨bz, hbz⟩ : ∃ bz, bz = Blk.box 25 [nilS, nilS] := ⟨_, rfl⟩
  have finZ : ∀ e L, E = (Pg.nil, [], e) → WeakE (Tidy H fun x H' => x = AE.ret (.tup [.agg E.1.cells, Tm.sl E.2.1, I E.2.2]) ∧ H' = H) (.ret (.tup [.agg [nilS, nilS], nilS, I e])) (H ++ L) := fun e L h => by
    rw [h]
    refine tidy_weak (r' := .tup [.agg [Rg.sl [], Fc.sl []], Tm.sl [], I e]) (.tupL (.cons (.aggL (.cons (.nil 4) (.cons (.nil 5) .nil))) (.cons (.nil 4) (.cons (.refl _) .nil)))) ?_
    exact tidy_same rfl ⟨rfl, rfl⟩
  refine awp_cut (fun _ => false) (fun _ => none) (fun f H' => H' = H ++ [.box 25 p.cells, bz] ∧ f 1 = .bp H.length 0 ∧ f 2 = .bp (H.length + 1) 0) (by kernel_rfl) ?_ ?_
  · rw [hbz]
    simp -dsimp
  rintro g _ ⟨rfl, g1, g2⟩
  obtain ⟨V, hV⟩ : ∃ V, V = H ++ [.box 25 p.cells, bz] := ⟨_, rfl⟩
  have hV0 : V[H.length]? = some (.box 25 [Rg.sl p.regions, Fc.sl p.funcs]) := by rw [hV]; simp
  have hV1 : V[H.length + 1]? = some (.box 25 [nilS, nilS]) := by rw [hV, hbz]; simp
  have hVs : V.set (H.length + 1) (.box 25 [nilS, nilS]) = V := by rw [hV, hbz]; simp
  have finZ' : ∀ e, E = (Pg.nil, [], e) → WeakE (Tidy H fun x H' => x = AE.ret (.tup [.agg E.1.cells, Tm.sl E.2.1, I E.2.2]) ∧ H' = H) (.ret (.tup [.agg [nilS, nilS], nilS, I e])) V := fun e h => by rw [hV]; exact finZ e _ h
  rw [← hV]
  have cr := fun H => rounds_prog_ok p hp.oku H
  have cf := fun H => form_ok p hp.oku.ok2 hp.oku.ok2.body36 (fun f hf => hp.okc.vars f hf) hp.okc.funcs hp.okc.regions H
  simp only [Pg.cells] at cr cf
  refine awp_cut (fun _ => false) (fun _ => none) (fun f H' => V = H' ∧ f 1 = .bp H.length 0 ∧ f 2 = .bp (H.length + 1) 0 ∧ f 5 = I (roundsE p).1 ∧ f 6 = I (roundsE p).2) (by kernel_rfl) ?_ ?_
  · simp -dsimp [g1, g2, hV0]
    refine acallsW_det (cr _) ?_
    simp -dsimp [g1, g2]
  clear g g1 g2
  rintro g _ ⟨rfl, g1, g2, g5, g6⟩
  refine awp_cut (fun _ => false) (fun _ => none) (fun f H' => V = H' ∧ f 1 = .bp H.length 0 ∧ f 2 = .bp (H.length + 1) 0 ∧ mayE p = 0 ∧ (formT p).calls = false ∧ ¬ 65536 < smsRounds (lastF p).body) (by kernel_rfl) ?_ ?_
  · by_cases hm : mayE p = 0
    · have h1 : roundsE p = (smsRounds (lastF p).body, 0) := by rw [roundsE, if_pos hm]
      have h2 : formE p = formT p := by rw [formE, if_pos hm]
      rw [if_pos hm] at hE
      rw [h1] at g5 g6
      rw [h2] at cf
      obtain ⟨ca, fo, ar, st, hT⟩ : ∃ a b c d, (⟨a, b, c, d⟩ : Fo) = formT p := ⟨_, _, _, _, rfl⟩
      have hTc : (formT p).calls = ca := by rw [← hT]
      rw [← hT] at cf
      rw [hTc] at hE ⊢
      simp only [Fo.cells] at cf
      simp -dsimp [g1, g2, g5, g6, hV0]
      refine acallsW_det (cf _) ?_
      cases ca
      · rw [if_neg (by decide)] at hE
        simp -dsimp [g1, g2, g5, g6]
        refine condVW_introD (fun hr => ?_) (fun hr => ?_)
        · rw [if_pos hr] at hE
          simp -dsimp [g1, g2, hV1, hVs]
          exact finZ' _ hE
        · simp -dsimp [g1, g2, hm]
          omega
      · rw [if_pos rfl] at hE
        simp -dsimp [g1, g2, hV1, hVs]
        exact finZ' _ hE
    · have h1 : roundsE p = (0, mayE p) := by rw [roundsE, if_neg hm]
      rw [if_neg hm] at hE
      have hb : (mayE p != 0) = true := by simpa using hm
      rw [h1] at g5 g6
      simp -dsimp [g1, g2, g5, g6, hb, hV1, hVs]
      exact finZ' _ hE
  clear g g1 g2 g5 g6
  rintro g _ ⟨rfl, g1, g2, hm, hcalls, hr⟩
  rw [if_pos hm, hcalls, if_neg (by decide), if_neg hr] at hE
  have hone := nocalls_one hm hcalls
  have hmem : lastF p ∈ p.funcs := by rw [hone]; exact List.mem_singleton.2 rfl
  obtain ⟨F, hF⟩ : ∃ F, F = lastF p := ⟨_, rfl⟩
  have hwb : ∀ b, p.withBody b = ⟨p.regions, [{ F with body := b }]⟩ := fun b => by rw [hF]; rfl
  have hcb := hp.okc.body _ hmem
  have hlc := hp.out _ hmem
  have hsh := (may_shape hm hp.oku.words _ hmem).1
  have hok2 := fun b (hb : smsCount b ≤ 2^36) => withBody_ok2 hp.oku.ok2 hmem hb
  rw [← hF] at hone hE hcb hsh hlc
  clear hr
  have cl := fun H => cloneP_ok p hp.okc H
  have cy := fun H => lay_ok F.body (by omega) hsh H
  obtain ⟨b, tm, e1, hB⟩ : ∃ b tm e1, (b, tm, e1) = layE F.body := ⟨_, _, _, rfl⟩
  rw [← hB] at hE hlc cy
  simp only [] at hE hlc cy
  simp only [Pg.cells] at cl
  have hnl : V.length = H.length + 2 := by rw [hV]; simp
  obtain ⟨k, hk⟩ : ∃ k, k = H.length + 2 := ⟨_, rfl⟩
  rw [hone] at cl hV0
  have hfs : ∀ k, fcS k [F] = .hs k 0 1 1 := fun k => by simp [fcS, ownS]
  have hfb : fcB [F] = .row 37 5 [F.cells] := by simp [fcB, ownB]
  simp only [hfs, hfb] at cl
  -- the copy
  refine awp_cut (fun _ => false) (fun _ => none) (fun f H' => H' = H ++ [.box 25 [Rg.sl p.regions, .hs k 0 1 1], bz, .row 37 5 [F.cells]] ∧ f 1 = .bp H.length 0 ∧ f 2 = .bp (H.length + 1) 0) (by kernel_rfl) ?_ ?_
  · have hVt : ∀ X L, (V ++ L).set H.length X = H ++ X :: bz :: L := fun X L => by rw [hV]; simp
    have hV0' : ∀ L, (V ++ L)[H.length]? = some (.box 25 [Rg.sl p.regions, Fc.sl [F]]) := fun L => get_app_old hV0 L
    simp -dsimp [g1, g2, hV0]
    refine acallsW_of (cl _) ?_
    rintro e H' ⟨rfl, rfl⟩
    rw [hnl, ← hk]
    simp -dsimp [g1, g2, hV0', hVt]
  clear g g1 g2 hV0 hV1 hVs
  rintro g _ ⟨rfl, g1, g2⟩
  obtain ⟨bP, hbP⟩ : ∃ bP, bP = Blk.box 25 [Rg.sl p.regions, .hs k 0 1 1] := ⟨_, rfl⟩
  obtain ⟨M, hM⟩ : ∃ M : Fc → List Blk, M = fun F => H ++ [bP, bz, .row 37 5 [F.cells]] := ⟨_, rfl⟩
  have hMe : ∀ F, M F = H ++ [bP, bz, .row 37 5 [F.cells]] := fun F => by rw [hM]
  have m0 : ∀ F, (M F)[H.length]? = some (.box 25 [Rg.sl p.regions, .hs k 0 1 1]) := fun F => by rw [hMe, ← hbP]; simp
  have m1 : ∀ F, (M F)[H.length + 1]? = some (.box 25 [nilS, nilS]) := fun F => by rw [hMe, hbz]; simp
  have m2 : ∀ F, (M F)[k]? = some (.row 37 5 [[St F.name, Vr.sl F.params, Vr.sl F.vars, St.sl F.rets, Sm.sl F.body]]) := fun F => by rw [hMe, hk]; simp
  have mz : ∀ F, (M F).set (H.length + 1) (.box 25 [nilS, nilS]) = M F := fun F => by rw [hMe, hbz]; simp
  have ms : ∀ F b, (M F).set k (.row 37 5 [[St F.name, Vr.sl F.params, Vr.sl F.vars, St.sl F.rets, Sm.sl b]]) = M { F with body := b } := fun F b => by rw [hMe, hMe, hk]; simp
  rw [← hbP, ← hMe]
  clear hM
  refine awp_cut (fun _ => false) (fun _ => none) (fun f H' => H' = M F ∧ f 1 = .bp H.length 0 ∧ f 2 = .bp (H.length + 1) 0 ∧ f 7 = Sm.sl b ∧ f 8 = Tm.sl tm ∧ f 6 = I e1) (by kernel_rfl) ?_ ?_
  · simp -dsimp [g1, g2, m0, m2]
    refine acallsW_det (cy _) ?_
    simp -dsimp [g1, g2]
  clear g g1 g2
  rintro g _ ⟨rfl, g1, g2, g7, g8, g6⟩
  refine awp_cut (fun _ => false) (fun _ => none) (fun f H' => H' = M F ∧ f 1 = .bp H.length 0 ∧ f 2 = .bp (H.length + 1) 0 ∧ f 7 = Sm.sl b ∧ f 8 = Tm.sl tm ∧ e1 = 0) (by kernel_rfl) ?_ ?_
  · simp -dsimp [g1, g2, g7, g8, g6]
    refine condVW_introNE (fun h1 h1a h1b => ?_) (fun h1 => ?_)
    · rw [if_neg h1] at hE
      simp -dsimp [g1, g2, g6, m1, mz]
      rw [hMe]
      exact finZ _ _ hE
    · simp -dsimp [g1, g2, g7, g8]
      exact h1
  clear g g1 g2 g7 g8 g6
  rintro g _ ⟨rfl, g1, g2, g7, g8, he1⟩
  rw [if_pos he1] at hE
  refine awp_cut (fun _ => false) (fun _ => none) (fun f H' => H' = M { F with body := b } ∧ f 1 = .bp H.length 0 ∧ f 2 = .bp (H.length + 1) 0 ∧ f 8 = Tm.sl tm) (by kernel_rfl) ?_ ?_
  · have hst : astore (M F) (.rp k 1 0 4) [Sm.sl b] = some (M { F with body := b }) := by
      have e : astore (M F) (.rp k 1 0 4) [Sm.sl b] = some ((M F).set k (.row 37 5 [[St F.name, Vr.sl F.params, Vr.sl F.vars, St.sl F.rets, Sm.sl b]])) := by
        unfold astore
        show (match (M F)[k]? with | some (.row t sz es) => _ | _ => _) = _
        rw [m2]
        rfl
      rw [e, ms]
    simp -dsimp [g1, g2, g7, g8, m0, m2, hst]
  clear g g1 g2 g7 g8
  rintro g _ ⟨rfl, g1, g2, g8⟩
  obtain ⟨Q, hQ⟩ : ∃ Q, Q = p.withBody b := ⟨_, rfl⟩
  rw [← hQ] at hE
  have hQc : Q.cells = [Rg.sl p.regions, Fc.sl [{ F with body := b }]] := by rw [hQ, hwb]; rfl
  rw [hMe]
  refine awp_giveBox hu 2 5 37 [Fc.cells { F with body := b }] (by simp [ownB]) (fcs_frzB [{ F with body := b }]) 0 25 _ Q.cells (by rw [hbP]; rfl) (by omega) (by
    rw [hQc, ← hk]
    have e : (AV.hs k 0 1 1).frzS k 5 [Fc.cells { F with body := b }] = Fc.sl [{ F with body := b }] := by simp [AV.frzS, AV.frz]
    simp only [List.map_cons, List.map_nil, frzS_vs, e]
    exact .refl _) ?_
  intro L' f' hf' hLl hL0 hLo
  obtain ⟨L1, rfl⟩ : ∃ L1, L' = .box 25 Q.cells :: bz :: L1 := by
    have e1 := hLo 1 bz (by omega) (by omega) rfl (by rw [hbz]; rfl)
    match L', hL0, e1 with
    | a :: b :: L1, e0, e1 =>
      simp only [List.getElem?_cons_zero, List.getElem?_cons_succ, Option.some.injEq] at e0 e1
      subst e0 e1
      exact ⟨L1, rfl⟩
  have f1 : f' 1 = .bp H.length 0 := by rw [hf', g1]; simp
  have f2 : f' 2 = .bp (H.length + 1) 0 := by rw [hf', g2]; simp
  have f8 : f' 8 = Tm.sl tm := by rw [hf', g8]; simp
  clear hf' g1 g2 g8 hLl hL0 hLo
  have cm := fun H => may_ok Q (by rw [hQ]; exact hok2 b (by omega)) H
  obtain ⟨V, hV⟩ : ∃ V, V = H ++ .box 25 Q.cells :: bz :: L1 := ⟨_, rfl⟩
  have v0 : V[H.length]? = some (.box 25 Q.cells) := by rw [hV]; simp
  have v1 : V[H.length + 1]? = some (.box 25 [nilS, nilS]) := by rw [hV, hbz]; simp
  have vz : V.set (H.length + 1) (.box 25 [nilS, nilS]) = V := by rw [hV, hbz]; simp
  have vq : V.set (H.length + 1) (.box 25 Q.cells) = H ++ .box 25 Q.cells :: .box 25 Q.cells :: L1 := by rw [hV]; simp
  rw [← hV]
  simp only [Pg.cells] at cm v0 vq
  refine awp_cut (fun _ => false) (fun _ => none) (fun f H' => V = H' ∧ f 1 = .bp H.length 0 ∧ f 2 = .bp (H.length + 1) 0 ∧ f 8 = Tm.sl tm ∧ mayE Q = 0) (by kernel_rfl) ?_ ?_
  · simp -dsimp [f1, f2, f8, v0]
    refine acallsW_det (cm _) ?_
    simp -dsimp
    refine condVW_introNE (fun h1 h1a h1b => ?_) (fun h1 => ?_)
    · rw [if_neg h1] at hE
      simp -dsimp [f1, f2, v1, vz]
      rw [hV]
      exact finZ _ _ hE
    · simp -dsimp [f1, f2, f8]
      exact h1
  clear f1 f2 f8 f'
  rintro g _ ⟨rfl, g1, g2, g8, hmq⟩
  rw [if_pos hmq] at hE
  refine awp_all (fun _ => false) (fun _ => none) (by kernel_rfl) ?_
  have vl : H.length + 1 < V.length := lt_of_get v1
  have vg : ∀ X, (V.set (H.length + 1) X)[H.length + 1]? = some X := fun X => List.getElem?_set_self vl
  simp -dsimp [g1, g2, g8, v0, v1, vg]
  rw [vq, hE]
  exact tidy_weak (.refl _) (tidy_same rfl ⟨rfl, rfl⟩)
end Go.Proofs
namespace Go.Proofs
open Go.Mu
abbrev lF : ByteArray := ⟨#[102]⟩
abbrev lI : ByteArray := ⟨#[105]⟩
abbrev lJ : ByteArray := ⟨#[106]⟩
abbrev lX : ByteArray := ⟨#[120]⟩
abbrev lR : ByteArray := ⟨#[114]⟩
def eZ : Ex := .mk 0 0 ByteArray.empty []
def vE (nm : ByteArray) : Ex := .mk 2 0 nm []
def cE (n : Int) : Ex := .mk 1 n ByteArray.empty []
def putS (e : Ex) : Sm := .mk 2 lR [] (.mk 6 0 ByteArray.empty [e, cE 1]) e [] 0 0 [] []
def loopS (nm : ByteArray) (lo hi : Int) (l : List Sm) : Sm := .mk 5 nm [] eZ eZ [] lo hi l []
def oneU (l : List Sm) : Pg := ⟨[], [⟨lF, [], [⟨lI, 1, 0, false⟩, ⟨lJ, 1, 0, false⟩, ⟨lX, 1, 0, false⟩, ⟨lR, 2, 3, false⟩], [], l⟩]⟩
theorem num11_ok (n : Int) (H : List Blk) : ACalls Tryz.prog 18 [I n] H (fun e H' => e = .ret (I n) ∧ H' = H) := by
  refine acalls_tidy (acalls_of_vc (hn := fun _ => false) (od := fun _ => none) Tryz.func18 rfl (by kernel_rfl) ?_)
  simp -dsimp
  exact tidy_now rfl ⟨rfl, rfl⟩
theorem v11_ok (nm : ByteArray) (H : List Blk) : ACalls Tryz.prog 44 [St nm] H (fun e H' => e = .ret (.agg (vE nm).cells) ∧ H' = H) := by
  refine acalls_tidy (acalls_weakE (acalls_of_vc (hn := fun _ => false) (od := fun _ => none) Tryz.func44 rfl (by kernel_rfl) ?_))
  simp -dsimp
  refine tidy_weak (r' := .agg (vE nm).cells) ?_ (tidy_same rfl ⟨by simp, rfl⟩)
  rw [Ex.cells_eq]
  exact .aggL (.cons (.refl _) (.cons (.refl _) (.cons (.refl _) (.cons (.nil _) .nil))))
theorem c11_ok (n : Int) (H : List Blk) : ACalls Tryz.prog 45 [U n] H (fun e H' => e = .ret (.agg (cE n).cells) ∧ H' = H) := by
  refine acalls_tidy (acalls_weakE (acalls_of_vc (hn := fun _ => false) (od := fun _ => none) Tryz.func45 rfl (by kernel_rfl) ?_))
  simp -dsimp
  refine tidy_weak (r' := .agg (cE n).cells) ?_ (tidy_same rfl ⟨by simp, rfl⟩)
  rw [Ex.cells_eq]
  exact .aggL (.cons (.refl _) (.cons (.refl _) (.cons (.refl _) (.cons (.nil _) .nil))))
theorem put11_ok (e : Ex) (H : List Blk) : ACalls Tryz.prog 43 [.agg e.cells] H (fun r H' => r = .ret (.agg (putS e).cells) ∧ H' = H) := by
  refine acalls_tidy (acalls_weakE (acalls_of_vc (hn := fun _ => false) (od := fun _ => none) Tryz.func43 rfl (by kernel_rfl) ?_))
  have cc := fun H => c11_ok 1 H
  simp only [Ex.cells_eq] at cc
  simp -dsimp
  refine callDW_intro (cc _) ?_
  simp -dsimp
  refine tidy_weak (r' := .agg (putS e).cells) ?_ (tidy_same rfl ⟨by simp, rfl⟩)
  rw [Sm.cells_eq]
  have q : Ex.sl (putS e).e.args = .vs 4 [[I e.op, U e.word, St e.name, Ex.sl e.args], [I (cE 1).op, U (cE 1).word, St (cE 1).name, Ex.sl (cE 1).args]] := by show Ex.sl [e, cE 1] = _; simp
  rw [q]
  exact .aggL (.cons (.refl _) (.cons (.refl _) (.cons (.nil _) (.cons (.refl _) (.cons (.refl _) (.cons (.refl _) (.cons (.refl _) (.cons (.refl _) (.cons (.refl _) (.cons (.refl _) (.cons (.refl _) (.cons (.nil _) (.cons (.refl _) (.cons (.refl _) (.cons (.nil _) (.cons (.nil _) .nil))))))))))))))))
theorem loop11_ok (nm : ByteArray) (lo hi : Int) (l : List Sm) (H : List Blk) : ACalls Tryz.prog 42 [St nm, U lo, U hi, Sm.sl l] H (fun r H' => r = .ret (.agg (loopS nm lo hi l).cells) ∧ H' = H) := by
  refine acalls_tidy (acalls_weakE (acalls_of_vc (hn := fun _ => false) (od := fun _ => none) Tryz.func42 rfl (by kernel_rfl) ?_))
  simp -dsimp
  refine tidy_weak (r' := .agg (loopS nm lo hi l).cells) ?_ (tidy_same rfl ⟨by simp, rfl⟩)
  rw [Sm.cells_eq]
  exact .aggL (.cons (.refl _) (.cons (.refl _) (.cons (.nil _) (.cons (.refl _) (.cons (.refl _) (.cons (.refl _) (.cons (.nil _) (.cons (.refl _) (.cons (.refl _) (.cons (.refl _) (.cons (.nil _) (.cons (.nil _) (.cons (.refl _) (.cons (.refl _) (.cons (.refl _) (.cons (.nil _) .nil))))))))))))))))
theorem one11_ok (l : List Sm) (H : List Blk) : ACalls Tryz.prog 41 [Sm.sl l] H (fun r H' => r = .ret (.agg (oneU l).cells) ∧ H' = H) := by
  refine acalls_tidy (acalls_weakE (acalls_of_vc (hn := fun _ => false) (od := fun _ => none) Tryz.func41 rfl (by kernel_rfl) ?_))
  simp -dsimp
  refine tidy_weak (r' := .agg (oneU l).cells) ?_ (tidy_same rfl ⟨by simp, rfl⟩)
  refine .aggL (.cons (.nil _) (.cons (.vsR (.cons (.cons (.refl _) (.cons (.nil _) (.cons (.refl _) (.cons (.nil _) (.cons (.refl _) .nil))))) .nil)) .nil))
theorem oneU_okL (l : List Sm) (h : smsCount l ≤ 1000) (hw : smsWordsOk l = true) : (oneU l).OkL := by
  have one : ∀ f ∈ (oneU l).funcs, f = ⟨lF, [], [⟨lI, 1, 0, false⟩, ⟨lJ, 1, 0, false⟩, ⟨lX, 1, 0, false⟩, ⟨lR, 2, 3, false⟩], [], l⟩ := fun f hf => by simpa [oneU] using hf
  refine ⟨⟨⟨⟨by simp [oneU], by simp [oneU], fun f hf => ?_, fun f hf => ?_, fun f hf => ?_, fun f hf => ?_⟩, ⟨by simp [oneU], fun f hf => ⟨?_, ?_, ?_⟩⟩, fun f hf => ?_⟩, fun f hf => ?_⟩, ⟨by simp [oneU], by simp [oneU], fun f hf => ?_, fun f hf => ?_, fun f hf => ?_, fun f hf => ?_⟩, fun f hf => ?_⟩ <;> obtain rfl := one f hf
  · show smsCount l ≤ _; omega
  · simp
  · simp
  · simp
  · show ByteArray.size lF ≤ _; decide
  · intro v hv
    simp at hv
    rcases hv with rfl | rfl | rfl | rfl
    · show ByteArray.size lI ≤ _; decide
    · show ByteArray.size lJ ≤ _; decide
    · show ByteArray.size lX ≤ _; decide
    · show ByteArray.size lR ≤ _; decide
  · intro s hs; simp at hs
  · show smsCount l ≤ _; omega
  · exact hw
  · simp
  · simp
  · simp
  · show smsCount l ≤ _; omega
  · have := layE_cnt h; show smsCount (layE l).1 ≤ _; omega
end Go.Proofs
namespace Go.Proofs
open Go.Mu
def u1 : Pg := oneU [loopS lI 0 3 [putS (vE lI)]]
def u1' : Pg := oneU [putS (cE 0), putS (cE 1), putS (cE 2)]
def u2 : Pg := oneU [loopS lI 5 5 [.mk 1 lX [] (cE 1) eZ [] 0 0 [] []]]
def u3 : Pg := oneU [loopS lI 0 65536 [loopS lJ 0 2 []]]
def tSame : Tm := .mk 1 [] false []
theorem u1_eq : unrollE u1 = (u1', [.mk 6 [] false [[tSame], [tSame], [tSame]]], 0) := by kernel_rfl
theorem u2_eq : unrollE u2 = (oneU [], [.mk 6 [] false []], 0) := by kernel_rfl
theorem u3_eq : unrollE u3 = (Pg.nil, [], 13) := by kernel_rfl
theorem unroll_of {p q : Pg} {t : List Tm} {e : Int} (hp : p.OkL) (h : unrollE p = (q, t, e)) (H : List Blk) : ACalls Tryz.prog 16 [.agg p.cells] H (fun x H' => x = .ret (.tup [.agg q.cells, Tm.sl t, I e]) ∧ H' = H) := by
  have := unroll_ok p hp H
  rwa [h] at this
theorem oks_of {p : Pg} (h : p.OkL) : p.OkS := by
  have h1 := h.oku.ok2.ok
  exact ⟨h1.regions, h1.funcs, fun f hf => by have := h1.params f hf; omega, fun f hf => by have := h1.vars f hf; omega, h1.rets, h1.body⟩
theorem same_of {p : Pg} (h : p.OkL) (H : List Blk) : ACalls Tryz.prog 19 [.agg p.cells, .agg p.cells] H (fun e H' => e = .ret (Bo true) ∧ H' = H) := by
  have := rpg_ok p p (oks_of h) (oks_of h) H
  rwa [pg_refl] at this
theorem known11_ok (H : List Blk) : ACalls Tryz.prog 11 [] H (fun e H' => e = .ret (Bo true) ∧ H' = H) := by
  refine acalls_tidy (acalls_of_vc (hn := fun _ => false) (od := fun _ => none) Tryz.func11 rfl (by kernel_rfl) ?_)
  have o1 : u1.OkL := oneU_okL _ (by decide) rfl
  have o2 : u2.OkL := oneU_okL _ (by decide) rfl
  have o3 : u3.OkL := oneU_okL _ (by decide) rfl
  have o4 : u1'.OkL := oneU_okL _ (by decide) rfl
  have o5 : (oneU []).OkL := oneU_okL _ (by decide) rfl
  simp -dsimp
  refine acallsW_det (v11_ok lI _) ?_
  simp -dsimp
  refine acallsW_det (put11_ok (vE lI) _) ?_
  simp -dsimp
  refine acallsW_det (loop11_ok lI 0 3 [putS (vE lI)] _) ?_
  simp -dsimp
  refine acallsW_det (one11_ok [loopS lI 0 3 [putS (vE lI)]] _) ?_
  simp -dsimp
  refine acallsW_det (unroll_of o1 u1_eq _) ?_
  simp -dsimp
  refine acallsW_det (c11_ok 1 _) ?_
  simp -dsimp
  refine acallsW_of (acalls_weak (args' := [St lI, U 5, U 5, Sm.sl [.mk 1 lX [] (cE 1) eZ [] 0 0 [] []]]) (.cons (.refl _) (.cons (.refl _) (.cons (.refl _) (.cons (.vsR (.cons (by repeat first | exact Weak.refl _ | exact Weak.nil _ | exact WeakL.nil | exact WeakR.nil | apply Weak.aggL | apply Weak.vsR | apply WeakL.cons | apply WeakR.cons) .nil)) .nil)))) (loop11_ok lI 5 5 [.mk 1 lX [] (cE 1) eZ [] 0 0 [] []] _)) ?_
  rintro _ _ ⟨rfl, rfl⟩
  simp -dsimp
  refine acallsW_det (one11_ok [loopS lI 5 5 [.mk 1 lX [] (cE 1) eZ [] 0 0 [] []]] _) ?_
  simp -dsimp
  refine acallsW_det (unroll_of o2 u2_eq _) ?_
  simp -dsimp
  refine acallsW_of (acalls_weak (args' := [St lJ, U 0, U 2, Sm.sl []]) (.cons (.refl _) (.cons (.refl _) (.cons (.refl _) (.cons (.nil _) .nil)))) (loop11_ok lJ 0 2 [] _)) ?_
  rintro _ _ ⟨rfl, rfl⟩
  simp -dsimp
  refine acallsW_det (loop11_ok lI 0 65536 [loopS lJ 0 2 []] _) ?_
  simp -dsimp
  refine acallsW_det (one11_ok [loopS lI 0 65536 [loopS lJ 0 2 []]] _) ?_
  simp -dsimp
  refine acallsW_det (unroll_of o3 u3_eq _) ?_
  simp -dsimp
  refine acallsW_det (num11_ok 0 _) ?_
  simp -dsimp
  refine acallsW_det (num11_ok 0 _) ?_
  simp -dsimp
  refine acallsW_det (num11_ok 13 _) ?_
  simp -dsimp
  refine callDW_intro (c11_ok 0 _) ?_
  simp -dsimp
  refine callDW_intro (put11_ok (cE 0) _) ?_
  simp -dsimp
  refine callDW_intro (c11_ok 1 _) ?_
  simp -dsimp
  refine callDW_intro (put11_ok (cE 1) _) ?_
  simp -dsimp
  refine callDW_intro (c11_ok 2 _) ?_
  simp -dsimp
  refine callDW_intro (put11_ok (cE 2) _) ?_
  simp -dsimp
  refine callDW_intro (one11_ok [putS (cE 0), putS (cE 1), putS (cE 2)] _) ?_
  simp -dsimp
  refine callDW_intro (same_of o4 _) ?_
  simp -dsimp [Tm.kind, Tm.subs]
  refine callDW_intro (acalls_weak (args' := [Sm.sl []]) (.cons (.nil _) .nil) (one11_ok [] _)) ?_
  simp -dsimp
  refine callDW_intro (same_of o5 _) ?_
  simp -dsimp [Tm.kind, Tm.subs]
  exact tidy_same rfl ⟨rfl, rfl⟩
end Go.Proofs
namespace Go.Proofs
open Go.Mu
theorem rrounds_ok (m : Nat) : ∀ (l : List Sm), smsCount l < m → smsCount l ≤ 2^36 → smsFors l = true → ∀ (H : List Blk), ACalls Tryz.prog 15 [Sm.sl l] H (fun r H' => r = .ret (I (smsRounds l)) ∧ H' = H) := by
  induction m with
  | zero => intro l h; omega
  | succ m ih =>
    intro l hm hc hf H
    refine acalls_tidy (acalls_of_vc (hn := fun _ => false) (od := fun _ => none) Tryz.func15 rfl (by kernel_rfl) ?_)
    have hl := sms_len l
    obtain ⟨E, hE⟩ : ∃ E, E = smsRounds l := ⟨_, rfl⟩
    rw [← hE]
    have hb0 := smsRounds_bnd hf
    simp -dsimp
    refine loop_rule (hn := fun _ => false) (od := fun _ => none) (fun (i : Nat) f H' => (∃ L, H' = H ++ L) ∧ (∃ n, f 3 = I n ∧ 0 ≤ n ∧ n ≤ 65537 ∧ min 65537 (n + smsRounds (l.drop i)) = E) ∧ f 0 = Sm.sl l ∧ f 4 = I i ∧ i ≤ l.length) (fun i => l.length - i) (by kernel_rfl) 0
      (by
        simp
        rw [hE]; omega) ?_
    rintro i f _ ⟨⟨L, rfl⟩, ⟨n, f3, n0, n1, hinv⟩, f0, f4, hi⟩
    simp -dsimp [f3, f0, f4]
    refine condVW_introD (fun hlt => ?_) (fun hlt => ?_)
    · rw [drop_cons hlt, smsRounds, Sm.rounds_eq] at hinv
      have hlx := List.getElem?_eq_getElem hlt
      have hg := sms_get hlt
      have hfx := fors_get hf hlt
      have hcc := Sm.count_eq l[i]
      obtain ⟨x, hx⟩ : ∃ x, x = l[i] := ⟨_, rfl⟩
      rw [← hx] at hinv hlx hg hfx hcc
      clear hx
      have hr := rounds_nonneg hfx
      rw [Sm.rounds_eq] at hr
      rw [Sm.fors_eq] at hfx
      simp only [Bool.and_eq_true] at hfx
      obtain ⟨⟨q1, q2⟩, q3⟩ := hfx
      have hb1 := smsRounds_bnd q2
      have hb2 := smsRounds_bnd q3
      have cb := fun H => ih x.body (by omega) (by omega) q2 H
      have ce := fun H => ih x.els (by omega) (by omega) q3 H
      obtain ⟨B, hB⟩ : ∃ B, B = smsRounds x.body := ⟨_, rfl⟩
      obtain ⟨C, hC⟩ : ∃ C, C = smsRounds x.els := ⟨_, rfl⟩
      obtain ⟨D, hD⟩ : ∃ D, D = smsRounds (l.drop (i + 1)) := ⟨_, rfl⟩
      rw [← hB] at hinv hr hb1 cb
      rw [← hC] at hinv hr hb2 ce
      rw [← hD] at hinv
      have hD0 : 0 ≤ D := by
        rw [hD]
        have : ∀ (l : List Sm) i, smsFors l = true → smsFors (l.drop i) = true := fun l i h => by
          induction l generalizing i with
          | nil => simpa using h
          | cons s l ih => cases i with
            | zero => exact h
            | succ i => rw [smsFors, Bool.and_eq_true] at h; exact ih i h.2
        exact (smsRounds_bnd (this l (i + 1) hf)).1
      have w1 : IntKind.i64.wrap (B + C) = B + C := wrapI (by omega) (by omega)
      obtain ⟨O, hO⟩ : ∃ O : Int, O = (if B + C < 65537 then B + C else 65537) := ⟨_, rfl⟩
      have hO1 : min 65537 (B + C) = O := by rw [hO]; split <;> omega
      have hO2 : 0 ≤ O ∧ O ≤ 65537 := by omega
      rw [hO1] at hinv hr
      have w2 : IntKind.i64.wrap (1 + O) = 1 + O := wrapI (by omega) (by omega)
      simp -dsimp [f3, f0, f4, hlx]
      refine callDW_intro (cb _) ?_
      simp -dsimp [f3, f0, f4, hlx]
      refine callDW_intro (ce _) ?_
      simp -dsimp [f3, f0, f4, hlx, w1]
      refine condVW_introE (fun hk => ?_) (fun hk _ _ => ?_)
      · rw [if_pos hk] at hinv hr
        simp only [hk, if_true, Bool.and_eq_true, decide_eq_true_eq] at q1
        have w3 : IntKind.u64.wrap (x.high - x.low) = x.high - x.low := wrapU (by omega) (by omega)
        have w4 : IntKind.i64.wrap (x.high - x.low) = x.high - x.low := wrapI (by omega) (by omega)
        obtain ⟨T, hT⟩ : ∃ T, T = (x.high - x.low) * (1 + O) := ⟨_, rfl⟩
        rw [← hT] at hinv hr
        have w5 : IntKind.i64.wrap T = T := wrapI (by omega) (by omega)
        have w6 : IntKind.i64.wrap (n + T) = n + T := wrapI (by omega) (by omega)
        obtain ⟨T2, hT2⟩ : ∃ T2 : Int, T2 = (if T < 65537 then T else 65537) := ⟨_, rfl⟩
        have hT3 : 0 ≤ T2 ∧ T2 ≤ 65537 ∧ (T2 = T ∨ (T2 = 65537 ∧ 65537 ≤ T)) := by rw [hT2]; split <;> omega
        have w7 : IntKind.i64.wrap (n + T2) = n + T2 := wrapI (by omega) (by omega)
        simp -dsimp [f3, f0, f4, ← hO, w2, w3, w4, ← hT, w5, ← hT2, w7]
        refine ⟨i + 1, ?_⟩
        rw [← hD]
        exact ⟨by omega, ⟨by split <;> omega, by split <;> omega, by split <;> omega⟩, wrapS (by omega), by omega⟩
      · rw [if_neg hk] at hinv hr
        have w6 : IntKind.i64.wrap (n + O) = n + O := wrapI (by omega) (by omega)
        simp -dsimp [f3, f0, f4, ← hO, w6]
        refine ⟨i + 1, ?_⟩
        rw [← hD]
        exact ⟨by omega, ⟨by split <;> omega, by split <;> omega, by split <;> omega⟩, wrapS (by omega), by omega⟩
    · rw [drop_end hlt, smsRounds] at hinv
      simp -dsimp [f3]
      have : n = E := by omega
      subst this
      exact tidy_same rfl ⟨rfl, rfl⟩
end Go.Proofs
