/- The same terms, as the document has it: of a list with itself. -/
import Derived.Test.YtihlekehnihnpaaGreatFwZtoU19
import Derived.Test.YtihlekehnihnpaaGreatU25toU31
set_option linter.unusedVariables false
set_option linter.unusedSimpArgs false
set_option maxHeartbeats 4000000
set_option maxRecDepth 100000
namespace Go.Proofs
open Go.Mu
mutual
def Tm.sz : Tm → Nat
  | .mk _ _ _ s => 1 + tmssSz s
def tmsSz : List Tm → Nat
  | [] => 0
  | x :: l => x.sz + tmsSz l
def tmssSz : List (List Tm) → Nat
  | [] => 0
  | a :: l => 1 + tmsSz a + tmssSz l
end
mutual
def Tm.plain : Tm → Bool
  | .mk _ i _ s => i.isEmpty && (decide (s.length ≤ 2^40) && tmssPlain s)
def tmsPlain : List Tm → Bool
  | [] => true
  | x :: l => x.plain && tmsPlain l
def tmssPlain : List (List Tm) → Bool
  | [] => true
  | a :: l => (decide (a.length ≤ 2^40) && tmsPlain a) && tmssPlain l
end
theorem Tm.sz_eq (x : Tm) : x.sz = 1 + tmssSz x.subs := by cases x; rw [Tm.sz]; rfl
theorem Tm.plain_eq (x : Tm) : x.plain = (x.lines.isEmpty && (decide (x.subs.length ≤ 2^40) && tmssPlain x.subs)) := by cases x; rw [Tm.plain]; rfl
theorem tmsSz_len (l : List Tm) : l.length ≤ tmsSz l := by
  induction l with
  | nil => simp
  | cons n l ih => simp only [List.length_cons, tmsSz, Tm.sz_eq]; omega
theorem tmsSz_get {l : List Tm} {i : Nat} (h : i < l.length) : l[i].sz ≤ tmsSz l := by
  induction l generalizing i with
  | nil => simp at h
  | cons n l ih => cases i with
    | zero => simp [tmsSz]
    | succ i => have := ih (i := i) (by simpa using h); simp only [List.getElem_cons_succ, tmsSz]; omega
theorem tmssSz_get {l : List (List Tm)} {i : Nat} (h : i < l.length) : 1 + tmsSz l[i] ≤ tmssSz l := by
  induction l generalizing i with
  | nil => simp at h
  | cons n l ih => cases i with
    | zero => simp [tmssSz]
    | succ i => have := ih (i := i) (by simpa using h); simp only [List.getElem_cons_succ, tmssSz]; omega
theorem tmsPlain_get {l : List Tm} (hp : tmsPlain l = true) {i : Nat} (h : i < l.length) : l[i].plain = true := by
  induction l generalizing i with
  | nil => simp at h
  | cons n l ih =>
    rw [tmsPlain, Bool.and_eq_true] at hp
    cases i with
    | zero => exact hp.1
    | succ i => exact ih hp.2 (by simpa using h)
theorem tmssPlain_get {l : List (List Tm)} (hp : tmssPlain l = true) {i : Nat} (h : i < l.length) : (decide (l[i].length ≤ 2^40) && tmsPlain l[i]) = true := by
  induction l generalizing i with
  | nil => simp at h
  | cons n l ih =>
    rw [tmssPlain, Bool.and_eq_true] at hp
    cases i with
    | zero => exact hp.1
    | succ i => exact ih hp.2 (by simpa using h)
def SameT (H : List Blk) (x : Tm) (f6 f7 : AV) (H' : List Blk) : Prop := ∃ u v R, H' = H ++ R ∧ H'[u]? = some (.box 116 x.cells) ∧ H'[v]? = some (.box 116 x.cells) ∧ f6 = .bp u 0 ∧ f7 = .bp v 0
theorem sameterms_ok (m : Nat) : ∀ (a : List Tm), tmsSz a < m → a.length ≤ 2^40 → tmsPlain a = true → ∀ (H : List Blk), ACalls Tryz.prog 20 [Tm.sl a, Tm.sl a] H (fun e H' => e = .ret (Bo true) ∧ H' = H) := by
  induction m with
  | zero => intro a h; omega
  | succ m ih =>
    intro a hm hc hp H
    refine acalls_tidy (acalls_of_awp Tryz.func20 rfl (by kernel_rfl) ?_)
    have hla := tmsSz_len a
    have fin : ∀ L, Tidy H (fun e H' => e = .ret (Bo true) ∧ H' = H) (.ret (Bo true)) (H ++ L) := fun L => tidy_same rfl ⟨rfl, rfl⟩
    refine awp_cut (fun _ => false) (fun _ => none) (fun f H' => H = H' ∧ f 0 = Tm.sl a ∧ f 1 = Tm.sl a) (by kernel_rfl) ?_ ?_
    · simp -dsimp
    rintro g _ ⟨rfl, g0, g1⟩
    refine awp_cut (fun _ => false) (fun _ => none) (fun f H' => H = H' ∧ f 0 = Tm.sl a ∧ f 1 = Tm.sl a) (by kernel_rfl) ?_ ?_
    · simp -dsimp [g0, g1]
    clear g g0 g1
    rintro g _ ⟨rfl, g0, g1⟩
    refine awp_cutA (fun f H' => (∃ L, H' = H ++ L)) ?_ ?_
    rotate_left
    · clear g g0 g1
      rintro g _ ⟨L, rfl⟩
      refine awp_all (fun _ => false) (fun _ => none) (by kernel_rfl) ?_
      simp -dsimp
      exact fin L
    refine awp_cut (fun _ => false) (fun _ => none) (fun f H' => H = H' ∧ f 0 = Tm.sl a ∧ f 1 = Tm.sl a ∧ f 5 = I 0) (by kernel_rfl) ?_ ?_
    · simp -dsimp [g0, g1]
    clear g g0 g1
    rintro g _ ⟨rfl, g0, g1, g5⟩
    refine awp_block ?_
    refine awp_loopI (fun (i : Nat) f H' => (∃ L, H' = H ++ L) ∧ f 0 = Tm.sl a ∧ f 1 = Tm.sl a ∧ f 5 = I i ∧ i ≤ a.length) (fun i => a.length - i) 0 ⟨⟨[], by simp⟩, g0, g1, g5, by omega⟩ ?_
    clear g g0 g1 g5
    rintro i g _ ⟨⟨L, rfl⟩, g0, g1, g5, hi⟩
    refine awp_cut (fun _ => false) (fun _ => none) (fun f H' => H' = H ++ L ∧ f 0 = Tm.sl a ∧ f 1 = Tm.sl a ∧ f 5 = I i ∧ i < a.length) (by kernel_rfl) ?_ ?_
    · simp -dsimp [g0, g1, g5]
      refine condVW_introD (fun hlt => ?_) (fun hlt => ?_)
      · simp -dsimp [g0, g1, g5]
        omega
      · simp -dsimp
    clear g g0 g1 g5
    rintro g _ ⟨rfl, g0, g1, g5, hlt⟩
    have hgx := tmsSz_get hlt
    have hpx := tmsPlain_get hp hlt
    have e1 := List.getElem?_eq_getElem hlt
    obtain ⟨x, hx⟩ : ∃ x, x = a[i] := ⟨_, rfl⟩
    rw [← hx] at e1 hgx hpx
    clear hx
    rw [Tm.sz_eq] at hgx
    rw [Tm.plain_eq, Bool.and_eq_true, Bool.and_eq_true, decide_eq_true_eq] at hpx
    have hl0 : x.lines = [] := by simpa using hpx.1
    have hls := hpx.2.1
    refine awp_cutA (fun f H' => (∃ L, H' = H ++ L) ∧ f 0 = Tm.sl a ∧ f 1 = Tm.sl a ∧ f 5 = I i) ?_ ?_
    rotate_left
    · clear g g0 g1 g5
      rintro g _ ⟨⟨L, rfl⟩, g0, g1, g5⟩
      refine awp_all (fun _ => false) (fun _ => none) (by kernel_rfl) ?_
      simp -dsimp [g0, g1, g5]
      exact ⟨i + 1, by omega, wrapS (by omega), by omega⟩
    refine awp_block ?_
    refine awp_cutA (fun f H' => SameT H x (f 6) (f 7) H' ∧ f 0 = Tm.sl a ∧ f 1 = Tm.sl a ∧ f 5 = I i) ?_ ?_
    · refine awp_region_tree (fun d => false) sameT7 (by kernel_rfl) ?_
      have fin2 : ∀ u v R X Y, (H ++ (L ++ R))[u]? = some (Blk.box 116 X) → (H ++ (L ++ R))[v]? = some (Blk.box 116 Y) → X = x.cells → Y = x.cells → SameT H x (.bp u 0) (.bp v 0) (H ++ (L ++ R)) := fun u v R X Y p q hX hY => by
        subst hX hY
        exact ⟨u, v, _, rfl, p, q, rfl, rfl⟩
      simp -dsimp [sameT7, g0, g1, g5, e1]
      refine ⟨fin2 _ _ _ _ _ ?_ ?_ (Tm.cells_eq x).symm (Tm.cells_eq x).symm, fin2 _ _ _ _ _ ?_ ?_ (Tm.cells_eq x).symm (Tm.cells_eq x).symm⟩
      · rw [List.getElem?_append_right (by omega), Nat.add_sub_cancel_left, List.getElem?_append_right (by omega), Nat.sub_self]; rfl
      · rw [List.getElem?_append_right (by omega), Nat.add_sub_cancel_left, List.getElem?_append_right (by omega), Nat.add_sub_cancel_left]; rfl
      · rw [List.getElem?_append_right (by omega), Nat.add_sub_cancel_left, List.getElem?_append_right (by omega), Nat.add_sub_cancel_left]; rfl
      · rw [List.getElem?_append_right (by omega), Nat.add_sub_cancel_left, List.getElem?_append_right (by omega), Nat.sub_self]; rfl
    clear g g0 g1 g5
    rintro g V ⟨⟨u, v, R, hV, hVx, hVy, g6, g7⟩, g0, g1, g5⟩
    have hVH : ∃ L', V = H ++ L' := ⟨_, hV⟩
    clear hV
    simp only [Tm.cells_eq, hl0] at hVx hVy
    refine awp_cut (fun _ => false) (fun _ => none) (fun f H' => V = H' ∧ f 0 = Tm.sl a ∧ f 1 = Tm.sl a ∧ f 5 = I i ∧ f 6 = .bp u 0 ∧ f 7 = .bp v 0) (by kernel_rfl) ?_ ?_
    · simp -dsimp [g0, g1, g5, g6, g7, hVx, hVy]
    clear g g0 g1 g5 g6 g7
    rintro g _ ⟨rfl, g0, g1, g5, g6, g7⟩
    refine awp_cutA (fun f H' => V = H' ∧ f 0 = Tm.sl a ∧ f 1 = Tm.sl a ∧ f 5 = I i ∧ f 6 = .bp u 0 ∧ f 7 = .bp v 0) ?_ ?_
    · refine awp_all (fun _ => false) (fun _ => none) (by kernel_rfl) ?_
      simp -dsimp [g0, g1, g5, g6, g7]
      refine loop_rule (hn := fun _ => false) (od := fun _ => none) (fun (j : Nat) f H' => V = H' ∧ f 0 = Tm.sl a ∧ f 1 = Tm.sl a ∧ f 5 = I i ∧ f 6 = .bp u 0 ∧ f 7 = .bp v 0 ∧ f 8 = I 0) (fun j => 0) (by kernel_rfl) 0 (by simp [g0, g1, g5, g6, g7]) ?_
      clear g g0 g1 g5 g6 g7
      rintro j g _ ⟨rfl, g0, g1, g5, g6, g7, g8⟩
      simp -dsimp [g0, g1, g5, g6, g7, g8, hVx]
    clear g g0 g1 g5 g6 g7
    rintro g _ ⟨rfl, g0, g1, g5, g6, g7⟩
    refine awp_all (fun _ => false) (fun _ => none) (by kernel_rfl) ?_
    simp -dsimp [g0, g1, g5, g6, g7]
    refine loop_rule (hn := fun _ => false) (od := fun _ => none) (fun (j : Nat) f H' => V = H' ∧ f 0 = Tm.sl a ∧ f 1 = Tm.sl a ∧ f 5 = I i ∧ f 6 = .bp u 0 ∧ f 7 = .bp v 0 ∧ f 10 = I j ∧ j ≤ x.subs.length) (fun j => x.subs.length - j) (by kernel_rfl) 0 (by simp [g0, g1, g5, g6, g7]) ?_
    clear g g0 g1 g5 g6 g7
    rintro j g _ ⟨rfl, g0, g1, g5, g6, g7, g10, hj⟩
    simp -dsimp [g0, g1, g5, g6, g7, g10, hVx]
    refine condVW_introD (fun hjt => ?_) (fun hjt => ?_)
    · have e3 := List.getElem?_eq_getElem hjt
      have hgy := tmssSz_get hjt
      have hpy := tmssPlain_get hpx.2.2 hjt
      rw [Bool.and_eq_true, decide_eq_true_eq] at hpy
      obtain ⟨y, hy⟩ : ∃ y, y = x.subs[j] := ⟨_, rfl⟩
      rw [← hy] at e3 hgy hpy
      obtain ⟨hpl, hpy⟩ := hpy
      clear hy
      have cr := ih y (by omega) hpl hpy V
      simp -dsimp [g0, g1, g5, g6, g7, g10, hVx, hVy, e3]
      refine callDW_intro cr ?_
      simp -dsimp [g0, g1, g5, g6, g7, g10]
      exact ⟨j + 1, by omega, wrapS (by omega), by omega⟩
    · simp -dsimp [g0, g1, g5]
      exact hVH
end Go.Proofs
namespace Go.Proofs
open Go.Mu
def RecP (rec : List Sm → Int → LR) : Prop := ∀ l left b t l1, smsCount l ≤ 2^36 → smsFors l = true → 0 ≤ left → rec l left = some (b, t, l1) → tmsPlain t = true
theorem round_plain {rec : List Sm → Int → LR} (hr : RecP rec) (hb : RecB rec) (nm : ByteArray) (lo : Int) (body : List Sm) (hc : smsCount body ≤ 2^36) (hf : smsFors body = true) (c : Nat) : ∀ n left bs ts l1, 0 ≤ left → roundGo rec nm lo body c n left = some (bs, ts, l1) → tmssPlain ts = true := by
  induction c with
  | zero => intro n left bs ts l1 h0 h; simp only [roundGo, Option.some.injEq, Prod.mk.injEq] at h; obtain ⟨rfl, rfl, rfl⟩ := h; rfl
  | succ c ih =>
    intro n left bs ts l1 h0 h
    rw [roundGo] at h
    split at h
    · cases h
    · rename_i b t l2 h1
      obtain ⟨⟨b3, t3, l3⟩, h3, h4⟩ := Option.map_eq_some_iff.1 h
      simp only [Prod.mk.injEq] at h4
      obtain ⟨rfl, rfl, rfl⟩ := h4
      have hcp := smsPut_count nm (lo + n) body
      have a := hr _ _ _ _ _ (by omega) (by rw [put_fors]; exact hf) h0 h1
      have q := hb _ _ _ _ _ h0 h1
      have hlp := sms_len (smsPut nm (lo + n) body)
      have b' := ih _ _ _ _ _ q.1 h3
      rw [tmssPlain, a, b', decide_eq_true (by omega)]
      rfl
theorem layGo_plain {rec : List Sm → Int → LR} (hr : RecP rec) (hb : RecB rec) : RecP (layGo rec) := by
  intro l
  induction l with
  | nil => intro left b t l1 _ _ h0 h; simp only [layGo, Option.some.injEq, Prod.mk.injEq] at h; obtain ⟨rfl, rfl, rfl⟩ := h; rfl
  | cons s l ih =>
    intro left b t l1 hc hf h0 h
    simp only [smsCount] at hc
    have hcc := Sm.count_eq s
    rw [smsFors, Bool.and_eq_true] at hf
    obtain ⟨f1, f2, f3⟩ := fors_body hf.1
    rw [layGo] at h
    split at h
    · rename_i hk
      obtain ⟨q1, q2, q3⟩ := f3 hk
      split at h
      · cases h
      · rename_i bs ts l2 h1
        obtain ⟨⟨b3, t3, l3⟩, h3, h4⟩ := Option.map_eq_some_iff.1 h
        simp only [Prod.mk.injEq] at h4
        obtain ⟨rfl, rfl, rfl⟩ := h4
        have a := round_plain hr hb _ _ _ (by omega) f1 _ _ _ _ _ _ h0 h1
        have q := round_bnd hb _ _ _ _ _ _ _ _ _ h0 h1
        rw [tmsPlain, Tm.plain_eq, ih _ _ _ _ (by omega) hf.2 q.1 h3]
        show (([] : List (List Pk)).isEmpty && (decide (ts.length ≤ 2^40) && tmssPlain ts)) && true = true
        rw [a, decide_eq_true (by omega)]
        rfl
    · split at h
      · cases h
      · rename_i hl
        split at h
        · cases h
        · rename_i b1 t1 l2 h1
          split at h
          · cases h
          · rename_i b2 t2 l3 h2
            obtain ⟨⟨b3, t3, l4⟩, h3, h4⟩ := Option.map_eq_some_iff.1 h
            simp only [Prod.mk.injEq] at h4
            obtain ⟨rfl, rfl, rfl⟩ := h4
            have q1 := hb _ _ _ _ _ (by omega) h1
            have q2 := hb _ _ _ _ _ q1.1 h2
            have a := hr _ _ _ _ _ (by omega) f1 (by omega) h1
            have a2 := hr _ _ _ _ _ (by omega) f2 q1.1 h2
            have hl1 := sms_len s.body
            have hl2 := sms_len s.els
            have d1 : decide (t1.length ≤ 2^40) = true := decide_eq_true (by omega)
            have d2 : decide (t2.length ≤ 2^40) = true := decide_eq_true (by omega)
            rw [tmsPlain, ih _ _ _ _ (by omega) hf.2 q2.1 h3, Bool.and_true, termOf]
            split
            · simp [Tm.plain, tmssPlain, a, a2] at d1 d2 ⊢; omega
            · split
              · simp [Tm.plain, tmssPlain, a] at d1 ⊢; omega
              · rfl
theorem layM_plain (d : Nat) : RecP (layM d) := by
  induction d with
  | zero => intro l left b t l1 _ _ _ h; cases h
  | succ d ih => exact layGo_plain ih (layM_bnd d)
theorem layE_plain {l : List Sm} (hc : smsCount l ≤ 2^36) (hf : smsFors l = true) : tmsPlain (layE l).2.1 = true ∧ (layE l).2.1.length ≤ 2^40 := by
  unfold layE
  split
  · rename_i b t l1 hq
    have := layM_bnd _ _ _ _ _ _ (by omega) hq
    have hl := sms_len l
    exact ⟨layM_plain _ _ _ _ _ _ hc hf (by omega) hq, by show t.length ≤ _; omega⟩
  · exact ⟨rfl, by simp⟩
theorem unrollPrograms_ok (p : Pg) (hp : p.OkA) (H : List Blk) : ACalls Tryz.prog 3 [.agg p.cells] H (fun e H' => e = .ret (Bo true) ∧ H' = H) := by
  refine acalls_tidy (acalls_of_vc (hn := fun _ => false) (od := fun _ => none) Tryz.func3 rfl (by kernel_rfl) ?_)
  have cs := fun H => small_ok p hp.ok3.ok 1500 H
  have cm := fun H => rmay_ok p hp.ok3 H
  have cf := fun H => rform_ok p hp.ok3.ok.ok.body (fun f hf => by have := hp.okl.okc.vars f hf; omega) hp.ok3.ok.ok.funcs hp.ok3.ok.ok.regions H
  have cu := fun H => unroll_ok p hp.okl H
  have cr := fun H => rprog_ok p hp H
  -- what comes of it is told alike
  have hS : (unrollE p).1.OkS ∧ tmsPlain (unrollE p).2.1 = true ∧ (unrollE p).2.1.length ≤ 2^40 := by
    have nil : (Pg.nil).OkS ∧ tmsPlain ([] : List Tm) = true ∧ ([] : List Tm).length ≤ 2^40 := ⟨⟨by simp [Pg.nil], by simp [Pg.nil], by simp [Pg.nil], by simp [Pg.nil], by simp [Pg.nil], by simp [Pg.nil]⟩, rfl, by simp⟩
    unfold unrollE
    split
    · rename_i hm
      split
      · exact nil
      · rename_i hc
        have hone := nocalls_one hm (by simpa using hc)
        have hmem : lastF p ∈ p.funcs := by rw [hone]; exact List.mem_singleton.2 rfl
        split
        · exact nil
        · split
          · split
            · have hpl := layE_plain (hp.okl.okc.body _ hmem) (may_shape hm hp.okl.oku.words _ hmem).1
              have ho := hp.okl.out _ hmem
              have h1 := withBody_ok2 hp.ok3.ok hmem ho
              exact ⟨⟨h1.ok.regions, h1.ok.funcs, fun f hf => by have := h1.ok.params f hf; omega, fun f hf => by have := h1.ok.vars f hf; omega, h1.ok.rets, h1.ok.body⟩, hpl⟩
            · exact nil
          · exact nil
    · exact nil
  have cS := fun H => rpg_ok _ _ hS.1 hS.1 H
  have cT := fun H => sameterms_ok _ _ (Nat.lt_succ_self _) hS.2.2 hS.2.1 H
  rw [pg_refl] at cS
  obtain ⟨q, t, e, hE⟩ : ∃ q t e, (q, t, e) = unrollE p := ⟨_, _, _, rfl⟩
  rw [← hE] at cu cr cS cT
  simp only [Pg.cells] at cs cm cf cu cr cS
  have tail : ∀ (X : Prop), X → X := fun _ h => h
  simp -dsimp
  refine acallsW_det (cs _) ?_
  cases smallB p 1500
  · simp -dsimp
    refine acallsW_det (known11_ok _) ?_
    simp -dsimp
    exact tidy_same rfl ⟨rfl, rfl⟩
  simp -dsimp
  refine acallsW_det (cm _) ?_
  by_cases hm : mayE p = 0
  rotate_left
  · have hb : (mayE p == 0) = false := by simpa using hm
    simp -dsimp [hb]
    refine acallsW_det (cu _) ?_
    simp -dsimp
    refine acallsW_det (cr _) ?_
    simp -dsimp
    refine acallsW_det (num11_ok e _) ?_
    simp -dsimp
    refine acallsW_det (cS _) ?_
    simp -dsimp
    refine acallsW_det (cT _) ?_
    simp -dsimp
    refine acallsW_det (known11_ok _) ?_
    simp -dsimp
    exact tidy_same rfl ⟨rfl, rfl⟩
  have hbm : (mayE p == 0) = true := by simpa using hm
  simp -dsimp [hbm]
  refine acallsW_det (cf _) ?_
  obtain ⟨ca, fo, ar, st, hT⟩ : ∃ a b c d, (⟨a, b, c, d⟩ : Fo) = formT p := ⟨_, _, _, _, rfl⟩
  have hTc : (formT p).calls = ca := by rw [← hT]
  rw [← hT]
  simp only [Fo.cells]
  cases ca
  rotate_left
  · simp -dsimp
    refine acallsW_det (cu _) ?_
    simp -dsimp
    refine acallsW_det (cr _) ?_
    simp -dsimp
    refine acallsW_det (num11_ok e _) ?_
    simp -dsimp
    refine acallsW_det (cS _) ?_
    simp -dsimp
    refine acallsW_det (cT _) ?_
    simp -dsimp
    refine acallsW_det (known11_ok _) ?_
    simp -dsimp
    exact tidy_same rfl ⟨rfl, rfl⟩
  have hone := nocalls_one hm hTc
  have hmem : lastF p ∈ p.funcs := by rw [hone]; exact List.mem_singleton.2 rfl
  have h0 : p.funcs[0]? = some (lastF p) := by rw [hone]; rfl
  have hc36 := hp.okl.okc.body _ hmem
  have hsh := (may_shape hm hp.okl.oku.words _ hmem).1
  have cz := fun H => rsize11_ok 65536 (by omega) (by omega) _ (lastF p).body (Nat.lt_succ_self _) hc36 hsh H
  have crr := fun H => rrounds_ok _ (lastF p).body (Nat.lt_succ_self _) hc36 hsh H
  obtain ⟨Z, hZ⟩ : ∃ Z, Z = min (smsSizeI (lastF p).body) (65536 + 1) := ⟨_, rfl⟩
  rw [← hZ] at cz
  clear hZ
  obtain ⟨Y, hY⟩ : ∃ Y, Y = smsRounds (lastF p).body := ⟨_, rfl⟩
  rw [← hY] at crr
  clear hY
  simp -dsimp [h0]
  refine acallsW_det (cz _) ?_
  have step2 : True := trivial
  by_cases z1 : (3000 : Int) < Z
  · by_cases z2 : Z ≤ (65536 : Int)
    · simp -dsimp [z1, z2]
      refine acallsW_det (known11_ok _) ?_
      simp -dsimp
      exact tidy_same rfl ⟨rfl, rfl⟩
    · simp -dsimp [z1, z2, h0]
      refine acallsW_det (crr _) ?_
      by_cases y1 : (3000 : Int) < Y
      · by_cases y2 : Y ≤ (65536 : Int)
        · simp -dsimp [y1, y2]
          refine acallsW_det (known11_ok _) ?_
          simp -dsimp
          exact tidy_same rfl ⟨rfl, rfl⟩
        · simp -dsimp [y1, y2]
          refine acallsW_det (cu _) ?_
          simp -dsimp
          refine acallsW_det (cr _) ?_
          simp -dsimp
          refine acallsW_det (num11_ok e _) ?_
          simp -dsimp
          refine acallsW_det (cS _) ?_
          simp -dsimp
          refine acallsW_det (cT _) ?_
          simp -dsimp
          refine acallsW_det (known11_ok _) ?_
          simp -dsimp
          exact tidy_same rfl ⟨rfl, rfl⟩
      · simp -dsimp [y1]
        refine acallsW_det (cu _) ?_
        simp -dsimp
        refine acallsW_det (cr _) ?_
        simp -dsimp
        refine acallsW_det (num11_ok e _) ?_
        simp -dsimp
        refine acallsW_det (cS _) ?_
        simp -dsimp
        refine acallsW_det (cT _) ?_
        simp -dsimp
        refine acallsW_det (known11_ok _) ?_
        simp -dsimp
        exact tidy_same rfl ⟨rfl, rfl⟩
  · simp -dsimp [z1, h0]
    refine acallsW_det (crr _) ?_
    by_cases y1 : (3000 : Int) < Y
    · by_cases y2 : Y ≤ (65536 : Int)
      · simp -dsimp [y1, y2]
        refine acallsW_det (known11_ok _) ?_
        simp -dsimp
        exact tidy_same rfl ⟨rfl, rfl⟩
      · simp -dsimp [y1, y2]
        refine acallsW_det (cu _) ?_
        simp -dsimp
        refine acallsW_det (cr _) ?_
        simp -dsimp
        refine acallsW_det (num11_ok e _) ?_
        simp -dsimp
        refine acallsW_det (cS _) ?_
        simp -dsimp
        refine acallsW_det (cT _) ?_
        simp -dsimp
        refine acallsW_det (known11_ok _) ?_
        simp -dsimp
        exact tidy_same rfl ⟨rfl, rfl⟩
    · simp -dsimp [y1]
      refine acallsW_det (cu _) ?_
      simp -dsimp
      refine acallsW_det (cr _) ?_
      simp -dsimp
      refine acallsW_det (num11_ok e _) ?_
      simp -dsimp
      refine acallsW_det (cS _) ?_
      simp -dsimp
      refine acallsW_det (cT _) ?_
      simp -dsimp
      refine acallsW_det (known11_ok _) ?_
      simp -dsimp
      exact tidy_same rfl ⟨rfl, rfl⟩
end Go.Proofs
