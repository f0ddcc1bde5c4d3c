/- Registers told: register, each. -/
import Derived.Test.YtklgcajfkkoacaaGreatCY1toCY4
import Derived.Test.YtklgcajfkkoacaaGreatCWBtoRL6
import Derived.Test.YtklgcajfkkoacaaGreatRL7
import Derived.Test.YtklgcajfkkoacaaGreatCX7toCZ2
set_option linter.unusedVariables false
set_option linter.unusedSimpArgs false
set_option maxHeartbeats 4000000
set_option maxRecDepth 100000
namespace Go.Proofs
open Go.Mu
def rgN (regs : List Int) (v : Int) : Int := if v < 0 then v else rg regs v
abbrev regF (k : Nat) : AV := .fn (.func 33) [.bp k 0] []
theorem reg_ok (l : Linear) (regs : List Int) (lv : AV) (k : Nat) (v : Int) (hv : v < regs.length) (H : List Blk) (hk : H[k]? = some (ckB l regs lv)) : ACalls Tryz.prog 33 [.bp k 0, I v] H (fun e H' => e = .ret (I (rgN regs v)) ∧ H' = H) := by
  refine acalls_of_vc (hn := fun _ => false) (od := fun _ => none) Tryz.func33 rfl (by kernel_rfl) ?_
  by_cases h : v < 0
  · have d : decide (v < 0) = true := decide_eq_true h
    have e : rgN regs v = v := if_pos h
    rw [e]
    simp -dsimp [d]
  · have d : decide (v < 0) = false := decide_eq_false h
    have e : rgN regs v = rg regs v := if_neg h
    have hg := rg_get (regs := regs) (v := v) (by omega) hv
    have hv' : 0 ≤ v := by omega
    rw [e]
    simp -dsimp [d, hk]
    refine ⟨hv', ?_⟩
    simp -dsimp [hk, hg]
theorem each_own (l : Linear) (regs : List Int) (lv : AV) (k : Nat) (vs : List Int) (hv : ∀ v ∈ vs, v < regs.length) (hl : vs.length ≤ 2^38) (H : List Blk) (hk : H[k]? = some (ckB l regs lv)) : ACalls Tryz.prog 34 [Int.sl vs, regF k] H (SortR H (vs.map (rgN regs))) := by
  refine acalls_of_vc (hn := fun d => d == 19) (od := fun _ => none) Tryz.func34 rfl (by kernel_rfl) ?_
  simp -dsimp
  refine loop_rule (hn := fun d => d == 19) (od := fun _ => none) (fun (i : Nat) f M => f 1 = regF k ∧ f 8 = Int.sl vs ∧ f 9 = I vs.length ∧ f 10 = I i ∧ i ≤ vs.length ∧ ∃ h, f 5 = hrow h ((vs.take i).map (rgN regs)).length ∧ OwnI H M h ((vs.take i).map (rgN regs))) (fun i => vs.length - i) (by kernel_rfl) 0 (by refine ⟨by simp, by simp, by simp, by simp, by omega, none, rfl, .nil1 _ _ _⟩) ?_
  rintro i f M ⟨f1, f8, f9, f10, hi, h, f5, ow⟩
  simp -dsimp [f1, f8, f9, f10]
  refine condVW_introD (fun hlt => ?_) (fun hlt => ?_)
  · have hlt' : i < vs.length := by omega
    have hx := List.getElem?_eq_getElem hlt'
    have hxm : vs[i] ∈ vs := List.getElem_mem hlt'
    have hnew : (vs.take (i + 1)).map (rgN regs) = (vs.take i).map (rgN regs) ++ [rgN regs vs[i]] := by rw [List.take_succ_eq_append_getElem hlt', List.map_append]; rfl
    obtain ⟨n, hn⟩ : ∃ n, n = vs[i] := ⟨_, rfl⟩
    rw [← hn] at hx hxm hnew
    have cr := reg_ok l regs lv k n (hv n hxm) M (ow.old hk)
    have hlen : ((vs.take i).map (rgN regs)).length ≤ 2^38 := by simp; omega
    obtain ⟨pr, hpr⟩ : ∃ pr, pr = (vs.take i).map (rgN regs) := ⟨_, rfl⟩
    rw [← hpr] at hnew f5 ow hlen
    replace hpr := Hid.mk hpr
    replace hnew := Hid.mk hnew
    simp -dsimp [f1, f5, f8, f9, f10, hx]
    refine acallsW_det cr ?_
    simp -dsimp [f1, f5, f8, f9, f10, hx]
    refine app_own ow (by simp) rfl rfl (by simp; omega) (by simp; omega) ?_
    intro h' M' ow' _
    have ow2 : OwnI H M' h' (pr ++ [rgN regs n]) := by unfold OwnI; rw [List.map_append]; exact ow'
    have e : (pr.map (fun n => [I n]) ++ [[I (rgN regs n)]]).length = (pr ++ [rgN regs n]).length := by simp
    rw [e]
    rw [← hnew.out] at ow2 ⊢
    simp -dsimp [f1, f8, f9, f10]
    refine ⟨i + 1, by omega, wrapS (by omega), by omega, h', ?_, ?_⟩
    · rfl
    · rw [← List.map_take]; exact ow2
  · simp -dsimp [f5]
    have e : min i vs.length = (vs.map (rgN regs)).length := by simp; omega
    rw [e]
    rw [List.take_of_length_le (by omega)] at ow
    exact ⟨h, rfl, ow⟩
theorem each_ok (l : Linear) (regs : List Int) (lv : AV) (k : Nat) (vs : List Int) (hv : ∀ v ∈ vs, v < regs.length) (hl : vs.length ≤ 2^38) (H : List Blk) (hk : H[k]? = some (ckB l regs lv)) : ACalls Tryz.prog 34 [Int.sl vs, regF k] H (fun e H' => e = .ret (Int.sl (vs.map (rgN regs))) ∧ H' = H) := by
  refine acalls_under fun hu _ => acalls_weakE (acalls_tidy ((each_own l regs lv k vs hv hl H hk).mono ?_))
  rintro e M ⟨h, rfl, ow⟩
  exact tidy_rowA hu ow (int_frzB _) (map_len _).symm ⟨rfl, rfl⟩
end Go.Proofs
namespace Go.Proofs
open Go.Mu
structure InsIn (vars : Int) (x : Ins) : Prop where
  kd : x.kind = 1 ∨ x.kind = 2 ∨ x.kind = 3 ∨ x.kind = 4 ∨ x.kind = 5
  d : x.kind ≠ 5 → 0 ≤ x.d ∧ x.d < vars
  a : x.kind = 2 ∨ x.kind = 3 → 0 ≤ x.a ∧ x.a < vars
  a' : x.kind = 4 ∨ x.kind = 5 → x.a = -1 ∨ (0 ≤ x.a ∧ x.a < vars)
  b : x.kind = 3 → 6 ≤ x.op → 0 ≤ x.b ∧ x.b < vars
  b' : x.kind = 5 → 0 ≤ x.b ∧ x.b < vars
  c : x.kind = 3 → x.op = 21 → 0 ≤ x.c ∧ x.c < vars
  op : x.kind = 3 → 4 ≤ x.op ∧ x.op ≤ 21
theorem ins_inn {vars : Int} {x : Ins} (h : insOk vars x = true) : InsIn vars x := by
  obtain ⟨kind, op, d, a, b, c, word, stack⟩ := x
  unfold insOk at h
  simp only [Bool.or_eq_true, Bool.and_eq_true, beq_iff_eq, isVr_iff] at h
  have ha : ∀ n, arityI op = n → (n = 1 ∧ (op = 4 ∨ op = 5)) ∨ (n = 2 ∧ 6 ≤ op ∧ op ≤ 20) ∨ (n = 3 ∧ op = 21) ∨ n = 0 := by
    intro n hn
    unfold arityI at hn
    split at hn
    · omega
    · split at hn
      · omega
      · split at hn <;> omega
  have ha := ha _ rfl
  constructor <;> simp only <;> omega
theorem rgN_in (regs : List Int) {v : Int} (h : 0 ≤ v) : rgN regs v = rg regs v := if_neg (by omega)
theorem renamed_ok (l : Linear) (regs : List Int) (lv : AV) (k : Nat) (x : Ins) (hx : insOk l.vars x = true) (hl : (regs.length : Int) = l.vars) (H : List Blk) (hk : H[k]? = some (ckB l regs lv)) : ACalls Tryz.prog 35 [.agg x.cells, regF k] H (fun e H' => e = .ret (.agg (renIns regs x).cells) ∧ H' = H) := by
  have hi := ins_inn hx
  have cr := fun v M (h : v < (regs.length : Int)) q => reg_ok l regs lv k v h M q
  have hg : ∀ L, (H ++ L)[k]? = some (ckB l regs lv) := fun L => get_app_old hk L
  clear hx
  obtain ⟨kind, op, d, a, b, c, word, stack⟩ := x
  obtain ⟨h0, h1, h2, h3, h4, h5, h6, h7⟩ := hi
  simp only at h0 h1 h2 h3 h4 h5 h6 h7
  refine acalls_tidy (acalls_of_vc (hn := fun _ => false) (od := fun _ => none) Tryz.func35 rfl (by kernel_rfl) ?_)
  rcases h0 with rfl | rfl | rfl | rfl | rfl
  · have p1 := h1 (by decide)
    have q1 := rgN_in regs p1.1
    simp -dsimp [renIns]
    refine acallsW_det (cr d _ (by omega) (hg _)) ?_
    simp -dsimp [q1]
    exact tidy_same rfl ⟨rfl, rfl⟩
  · have p1 := h1 (by decide)
    have p2 := h2 (by decide)
    have q1 := rgN_in regs p1.1
    have q2 := rgN_in regs p2.1
    simp -dsimp [renIns]
    refine acallsW_det (cr a _ (by omega) (hg _)) ?_
    simp -dsimp [q2]
    refine acallsW_det (cr d _ (by omega) (hg _)) ?_
    simp -dsimp [q1]
    exact tidy_same rfl ⟨rfl, rfl⟩
  · have p1 := h1 (by decide)
    have p2 := h2 (by decide)
    have p7 := h7 rfl
    have q1 := rgN_in regs p1.1
    have q2 := rgN_in regs p2.1
    by_cases e21 : op = 21
    · subst e21
      have p3 := h6 rfl rfl
      have p4 := h4 rfl (by decide)
      have q3 := rgN_in regs p3.1
      have q4 := rgN_in regs p4.1
      simp -dsimp [renIns]
      refine acallsW_det (cr c _ (by omega) (hg _)) ?_
      simp -dsimp [q3]
      refine acallsW_det (cr b _ (by omega) (hg _)) ?_
      simp -dsimp [q4]
      refine acallsW_det (cr a _ (by omega) (hg _)) ?_
      simp -dsimp [q2]
      refine acallsW_det (cr d _ (by omega) (hg _)) ?_
      simp -dsimp [q1]
      exact tidy_same rfl ⟨rfl, rfl⟩
    have d21 : (op == 21) = false := by simpa using e21
    by_cases e6 : 6 ≤ op
    · have d6 : decide (6 ≤ op) = true := decide_eq_true e6
      have p4 := h4 rfl e6
      have q4 := rgN_in regs p4.1
      have er : renIns regs ⟨3, op, d, a, b, c, word, stack⟩ = ⟨3, op, rg regs d, rg regs a, rg regs b, c, word, stack⟩ := by unfold renIns; simp [e6, e21]
      rw [er]
      simp -dsimp [d21, d6]
      refine acallsW_det (cr b _ (by omega) (hg _)) ?_
      simp -dsimp [q4]
      refine acallsW_det (cr a _ (by omega) (hg _)) ?_
      simp -dsimp [q2]
      refine acallsW_det (cr d _ (by omega) (hg _)) ?_
      simp -dsimp [q1]
      exact tidy_same rfl ⟨rfl, rfl⟩
    · have d6 : decide (6 ≤ op) = false := decide_eq_false e6
      have er : renIns regs ⟨3, op, d, a, b, c, word, stack⟩ = ⟨3, op, rg regs d, rg regs a, b, c, word, stack⟩ := by unfold renIns; simp [e6, e21]
      rw [er]
      simp -dsimp [d21, d6]
      refine acallsW_det (cr a _ (by omega) (hg _)) ?_
      simp -dsimp [q2]
      refine acallsW_det (cr d _ (by omega) (hg _)) ?_
      simp -dsimp [q1]
      exact tidy_same rfl ⟨rfl, rfl⟩
  · have p1 := h1 (by decide)
    have q1 := rgN_in regs p1.1
    have p3 := h3 (by decide)
    have er : renIns regs ⟨4, op, d, a, b, c, word, stack⟩ = ⟨4, op, rg regs d, rgN regs a, b, c, word, stack⟩ := rfl
    rw [er]
    simp -dsimp
    refine acallsW_det (cr a _ (by omega) (hg _)) ?_
    simp -dsimp
    refine acallsW_det (cr d _ (by omega) (hg _)) ?_
    simp -dsimp [q1]
    exact tidy_same rfl ⟨rfl, rfl⟩
  · have p5 := h5 rfl
    have q5 := rgN_in regs p5.1
    have p3 := h3 (by decide)
    have er : renIns regs ⟨5, op, d, a, b, c, word, stack⟩ = ⟨5, op, d, rgN regs a, rg regs b, c, word, stack⟩ := rfl
    rw [er]
    simp -dsimp
    refine callDW_intro (cr a _ (by omega) (hg _)) ?_
    simp -dsimp
    refine callDW_intro (cr b _ (by omega) (hg _)) ?_
    simp -dsimp [q5]
    exact tidy_same rfl ⟨rfl, rfl⟩
end Go.Proofs
namespace Go.Proofs
open Go.Mu
theorem chk0 {l : Linear} {regs : List Int} (h : (chkM l regs).2 = 0) : l.ok = true ∧ begOk l regs = true := by
  unfold chkM at h
  split at h
  · simp at h
  · rename_i h1
    split at h
    · simp at h
    · rename_i h2
      exact ⟨by simpa using h1, by simpa using h2⟩
theorem map_rgN (regs : List Int) {vs : List Int} (h : ∀ v ∈ vs, 0 ≤ v) : vs.map (rgN regs) = vs.map (rg regs) := List.map_congr_left fun v hv => rgN_in regs (h v hv)
theorem own_box {t sz : Nat} {B M : List Blk} {h : Option Nat} {es : List (List AV)} {b b' : Blk} (o : Own t sz (B ++ [b]) M h es) : Own t sz (B ++ [b']) (M.set B.length b') h es := by
  obtain ⟨⟨L, rfl⟩, r, nl, nw⟩ := o
  refine ⟨⟨L, by simp⟩, fun k hk => ?_, nl, fun k hk => by simpa using nw k hk⟩
  rw [List.getElem?_set_ne (by have := nw k hk; simp at this; omega)]
  exact r k hk
theorem own_setNew {t sz k : Nat} {H M : List Blk} {h : Option Nat} {es : List (List AV)} {b : Blk} (o : Own t sz H M h es) (hk : H.length ≤ k) (hne : h ≠ some k) : Own t sz H (M.set k b) h es := by
  obtain ⟨⟨L, rfl⟩, r, nl, nw⟩ := o
  refine ⟨⟨L.set (k - H.length) b, by rw [List.set_append_right _ _ hk]⟩, fun j hj => ?_, nl, nw⟩
  rw [List.getElem?_set_ne (fun e => hne (by rw [hj, e]))]
  exact r j hj
theorem tidy_rowIn {t sz : Nat} {H M : List Blk} {h : Option Nat} {es : List (List AV)} {R : AE → List Blk → Prop} {n : Nat} {c1 c2 c3 c4 : AV} {y : Value} (hu : underH H.length H = true) (o : Own t sz H M h es) (hz : es.flatten.all AV.frzB = true) (hn : n = es.length)
    (q : ∀ k, (.agg [c1, c2, c3, c4] : AV).frz k sz es = .agg [c1, c2, c3, c4]) (hc : underL H.length [c1, c2, c3, c4] = true) (hR : R (.ret (.tup [.agg [c1, c2, c3, c4, .vs sz es], .v y])) H) : Tidy H (WeakE R) (.ret (.tup [.agg [c1, c2, c3, c4, hrow h n], .v y])) M := by
  subst hn
  obtain ⟨L, rfl⟩ := o.pre
  have := tidy_giveC (R := WeakE R) (f := fun x => .tup [.agg [c1, c2, c3, c4, x], .v y]) (m := es.length) hu o hz (fun k hk => ?_) fun x L' hx _ _ => ?_
  · rw [cutS_all] at this; exact this
  · have := q k
    simp only [AV.frz, frzL, AV.agg.injEq, List.cons.injEq] at this
    simp [AV.frz, frzL, this]
  · rw [List.take_of_length_le (by omega)] at hx
    simp only [underL, Bool.and_eq_true] at hc
    refine tidy_same (by simp [AV.under, underL, hx.under, hc]) ⟨_, .tupL (.cons (.aggL (.cons (.refl _) (.cons (.refl _) (.cons (.refl _) (.cons (.refl _) (.cons hx.weak .nil)))))) (.cons (.refl _) .nil)), hR⟩
theorem line_frzB (f : Line → Line) (l : List Line) : (l.map fun x => (f x).cells).flatten.all AV.frzB = true := by
  induction l with
  | nil => rfl
  | cons x l ih => rw [List.map_cons, List.flatten_cons, List.all_append, ih]; simp [AV.frzB]
abbrev oB (l : Linear) (ps rs : List Int) (c : AV) : Blk := .box 25 [I 11, Int.sl ps, Int.sl rs, I l.frame, c]
noncomputable def renE (l : Linear) (regs : List Int) : AE := if (chkM l regs).2 = 0 then .ret (.tup [.agg (renL l regs).cells, I 0]) else .ret (.tup [.agg (Linear.mk 0 [] [] 0 []).cells, I (chkM l regs).2])
def rnOd (i : Nat) : Option OPlan := if i = 6 then some [(0, []), (1, []), (2, []), (3, []), (4, []), (5, []), (6, []), (7, []), (8, []), (9, []), (10, []), (11, [0, 1, 3, 4, 5, 7, 8, 9]), (12, [])] else none
theorem rename_ok (l : Linear) (hs : l.Sm) (regs : List Int) (hrl : regs.length ≤ 2^36) (H : List Blk) : ACalls Tryz.prog 11 [.agg l.cells, Int.sl regs] H (fun e H' => e = renE l regs ∧ H' = H) := by
  refine acalls_under fun hu _ => acalls_weakE (acalls_tidy (acalls_of_vc (hn := fun d => d == 69) (od := rnOd) Tryz.func11 rfl (by kernel_rfl) ?_))
  have ck := fun H => ccheck_ok l hs regs hrl H
  have h0 := @chk0 l regs
  obtain ⟨E, hE⟩ : ∃ E, E = renE l regs := ⟨_, rfl⟩
  rw [← hE]
  unfold renE at hE
  obtain ⟨a, ha⟩ : ∃ a, a = (chkM l regs).1 := ⟨_, rfl⟩
  obtain ⟨b, hb⟩ : ∃ b, b = (chkM l regs).2 := ⟨_, rfl⟩
  rw [← hb] at h0 hE
  simp only [← ha, ← hb] at ck
  simp only [Linear.cells] at ck
  clear ha hb
  by_cases hb0 : b = 0
  · rw [if_pos hb0] at hE
    subst hb0
    obtain ⟨hok, hbg⟩ := h0 rfl
    have ho := ((ok_iff l).1 hok).1
    have hlen := ((beg_iff ho).1 hbg).len
    have hlines := ho.lines
    have e1 := fun lv k H hk => each_ok l regs lv k l.params (fun v hv => by have := (ho.params v hv).2; omega) (by have := hs.params; omega) H hk
    have e2 := fun lv k H hk => each_ok l regs lv k l.rets (fun v hv => by have := (ho.rets v hv).2; omega) (by have := hs.rets; omega) H hk
    rw [map_rgN regs fun v hv => (ho.params v hv).1] at e1
    rw [map_rgN regs fun v hv => (ho.rets v hv).1] at e2
    have e3 := fun lv k x (hx : insOk l.vars x = true) H hk => renamed_ok l regs lv k x hx hlen H hk
    have e4 := fun lv k v (hx : v < (regs.length : Int)) H hk => reg_ok l regs lv k v hx H hk
    have hc := hs.code
    obtain ⟨ps, hps⟩ : ∃ ps, ps = l.params.map (rg regs) := ⟨_, rfl⟩
    obtain ⟨rs, hrs⟩ : ∃ rs, rs = l.rets.map (rg regs) := ⟨_, rfl⟩
    rw [← hps] at e1
    rw [← hrs] at e2
    unfold renL at hE
    rw [← hps, ← hrs] at hE
    clear hps hrs
    clear hok hbg h0
    have hE := Hid.mk hE
    have hu := Hid.mk hu
    have hlen := Hid.mk hlen
    have hk3 : ∀ a b, (H ++ [a, b, ckB l regs nilS])[H.length + 2]? = some (ckB l regs nilS) := fun a b => by simp
    simp -dsimp
    refine acallsW_det (ck _) ?_
    simp -dsimp [rnOd]
    refine callDW_intro (e1 nilS (H.length + 2) _ (hk3 _ _))  ?_
    simp -dsimp
    refine callDW_intro (e2 nilS (H.length + 2) _ (hk3 _ _)) ?_
    simp -dsimp
    have hk4 : ∀ a b c, (H ++ [a, b, ckB l regs nilS, c])[H.length + 2]? = some (ckB l regs nilS) := fun a b c => by simp
    refine ⟨⟨callDW_intro (e1 nilS (H.length + 2) _ (hk4 _ _ _)) ?_, callDW_intro (e2 nilS (H.length + 2) _ (hk4 _ _ _)) ?_⟩, ?_⟩
    · simp -dsimp
    · simp -dsimp
    clear e1 e2 ck
    obtain ⟨B, hB⟩ : ∃ B, B = H ++ [.box 25 l.cells, .box 25 [I 0, nilS, nilS, I 0, nilS], ckB l regs nilS] := ⟨_, rfl⟩
    have hkB : ∀ L, (B ++ L)[H.length + 2]? = some (ckB l regs nilS) := fun L => by rw [hB]; simp
    have hzB : B[H.length + 1]? = some (.box 25 [I 0, nilS, nilS, I 0, nilS]) := by rw [hB]; simp
    have hBl : B.length = H.length + 3 := by rw [hB]; simp
    refine loop_rule (hn := fun d => d == 69) (od := rnOd) (fun (i : Nat) f M => f 4 = .bp (H.length + 1) 0 ∧ f 9 = regF (H.length + 2) ∧ f 10 = .bp B.length 0 ∧ f 41 = Line.sl l.code ∧ f 42 = I l.code.length ∧ f 43 = I i ∧ i ≤ l.code.length ∧ ∃ h, Own 67 11 (B ++ [oB l ps rs (hrow h i)]) M h ((l.code.take i).map fun x => (renLine regs x).cells)) (fun i => l.code.length - i) (by kernel_rfl) 0 (by refine ⟨by simp, by simp, by simp [hBl], by simp, by simp, by simp, by omega, none, ?_⟩; rw [hB, List.append_assoc]; exact Own.nil1 67 11 _) ?_
    replace hB := Hid.mk hB
    rintro i f M ⟨f4, f9, f10, f41, f42, f43, hi, h, ow⟩
    have bk : M[H.length + 2]? = some (ckB l regs nilS) := ow.old (by simpa using hkB _)
    have b10 : M[B.length]? = some (oB l ps rs (hrow h i)) := ow.old (by simp)
    simp -dsimp [f4, f9, f10, f41, f42, f43]
    refine condVW_introD (fun hlt => ?_) (fun hlt => ?_)
    · have hlt' : i < l.code.length := by omega
      have hx := List.getElem?_eq_getElem hlt'
      have hxm : l.code[i] ∈ l.code := List.getElem_mem hlt'
      have htk : l.code.take (i + 1) = l.code.take i ++ [l.code[i]] := List.take_succ_eq_append_getElem hlt'
      have hlo := hlines _ hxm
      obtain ⟨x, hxe⟩ : ∃ x, x = l.code[i] := ⟨_, rfl⟩
      rw [← hxe] at hx hlo htk
      clear hxe hxm hlines
      replace htk := htk
      have g41 : (l.code.map Line.cells)[i]? = some x.cells := by rw [List.getElem?_map, hx]; rfl
      obtain ⟨kind, ins, var, label⟩ := x
      have b10 : ∀ L, (M ++ L)[B.length]? = some (oB l ps rs (hrow h i)) := fun L => get_app_old b10 L
      have bk : ∀ L, (M ++ L)[H.length + 2]? = some (ckB l regs nilS) := fun L => get_app_old bk L
      clear hx
      unfold lineOk at hlo
      simp only at hlo
      by_cases k4 : kind = 4
      · subst k4
        simp only [Int.reduceEq, if_false, if_true, or_self, Bool.and_eq_true] at hlo
        have hv := isVr_iff.1 hlo.1.2
        have q := rgN_in regs hv.1
        have hlen' := hlen.out
        simp -dsimp [f9, f10, f41, f42, f43, g41]
        refine acallsW_det (e4 nilS _ var (by omega) _ (bk _)) ?_
        simp -dsimp [q]
        simp -dsimp [f9, f10, f41, f42, f43, b10]
        refine app_own (ow.app _) (by simp; omega) rfl rfl (by simp; omega) (by simp; omega) ?_
        intro h' M' ow' _
        have b11 := ow'.old (show (B ++ [oB l ps rs (hrow h i)])[B.length]? = some (oB l ps rs (hrow h i)) by simp)
        have ow2 := own_box (b' := oB l ps rs (hrow h' (i + 1))) ow'
        have e : (((l.code.take i).map fun x => (renLine regs x).cells) ++ [(Line.mk 4 ins (rg regs var) label).cells]) = (l.code.take (i + 1)).map fun x => (renLine regs x).cells := by rw [htk, List.map_append]; simp [renLine]
        have ow3 : Own 67 11 (B ++ [oB l ps rs (hrow h' (i + 1))]) (M'.set B.length (oB l ps rs (hrow h' (i + 1)))) h' ((l.code.take (i + 1)).map fun x => (renLine regs x).cells) := by rw [← e]; exact ow2
        have e2 : ∀ c : List AV, (((l.code.take i).map fun x => (renLine regs x).cells) ++ [c]).length = i + 1 := fun c => by simp; omega
        rw [e2]
        simp -dsimp [f4, f9, f10, f41, f42, f43, b11]
        exact ⟨i + 1, by omega, wrapS (by omega), by omega, h', by rw [← List.map_take]; exact ow3⟩
      have d4 : (kind == 4) = false := by simpa using k4
      by_cases k1 : kind = 1
      · subst k1
        simp only [Int.reduceEq, if_false, if_true, or_self, Bool.and_eq_true] at hlo
        have cr := e3 nilS (H.length + 2) ins hlo.1 _ (bk [.box 67 (Line.mk 1 ins var label).cells])
        obtain ⟨y, hy⟩ : ∃ y, y = renIns regs ins := ⟨_, rfl⟩
        rw [← hy] at cr
        replace hy := Hid.mk hy
        simp -dsimp [f9, f10, f41, f42, f43, g41]
        refine acallsW_det cr ?_
        simp -dsimp [f9, f10, f41, f42, f43, b10]
        refine app_own (ow.app _) (by simp; omega) rfl rfl (by simp; omega) (by simp; omega) ?_
        intro h' M' ow' _
        have b11 := ow'.old (show (B ++ [oB l ps rs (hrow h i)])[B.length]? = some (oB l ps rs (hrow h i)) by simp)
        have ow2 := own_box (b' := oB l ps rs (hrow h' (i + 1))) ow'
        have e : (((l.code.take i).map fun x => (renLine regs x).cells) ++ [(Line.mk 1 y var label).cells]) = (l.code.take (i + 1)).map fun x => (renLine regs x).cells := by rw [htk, List.map_append]; simp [renLine, hy.out]
        have ow3 : Own 67 11 (B ++ [oB l ps rs (hrow h' (i + 1))]) (M'.set B.length (oB l ps rs (hrow h' (i + 1)))) h' ((l.code.take (i + 1)).map fun x => (renLine regs x).cells) := by rw [← e]; exact ow2
        have e2 : ∀ c : List AV, (((l.code.take i).map fun x => (renLine regs x).cells) ++ [c]).length = i + 1 := fun c => by simp; omega
        rw [e2]
        simp -dsimp [f4, f9, f10, f41, f42, f43, b11]
        exact ⟨i + 1, by omega, wrapS (by omega), by omega, h', by rw [← List.map_take]; exact ow3⟩
      have d1 : (kind == 1) = false := by simpa using k1
      have er : renLine regs ⟨kind, ins, var, label⟩ = ⟨kind, ins, var, label⟩ := by unfold renLine; simp [k1, k4]
      simp -dsimp [f9, f10, f41, f42, f43, g41, d1, d4]
      simp -dsimp [f9, f10, f41, f42, f43, b10]
      refine app_own (ow.app _) (by simp; omega) rfl rfl (by simp; omega) (by simp; omega) ?_
      intro h' M' ow' _
      have b11 := ow'.old (show (B ++ [oB l ps rs (hrow h i)])[B.length]? = some (oB l ps rs (hrow h i)) by simp)
      have ow2 := own_box (b' := oB l ps rs (hrow h' (i + 1))) ow'
      have e : (((l.code.take i).map fun x => (renLine regs x).cells) ++ [(Line.mk kind ins var label).cells]) = (l.code.take (i + 1)).map fun x => (renLine regs x).cells := by rw [htk, List.map_append]; simp [er]
      have ow3 : Own 67 11 (B ++ [oB l ps rs (hrow h' (i + 1))]) (M'.set B.length (oB l ps rs (hrow h' (i + 1)))) h' ((l.code.take (i + 1)).map fun x => (renLine regs x).cells) := by rw [← e]; exact ow2
      have e2 : ∀ c : List AV, (((l.code.take i).map fun x => (renLine regs x).cells) ++ [c]).length = i + 1 := fun c => by simp; omega
      rw [e2]
      simp -dsimp [f4, f9, f10, f41, f42, f43, b11]
      exact ⟨i + 1, by omega, wrapS (by omega), by omega, h', by rw [← List.map_take]; exact ow3⟩
    · have hi' : i = l.code.length := by omega
      subst hi'
      rw [List.take_of_length_le (Nat.le_refl _)] at ow
      have bz : M[H.length + 1]? = some (.box 25 [I 0, nilS, nilS, I 0, nilS]) := ow.old (get_app_old hzB _)
      have bz2 : ∀ b, (M.set (H.length + 1) b)[H.length + 1]? = some b := fun b => by rw [List.getElem?_set_self (lt_of_get bz)]
      simp -dsimp [f4, f10, b10, bz, bz2]
      have ow2 : Own 67 11 H M h (l.code.map fun x => (renLine regs x).cells) := by
        rw [hB.out, List.append_assoc] at ow
        exact ow.less
      refine tidy_rowIn hu.out (own_setNew ow2 (by omega) (fun e => by have := ow.new _ e; simp at this; omega)) (line_frzB _ _) (by simp) (fun k => by simp [AV.frz, frzL]) (by simp [AV.under, underL]) ⟨?_, rfl⟩
      rw [hE.out]
      simp
  · rw [if_neg hb0] at hE
    have hE := Hid.mk hE
    have hbb : (b != 0) = true := by simpa using hb0
    simp -dsimp
    refine acallsW_det (ck _) ?_
    simp -dsimp [hbb]
    exact tidy_same rfl ⟨_, .tupL (.cons (.aggL (.cons (.refl _) (.cons (.nil 1) (.cons (.nil 1) (.cons (.refl _) (.cons (.nil 11) .nil)))))) (.cons (.refl _) .nil)), by rw [hE.out]; simp, rfl⟩
end Go.Proofs
namespace Go.Proofs
open Go.Mu
theorem lstep_len (lay : List Rg) (l : Linear) (stk : Int) (x : Line) (s : RSt) : (lstep lay l stk x s).1.b.length = s.b.length ∧ (lstep lay l stk x s).1.seen.length ≤ s.seen.length + 1 := by
  unfold lstep
  split
  · refine ⟨doM_b _ _ _ _ _, ?_⟩
    simp only
    split <;> simp
  · split
    · exact ⟨rfl, by simp⟩
    · split
      · exact ⟨rfl, by simp⟩
      · split <;> exact ⟨rfl, by simp⟩
theorem lrun_len (lay : List Rg) (l : Linear) (stk : Int) (fuel : Nat) : ∀ (m : Nat) (s : RSt), (lrun lay l stk fuel m s).b.length = s.b.length ∧ (lrun lay l stk fuel m s).seen.length ≤ s.seen.length + m ∧ (lrun lay l stk fuel m s).rets.length ≤ l.rets.length := by
  intro m
  induction m with
  | zero =>
    intro s
    cases hx : l.code[s.i]? with
    | none => rw [lrun_none hx]; exact ⟨rfl, by simp, by simp⟩
    | some x => rw [lrun_zero hx]; exact ⟨rfl, by simp, by simp⟩
  | succ m ih =>
    intro s
    cases hx : l.code[s.i]? with
    | none => rw [lrun_none hx]; exact ⟨rfl, by simp, by simp⟩
    | some x =>
      have h1 := lstep_len lay l stk x s
      rw [lrun_succ hx]
      split
      · have h2 := ih (lstep lay l stk x s).1
        exact ⟨by rw [h2.1, h1.1], by omega, h2.2.2⟩
      · exact ⟨h1.1, by show (lstep lay l stk x s).1.seen.length ≤ _; omega, by simp⟩
theorem runM_len (lay : List Rg) (l : Linear) (args b : List Int) (stk : Int) (fuel : Nat) : (runM lay l args b stk fuel).b.length = b.length ∧ (runM lay l args b stk fuel).seen.length ≤ fuel ∧ (runM lay l args b stk fuel).rets.length ≤ l.rets.length := by
  have := lrun_len lay l stk fuel fuel ⟨runV l args, b, 0, []⟩
  exact ⟨this.1, Nat.le_trans this.2.1 (by simp), this.2.2⟩
theorem chk_err {l : Linear} {regs : List Int} : (decide (0 ≤ (chkM l regs).1) || ((chkM l regs).2 == 16)) = true := by
  unfold chkM
  split
  · rfl
  · split
    · rfl
    · split
      · simp
      · split <;> simp
theorem chk_isok {l : Linear} {regs : List Int} (h : (chkM l regs).2 = 0) : l.ok = true := by
  cases hok : l.ok with
  | true => rfl
  | false => unfold chkM at h; rw [if_pos hok] at h; exact absurd h (by decide)
theorem ren_words {l : Linear} {regs : List Int} (hw : ∀ x ∈ l.code, 0 ≤ x.ins.word ∧ x.ins.word ≤ 18446744073709551615) : ∀ x ∈ (renL l regs).code, 0 ≤ x.ins.word ∧ x.ins.word ≤ 18446744073709551615 := by
  intro x hx
  simp only [renL, List.mem_map] at hx
  obtain ⟨y, hy, rfl⟩ := hx
  have := hw y hy
  unfold renLine
  split
  · exact this
  · split
    · simp only [ren_word]; exact this
    · exact this
theorem eqlM (k o : Nat) : binE Tryz.prog .eql 41 (.bp k o) (.v (.pointer none)) = some (.v (.bool false)) := by kernel_rfl
end Go.Proofs
namespace Go.Proofs
open Go.Mu
theorem set_same {α : Type} {l : List α} {i : Nat} {x : α} (h : l[i]? = some x) : l.set i x = l := by
  apply List.ext_getElem?
  intro j
  by_cases e : i = j
  · subst e
    rw [List.getElem?_set_self (lt_of_get h), h]
  · rw [List.getElem?_set_ne e]
theorem both_run {l L2 : Linear} {args b : List Int} {r : List Rg} {stk : Int} {fuel : Nat} (hs : l.Sm) (hok : l.ok = true) (hw : ∀ x ∈ l.code, 0 ≤ x.ins.word ∧ x.ins.word ≤ 18446744073709551615) (sm2 : L2.Sm) (ho2 : L2.ok = true) (hw2 : ∀ x ∈ L2.code, 0 ≤ x.ins.word ∧ x.ins.word ≤ 18446744073709551615) (pl2 : L2.params.length = l.params.length)
    (ms : ∀ (lay : List Rg) (args b : List Int) (stk : Int) (fuel : Nat), runM lay L2 args b stk fuel = runM lay l args b stk fuel) (hal : args.length ≤ 2^40) (hf : fuel ≤ 2000) (hm : mayL r = true) (hb : b.length = 65536) :
    ∃ (R : Ran) (E : Int), R.b.length = 65536 ∧ R.rets.length ≤ 2^40 ∧ R.seen.length ≤ 2^40 ∧ ∀ M k kb, MemAt M k kb r b →
      ACalls Tryz.prog 15 [.agg l.cells, Wo.sl args, .bp k 0, U stk, I fuel] M (fun e M' => e = .ret (.tup [.agg R.cells, I E]) ∧ M' = M.set kb (byB R.b)) ∧
      ACalls Tryz.prog 15 [.agg L2.cells, Wo.sl args, .bp k 0, U stk, I fuel] M (fun e M' => e = .ret (.tup [.agg R.cells, I E]) ∧ M' = M.set kb (byB R.b)) := by
  have hx := mayL_ok hm
  by_cases hg : args.length = l.params.length ∧ stk.tmod 16 = 0
  · have hl := runM_len r l args b stk fuel
    have := hs.rets
    refine ⟨runM r l args b stk fuel, 0, by rw [hl.1, hb], by omega, by omega, fun M k kb m => ⟨lrun_ok l hs hok hw args hg.1 stk hg.2 fuel (by omega) m hx.1 hx.2, ?_⟩⟩
    have h := lrun_ok L2 sm2 ho2 hw2 args (by rw [pl2]; exact hg.1) stk hg.2 fuel (by omega) m hx.1 hx.2
    rw [ms] at h
    exact h
  · have hg' : args.length ≠ l.params.length ∨ stk.tmod 16 ≠ 0 := by
      by_cases h1 : args.length = l.params.length
      · exact .inr fun h2 => hg ⟨h1, h2⟩
      · exact .inl h1
    refine ⟨⟨[], [], 0, 0, b⟩, 2, hb, by simp, by simp, fun M k kb m => ?_⟩
    have e := set_same m.bytes
    simp only [e]
    exact ⟨lrunBad_ok l hs args hal stk hg' fuel (by omega) m, lrunBad_ok L2 sm2 args hal stk (by rw [pl2]; exact hg') fuel (by omega) m⟩
theorem means_law (l : Linear) (regs args : List Int) (r : List Rg) (w : List (List Int)) (stk F : Int) (hs : l.Sm) (hrl : regs.length ≤ 2^36) (hal : args.length ≤ 2^40) (hrr : r.length ≤ 2^40) (hw : ∀ x ∈ l.code, 0 ≤ x.ins.word ∧ x.ins.word ≤ 18446744073709551615) (H : List Blk) :
    ACalls Tryz.prog 3 [.agg l.cells, Int.sl regs, Wo.sl args, Rg.sl r, Us.sl w, U stk, I F] H (fun e H' => e = .ret (Bo true) ∧ H' = H) := by
  refine acalls_tidy (acalls_of_awp Tryz.func3 rfl (by kernel_rfl) ?_)
  have hpl := hs.params
  have hrel := hs.rets
  have hcl := hs.code
  have kn := known18_ok
  have mu := fun H => much18_ok l regs hs (by omega) H
  have lo := fun H => long_ok r hrr H
  have my := fun H => rmmay_ok r hrr H
  have fi := fun H => rmfits_ok r w hrr H
  have ck := fun H => ccheck_ok l hs regs hrl H
  have rn := fun H => rename_ok l hs regs hrl H
  simp only [Linear.cells] at mu ck rn
  obtain ⟨c0, hc0⟩ : ∃ c, c = much18 l regs := ⟨_, rfl⟩
  obtain ⟨c1, hc1⟩ : ∃ c, c = mayL r := ⟨_, rfl⟩
  obtain ⟨c2, hc2⟩ : ∃ c, c = fitsL r w := ⟨_, rfl⟩
  obtain ⟨n, hn⟩ : ∃ n, n = (chkM l regs).1 := ⟨_, rfl⟩
  obtain ⟨e, he⟩ : ∃ e, e = (chkM l regs).2 := ⟨_, rfl⟩
  rw [← hc0] at mu
  rw [← hc1] at my
  rw [← hc2] at fi
  rw [← hn, ← he] at ck
  have hen : (decide (0 ≤ n) || (e == 16)) = true := by rw [hn, he]; exact chk_err
  obtain ⟨d1, hd1⟩ : ∃ c, c = decide ((60 : Int) < (args.length : Int)) := ⟨_, rfl⟩
  obtain ⟨d2, hd2⟩ : ∃ c, c = decide (F < 0) := ⟨_, rfl⟩
  obtain ⟨d3, hd3⟩ : ∃ c, c = decide (2000 < F) := ⟨_, rfl⟩
  have fin : ∀ L, Tidy H (fun e H' => e = .ret (Bo true) ∧ H' = H) (.ret (Bo true)) (H ++ L) := fun L => tidy_same rfl ⟨rfl, rfl⟩
  have hd1' : decide (60 < args.length) = d1 := by rw [hd1]; exact decide_eq_decide.2 (by omega)
  refine awp_cut (fun _ => false) (fun _ => none) (fun f M => M = H ++ [liB l] ∧ f 1 = Int.sl regs ∧ f 2 = Wo.sl args ∧ f 3 = Rg.sl r ∧ f 4 = Us.sl w ∧ f 5 = U stk ∧ f 6 = I F ∧ f 7 = .bp H.length 0) (by kernel_rfl) ?_ ?_
  · simp -dsimp
  rintro f M ⟨rfl, f1, f2, f3, f4, f5, f6, f7⟩
  refine awp_cut (fun _ => false) (fun _ => none) (fun f M => M = H ++ [liB l] ∧ f 1 = Int.sl regs ∧ f 2 = Wo.sl args ∧ f 3 = Rg.sl r ∧ f 4 = Us.sl w ∧ f 5 = U stk ∧ f 6 = I F ∧ f 7 = .bp H.length 0) (by kernel_rfl) ?_ ?_
  · simp -dsimp
    refine acallsW_det (kn _) ?_
    simp -dsimp [f1, f2, f3, f4, f5, f6, f7]
  clear f1 f2 f3 f4 f5 f6 f7 f
  rintro f M ⟨rfl, f1, f2, f3, f4, f5, f6, f7⟩
  refine awp_cut (fun _ => false) (fun _ => none) (fun f M => M = H ++ [liB l] ∧ f 1 = Int.sl regs ∧ f 2 = Wo.sl args ∧ f 3 = Rg.sl r ∧ f 4 = Us.sl w ∧ f 5 = U stk ∧ f 6 = I F ∧ f 7 = .bp H.length 0 ∧ c1 = true ∧ c2 = true ∧ d2 = false ∧ d3 = false) (by kernel_rfl) ?_ ?_
  · simp -dsimp [f1, f2, f3, f4, f5, f6, f7]
    refine acallsW_det (mu _) ?_
    clear hc0 hc1 hc2
    cases c0
    · simp -dsimp [f1, f2, f3, f4, f5, f6, f7, ← hd1]
      cases d1
      · simp -dsimp [f1, f2, f3, f4, f5, f6, f7]
        refine acallsW_of (lo _) ?_
        rintro e _ ⟨⟨b, rfl⟩, rfl⟩
        cases b
        · simp -dsimp [f1, f2, f3, f4, f5, f6, f7]
          refine acallsW_det (my _) ?_
          cases c1
          · simp -dsimp [f1, f2, f3, f4, f5, f6, f7]
            exact fin _
          simp -dsimp [f1, f2, f3, f4, f5, f6, f7]
          refine acallsW_det (fi _) ?_
          cases c2
          · simp -dsimp [f1, f2, f3, f4, f5, f6, f7]
            exact fin _
          simp -dsimp [f1, f2, f3, f4, f5, f6, f7, ← hd2]
          cases d2
          · simp -dsimp [f1, f2, f3, f4, f5, f6, f7, ← hd3]
            cases d3
            · simp -dsimp [f1, f2, f3, f4, f5, f6, f7]
            · simp -dsimp [f1, f2, f3, f4, f5, f6, f7]
              exact fin _
          · simp -dsimp [f1, f2, f3, f4, f5, f6, f7]
            exact fin _
        · simp -dsimp [f1, f2, f3, f4, f5, f6, f7]
          exact fin _
      · simp -dsimp [f1, f2, f3, f4, f5, f6, f7]
        exact fin _
    · simp -dsimp [f1, f2, f3, f4, f5, f6, f7]
      exact fin _
  clear f1 f2 f3 f4 f5 f6 f7 f
  rintro f M ⟨rfl, f1, f2, f3, f4, f5, f6, f7, rfl, rfl, rfl, rfl⟩
  have hF : 0 ≤ F ∧ F ≤ 2000 := by
    have a := of_decide_eq_false hd2.symm
    have b := of_decide_eq_false hd3.symm
    omega
  obtain ⟨fuel, rfl⟩ : ∃ k : Nat, F = k := ⟨F.toNat, by omega⟩
  clear hd1 hd1' hd2 hd3 mu lo my fi hc0
  refine awp_cut (fun _ => false) (fun _ => none) (fun f M => M = H ++ [liB l] ∧ f 1 = Int.sl regs ∧ f 2 = Wo.sl args ∧ f 3 = Rg.sl r ∧ f 4 = Us.sl w ∧ f 5 = U stk ∧ f 6 = I fuel ∧ f 7 = .bp H.length 0 ∧ f 15 = I n ∧ f 16 = I e) (by kernel_rfl) ?_ ?_
  · simp -dsimp [f1, f2, f3, f4, f5, f6, f7]
    refine acallsW_det (ck _) ?_
    simp -dsimp [f1, f2, f3, f4, f5, f6, f7]
  clear f1 f2 f3 f4 f5 f6 f7 f
  rintro f M ⟨rfl, f1, f2, f3, f4, f5, f6, f7, f15, f16⟩
  by_cases h0 : e = 0
  rotate_left
  · have er : renE l regs = .ret (.tup [.agg (Linear.mk 0 [] [] 0 []).cells, I e]) := by rw [he]; unfold renE; rw [if_neg (by rw [← he]; exact h0)]
    simp only [er, Linear.cells] at rn
    refine awp_cut (fun _ => false) (fun _ => none) (fun f M => M = H ++ [liB l, liB (Linear.mk 0 [] [] 0 [])] ∧ f 15 = I n ∧ f 16 = I e ∧ f 18 = I e) (by kernel_rfl) ?_ ?_
    · simp -dsimp [f1, f2, f3, f4, f5, f6, f7, f15, f16]
      refine acallsW_det (rn _) ?_
      simp -dsimp [f1, f2, f3, f4, f5, f6, f7, f15, f16]
    clear f1 f2 f3 f4 f5 f6 f7 f15 f16 f
    rintro f M ⟨rfl, f15, f16, f18⟩
    have de : (e != 0) = true := by simp [h0]
    refine awp_cut (fun _ => false) (fun _ => none) (fun f M => False) (by kernel_rfl) ?_ ?_
    · have nu := fun H => num18_ok e H
      obtain ⟨c3, hc3⟩ : ∃ c, c = decide (0 ≤ n) := ⟨_, rfl⟩
      obtain ⟨c4, hc4⟩ : ∃ c, c = (e == 16) := ⟨_, rfl⟩
      rw [← hc3, ← hc4] at hen
      simp -dsimp [f15, f16, f18]
      refine acallsW_det (nu _) ?_
      simp -dsimp [f15, f16, f18, de]
      refine acallsW_det (nu _) ?_
      simp -dsimp [f15, f16, f18, de]
      refine acallsW_det (nu _) ?_
      cases c3
      · have h4 : c4 = true := by simpa using hen
        simp -dsimp [f15, f16, f18, de, ← hc3]
        refine acallsW_det (nu _) ?_
        simp -dsimp [f15, f16, f18, de, ← hc4, h4]
        exact fin _
      · simp -dsimp [f15, f16, f18, de, ← hc3]
        exact fin _
    · rintro f M h
      exact h.elim
  rw [h0] at he f16 ck
  clear h0 hen
  have hok := chk_isok he.symm
  have co := chk_ok hok he.symm
  have ho2 := ren_ok hok co
  obtain ⟨L2, hL2⟩ : ∃ L2, L2 = renL l regs := ⟨_, rfl⟩
  have er : renE l regs = .ret (.tup [.agg L2.cells, I 0]) := by unfold renE; rw [if_pos he.symm, hL2]
  have hw2 := ren_words (regs := regs) hw
  have sm2 : L2.Sm := by rw [hL2]; exact ⟨by simp [renL]; omega, by simp [renL]; omega, by simp [renL]; omega⟩
  have pl2 : L2.params.length = l.params.length := by rw [hL2]; simp [renL]
  have v2 : L2.vars = 11 := by rw [hL2]; rfl
  have ms := means_same hok co
  rw [← hL2] at ho2 hw2 ms
  have l2 := fun H => linear_ok L2 (by have := sm2.params; omega) (by have := sm2.rets; omega) (by have := sm2.code; omega) H
  rw [ho2] at l2
  simp only [er, Linear.cells] at rn l2
  refine awp_cut (fun _ => false) (fun _ => none) (fun f M => M = H ++ [liB l, liB L2] ∧ f 2 = Wo.sl args ∧ f 3 = Rg.sl r ∧ f 4 = Us.sl w ∧ f 5 = U stk ∧ f 6 = I fuel ∧ f 7 = .bp H.length 0 ∧ f 16 = I 0 ∧ f 17 = .bp (H.length + 1) 0 ∧ f 18 = I 0) (by kernel_rfl) ?_ ?_
  · simp -dsimp [f1, f2, f3, f4, f5, f6, f7, f15, f16]
    refine acallsW_det (rn _) ?_
    simp -dsimp [f1, f2, f3, f4, f5, f6, f7, f15, f16]
  clear f1 f2 f3 f4 f5 f6 f7 f15 f16 f
  rintro f M ⟨rfl, f2, f3, f4, f5, f6, f7, f16, f17, f18⟩
  have nu := fun H => num18_ok 0 H
  refine awp_cut (fun _ => false) (fun _ => none) (fun f M => M = H ++ [liB l, liB L2] ∧ f 2 = Wo.sl args ∧ f 3 = Rg.sl r ∧ f 4 = Us.sl w ∧ f 5 = U stk ∧ f 6 = I fuel ∧ f 7 = .bp H.length 0 ∧ f 17 = .bp (H.length + 1) 0 ∧ f 18 = I 0) (by kernel_rfl) ?_ ?_
  · simp -dsimp [f2, f3, f4, f5, f6, f7, f16, f17, f18]
    refine acallsW_det (nu _) ?_
    simp -dsimp [f2, f3, f4, f5, f6, f7, f16, f17, f18]
  clear f2 f3 f4 f5 f6 f7 f16 f17 f18 f
  rintro f M ⟨rfl, f2, f3, f4, f5, f6, f7, f17, f18⟩
  have dv : (L2.vars != 11) = false := by rw [v2]; rfl
  refine awp_cut (fun _ => false) (fun _ => none) (fun f M => M = H ++ [liB l, liB L2] ∧ f 2 = Wo.sl args ∧ f 3 = Rg.sl r ∧ f 4 = Us.sl w ∧ f 5 = U stk ∧ f 6 = I fuel ∧ f 7 = .bp H.length 0 ∧ f 17 = .bp (H.length + 1) 0) (by kernel_rfl) ?_ ?_
  · simp -dsimp [f2, f3, f4, f5, f6, f7, f17, f18]
    refine acallsW_det (nu _) ?_
    simp -dsimp [f2, f3, f4, f5, f6, f7, f17, f18]
    refine acallsW_det (l2 _) ?_
    simp -dsimp [f2, f3, f4, f5, f6, f7, f17, f18, dv]
  clear f2 f3 f4 f5 f6 f7 f17 f18 f
  rintro f M ⟨rfl, f2, f3, f4, f5, f6, f7, f17⟩
  obtain ⟨b, hb⟩ : ∃ b, b = fillB r w := ⟨_, rfl⟩
  have hbl : b.length = 65536 := by rw [hb]; exact fillB_len r w
  have mo := fun H => mof_ok r w hc1.symm hc2.symm H
  rw [← hb] at mo
  have mo1 := mo (H ++ [liB l, liB L2])
  have mo2 := mo (H ++ [liB l, liB L2, byB b, meB r (H.length + 2)])
  simp only [GM, List.length_append, List.length_cons, List.length_nil, List.append_assoc, List.cons_append, List.nil_append, Nat.zero_add, Nat.reduceAdd, Nat.add_assoc] at mo1 mo2
  obtain ⟨R, E, hRb, hRr, hRs, hrun⟩ := both_run (b := b) (r := r) (stk := stk) (fuel := fuel) (args := args) hs hok hw sm2 ho2 hw2 pl2 ms hal (by omega) hc1.symm hbl
  clear hb hc1 hc2 mo kn ck rn l2 hn he
  refine awp_cut (fun _ => false) (fun _ => none) (fun f M => M = H ++ [liB l, liB L2, byB b, meB r (H.length + 2)] ∧ f 2 = Wo.sl args ∧ f 5 = U stk ∧ f 6 = I fuel ∧ f 7 = .bp H.length 0 ∧ f 17 = .bp (H.length + 1) 0 ∧ f 3 = Rg.sl r ∧ f 4 = Us.sl w ∧ f 19 = .bp (H.length + 3) 0 ∧ f 20 = I 0) (by kernel_rfl) ?_ ?_
  · simp -dsimp [f2, f3, f4, f5, f6, f7, f17]
    refine acallsW_of mo1 ?_
    rintro _ _ ⟨rfl, rfl⟩
    simp -dsimp [f2, f3, f4, f5, f6, f7, f17]
  clear f2 f3 f4 f5 f6 f7 f17 f mo1
  rintro f M ⟨rfl, f2, f5, f6, f7, f17, f3, f4, f19, f20⟩
  refine awp_cut (fun _ => false) (fun _ => none) (fun f M => M = H ++ [liB l, liB L2, byB b, meB r (H.length + 2), byB b, meB r (H.length + 4)] ∧ f 2 = Wo.sl args ∧ f 5 = U stk ∧ f 6 = I fuel ∧ f 7 = .bp H.length 0 ∧ f 17 = .bp (H.length + 1) 0 ∧ f 19 = .bp (H.length + 3) 0 ∧ f 20 = I 0 ∧ f 21 = .bp (H.length + 5) 0 ∧ f 22 = I 0) (by kernel_rfl) ?_ ?_
  · simp -dsimp [f2, f3, f4, f5, f6, f7, f17, f19, f20]
    refine acallsW_of mo2 ?_
    rintro _ _ ⟨rfl, rfl⟩
    simp -dsimp [f2, f3, f4, f5, f6, f7, f17, f19, f20]
  clear f2 f3 f4 f5 f6 f7 f17 f19 f20 f mo2
  rintro f M ⟨rfl, f2, f5, f6, f7, f17, f19, f20, f21, f22⟩
  refine awp_cut (fun _ => false) (fun _ => none) (fun f M => M = H ++ [liB l, liB L2, byB b, meB r (H.length + 2), byB b, meB r (H.length + 4)] ∧ f 2 = Wo.sl args ∧ f 5 = U stk ∧ f 6 = I fuel ∧ f 7 = .bp H.length 0 ∧ f 17 = .bp (H.length + 1) 0 ∧ f 19 = .bp (H.length + 3) 0 ∧ f 21 = .bp (H.length + 5) 0) (by kernel_rfl) ?_ ?_
  · simp -dsimp [f2, f5, f6, f7, f17, f19, f20, f21, f22]
    refine acallsW_det (nu _) ?_
    simp -dsimp [f2, f5, f6, f7, f17, f19, f20, f21, f22]
    refine acallsW_det (nu _) ?_
    simp -dsimp [f2, f5, f6, f7, f17, f19, f20, f21, f22, eqlM]
  clear f2 f5 f6 f7 f17 f19 f20 f21 f22 f
  rintro f M ⟨rfl, f2, f5, f6, f7, f17, f19, f21⟩
  have r1 := (hrun (H ++ [liB l, liB L2, byB b, meB r (H.length + 2), byB b, meB r (H.length + 4)]) (H.length + 3) (H.length + 2) ⟨by simp, by simp, hbl⟩).1
  have r2 := (hrun (H ++ [liB l, liB L2, byB R.b, meB r (H.length + 2), byB b, meB r (H.length + 4), .box 46 R.cells]) (H.length + 5) (H.length + 4) ⟨by simp, by simp, hbl⟩).2
  have ss := fun M => sruns_ok R hRr hRs M
  have sm := msame_ok (M := H ++ [liB l, liB L2, byB R.b, meB r (H.length + 2), byB R.b, meB r (H.length + 4), .box 46 R.cells, .box 46 R.cells]) (k := H.length + 3) (kb := H.length + 2) (k2 := H.length + 5) (kb2 := H.length + 4) (lay := r) (b := R.b) ⟨by simp, by simp, hRb⟩ ⟨by simp, by simp, hRb⟩ hrr
  have e1 : (H ++ [liB l, liB L2, byB b, meB r (H.length + 2), byB b, meB r (H.length + 4)]).set (H.length + 2) (byB R.b) = H ++ [liB l, liB L2, byB R.b, meB r (H.length + 2), byB b, meB r (H.length + 4)] := by simp
  have e2 : (H ++ [liB l, liB L2, byB R.b, meB r (H.length + 2), byB b, meB r (H.length + 4), .box 46 R.cells]).set (H.length + 4) (byB R.b) = H ++ [liB l, liB L2, byB R.b, meB r (H.length + 2), byB R.b, meB r (H.length + 4), .box 46 R.cells] := by simp
  rw [e1] at r1
  rw [e2] at r2
  simp only [Linear.cells, Ran.cells] at r1 r2 ss sm
  clear e1 e2 hrun
  refine awp_cut (fun _ => false) (fun _ => none) (fun f M => M = H ++ [liB l, liB L2, byB R.b, meB r (H.length + 2), byB b, meB r (H.length + 4), .box 46 R.cells] ∧ f 2 = Wo.sl args ∧ f 5 = U stk ∧ f 6 = I fuel ∧ f 7 = .bp H.length 0 ∧ f 17 = .bp (H.length + 1) 0 ∧ f 19 = .bp (H.length + 3) 0 ∧ f 21 = .bp (H.length + 5) 0 ∧ f 23 = .bp (H.length + 6) 0 ∧ f 24 = I E) (by kernel_rfl) ?_ ?_
  · simp -dsimp [f2, f5, f6, f7, f17, f19, f21]
    refine acallsW_of r1 ?_
    rintro _ _ ⟨rfl, rfl⟩
    simp -dsimp [f2, f5, f6, f7, f17, f19, f21]
  clear f2 f5 f6 f7 f17 f19 f21 f
  rintro f M ⟨rfl, f2, f5, f6, f7, f17, f19, f21, f23, f24⟩
  refine awp_cut (fun _ => false) (fun _ => none) (fun f M => M = H ++ [liB l, liB L2, byB R.b, meB r (H.length + 2), byB R.b, meB r (H.length + 4), .box 46 R.cells, .box 46 R.cells] ∧ f 19 = .bp (H.length + 3) 0 ∧ f 21 = .bp (H.length + 5) 0 ∧ f 23 = .bp (H.length + 6) 0 ∧ f 24 = I E ∧ f 25 = .bp (H.length + 7) 0 ∧ f 26 = I E) (by kernel_rfl) ?_ ?_
  · simp -dsimp [f2, f5, f6, f7, f17, f19, f21, f23, f24]
    refine acallsW_of r2 ?_
    rintro _ _ ⟨rfl, rfl⟩
    simp -dsimp [f2, f5, f6, f7, f17, f19, f21, f23, f24]
  clear f2 f5 f6 f7 f17 f19 f21 f23 f24 f
  rintro f M ⟨rfl, f19, f21, f23, f24, f25, f26⟩
  refine awp_all (fun _ => false) (fun _ => none) (by kernel_rfl) ?_
  have nE := fun H => num18_ok E H
  simp -dsimp [f19, f21, f23, f24, f25, f26]
  refine acallsW_det (nE _) ?_
  simp -dsimp [f19, f21, f23, f24, f25, f26]
  refine acallsW_det (nE _) ?_
  simp -dsimp [f19, f21, f23, f24, f25, f26]
  refine acallsW_det (ss _) ?_
  simp -dsimp [f19, f21, f23, f24, f25, f26]
  refine acallsW_det sm ?_
  simp -dsimp [f19, f21, f23, f24, f25, f26]
  exact fin _
end Go.Proofs
