/- The same programs, by the program. -/
import Derived.Test.YtpibcbilkpoomaaGreatFwXtoLR
import Derived.Test.YtpibcbilkpoomaaGreatU12toFO16
import Derived.Test.YtpibcbilkpoomaaGreatFwRgtoFO6
set_option linter.unusedVariables false
set_option linter.unusedSimpArgs false
set_option maxHeartbeats 4000000
set_option maxRecDepth 100000
namespace Go.Proofs
open Go.Mu
end Go.Proofs
namespace Go.Proofs
open Go.Mu
def headB (x y : Sm) : Bool := decide (x.kind = y.kind) && decide (x.name = y.name) && decide (x.names = y.names) && decide (x.low = y.low) && decide (x.high = y.high)
structure Fc.OkS (f : Fc) : Prop where
  params : f.params.length ≤ 2^40
  vars : f.vars.length ≤ 2^40
  rets : f.rets.length ≤ 2^40
  body : smsCount f.body ≤ 2^40
end Go.Proofs
namespace Go.Proofs
open Go.Mu
structure Pg.OkP (p : Pg) : Prop where
  ok2 : p.Ok2
  okc : p.OkC
def askF (p : Pg) : Int := if mayE p = 0 then (if (formT p).calls = true ∨ (formT p).fors = true then 9 else 0) else mayE p
theorem fask_ok (p : Pg) (hp : p.OkP) (H : List Blk) : ACalls Tryz.prog 37 [.agg p.cells] H (fun e H' => e = .ret (I (askF p)) ∧ H' = H) := by
  have cm := fun H => may_ok p hp.ok2 H
  have cf := fun H => form_ok p hp.ok2 hp.ok2.body36 (fun f hf => hp.okc.vars f hf) hp.okc.funcs hp.okc.regions H
  refine acalls_tidy (acalls_of_vc (hn := fun _ => false) (od := fun _ => none) Tryz.func37 rfl (by kernel_rfl) ?_)
  obtain ⟨E, hE⟩ : ∃ E, E = askF p := ⟨_, rfl⟩
  rw [← hE]
  unfold askF at hE
  have fin : ∀ c L, c = E → Tidy H (fun x H' => x = AE.ret (I E) ∧ H' = H) (.ret (I c)) (H ++ L) := fun c L h => by rw [h]; exact tidy_same rfl ⟨rfl, rfl⟩
  simp only [Pg.cells] at cm cf
  simp -dsimp [Pg.cells]
  refine acallsW_det (cm _) ?_
  by_cases hm : mayE p = 0
  · have h2 : formE p = formT p := by rw [formE, if_pos hm]
    rw [h2] at cf
    rw [if_pos hm] at hE
    obtain ⟨ca, fo, ar, st, hT⟩ : ∃ a b c d, (⟨a, b, c, d⟩ : Fo) = formT p := ⟨_, _, _, _, rfl⟩
    rw [← hT] at cf hE
    simp only [Fo.cells] at cf
    simp only [] at hE
    replace hE := Hid.mk hE
    simp -dsimp [hm]
    refine acallsW_det (cf _) ?_
    cases ca
    · cases fo
      · simp -dsimp
        exact fin _ _ (by rw [hE.out]; rfl)
      · simp -dsimp
        exact fin _ _ (by rw [hE.out]; rfl)
    · simp -dsimp
      exact fin _ _ (by rw [hE.out]; rfl)
  · rw [if_neg hm] at hE
    replace hE := Hid.mk hE
    have hb : (mayE p != 0) = true := by simpa using hm
    simp -dsimp [hb]
    exact fin _ _ hE.out.symm
structure AskP (p : Pg) (F : Fc) : Prop where
  eq : p = onePg p.regions F
  okf : F.OkF
  kinds : ∃ K, smsFOk K F.body = true ∧ ∀ n ∈ K, n.size ≤ maxLen
theorem ask_has {p : Pg} (hp : p.OkP) (h : askF p = 0) : ∃ F, AskP p F := by
  unfold askF at h
  by_cases hm : mayE p = 0
  · rw [if_pos hm] at h
    by_cases hc : (formT p).calls = true ∨ (formT p).fors = true
    · rw [if_pos hc] at h; cases h
    · simp only [not_or, Bool.not_eq_true] at hc
      obtain ⟨F, hF⟩ := nocalls_one hm hc.1
      have hmem : F ∈ p.funcs := by rw [hF]; exact List.mem_singleton.2 rfl
      have hk := may_fok hm hF hc.1 hc.2
      have hnm : ∀ n ∈ (F.params ++ F.vars).map Vr.name, n.size ≤ maxLen := fun n hn => by
        obtain ⟨v, hv, rfl⟩ := List.mem_map.1 hn
        have := (hp.ok2.nok.funcs F hmem).2.1 v hv
        unfold maxLen; omega
      refine ⟨F, by cases p; simp only at hF; rw [hF]; rfl, ⟨hp.okc.vars F hmem, hp.okc.body F hmem, fun n hn => hnm n (fok_sets _ _ _ (Nat.le_refl _) hk n hn), fun v hv => hnm _ (List.mem_map_of_mem (List.mem_append_right _ hv))⟩, _, hk, hnm⟩
  · rw [if_neg hm] at h; exact absurd h hm
def Pg.nil : Pg := ⟨[], []⟩
def foldE (p : Pg) : Pg × List Tm × Int := if askF p = 0 then (match p.funcs with | [F] => (onePg p.regions F.fold1, F.terms1, 0) | _ => (Pg.nil, [], 0)) else (Pg.nil, [], askF p)
theorem foldE_one {p : Pg} {F : Fc} (h : AskP p F) (h0 : askF p = 0) : foldE p = (onePg p.regions F.fold1, F.terms1, 0) := by
  unfold foldE
  rw [if_pos h0]
  have : p.funcs = [F] := by rw [h.eq]; rfl
  rw [this]
theorem fprog_ok (p : Pg) (hp : p.OkP) (H : List Blk) : ACalls Tryz.prog 19 [.agg p.cells] H (fun e H' => e = .ret (.tup [.agg (foldE p).1.cells, Tm.sl (foldE p).2.1, I (foldE p).2.2]) ∧ H' = H) := by
  have ca := fun H => fask_ok p hp H
  refine acalls_tidy (acalls_weakE (acalls_of_vc (hn := fun _ => false) (od := fun _ => none) Tryz.func19 rfl (by kernel_rfl) ?_))
  by_cases h0 : askF p = 0
  · obtain ⟨F, hF⟩ := ask_has hp h0
    have co := fun H => once_ok p.regions F (by rw [← hF.eq]; exact hp.okc) hF.okf H
    rw [foldE_one hF h0]
    rw [← hF.eq] at co
    obtain ⟨Q, hQ⟩ : ∃ Q, Q = onePg p.regions F.fold1 := ⟨_, rfl⟩
    obtain ⟨tm, htm⟩ : ∃ tm, tm = F.terms1 := ⟨_, rfl⟩
    rw [← hQ, ← htm] at co ⊢
    simp only [Pg.cells, h0] at ca co ⊢
    simp -dsimp
    refine acallsW_det (ca _) ?_
    simp -dsimp
    refine acallsW_det (co _) ?_
    simp -dsimp
    exact tidy_weak (.refl _) (tidy_same rfl ⟨rfl, rfl⟩)
  · have hE : foldE p = (Pg.nil, [], askF p) := by unfold foldE; rw [if_neg h0]
    rw [hE]
    have hb : (askF p != 0) = true := by simpa using h0
    simp only [Pg.cells] at ca ⊢
    simp -dsimp
    refine acallsW_det (ca _) ?_
    simp -dsimp [hb]
    refine tidy_weak (r' := .tup [.agg [Rg.sl [], Fc.sl []], Tm.sl [], I (askF p)]) (.tupL (.cons (.aggL (.cons (.nil 4) (.cons (.nil 5) .nil))) (.cons (.nil 4) (.cons (.refl _) .nil)))) ?_
    exact tidy_same rfl ⟨rfl, rfl⟩
end Go.Proofs
namespace Go.Proofs
open Go.Mu
abbrev lF : ByteArray := ⟨#[102]⟩
abbrev lP : ByteArray := ⟨#[112]⟩
abbrev lQ : ByteArray := ⟨#[113]⟩
abbrev lS : ByteArray := ⟨#[115]⟩
abbrev lX : ByteArray := ⟨#[120]⟩
abbrev lY : ByteArray := ⟨#[121]⟩
def eZ : Ex := .mk 0 0 ByteArray.empty []
def vE (nm : ByteArray) : Ex := .mk 2 0 nm []
def cE (n : Int) : Ex := .mk 1 n ByteArray.empty []
def opE (o : Int) (l : List Ex) : Ex := .mk o 0 ByteArray.empty l
def setS (n : ByteArray) (e : Ex) : Sm := .mk 1 n [] e eZ [] 0 0 [] []
def ifS (e : Ex) (a b : List Sm) : Sm := .mk 3 ByteArray.empty [] e eZ [] 0 0 a b
def whileS (e : Ex) (a : List Sm) : Sm := .mk 4 ByteArray.empty [] e eZ [] 0 0 a []
def oneF (l : List Sm) : Fc := ⟨lF, [⟨lP, 1, 0, false⟩], [⟨lX, 1, 0, false⟩, ⟨lY, 1, 0, false⟩], [], l⟩
def oneU (l : List Sm) : Pg := onePg [] (oneF l)
theorem num12_ok (n : Int) (H : List Blk) : ACalls Tryz.prog 13 [I n] H (fun e H' => e = .ret (I n) ∧ H' = H) := by
  refine acalls_tidy (acalls_of_vc (hn := fun _ => false) (od := fun _ => none) Tryz.func13 rfl (by kernel_rfl) ?_)
  simp -dsimp
  exact tidy_now rfl ⟨rfl, rfl⟩
theorem v12_ok (nm : ByteArray) (H : List Blk) : ACalls Tryz.prog 33 [St nm] H (fun e H' => e = .ret (.agg (vE nm).cells) ∧ H' = H) := by
  refine acalls_tidy (acalls_weakE (acalls_of_vc (hn := fun _ => false) (od := fun _ => none) Tryz.func33 rfl (by kernel_rfl) ?_))
  simp -dsimp
  refine tidy_weak (r' := .agg (vE nm).cells) ?_ (tidy_same rfl ⟨by simp, rfl⟩)
  rw [Ex.cells_eq]
  exact .aggL (.cons (.refl _) (.cons (.refl _) (.cons (.refl _) (.cons (.nil _) .nil))))
theorem c12_ok (n : Int) (H : List Blk) : ACalls Tryz.prog 31 [U n] H (fun e H' => e = .ret (.agg (cE n).cells) ∧ H' = H) := by
  refine acalls_tidy (acalls_weakE (acalls_of_vc (hn := fun _ => false) (od := fun _ => none) Tryz.func31 rfl (by kernel_rfl) ?_))
  simp -dsimp
  refine tidy_weak (r' := .agg (cE n).cells) ?_ (tidy_same rfl ⟨by simp, rfl⟩)
  rw [Ex.cells_eq]
  exact .aggL (.cons (.refl _) (.cons (.refl _) (.cons (.refl _) (.cons (.nil _) .nil))))
theorem op12_ok (o : Int) (l : List Ex) (H : List Blk) : ACalls Tryz.prog 32 [I o, Ex.sl l] H (fun e H' => e = .ret (.agg (opE o l).cells) ∧ H' = H) := by
  refine acalls_tidy (acalls_of_vc (hn := fun _ => false) (od := fun _ => none) Tryz.func32 rfl (by kernel_rfl) ?_)
  simp -dsimp
  exact tidy_same rfl ⟨rfl, rfl⟩
theorem set12_ok (n : ByteArray) (e : Ex) (H : List Blk) : ACalls Tryz.prog 30 [St n, .agg e.cells] H (fun r H' => r = .ret (.agg (setS n e).cells) ∧ H' = H) := by
  refine acalls_tidy (acalls_weakE (acalls_of_vc (hn := fun _ => false) (od := fun _ => none) Tryz.func30 rfl (by kernel_rfl) ?_))
  simp -dsimp [Ex.cells_eq]
  refine tidy_weak (r' := .agg (setS n e).cells) ?_ (tidy_same rfl ⟨by simp, rfl⟩)
  rw [Sm.cells_eq]
  exact .aggL (.cons (.refl _) (.cons (.refl _) (.cons (.nil _) (.cons (.refl _) (.cons (.refl _) (.cons (.refl _) (.cons (.refl _) (.cons (.refl _) (.cons (.refl _) (.cons (.refl _) (.cons (.nil _) (.cons (.nil _) (.cons (.refl _) (.cons (.refl _) (.cons (.nil _) (.cons (.nil _) .nil))))))))))))))))
theorem one12_ok (l : List Sm) (H : List Blk) : ACalls Tryz.prog 29 [Sm.sl l] H (fun r H' => r = .ret (.agg (oneU l).cells) ∧ H' = H) := by
  refine acalls_tidy (acalls_weakE (acalls_of_vc (hn := fun _ => false) (od := fun _ => none) Tryz.func29 rfl (by kernel_rfl) ?_))
  simp -dsimp
  refine tidy_weak (r' := .agg (oneU l).cells) ?_ (tidy_same rfl ⟨by simp, rfl⟩)
  refine .aggL (.cons (.nil _) (.cons (.vsR (.cons (.cons (.refl _) (.cons (.refl _) (.cons (.refl _) (.cons (.nil _) (.cons (.refl _) .nil))))) .nil)) .nil))
theorem oneU_okP (l : List Sm) (h : smsCount l ≤ 1000) : (oneU l).OkP := by
  have one : ∀ f ∈ (oneU l).funcs, f = oneF l := fun f hf => by simpa [oneU, onePg] using hf
  refine ⟨⟨⟨by simp [oneU, onePg], by simp [oneU, onePg], fun f hf => ?_, fun f hf => ?_, fun f hf => ?_, fun f hf => ?_⟩, ⟨by simp [oneU, onePg], fun f hf => ⟨?_, ?_, ?_⟩⟩, fun f hf => ?_⟩, ⟨by simp [oneU, onePg], by simp [oneU, onePg], fun f hf => ?_, fun f hf => ?_, fun f hf => ?_, fun f hf => ?_⟩⟩ <;> obtain rfl := one f hf
  · show smsCount l ≤ _; omega
  · simp [oneF]
  · simp [oneF]
  · simp [oneF]
  · show ByteArray.size lF ≤ _; decide
  · intro v hv
    simp [oneF] at hv
    rcases hv with rfl | rfl | rfl
    · show ByteArray.size lP ≤ _; decide
    · show ByteArray.size lX ≤ _; decide
    · show ByteArray.size lY ≤ _; decide
  · intro s hs; simp [oneF] at hs
  · show smsCount l ≤ _; omega
  · simp [oneF]
  · simp [oneF]
  · simp [oneF]
  · show smsCount l ≤ _; omega
def w1 : Pg := oneU [setS lX (cE 1), setS lY (opE 6 [vE lX, vE lP]), ifS (opE 17 [vE lX, cE 1]) [setS lY (cE 2)] [setS lY (cE 3)]]
def w1' : Pg := oneU [setS lX (cE 1), setS lY (opE 6 [cE 1, vE lP]), setS lY (cE 2)]
def w2 : Pg := oneU [whileS (vE lP) [setS lX (opE 6 [vE lX, cE 1])]]
def ixE : Ex := .mk 3 0 lS [cE 0]
theorem w1_eq : foldE w1 = (w1', [tSame, tSame, .mk 4 [] true [[tSame]]], 0) := by kernel_rfl
theorem w2_eq : foldE w2 = (w2, [.mk 5 [] false [[tSame]]], 0) := by kernel_rfl
def noK : KEnv := fun _ => none
theorem noK_at (H : List Blk) : KnAt noK H (.v (.map none)) := ⟨[], fun L => rfl, fun n => rfl⟩
theorem a_eq : (opE 21 [cE 1, vE lP, ixE]).fold noK = opE 21 [cE 1, vE lP, ixE] := by kernel_rfl
theorem b_eq : (opE 21 [cE 1, vE lP, vE lQ]).fold noK = vE lP := by kernel_rfl
theorem fold_of {p q : Pg} {t : List Tm} {e : Int} (hp : p.OkP) (h : foldE p = (q, t, e)) (H : List Blk) : ACalls Tryz.prog 19 [.agg p.cells] H (fun x H' => x = .ret (.tup [.agg q.cells, Tm.sl t, I e]) ∧ H' = H) := by
  have := fprog_ok p hp H
  rwa [h] at this
theorem fexpr_of {e x : Ex} (hc : e.count ≤ 1000) (h : e.fold noK = x) (H : List Blk) : ACalls Tryz.prog 25 [.agg e.cells, .v (.map none)] H (fun r H' => r = .ret (.agg x.cells) ∧ H' = H) := by
  have := fexpr_ok noK _ e (Nat.lt_succ_self _) (by omega) H _ (noK_at H)
  rwa [h] at this
theorem oksP_of {p : Pg} (h : p.OkP) : p.OkS := by
  have h1 := h.ok2.ok
  exact ⟨h1.regions, h1.funcs, fun f hf => by have := h1.params f hf; omega, fun f hf => by have := h1.vars f hf; omega, h1.rets, h1.body⟩
theorem same_of {p : Pg} (h : p.OkP) (H : List Blk) : ACalls Tryz.prog 20 [.agg p.cells, .agg p.cells] H (fun e H' => e = .ret (Bo true) ∧ H' = H) := by
  have := rpg_ok p p (oksP_of h) (oksP_of h) H
  rwa [pg_refl] at this
theorem samex_of {x : Ex} (h : x.count ≤ 1000) (H : List Blk) : ACalls Tryz.prog 26 [.agg x.cells, .agg x.cells] H (fun e H' => e = .ret (Bo true) ∧ H' = H) := by
  have := rex_ok _ x x (Nat.lt_succ_self _) (by omega) (by omega) H
  rwa [ex_refl] at this
theorem known12_ok (H : List Blk) : ACalls Tryz.prog 7 [] H (fun e H' => e = .ret (Bo true) ∧ H' = H) := by
  refine acalls_tidy (acalls_of_vc (hn := fun _ => false) (od := fun i => if i = 6 then some [(0, []), (1, []), (2, []), (3, []), (4, []), (5, []), (6, [0, 1, 2, 3, 4, 5]), (7, [])] else none) Tryz.func7 rfl (by kernel_rfl) ?_)
  have o1 : w1.OkP := oneU_okP _ (by decide)
  have o2 : w2.OkP := oneU_okP _ (by decide)
  have o3 : w1'.OkP := oneU_okP _ (by decide)
  have hw0 : (IntKind.i64.wrap 0 == 0) = true := by decide
  simp -dsimp
  refine acallsW_det (c12_ok 1 _) ?_
  simp -dsimp
  refine acallsW_det (set12_ok lX (cE 1) _) ?_
  simp -dsimp
  refine acallsW_det (v12_ok lX _) ?_
  simp -dsimp
  refine acallsW_det (v12_ok lP _) ?_
  simp -dsimp
  refine acallsW_det (op12_ok 6 [vE lX, vE lP] _) ?_
  simp -dsimp
  refine acallsW_det (set12_ok lY (opE 6 [vE lX, vE lP]) _) ?_
  simp -dsimp
  refine acallsW_det (v12_ok lX _) ?_
  simp -dsimp
  refine acallsW_det (c12_ok 1 _) ?_
  simp -dsimp
  refine acallsW_det (op12_ok 17 [vE lX, cE 1] _) ?_
  simp -dsimp
  refine acallsW_det (c12_ok 2 _) ?_
  simp -dsimp
  refine acallsW_det (set12_ok lY (cE 2) _) ?_
  simp -dsimp
  refine acallsW_det (c12_ok 3 _) ?_
  simp -dsimp
  refine acallsW_det (set12_ok lY (cE 3) _) ?_
  simp -dsimp
  refine acallsW_of (acalls_weak (args' := [Sm.sl [setS lX (cE 1), setS lY (opE 6 [vE lX, vE lP]), ifS (opE 17 [vE lX, cE 1]) [setS lY (cE 2)] [setS lY (cE 3)]]]) (.cons (.vsR (.cons (.refl _) (.cons (.refl _) (.cons (by repeat first | exact Weak.refl _ | exact Weak.nil _ | exact WeakL.nil | exact WeakR.nil | apply Weak.aggL | apply Weak.vsR | apply WeakL.cons | apply WeakR.cons) .nil)))) .nil) (one12_ok _ _)) ?_
  rintro _ _ ⟨rfl, rfl⟩
  simp -dsimp
  refine acallsW_det (fold_of o1 w1_eq _) ?_
  simp -dsimp
  refine acallsW_det (v12_ok lP _) ?_
  simp -dsimp
  refine acallsW_det (v12_ok lX _) ?_
  simp -dsimp
  refine acallsW_det (c12_ok 1 _) ?_
  simp -dsimp
  refine acallsW_det (op12_ok 6 [vE lX, cE 1] _) ?_
  simp -dsimp
  refine acallsW_det (set12_ok lX (opE 6 [vE lX, cE 1]) _) ?_
  simp -dsimp
  refine acallsW_of (acalls_weak (args' := [Sm.sl [whileS (vE lP) [setS lX (opE 6 [vE lX, cE 1])]]]) (.cons (.vsR (.cons (by repeat first | exact Weak.refl _ | exact Weak.nil _ | exact WeakL.nil | exact WeakR.nil | apply Weak.aggL | apply Weak.vsR | apply WeakL.cons | apply WeakR.cons) .nil)) .nil) (one12_ok _ _)) ?_
  rintro _ _ ⟨rfl, rfl⟩
  simp -dsimp
  refine acallsW_det (fold_of o2 w2_eq _) ?_
  simp -dsimp
  refine acallsW_det (c12_ok 0 _) ?_
  simp -dsimp
  refine callDW_intro (c12_ok 1 _) ?_
  simp -dsimp
  refine callDW_intro (v12_ok lP _) ?_
  simp -dsimp
  refine callDW_intro (op12_ok 21 [cE 1, vE lP, ixE] _) ?_
  simp -dsimp
  refine callDW_intro (fexpr_of (by decide) a_eq _) ?_
  simp -dsimp
  refine ⟨⟨?_, ?_, ?_, ?_⟩, ?_⟩
  · refine callDW_intro (c12_ok 1 _) ?_
    simp -dsimp
  · refine callDW_intro (v12_ok lP _) ?_
    simp -dsimp
  · refine callDW_intro (op12_ok 21 [cE 1, vE lP, ixE] _) ?_
    simp -dsimp
  · refine callDW_intro (fexpr_of (by decide) a_eq _) ?_
    simp -dsimp
  refine acallsW_det (c12_ok 1 _) ?_
  simp -dsimp
  refine acallsW_det (v12_ok lP _) ?_
  simp -dsimp
  refine acallsW_det (v12_ok lQ _) ?_
  simp -dsimp
  refine acallsW_det (op12_ok 21 [cE 1, vE lP, vE lQ] _) ?_
  simp -dsimp
  refine acallsW_det (fexpr_of (by decide) b_eq _) ?_
  simp -dsimp
  refine callDW_intro (num12_ok 0 _) ?_
  simp -dsimp
  refine callDW_intro (num12_ok 0 _) ?_
  simp -dsimp [hw0]
  refine callDW_intro (c12_ok 1 _) ?_
  simp -dsimp
  refine callDW_intro (set12_ok lX (cE 1) _) ?_
  simp -dsimp
  refine callDW_intro (c12_ok 1 _) ?_
  simp -dsimp
  refine callDW_intro (v12_ok lP _) ?_
  simp -dsimp
  refine callDW_intro (op12_ok 6 [cE 1, vE lP] _) ?_
  simp -dsimp
  refine callDW_intro (set12_ok lY (opE 6 [cE 1, vE lP]) _) ?_
  simp -dsimp
  refine callDW_intro (c12_ok 2 _) ?_
  simp -dsimp
  refine callDW_intro (set12_ok lY (cE 2) _) ?_
  simp -dsimp
  refine callDW_intro (one12_ok [setS lX (cE 1), setS lY (opE 6 [cE 1, vE lP]), setS lY (cE 2)] _) ?_
  simp -dsimp
  refine callDW_intro (same_of o3 _) ?_
  simp -dsimp [Tm.kind, Tm.taken]
  refine callDW_intro (same_of o2 _) ?_
  simp -dsimp
  refine callDW_intro (c12_ok 1 _) ?_
  simp -dsimp
  refine callDW_intro (v12_ok lP _) ?_
  simp -dsimp
  refine callDW_intro (op12_ok 21 [cE 1, vE lP, ixE] _) ?_
  simp -dsimp
  refine callDW_intro (samex_of (x := opE 21 [cE 1, vE lP, ixE]) (by decide) _) ?_
  simp -dsimp
  refine callDW_intro (v12_ok lP _) ?_
  simp -dsimp
  refine callDW_intro (samex_of (x := vE lP) (by decide) _) ?_
  simp -dsimp
  exact tidy_same rfl ⟨rfl, rfl⟩
end Go.Proofs
