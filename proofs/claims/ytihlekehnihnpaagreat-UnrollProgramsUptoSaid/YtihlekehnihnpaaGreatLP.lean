/- What readings of programs tell, with the ranges of their numbers. -/
import Derived.Test.YtihlekehnihnpaaGreatL1
import Derived.Test.YtihlekehnihnpaaGreatG28toUA
set_option linter.unusedVariables false
set_option linter.unusedSimpArgs false
set_option maxHeartbeats 4000000
set_option maxRecDepth 100000
namespace Go.Proofs
open Go.Mu
def inI (n : Int) : Bool := decide (-9223372036854775808 ≤ n) && decide (n ≤ 9223372036854775807)
def inU (n : Int) : Bool := decide (0 ≤ n) && decide (n ≤ 18446744073709551615)
mutual
def Ex.rng : Ex → Bool
  | .mk o w _ a => inI o && inU w && exsRng a
def exsRng : List Ex → Bool
  | [] => true
  | e :: l => e.rng && exsRng l
end
mutual
def Sm.rng : Sm → Bool
  | .mk k _ _ e a l lo hi b el => inI k && e.rng && a.rng && exsRng l && inU lo && inU hi && smsRng b && smsRng el
def smsRng : List Sm → Bool
  | [] => true
  | s :: l => s.rng && smsRng l
end
def Vr.rng (v : Vr) : Bool := inI v.kind && inI v.size
def Rg.rng (r : Rg) : Bool := inI r.addr && inI r.size
def Fc.rng (f : Fc) : Bool := f.params.all Vr.rng && f.vars.all Vr.rng && smsRng f.body
def Pg.rng (p : Pg) : Bool := p.regions.all Rg.rng && p.funcs.all Fc.rng
theorem exs_rng {l : List Ex} (h : ∀ e ∈ l, e.rng = true) : exsRng l = true := by
  induction l with
  | nil => rfl
  | cons e l ih => rw [exsRng, h e (List.mem_cons_self ..), ih (fun e he => h e (List.mem_cons_of_mem _ he))]; rfl
theorem sms_rng {l : List Sm} (h : ∀ e ∈ l, e.rng = true) : smsRng l = true := by
  induction l with
  | nil => rfl
  | cons e l ih => rw [smsRng, h e (List.mem_cons_self ..), ih (fun e he => h e (List.mem_cons_of_mem _ he))]; rfl
theorem Sm.rng_eq (s : Sm) : s.rng = (inI s.kind && s.e.rng && s.a.rng && exsRng s.args && inU s.low && inU s.high && smsRng s.body && smsRng s.els) := by cases s; rw [Sm.rng]; rfl
theorem rng_words (m : Nat) : ∀ l : List Sm, smsCount l ≤ m → smsRng l = true → smsWordsOk l = true := by
  induction m with
  | zero => intro l hl _; have := sms_len l; obtain rfl : l = [] := List.eq_nil_of_length_eq_zero (by omega); rfl
  | succ m ih =>
    intro l
    induction l with
    | nil => intro _ _; rfl
    | cons s l ihl =>
      intro h hr
      simp only [smsCount] at h
      have hc := Sm.count_eq s
      rw [smsRng, Bool.and_eq_true, Sm.rng_eq] at hr
      obtain ⟨h1, h2⟩ := hr
      simp only [Bool.and_eq_true, inU, decide_eq_true_eq] at h1
      obtain ⟨⟨⟨⟨_, hlo⟩, hhi⟩, hb⟩, he⟩ := h1
      rw [smsWordsOk, ihl (by omega) h2, Sm.wordsOk_eq, ih s.body (by omega) hb, ih s.els (by omega) he, decide_eq_true hlo.1, decide_eq_true hhi.1]
      rfl
end Go.Proofs
namespace Go.Proofs.YtihlekehnihnpaaGreat.Lift
open Go.ChangeShapes Go.WideShapes Go.ChangeAt Go.RowKit Go.Mu Go.Proofs
section
variable {H : Type} {enc : TypeId × Value → H} {cx : Cx}
theorem tells_i (t : TypeId) (h : Tryz.prog.underlying t = some (.int .i64)) (n : Nat) : Tells enc Tryz.prog cx n t (fun i : Int => [I i]) (fun _ => 1) (fun i => inI i = true) := (tells_int h).map id (fun _ => rfl) (fun _ => Nat.le_refl _) (fun i hi => by simp only [IntKind.min, IntKind.max] at hi; simp only [inI, id, Bool.and_eq_true, decide_eq_true_eq]; exact hi)
theorem tells_u (n : Nat) : Tells enc Tryz.prog cx n 50 (fun i : Int => [U i]) (fun _ => 1) (fun i => inU i = true) := (tells_int (by kernel_rfl)).map id (fun _ => rfl) (fun _ => Nat.le_refl _) (fun i hi => by simp only [IntKind.min, IntKind.max] at hi; simp only [inU, id, Bool.and_eq_true, decide_eq_true_eq]; exact hi)
theorem tells_b (n : Nat) : Tells enc Tryz.prog cx n 4 (fun b : Bool => [Bo b]) (fun _ => 1) (fun _ => True) := tells_bool (by kernel_rfl)
theorem tells_s (n : Nat) : Tells enc Tryz.prog cx n 9 (fun s : ByteArray => [St s]) (fun s => s.size + 1) (fun _ => True) := tells_string (by kernel_rfl)
theorem sizes_mem {α : Type} {size : α → Nat} {l : List α} {a : α} (h : a ∈ l) : size a ≤ sizes size l := by
  induction l with
  | nil => cases h
  | cons b l ih =>
    simp only [sizes, List.map_cons, List.sum_cons] at ih ⊢
    rcases List.mem_cons.1 h with rfl | h
    · omega
    · have := ih h; omega
theorem exs_sizes (l : List Ex) : sizes Ex.count l = exsCount l := by
  induction l with
  | nil => rfl
  | cons e l ih => simp only [sizes, List.map_cons, List.sum_cons, exsCount] at ih ⊢; omega
theorem sms_sizes (l : List Sm) : sizes Sm.count l = smsCount l := by
  induction l with
  | nil => rfl
  | cons e l ih => simp only [sizes, List.map_cons, List.sum_cons, smsCount] at ih ⊢; omega
theorem tells_strs (hΦ : ∀ b, b < cx.w.heap.size → cx.Φ b) : ∀ n, Tells enc Tryz.prog cx n 34 (fun l : List ByteArray => [St.sl l]) (sizes fun s => s.size + 1) (fun _ => True)
  | 0 => tells_zero
  | n + 1 => (tells_slice (e := 9) (sz := 1) (by kernel_rfl) (by kernel_rfl) (by omega) hΦ (tells_s n)).map id (fun _ => rfl) (fun l => Nat.le_succ _) (fun _ _ => trivial)
theorem tells_exs2 (hΦ : ∀ b, b < cx.w.heap.size → cx.Φ b) : ∀ n, Tells enc Tryz.prog cx n 53 Ex.cells Ex.count (fun e => e.rng = true) ∧ Tells enc Tryz.prog cx n 51 (fun l : List Ex => [Ex.sl l]) exsCount (fun l => exsRng l = true)
  | 0 => ⟨tells_zero, tells_zero⟩
  | n + 1 => by
    obtain ⟨h1, h2⟩ := tells_exs2 hΦ n
    refine ⟨(tells_struct (fl := [(49, 0, 1), (50, 1, 1), (9, 2, 1), (51, 3, 1)]) (by kernel_rfl) (by kernel_rfl)
      (tellsF_cons (tells_i 49 (by kernel_rfl) n) (tellsF_cons (tells_u n) (tellsF_cons (tells_s n) (tellsF_cons h2 tellsF_nil))))).map (fun (a0, a1, a2, a3, _) => Ex.mk a0 a1 a2 a3) (fun _ => Ex.cells_eq _) (fun ⟨a0, a1, a2, a3, _⟩ => by simp only [Ex.count]; omega) (fun ⟨a0, a1, a2, a3, _⟩ ⟨h0, h1, _, h3, _⟩ => by rw [Ex.rng, h0, h1, h3]; rfl), ?_⟩
    exact (tells_slice (e := 53) (sz := 4) (by kernel_rfl) (by kernel_rfl) (by omega) hΦ h1).map id (fun _ => rfl) (fun l => by rw [exs_sizes]; exact Nat.le_succ _) (fun l h => exs_rng h)
theorem tells_sms2 (hΦ : ∀ b, b < cx.w.heap.size → cx.Φ b) : ∀ n, Tells enc Tryz.prog cx n 57 Sm.cells Sm.count (fun e => e.rng = true) ∧ Tells enc Tryz.prog cx n 35 (fun l : List Sm => [Sm.sl l]) smsCount (fun l => smsRng l = true)
  | 0 => ⟨tells_zero, tells_zero⟩
  | n + 1 => by
    obtain ⟨h1, h2⟩ := tells_sms2 hΦ n
    obtain ⟨e1, e2⟩ := tells_exs2 (enc := enc) hΦ n
    refine ⟨(tells_struct (fl := [(55, 0, 1), (9, 1, 1), (34, 2, 1), (53, 3, 4), (53, 7, 4), (51, 11, 1), (50, 12, 1), (50, 13, 1), (35, 14, 1), (35, 15, 1)]) (by kernel_rfl) (by kernel_rfl)
      (tellsF_cons (tells_i 55 (by kernel_rfl) n) (tellsF_cons (tells_s n) (tellsF_cons (tells_strs hΦ n) (tellsF_cons e1 (tellsF_cons e1 (tellsF_cons e2 (tellsF_cons (tells_u n) (tellsF_cons (tells_u n) (tellsF_cons h2 (tellsF_cons h2 tellsF_nil))))))))))).map
      (fun (a0, a1, a2, a3, a4, a5, a6, a7, a8, a9, _) => Sm.mk a0 a1 a2 a3 a4 a5 a6 a7 a8 a9) (fun ⟨a0, a1, a2, a3, a4, a5, a6, a7, a8, a9, _⟩ => by rw [Sm.cells_eq, Ex.cells_eq, Ex.cells_eq]; rfl)
      (fun ⟨a0, a1, a2, a3, a4, a5, a6, a7, a8, a9, _⟩ => by have := sizes_len (size := fun s : ByteArray => s.size + 1) (fun _ => by omega) a2; simp only [Sm.count]; omega) (fun ⟨a0, a1, a2, a3, a4, a5, a6, a7, a8, a9, _⟩ ⟨h0, _, _, h3, h4, h5, h6, h7, h8, h9, _⟩ => by rw [Sm.rng, h0, h3, h4, h5, h6, h7, h8, h9]; rfl), ?_⟩
    exact (tells_slice (e := 57) (sz := 16) (by kernel_rfl) (by kernel_rfl) (by omega) hΦ h1).map id (fun _ => rfl) (fun l => by rw [sms_sizes]; exact Nat.le_succ _) (fun l h => sms_rng h)
def vrSize (v : Vr) : Nat := v.name.size + 1
def rgSize (r : Rg) : Nat := r.name.size + 1
def fcSize (f : Fc) : Nat := f.name.size + sizes vrSize f.params + sizes vrSize f.vars + sizes (fun s => s.size + 1) f.rets + smsCount f.body + 1
def pgSize (p : Pg) : Nat := sizes rgSize p.regions + sizes fcSize p.funcs
theorem tells_vr : ∀ n, Tells enc Tryz.prog cx n 67 Vr.cells vrSize (fun v => v.rng = true)
  | 0 => tells_zero
  | n + 1 => (tells_struct (fl := [(9, 0, 1), (65, 1, 1), (3, 2, 1), (4, 3, 1)]) (by kernel_rfl) (by kernel_rfl)
      (tellsF_cons (tells_s n) (tellsF_cons (tells_i 65 (by kernel_rfl) n) (tellsF_cons (tells_i 3 (by kernel_rfl) n) (tellsF_cons (tells_b n) tellsF_nil))))).map (fun (a0, a1, a2, a3, _) => ⟨a0, a1, a2, a3⟩) (fun _ => rfl) (fun ⟨a0, a1, a2, a3, _⟩ => by simp only [vrSize]; omega) (fun ⟨a0, a1, a2, a3, _⟩ ⟨_, h1, h2, _⟩ => by show (inI a1 && inI a2) = true; rw [h1, h2]; rfl)
theorem tells_rg : ∀ n, Tells enc Tryz.prog cx n 103 Rg.cells rgSize (fun v => v.rng = true)
  | 0 => tells_zero
  | n + 1 => (tells_struct (fl := [(9, 0, 1), (3, 1, 1), (3, 2, 1), (4, 3, 1)]) (by kernel_rfl) (by kernel_rfl)
      (tellsF_cons (tells_s n) (tellsF_cons (tells_i 3 (by kernel_rfl) n) (tellsF_cons (tells_i 3 (by kernel_rfl) n) (tellsF_cons (tells_b n) tellsF_nil))))).map (fun (a0, a1, a2, a3, _) => ⟨a0, a1, a2, a3⟩) (fun _ => rfl) (fun ⟨a0, a1, a2, a3, _⟩ => by simp only [rgSize]; omega) (fun ⟨a0, a1, a2, a3, _⟩ ⟨_, h1, h2, _⟩ => by show (inI a1 && inI a2) = true; rw [h1, h2]; rfl)
theorem tells_vrs (hΦ : ∀ b, b < cx.w.heap.size → cx.Φ b) : ∀ n, Tells enc Tryz.prog cx n 33 (fun l : List Vr => [Vr.sl l]) (sizes vrSize) (fun l => l.all Vr.rng = true)
  | 0 => tells_zero
  | n + 1 => (tells_slice (e := 67) (sz := 4) (by kernel_rfl) (by kernel_rfl) (by omega) hΦ (tells_vr n)).map id (fun _ => rfl) (fun l => Nat.le_succ _) (fun l h => List.all_eq_true.2 h)
theorem tells_rgs (hΦ : ∀ b, b < cx.w.heap.size → cx.Φ b) : ∀ n, Tells enc Tryz.prog cx n 22 (fun l : List Rg => [Rg.sl l]) (sizes rgSize) (fun l => l.all Rg.rng = true)
  | 0 => tells_zero
  | n + 1 => (tells_slice (e := 103) (sz := 4) (by kernel_rfl) (by kernel_rfl) (by omega) hΦ (tells_rg n)).map id (fun _ => rfl) (fun l => Nat.le_succ _) (fun l h => List.all_eq_true.2 h)
theorem tells_fc (hΦ : ∀ b, b < cx.w.heap.size → cx.Φ b) : ∀ n, Tells enc Tryz.prog cx n 37 Fc.cells fcSize (fun f => f.rng = true)
  | 0 => tells_zero
  | n + 1 => (tells_struct (fl := [(9, 0, 1), (33, 1, 1), (33, 2, 1), (34, 3, 1), (35, 4, 1)]) (by kernel_rfl) (by kernel_rfl)
      (tellsF_cons (tells_s n) (tellsF_cons (tells_vrs hΦ n) (tellsF_cons (tells_vrs hΦ n) (tellsF_cons (tells_strs hΦ n) (tellsF_cons (tells_sms2 hΦ n).2 tellsF_nil)))))).map (fun (a0, a1, a2, a3, a4, _) => ⟨a0, a1, a2, a3, a4⟩) (fun _ => rfl) (fun ⟨a0, a1, a2, a3, a4, _⟩ => by simp only [fcSize]; omega) (fun ⟨a0, a1, a2, a3, a4, _⟩ ⟨_, h1, h2, _, h4, _⟩ => by show (a1.all Vr.rng && a2.all Vr.rng && smsRng a4) = true; rw [h1, h2, h4]; rfl)
theorem tells_fcs (hΦ : ∀ b, b < cx.w.heap.size → cx.Φ b) : ∀ n, Tells enc Tryz.prog cx n 23 (fun l : List Fc => [Fc.sl l]) (sizes fcSize) (fun l => l.all Fc.rng = true)
  | 0 => tells_zero
  | n + 1 => (tells_slice (e := 37) (sz := 5) (by kernel_rfl) (by kernel_rfl) (by omega) hΦ (tells_fc hΦ n)).map id (fun _ => rfl) (fun l => Nat.le_succ _) (fun l h => List.all_eq_true.2 h)
theorem tells_pg (hΦ : ∀ b, b < cx.w.heap.size → cx.Φ b) : ∀ n, Tells enc Tryz.prog cx n 25 Pg.cells pgSize (fun p => p.rng = true)
  | 0 => tells_zero
  | n + 1 => (tells_struct (fl := [(22, 0, 1), (23, 1, 1)]) (by kernel_rfl) (by kernel_rfl)
      (tellsF_cons (tells_rgs hΦ n) (tellsF_cons (tells_fcs hΦ n) tellsF_nil))).map (fun (a0, a1, _) => ⟨a0, a1⟩) (fun _ => rfl) (fun ⟨a0, a1, _⟩ => by simp only [pgSize]; omega) (fun ⟨a0, a1, _⟩ ⟨h0, h1, _⟩ => by show (a0.all Rg.rng && a1.all Fc.rng) = true; rw [h0, h1]; rfl)
theorem pg_ok {p : Pg} (h : pgSize p ≤ 1048576) : p.Ok3 := by
  have hr : p.regions.length ≤ pgSize p := by have := sizes_len (size := rgSize) (fun _ => by simp [rgSize]) p.regions; unfold pgSize; omega
  have hf : p.funcs.length ≤ pgSize p := by have := sizes_len (size := fcSize) (fun _ => by simp [fcSize]) p.funcs; unfold pgSize; omega
  have hF : ∀ f ∈ p.funcs, fcSize f ≤ 1048576 := fun f hf => by have := sizes_mem (size := fcSize) hf; unfold pgSize at h; omega
  have hn : ∀ l : List Fc, funcsNum l ≤ sizes fcSize l := by
    intro l
    induction l with
    | nil => simp [funcsNum, sizes]
    | cons f l ih =>
      simp only [funcsNum, sizes, List.map_cons, List.sum_cons] at ih ⊢
      have := smsNum_le _ f.body 1 (Nat.le_refl _)
      have : smsCount f.body ≤ fcSize f := by unfold fcSize; omega
      omega
  refine ⟨⟨⟨by omega, by omega, fun f hf => ?_, fun f hf => ?_, fun f hf => ?_, fun f hf => ?_⟩, ⟨fun r hr => ?_, fun f hf => ⟨?_, fun v hv => ?_, fun s hs => ?_⟩⟩, fun f hf => ?_⟩, ?_⟩
  · have := hF f hf; unfold fcSize at this; omega
  · have := hF f hf; have h2 := sizes_len (size := vrSize) (fun _ => by simp [vrSize]) f.params; unfold fcSize at this; omega
  · have := hF f hf; have h2 := sizes_len (size := vrSize) (fun _ => by simp [vrSize]) f.vars; unfold fcSize at this; omega
  · have := hF f hf; have h2 := sizes_len (size := fun s : ByteArray => s.size + 1) (fun _ => by omega) f.rets; unfold fcSize at this; omega
  · have h2 := sizes_mem (size := rgSize) hr; have h3 : rgSize r = r.name.size + 1 := rfl; unfold pgSize at h; omega
  · have := hF f hf; unfold fcSize at this; omega
  · have := hF f hf
    unfold fcSize at this
    rcases List.mem_append.1 hv with hv | hv
    · have h2 := sizes_mem (size := vrSize) hv; simp only [vrSize] at h2 this; omega
    · have h2 := sizes_mem (size := vrSize) hv; simp only [vrSize] at h2 this; omega
  · have := hF f hf; have h2 : s.size + 1 ≤ sizes (fun s : ByteArray => s.size + 1) f.rets := sizes_mem (size := fun s : ByteArray => s.size + 1) hs; unfold fcSize at this; omega
  · have := hF f hf; unfold fcSize at this; omega
  · have := hn p.funcs; unfold pgSize at h; omega
theorem pg_okA {p : Pg} (h : pgSize p ≤ 1048576) (hr : p.rng = true) : p.OkA := by
  have h3 := pg_ok h
  have hrl : p.regions.length ≤ pgSize p := by have := sizes_len (size := rgSize) (fun _ => by simp [rgSize]) p.regions; unfold pgSize; omega
  have hfl : p.funcs.length ≤ pgSize p := by have := sizes_len (size := fcSize) (fun _ => by simp [fcSize]) p.funcs; unfold pgSize; omega
  have hF : ∀ f ∈ p.funcs, fcSize f ≤ 1048576 := fun f hf => by have := sizes_mem (size := fcSize) hf; unfold pgSize at h; omega
  unfold Pg.rng at hr
  rw [Bool.and_eq_true, List.all_eq_true, List.all_eq_true] at hr
  refine ⟨h3, ⟨⟨h3.ok, fun f hf => ?_⟩, ⟨by omega, by omega, h3.ok.ok.params, h3.ok.ok.vars, fun f hf => ?_, h3.ok.body36⟩, fun f hf => ?_⟩⟩
  · have := hr.2 f hf
    unfold Fc.rng at this
    rw [Bool.and_eq_true] at this
    exact rng_words _ _ (Nat.le_refl _) this.2
  · have := hF f hf; have h2 := sizes_len (size := fun s : ByteArray => s.size + 1) (fun _ => by omega) f.rets; unfold fcSize at this; omega
  · have := hF f hf
    unfold fcSize at this
    have h2 : smsCount f.body ≤ 1048576 := by omega
    have := layE_cnt h2
    omega
end
theorem arg_pg {H : Type} {enc : TypeId × Value → H} {W : World} {base : Nat} : ArgOk enc Tryz.prog W base 25 (fun a => .agg (Pg.cells a)) pgSize (fun p => p.rng = true) := arg_struct Tryz.underlying25 (tells_pg fun _ h => h)
end Go.Proofs.YtihlekehnihnpaaGreat.Lift
