/- The document's layer 7: is a program small. -/
import Derived.Test.YtpibcbilkpoomaaGreatFwWtoG39
import Derived.Test.YtpibcbilkpoomaaGreatSS1toFO18
import Derived.Test.YtpibcbilkpoomaaGreatFO10toFO11
set_option linter.unusedVariables false
set_option linter.unusedSimpArgs false
set_option maxHeartbeats 4000000
set_option maxRecDepth 100000
namespace Go.Proofs
open Go.Mu
mutual
def Ex.much (most : Int) : Ex → Nat
  | .mk _ _ _ args => exsMuch most 1 args
def exsMuch (most : Int) (n : Nat) : List Ex → Nat
  | [] => n
  | e :: l => if (n : Int) ≤ most then exsMuch most (n + e.much most) l else n
end
theorem Ex.much_eq (most : Int) (e : Ex) : e.much most = exsMuch most 1 e.args := by cases e; rw [Ex.much]; rfl
theorem exsMuch_le (most : Int) (m : Nat) : ∀ (l : List Ex) (n : Nat), exsCount l ≤ m → exsMuch most n l ≤ n + exsCount l := by
  induction m with
  | zero => intro l n hl; have := exs_len l; have : l = [] := List.eq_nil_of_length_eq_zero (by omega); subst this; simp [exsMuch]
  | succ m ih =>
    intro l
    induction l with
    | nil => intro n _; simp [exsMuch]
    | cons e l ihl =>
      intro n hl
      simp only [exsCount] at hl ⊢
      have he := Ex.count_eq e
      rw [exsMuch]
      split
      · have h1 := ihl (n + e.much most) (by omega)
        have h2 := ih e.args 1 (by omega)
        rw [Ex.much_eq] at h1 ⊢
        omega
      · omega
theorem Ex.much_le (most : Int) (e : Ex) : e.much most ≤ e.count := by
  rw [Ex.much_eq, Ex.count_eq]; have := exsMuch_le most _ e.args 1 (Nat.le_refl _); omega
def argsMuch (most : Int) : List Ex → Nat
  | [] => 0
  | e :: l => e.much most + argsMuch most l
theorem argsMuch_le (most : Int) : ∀ l, argsMuch most l ≤ exsCount l
  | [] => by simp [argsMuch]
  | e :: l => by simp only [argsMuch, exsCount]; have := e.much_le most; have := argsMuch_le most l; omega
mutual
def Sm.much (most : Int) : Sm → Nat
  | .mk _ _ ns e a args _ _ body els => 1 + ns.length + e.much most + a.much most + argsMuch most args + (smsMuch most 0 body + smsMuch most 0 els)
def smsMuch (most : Int) (n : Nat) : List Sm → Nat
  | [] => n
  | s :: l => if (n : Int) ≤ most then smsMuch most (n + s.much most) l else n
end
theorem Sm.much_eq (most : Int) (s : Sm) : s.much most = 1 + s.names.length + s.e.much most + s.a.much most + argsMuch most s.args + (smsMuch most 0 s.body + smsMuch most 0 s.els) := by cases s; rw [Sm.much]; rfl
theorem smsMuch_le (most : Int) (m : Nat) : ∀ (l : List Sm) (n : Nat), smsCount l ≤ m → smsMuch most n l ≤ n + smsCount l := by
  induction m with
  | zero => intro l n hl; have := sms_len l; have : l = [] := List.eq_nil_of_length_eq_zero (by omega); subst this; simp [smsMuch]
  | succ m ih =>
    intro l
    induction l with
    | nil => intro n _; simp [smsMuch]
    | cons s l ihl =>
      intro n hl
      simp only [smsCount] at hl ⊢
      have he := Sm.count_eq s
      rw [smsMuch]
      split
      · have h1 := ihl (n + s.much most) (by omega)
        have h2 := ih s.body 0 (by omega)
        have h3 := ih s.els 0 (by omega)
        have h4 := s.e.much_le most
        have h5 := s.a.much_le most
        have h6 := argsMuch_le most s.args
        rw [Sm.much_eq] at h1 ⊢
        omega
      · omega
theorem Sm.much_le (most : Int) (s : Sm) : s.much most ≤ s.count := by
  rw [Sm.much_eq, Sm.count_eq]
  have h2 := smsMuch_le most _ s.body 0 (Nat.le_refl _)
  have h3 := smsMuch_le most _ s.els 0 (Nat.le_refl _)
  have h4 := s.e.much_le most
  have h5 := s.a.much_le most
  have h6 := argsMuch_le most s.args
  omega
theorem mexpr_ok (most : Int) (m : Nat) : ∀ (e : Ex), e.count ≤ m → e.count ≤ 2^40 → ∀ (H : List Blk),
    ACalls Tryz.prog 58 [.agg e.cells, I most] H (fun x H' => x = .ret (I (e.much most)) ∧ H' = H) := by
  induction m with
  | zero => intro e h; have := Ex.count_eq e; omega
  | succ m ih =>
    intro e hm hc H
    refine acalls_tidy (acalls_of_vc (hn := fun _ => false) (od := fun _ => none) Tryz.func58 rfl (by kernel_rfl) ?_)
    have hce := Ex.count_eq e
    have hla := exs_len e.args
    have hml := e.much_le most
    obtain ⟨M, hM⟩ : ∃ M, M = H ++ [.box 73 e.cells] := ⟨_, rfl⟩
    have hMe : M[H.length]? = some (.box 73 e.cells) := by rw [hM]; simp
    obtain ⟨E, hE⟩ : ∃ E, E = e.much most := ⟨_, rfl⟩
    have fin : ∀ c : Int, c = (E : Int) → Tidy H (fun x H' => x = .ret (I E) ∧ H' = H) (.ret (I c)) M := fun c hc => by rw [hM, hc]; exact tidy_same rfl ⟨rfl, rfl⟩
    rw [← hE] at hml ⊢
    rw [Ex.much_eq] at hE
    simp only [Ex.cells_eq] at hM hMe
    simp -dsimp
    rw [← hM]
    refine loop_rule (hn := fun _ => false) (od := fun _ => none) (fun (i : Nat) f H' => M = H' ∧ f 2 = .bp H.length 0 ∧ f 1 = I most ∧ f 6 = I i ∧ i ≤ e.args.length ∧ ∃ n : Nat, f 5 = I n ∧ n ≤ 2^41 ∧ exsMuch most n (e.args.drop i) = E) (fun i => e.args.length - i) (by kernel_rfl) 0 (by simp [hE]; exact ⟨1, rfl, by omega, rfl⟩) ?_
    clear hM hE
    rintro i g _ ⟨rfl, g2, g1, g6, hi, n, g5, hnb, hn⟩
    simp -dsimp [g1, g2, g5, g6, hMe]
    refine guardVW_introTD (fun hlt => ?_) (fun hlt => ?_)
    · rw [drop_cons hlt, exsMuch] at hn
      simp -dsimp [g1, g2, g5, g6, hMe, hlt]
      refine condVW_introD (fun hle => ?_) (fun hle => ?_)
      · rw [if_pos hle] at hn
        have hg := exs_get hlt
        have cr := fun H => ih e.args[i] (by omega) (by omega) H
        have hml2 := e.args[i].much_le most
        have hnE : n + e.args[i].much most ≤ 2^41 := by
          have : ∀ (l : List Ex) (q : Nat), q ≤ exsMuch most q l := by
            intro l
            induction l with
            | nil => intro q; simp [exsMuch]
            | cons a l ihl => intro q; rw [exsMuch]; split; have := ihl (q + a.much most); omega; exact Nat.le_refl _
          have := this (e.args.drop (i + 1)) (n + e.args[i].much most)
          omega
        simp only [Ex.cells_eq] at cr
        have w3 : IntKind.i64.wrap ((n : Int) + (e.args[i].much most : Nat)) = ((n + e.args[i].much most : Nat) : Int) := by rw [wrapI (by omega) (by omega)]; rfl
        simp -dsimp [g1, g2, g5, g6, hMe, List.getElem?_eq_getElem, hlt]
        refine acallsW_det (cr _) ?_
        simp -dsimp [g1, g2, g5, g6]
        exact ⟨i + 1, by omega, wrapS (by omega), by omega, _, w3, hnE, hn⟩
      · rw [if_neg hle] at hn
        simp -dsimp [g5]
        exact fin _ (by omega)
    · rw [drop_end hlt, exsMuch] at hn
      simp -dsimp [g5, hlt]
      exact fin _ (by omega)
end Go.Proofs
namespace Go.Proofs
open Go.Mu
theorem smsMuch_ge (most : Int) : ∀ (l : List Sm) (q : Nat), q ≤ smsMuch most q l
  | [], q => by simp [smsMuch]
  | s :: l, q => by rw [smsMuch]; split; have := smsMuch_ge most l (q + s.much most); omega; exact Nat.le_refl _
theorem much_ok (most : Int) (m : Nat) : ∀ (l : List Sm), smsCount l < m → smsCount l ≤ 2^40 → ∀ (H : List Blk),
    ACalls Tryz.prog 34 [Sm.sl l, I most] H (fun x H' => x = .ret (I (smsMuch most 0 l)) ∧ H' = H) := by
  induction m with
  | zero => intro l h; omega
  | succ m ih =>
    intro l hm hc H
    refine acalls_of_awp Tryz.func34 rfl (by kernel_rfl) ?_
    have hlen := sms_len l
    have hml := smsMuch_le most _ l 0 (Nat.le_refl _)
    obtain ⟨E, hE⟩ : ∃ E, E = smsMuch most 0 l := ⟨_, rfl⟩
    rw [← hE] at hml ⊢
    refine awp_cut (fun _ => false) (fun _ => none) (fun f H' => H = H' ∧ f 0 = Sm.sl l ∧ f 1 = I most) (by kernel_rfl) ?_ ?_
    · simp -dsimp
    rintro g _ ⟨rfl, g0, g1⟩
    refine awp_cut (fun _ => false) (fun _ => none) (fun f H' => H = H' ∧ f 0 = Sm.sl l ∧ f 1 = I most ∧ f 5 = I 0) (by kernel_rfl) ?_ ?_
    · simp -dsimp [g0, g1]
    clear g g0 g1
    rintro g _ ⟨rfl, g0, g1, g5⟩
    refine awp_cutA (fun f H' => H = H' ∧ f 5 = I E) ?_ ?_
    rotate_left
    · clear g g0 g1 g5
      rintro g _ ⟨rfl, g5⟩
      refine awp_all (fun _ => false) (fun _ => none) (by kernel_rfl) ?_
      simp -dsimp [g5]
    refine awp_cut (fun _ => false) (fun _ => none) (fun f H' => H = H' ∧ f 0 = Sm.sl l ∧ f 1 = I most ∧ f 5 = I 0 ∧ f 6 = I 0) (by kernel_rfl) ?_ ?_
    · simp -dsimp [g0, g1, g5]
    clear g g0 g1 g5
    rintro g _ ⟨rfl, g0, g1, g5, g6⟩
    refine awp_block ?_
    refine awp_loopI (fun (i : Nat) f H' => H = H' ∧ f 0 = Sm.sl l ∧ f 1 = I most ∧ f 6 = I i ∧ i ≤ l.length ∧ ∃ n : Nat, f 5 = I n ∧ smsMuch most n (l.drop i) = E) (fun i => l.length - i) 0 ⟨rfl, g0, g1, g6, by omega, 0, g5, by rw [hE]; simp⟩ ?_
    clear g g0 g1 g5 g6
    rintro i g _ ⟨rfl, g0, g1, g6, hi, n, g5, hn⟩
    refine awp_cut (fun _ => false) (fun _ => none) (fun f H' => H = H' ∧ f 0 = Sm.sl l ∧ f 1 = I most ∧ f 6 = I i ∧ f 5 = I n ∧ i < l.length ∧ (n : Int) ≤ most) (by kernel_rfl) ?_ ?_
    · simp -dsimp [g0, g1, g5, g6]
      refine guardVW_introTD (fun hlt => ?_) (fun hlt => ?_)
      · rw [drop_cons hlt, smsMuch] at hn
        simp -dsimp [g0, g1, g5, g6, hlt]
        refine condVW_introD (fun hle => ?_) (fun hle => ?_)
        · simp -dsimp [g0, g1, g5, g6]
          first
            | exact ⟨hlt, hle⟩
            | exact hle
        · rw [if_neg hle] at hn
          simp -dsimp [g5]
          omega
      · rw [drop_end hlt, smsMuch] at hn
        simp -dsimp [g5, hlt]
        omega
    clear g g0 g1 g5 g6
    rintro g _ ⟨rfl, g0, g1, g6, g5, hlt, hle⟩
    rw [drop_cons hlt, smsMuch, if_pos hle] at hn
    have hg := sms_get hlt
    have hsc := Sm.count_eq l[i]
    have hls : l[i]? = some l[i] := List.getElem?_eq_getElem hlt
    obtain ⟨s, hs⟩ : ∃ s, s = l[i] := ⟨_, rfl⟩
    rw [← hs] at hn hg hsc hls
    clear hs
    have hge := smsMuch_ge most (l.drop (i + 1)) (n + s.much most)
    have hsm := s.much_le most
    have hse := s.much_eq most
    have m1 := s.e.much_le most
    have m2 := s.a.much_le most
    have m3 := argsMuch_le most s.args
    have m4 := smsMuch_le most _ s.body 0 (Nat.le_refl _)
    have m5 := smsMuch_le most _ s.els 0 (Nat.le_refl _)
    refine awp_cutA (fun f H' => H = H' ∧ f 0 = Sm.sl l ∧ f 1 = I most ∧ f 6 = I i ∧ f 5 = I (n + s.much most : Nat)) ?_ ?_
    rotate_left
    · clear g g0 g1 g5 g6
      rintro g _ ⟨rfl, g0, g1, g6, g5⟩
      obtain ⟨N, hN⟩ : ∃ N, N = n + s.much most := ⟨_, rfl⟩
      rw [← hN] at g5 hn
      refine awp_all (fun _ => false) (fun _ => none) (by kernel_rfl) ?_
      simp -dsimp [g0, g1, g5, g6]
      first
        | exact ⟨i + 1, by omega, wrapS (by omega), by omega, N, rfl, hn⟩
        | exact ⟨i + 1, by omega, wrapS (by omega), by omega, hn⟩
    refine awp_block ?_
    have x1 := fun H => mexpr_ok most _ s.e (Nat.le_refl _) (by omega) H
    have x2 := fun H => mexpr_ok most _ s.a (Nat.le_refl _) (by omega) H
    simp only [Ex.cells_eq] at x1 x2
    obtain ⟨n1, hn1⟩ : ∃ n1, n1 = n + 1 + s.names.length + s.e.much most + s.a.much most := ⟨_, rfl⟩
    refine awp_cut (fun _ => false) (fun _ => none) (fun f H' => H = H' ∧ f 0 = Sm.sl l ∧ f 1 = I most ∧ f 6 = I i ∧ f 5 = I n1) (by kernel_rfl) ?_ ?_
    · have w1 : IntKind.i64.wrap ((n : Int) + 1) = (n : Int) + 1 := wrapI (by omega) (by omega)
      have w2 : IntKind.i64.wrap ((n : Int) + 1 + s.names.length) = (n : Int) + 1 + s.names.length := wrapI (by omega) (by omega)
      have w3 : IntKind.i64.wrap ((n : Int) + 1 + s.names.length + (s.e.much most : Nat)) = (n : Int) + 1 + s.names.length + (s.e.much most : Nat) := wrapI (by omega) (by omega)
      have w4 : IntKind.i64.wrap ((n : Int) + 1 + s.names.length + (s.e.much most : Nat) + (s.a.much most : Nat)) = (n1 : Int) := by rw [wrapI (by omega) (by omega)]; omega
      simp -dsimp [g0, g1, g5, g6, hls, w1, w2]
      refine callDW_intro (x1 _) ?_
      simp -dsimp [g0, g1, g5, g6, hls, w1, w2, w3]
      refine callDW_intro (x2 _) ?_
      simp -dsimp [g0, g1, g5, g6, w1, w2, w3, w4]
    clear g g0 g1 g5 g6
    rintro g _ ⟨rfl, g0, g1, g6, g5⟩
    have hla := exs_len s.args
    refine awp_cut (fun _ => false) (fun _ => none) (fun f H' => H = H' ∧ f 0 = Sm.sl l ∧ f 1 = I most ∧ f 6 = I i ∧ f 5 = I (n1 + argsMuch most s.args : Nat)) (by kernel_rfl) ?_ ?_
    · simp -dsimp [g0, g1, g5, g6]
      refine loop_rule (hn := fun _ => false) (od := fun _ => none) (fun (j : Nat) f H' => H = H' ∧ f 0 = Sm.sl l ∧ f 1 = I most ∧ f 6 = I i ∧ f 7 = I j ∧ j ≤ s.args.length ∧ ∃ q : Nat, f 5 = I q ∧ q + argsMuch most (s.args.drop j) = n1 + argsMuch most s.args) (fun j => s.args.length - j) (by kernel_rfl) 0 (by simp [g0, g1, g5, g6]) ?_
      clear g g0 g1 g5 g6
      rintro j g _ ⟨rfl, g0, g1, g6, g7, hj, q, g5, hq⟩
      simp -dsimp [g0, g1, g5, g6, g7, hls]
      refine condVW_introD (fun hjt => ?_) (fun hjt => ?_)
      · rw [drop_cons hjt, argsMuch] at hq
        have hxg := exs_get hjt
        have x3 := fun H => mexpr_ok most _ s.args[j] (Nat.le_refl _) (by omega) H
        have m6 := s.args[j].much_le most
        simp only [Ex.cells_eq] at x3
        have w : IntKind.i64.wrap ((q : Int) + (s.args[j].much most : Nat)) = ((q + s.args[j].much most : Nat) : Int) := by rw [wrapI (by omega) (by omega)]; rfl
        simp -dsimp [g0, g1, g5, g6, g7, hls, List.getElem?_eq_getElem, hjt]
        refine acallsW_det (x3 _) ?_
        simp -dsimp [g0, g1, g5, g6, g7]
        exact ⟨j + 1, by omega, wrapS (by omega), by omega, _, w, by omega⟩
      · rw [drop_end hjt, argsMuch] at hq
        simp -dsimp [g0, g1, g5, g6]
        omega
    clear g g0 g1 g5 g6
    rintro g _ ⟨rfl, g0, g1, g6, g5⟩
    obtain ⟨n2, hn2⟩ : ∃ n2, n2 = n1 + argsMuch most s.args := ⟨_, rfl⟩
    rw [← hn2] at g5
    have cb := fun H => ih s.body (by omega) (by omega) H
    have ce := fun H => ih s.els (by omega) (by omega) H
    have w3 : IntKind.i64.wrap ((n2 : Int) + (smsMuch most 0 s.body : Nat)) = ((n2 + smsMuch most 0 s.body : Nat) : Int) := by rw [wrapI (by omega) (by omega)]; rfl
    have w4 : IntKind.i64.wrap (((n2 + smsMuch most 0 s.body : Nat) : Int) + (smsMuch most 0 s.els : Nat)) = ((n2 + smsMuch most 0 s.body + smsMuch most 0 s.els : Nat) : Int) := by rw [wrapI (by omega) (by omega)]; rfl
    refine awp_all (fun _ => false) (fun _ => none) (by kernel_rfl) ?_
    simp -dsimp [g0, g1, g5, g6, hls]
    refine callDW_intro (cb _) ?_
    simp -dsimp [g0, g1, g5, g6, hls]
    refine callDW_intro (ce _) ?_
    simp -dsimp [g0, g1, g5, g6]
    rw [w3, w4]
    omega
def smallF (most : Int) : List Fc → Nat → Option Nat
  | [], n => some n
  | f :: l, n => if 200 < f.params.length + f.vars.length + f.rets.length then none else smallF most l (n + smsMuch most 0 f.body)
def smallB (p : Pg) (most : Int) : Bool := if 40 < p.funcs.length ∨ 20 < p.regions.length then false else match smallF most p.funcs 0 with | none => false | some n => decide ((n : Int) ≤ most)
theorem small_ok (p : Pg) (hp : p.Ok2) (most : Int) (H : List Blk) : ACalls Tryz.prog 8 [.agg p.cells, I most] H (fun e H' => e = .ret (Bo (smallB p most)) ∧ H' = H) := by
  refine acalls_tidy (acalls_of_awp Tryz.func8 rfl (by kernel_rfl) ?_)
  obtain ⟨M, hM⟩ : ∃ M, M = H ++ [.box 25 p.cells] := ⟨_, rfl⟩
  have hMp : M[H.length]? = some (.box 25 p.cells) := by rw [hM]; simp
  have hpr := hp.ok.regions
  have hpf := hp.ok.funcs
  obtain ⟨E, hE⟩ : ∃ E, E = smallB p most := ⟨_, rfl⟩
  have fin : ∀ c, c = E → Tidy H (fun x H' => x = .ret (Bo E) ∧ H' = H) (.ret (Bo c)) M := fun c hc => by rw [hM, hc]; exact tidy_same rfl ⟨rfl, rfl⟩
  rw [← hE]
  unfold smallB at hE
  simp only [Pg.cells] at hM hMp
  refine awp_cut (fun _ => false) (fun _ => none) (fun f H' => M = H' ∧ f 2 = .bp H.length 0 ∧ f 1 = I most) (by kernel_rfl) ?_ ?_
  · simp -dsimp [hM]
  clear hM
  rintro g _ ⟨rfl, g2, g1⟩
  refine awp_cut (fun _ => false) (fun _ => none) (fun f H' => M = H' ∧ f 2 = .bp H.length 0 ∧ f 1 = I most ∧ p.funcs.length ≤ 40 ∧ p.regions.length ≤ 20) (by kernel_rfl) ?_ ?_
  · simp -dsimp [g1, g2, hMp]
    refine guardVW_introFD (fun h => ?_) (fun h => ?_)
    · simp -dsimp [g1, g2, hMp, h]
      rw [if_pos (.inl (by omega))] at hE
      exact fin _ hE.symm
    · simp -dsimp [g1, g2, hMp, h]
      refine condVW_introD (fun h2 => ?_) (fun h2 => ?_)
      · simp -dsimp
        rw [if_pos (.inr (by omega))] at hE
        exact fin _ hE.symm
      · simp -dsimp [g1, g2]
        omega
  clear g g1 g2
  rintro g _ ⟨rfl, g2, g1, h40, h20⟩
  rw [if_neg (by omega)] at hE
  refine awp_cut (fun _ => false) (fun _ => none) (fun f H' => M = H' ∧ f 2 = .bp H.length 0 ∧ f 1 = I most ∧ f 5 = I 0) (by kernel_rfl) ?_ ?_
  · simp -dsimp [g1, g2]
  clear g g1 g2
  rintro g _ ⟨rfl, g2, g1, g5⟩
  refine awp_all (fun _ => false) (fun _ => none) (by kernel_rfl) ?_
  simp -dsimp [g1, g2, g5]
  refine loop_rule (hn := fun _ => false) (od := fun _ => none) (fun (i : Nat) f H' => M = H' ∧ f 2 = .bp H.length 0 ∧ f 1 = I most ∧ f 6 = I i ∧ i ≤ p.funcs.length ∧ ∃ n : Nat, f 5 = I n ∧ n ≤ i * 2^36 ∧ smallF most (p.funcs.drop i) n = smallF most p.funcs 0) (fun i => p.funcs.length - i) (by kernel_rfl) 0 (by simp [g1, g2, g5]; exact ⟨0, rfl, rfl, rfl⟩) ?_
  clear g g1 g2 g5
  rintro i g _ ⟨rfl, g2, g1, g6, hi, n, g5, hnb, hn⟩
  simp -dsimp [g1, g2, g5, g6, hMp]
  refine condVW_introD (fun hlt => ?_) (fun hlt => ?_)
  · rw [drop_cons hlt, smallF] at hn
    have hb := hp.body36 _ (List.getElem_mem hlt)
    have h1 := hp.ok.params _ (List.getElem_mem hlt)
    have h2 := hp.ok.vars _ (List.getElem_mem hlt)
    have h3 := hp.ok.rets _ (List.getElem_mem hlt)
    have hfi : p.funcs[i]? = some p.funcs[i] := List.getElem?_eq_getElem hlt
    obtain ⟨F, hF⟩ : ∃ F, F = p.funcs[i] := ⟨_, rfl⟩
    rw [← hF] at hn hb h1 h2 h3 hfi
    clear hF
    have w1 : IntKind.i64.wrap ((F.params.length : Int) + F.vars.length) = (F.params.length : Int) + F.vars.length := wrapI (by omega) (by omega)
    have w2 : IntKind.i64.wrap ((F.params.length : Int) + F.vars.length + F.rets.length) = (F.params.length : Int) + F.vars.length + F.rets.length := wrapI (by omega) (by omega)
    have cm := fun H => much_ok most _ F.body (Nat.lt_succ_self _) (by omega) H
    have hml := smsMuch_le most _ F.body 0 (Nat.le_refl _)
    have w3 : IntKind.i64.wrap ((n : Int) + (smsMuch most 0 F.body : Nat)) = ((n + smsMuch most 0 F.body : Nat) : Int) := by rw [wrapI (by omega) (by omega)]; rfl
    simp -dsimp [g1, g2, g5, g6, hMp, hfi, w1, w2]
    refine condVW_introD (fun h => ?_) (fun h => ?_)
    · rw [if_pos (by omega)] at hn
      simp -dsimp
      exact fin _ (by rw [hE, ← hn])
    · rw [if_neg (by omega)] at hn
      simp -dsimp [g1, g2, g5, g6, hMp, hfi]
      refine acallsW_det (cm _) ?_
      simp -dsimp [g1, g2, g5, g6]
      exact ⟨i + 1, by omega, wrapS (by omega), by omega, _, w3, by omega, hn⟩
  · rw [drop_end hlt, smallF] at hn
    simp -dsimp [g1, g2, g5]
    exact fin _ (by rw [hE, ← hn])
end Go.Proofs
namespace Go.Proofs
open Go.Mu
end Go.Proofs
