/- The document's layer 7: is a program small. -/
import Derived.Test.YtfoghfmmcogheaaFwVtoFR3
import Derived.Test.YtfoghfmmcogheaaFR9toFA1
set_option linter.unusedVariables false
set_option linter.unusedSimpArgs false
set_option maxHeartbeats 4000000
set_option maxRecDepth 100000
namespace Go.Proofs
open Go.Mu
mutual
def Ex.much (most : Int) : Ex → Nat
  | .mk _ _ _ args => exsMuch most 1 args
def exsMuch (most : Int) (n : Nat) : List Ex → Nat
  | [] => n
  | e :: l => if (n : Int) ≤ most then exsMuch most (n + e.much most) l else n
end
theorem Ex.much_eq (most : Int) (e : Ex) : e.much most = exsMuch most 1 e.args := by cases e; rw [Ex.much]; rfl
theorem exsMuch_le (most : Int) (m : Nat) : ∀ (l : List Ex) (n : Nat), exsCount l ≤ m → exsMuch most n l ≤ n + exsCount l := by
  induction m with
  | zero => intro l n hl; have := exs_len l; have : l = [] := List.eq_nil_of_length_eq_zero (by omega); subst this; simp [exsMuch]
  | succ m ih =>
    intro l
    induction l with
    | nil => intro n _; simp [exsMuch]
    | cons e l ihl =>
      intro n hl
      simp only [exsCount] at hl ⊢
      have he := Ex.count_eq e
      rw [exsMuch]
      split
      · have h1 := ihl (n + e.much most) (by omega)
        have h2 := ih e.args 1 (by omega)
        rw [Ex.much_eq] at h1 ⊢
        omega
      · omega
theorem Ex.much_le (most : Int) (e : Ex) : e.much most ≤ e.count := by
  rw [Ex.much_eq, Ex.count_eq]; have := exsMuch_le most _ e.args 1 (Nat.le_refl _); omega
def argsMuch (most : Int) : List Ex → Nat
  | [] => 0
  | e :: l => e.much most + argsMuch most l
theorem argsMuch_le (most : Int) : ∀ l, argsMuch most l ≤ exsCount l
  | [] => by simp [argsMuch]
  | e :: l => by simp only [argsMuch, exsCount]; have := e.much_le most; have := argsMuch_le most l; omega
mutual
def Sm.much (most : Int) : Sm → Nat
  | .mk _ _ ns e a args _ _ body els => 1 + ns.length + e.much most + a.much most + argsMuch most args + (smsMuch most 0 body + smsMuch most 0 els)
def smsMuch (most : Int) (n : Nat) : List Sm → Nat
  | [] => n
  | s :: l => if (n : Int) ≤ most then smsMuch most (n + s.much most) l else n
end
theorem Sm.much_eq (most : Int) (s : Sm) : s.much most = 1 + s.names.length + s.e.much most + s.a.much most + argsMuch most s.args + (smsMuch most 0 s.body + smsMuch most 0 s.els) := by cases s; rw [Sm.much]; rfl
theorem smsMuch_le (most : Int) (m : Nat) : ∀ (l : List Sm) (n : Nat), smsCount l ≤ m → smsMuch most n l ≤ n + smsCount l := by
  induction m with
  | zero => intro l n hl; have := sms_len l; have : l = [] := List.eq_nil_of_length_eq_zero (by omega); subst this; simp [smsMuch]
  | succ m ih =>
    intro l
    induction l with
    | nil => intro n _; simp [smsMuch]
    | cons s l ihl =>
      intro n hl
      simp only [smsCount] at hl ⊢
      have he := Sm.count_eq s
      rw [smsMuch]
      split
      · have h1 := ihl (n + s.much most) (by omega)
        have h2 := ih s.body 0 (by omega)
        have h3 := ih s.els 0 (by omega)
        have h4 := s.e.much_le most
        have h5 := s.a.much_le most
        have h6 := argsMuch_le most s.args
        rw [Sm.much_eq] at h1 ⊢
        omega
      · omega
theorem Sm.much_le (most : Int) (s : Sm) : s.much most ≤ s.count := by
  rw [Sm.much_eq, Sm.count_eq]
  have h2 := smsMuch_le most _ s.body 0 (Nat.le_refl _)
  have h3 := smsMuch_le most _ s.els 0 (Nat.le_refl _)
  have h4 := s.e.much_le most
  have h5 := s.a.much_le most
  have h6 := argsMuch_le most s.args
  omega
theorem mexpr_ok (most : Int) (m : Nat) : ∀ (e : Ex), e.count ≤ m → e.count ≤ 2^40 → ∀ (H : List Blk),
    ACalls Try.prog 16 [.agg e.cells, I most] H (fun x H' => x = .ret (I (e.much most)) ∧ H' = H) := by
  induction m with
  | zero => intro e h; have := Ex.count_eq e; omega
  | succ m ih =>
    intro e hm hc H
    refine acalls_tidy (acalls_of_vc (hn := fun _ => false) (od := fun _ => none) Try.func16 rfl (by kernel_rfl) ?_)
    have hce := Ex.count_eq e
    have hla := exs_len e.args
    have hml := e.much_le most
    obtain ⟨M, hM⟩ : ∃ M, M = H ++ [.box 62 e.cells] := ⟨_, rfl⟩
    have hMe : M[H.length]? = some (.box 62 e.cells) := by rw [hM]; simp
    obtain ⟨E, hE⟩ : ∃ E, E = e.much most := ⟨_, rfl⟩
    have fin : ∀ c : Int, c = (E : Int) → Tidy H (fun x H' => x = .ret (I E) ∧ H' = H) (.ret (I c)) M := fun c hc => by rw [hM, hc]; exact tidy_same rfl ⟨rfl, rfl⟩
    rw [← hE] at hml ⊢
    rw [Ex.much_eq] at hE
    simp only [Ex.cells_eq] at hM hMe
    simp -dsimp
    rw [← hM]
    refine loop_rule (hn := fun _ => false) (od := fun _ => none) (fun (i : Nat) f H' => M = H' ∧ f 2 = .bp H.length 0 ∧ f 1 = I most ∧ f 6 = I i ∧ i ≤ e.args.length ∧ ∃ n : Nat, f 5 = I n ∧ n ≤ 2^41 ∧ exsMuch most n (e.args.drop i) = E) (fun i => e.args.length - i) (by kernel_rfl) 0 (by simp [hE]; exact ⟨1, rfl, by omega, rfl⟩) ?_
    clear hM hE
    rintro i g _ ⟨rfl, g2, g1, g6, hi, n, g5, hnb, hn⟩
    simp -dsimp [g1, g2, g5, g6, hMe]
    refine guardVW_introTD (fun hlt => ?_) (fun hlt => ?_)
    · rw [drop_cons hlt, exsMuch] at hn
      simp -dsimp [g1, g2, g5, g6, hMe, hlt]
      refine condVW_introD (fun hle => ?_) (fun hle => ?_)
      · rw [if_pos hle] at hn
        have hg := exs_get hlt
        have cr := fun H => ih e.args[i] (by omega) (by omega) H
        have hml2 := e.args[i].much_le most
        have hnE : n + e.args[i].much most ≤ 2^41 := by
          have : ∀ (l : List Ex) (q : Nat), q ≤ exsMuch most q l := by
            intro l
            induction l with
            | nil => intro q; simp [exsMuch]
            | cons a l ihl => intro q; rw [exsMuch]; split; have := ihl (q + a.much most); omega; exact Nat.le_refl _
          have := this (e.args.drop (i + 1)) (n + e.args[i].much most)
          omega
        simp only [Ex.cells_eq] at cr
        have w3 : IntKind.i64.wrap ((n : Int) + (e.args[i].much most : Nat)) = ((n + e.args[i].much most : Nat) : Int) := by rw [wrapI (by omega) (by omega)]; rfl
        simp -dsimp [g1, g2, g5, g6, hMe, List.getElem?_eq_getElem, hlt]
        refine acallsW_det (cr _) ?_
        simp -dsimp [g1, g2, g5, g6]
        exact ⟨i + 1, by omega, wrapS (by omega), by omega, _, w3, hnE, hn⟩
      · rw [if_neg hle] at hn
        simp -dsimp [g5]
        exact fin _ (by omega)
    · rw [drop_end hlt, exsMuch] at hn
      simp -dsimp [g5, hlt]
      exact fin _ (by omega)
end Go.Proofs
namespace Go.Proofs
open Go.Mu
theorem smsMuch_ge (most : Int) : ∀ (l : List Sm) (q : Nat), q ≤ smsMuch most q l
  | [], q => by simp [smsMuch]
  | s :: l, q => by rw [smsMuch]; split; have := smsMuch_ge most l (q + s.much most); omega; exact Nat.le_refl _
theorem much_ok (most : Int) (m : Nat) : ∀ (l : List Sm), smsCount l < m → smsCount l ≤ 2^40 → ∀ (H : List Blk),
    ACalls Try.prog 10 [Sm.sl l, I most] H (fun x H' => x = .ret (I (smsMuch most 0 l)) ∧ H' = H) := by
  induction m with
  | zero => intro l h; omega
  | succ m ih =>
    intro l hm hc H
    refine acalls_of_awp Try.func10 rfl (by kernel_rfl) ?_
    have hlen := sms_len l
    have hml := smsMuch_le most _ l 0 (Nat.le_refl _)
    obtain ⟨E, hE⟩ : ∃ E, E = smsMuch most 0 l := ⟨_, rfl⟩
    rw [← hE] at hml ⊢
    refine awp_cut (fun _ => false) (fun _ => none) (fun f H' => H = H' ∧ f 0 = Sm.sl l ∧ f 1 = I most) (by kernel_rfl) ?_ ?_
    · simp -dsimp
    rintro g _ ⟨rfl, g0, g1⟩
    refine awp_cut (fun _ => false) (fun _ => none) (fun f H' => H = H' ∧ f 0 = Sm.sl l ∧ f 1 = I most ∧ f 5 = I 0) (by kernel_rfl) ?_ ?_
    · simp -dsimp [g0, g1]
    clear g g0 g1
    rintro g _ ⟨rfl, g0, g1, g5⟩
    refine awp_cutA (fun f H' => H = H' ∧ f 5 = I E) ?_ ?_
    rotate_left
    · clear g g0 g1 g5
      rintro g _ ⟨rfl, g5⟩
      refine awp_all (fun _ => false) (fun _ => none) (by kernel_rfl) ?_
      simp -dsimp [g5]
    refine awp_cut (fun _ => false) (fun _ => none) (fun f H' => H = H' ∧ f 0 = Sm.sl l ∧ f 1 = I most ∧ f 5 = I 0 ∧ f 6 = I 0) (by kernel_rfl) ?_ ?_
    · simp -dsimp [g0, g1, g5]
    clear g g0 g1 g5
    rintro g _ ⟨rfl, g0, g1, g5, g6⟩
    refine awp_block ?_
    refine awp_loopI (fun (i : Nat) f H' => H = H' ∧ f 0 = Sm.sl l ∧ f 1 = I most ∧ f 6 = I i ∧ i ≤ l.length ∧ ∃ n : Nat, f 5 = I n ∧ smsMuch most n (l.drop i) = E) (fun i => l.length - i) 0 ⟨rfl, g0, g1, g6, by omega, 0, g5, by rw [hE]; simp⟩ ?_
    clear g g0 g1 g5 g6
    rintro i g _ ⟨rfl, g0, g1, g6, hi, n, g5, hn⟩
    refine awp_cut (fun _ => false) (fun _ => none) (fun f H' => H = H' ∧ f 0 = Sm.sl l ∧ f 1 = I most ∧ f 6 = I i ∧ f 5 = I n ∧ i < l.length ∧ (n : Int) ≤ most) (by kernel_rfl) ?_ ?_
    · simp -dsimp [g0, g1, g5, g6]
      refine guardVW_introTD (fun hlt => ?_) (fun hlt => ?_)
      · rw [drop_cons hlt, smsMuch] at hn
        simp -dsimp [g0, g1, g5, g6, hlt]
        refine condVW_introD (fun hle => ?_) (fun hle => ?_)
        · simp -dsimp [g0, g1, g5, g6]
          first
            | exact ⟨hlt, hle⟩
            | exact hle
        · rw [if_neg hle] at hn
          simp -dsimp [g5]
          omega
      · rw [drop_end hlt, smsMuch] at hn
        simp -dsimp [g5, hlt]
        omega
    clear g g0 g1 g5 g6
    rintro g _ ⟨rfl, g0, g1, g6, g5, hlt, hle⟩
    rw [drop_cons hlt, smsMuch, if_pos hle] at hn
    have hg := sms_get hlt
    have hsc := Sm.count_eq l[i]
    have hls : l[i]? = some l[i] := List.getElem?_eq_getElem hlt
    obtain ⟨s, hs⟩ : ∃ s, s = l[i] := ⟨_, rfl⟩
    rw [← hs] at hn hg hsc hls
    clear hs
    have hge := smsMuch_ge most (l.drop (i + 1)) (n + s.much most)
    have hsm := s.much_le most
    have hse := s.much_eq most
    have m1 := s.e.much_le most
    have m2 := s.a.much_le most
    have m3 := argsMuch_le most s.args
    have m4 := smsMuch_le most _ s.body 0 (Nat.le_refl _)
    have m5 := smsMuch_le most _ s.els 0 (Nat.le_refl _)
    refine awp_cutA (fun f H' => H = H' ∧ f 0 = Sm.sl l ∧ f 1 = I most ∧ f 6 = I i ∧ f 5 = I (n + s.much most : Nat)) ?_ ?_
    rotate_left
    · clear g g0 g1 g5 g6
      rintro g _ ⟨rfl, g0, g1, g6, g5⟩
      obtain ⟨N, hN⟩ : ∃ N, N = n + s.much most := ⟨_, rfl⟩
      rw [← hN] at g5 hn
      refine awp_all (fun _ => false) (fun _ => none) (by kernel_rfl) ?_
      simp -dsimp [g0, g1, g5, g6]
      first
        | exact ⟨i + 1, by omega, wrapS (by omega), by omega, N, rfl, hn⟩
        | exact ⟨i + 1, by omega, wrapS (by omega), by omega, hn⟩
    refine awp_block ?_
    have x1 := fun H => mexpr_ok most _ s.e (Nat.le_refl _) (by omega) H
    have x2 := fun H => mexpr_ok most _ s.a (Nat.le_refl _) (by omega) H
    simp only [Ex.cells_eq] at x1 x2
    obtain ⟨n1, hn1⟩ : ∃ n1, n1 = n + 1 + s.names.length + s.e.much most + s.a.much most := ⟨_, rfl⟩
    refine awp_cut (fun _ => false) (fun _ => none) (fun f H' => H = H' ∧ f 0 = Sm.sl l ∧ f 1 = I most ∧ f 6 = I i ∧ f 5 = I n1) (by kernel_rfl) ?_ ?_
    · have w1 : IntKind.i64.wrap ((n : Int) + 1) = (n : Int) + 1 := wrapI (by omega) (by omega)
      have w2 : IntKind.i64.wrap ((n : Int) + 1 + s.names.length) = (n : Int) + 1 + s.names.length := wrapI (by omega) (by omega)
      have w3 : IntKind.i64.wrap ((n : Int) + 1 + s.names.length + (s.e.much most : Nat)) = (n : Int) + 1 + s.names.length + (s.e.much most : Nat) := wrapI (by omega) (by omega)
      have w4 : IntKind.i64.wrap ((n : Int) + 1 + s.names.length + (s.e.much most : Nat) + (s.a.much most : Nat)) = (n1 : Int) := by rw [wrapI (by omega) (by omega)]; omega
      simp -dsimp [g0, g1, g5, g6, hls, w1, w2]
      refine callDW_intro (x1 _) ?_
      simp -dsimp [g0, g1, g5, g6, hls, w1, w2, w3]
      refine callDW_intro (x2 _) ?_
      simp -dsimp [g0, g1, g5, g6, w1, w2, w3, w4]
    clear g g0 g1 g5 g6
    rintro g _ ⟨rfl, g0, g1, g6, g5⟩
    have hla := exs_len s.args
    refine awp_cut (fun _ => false) (fun _ => none) (fun f H' => H = H' ∧ f 0 = Sm.sl l ∧ f 1 = I most ∧ f 6 = I i ∧ f 5 = I (n1 + argsMuch most s.args : Nat)) (by kernel_rfl) ?_ ?_
    · simp -dsimp [g0, g1, g5, g6]
      refine loop_rule (hn := fun _ => false) (od := fun _ => none) (fun (j : Nat) f H' => H = H' ∧ f 0 = Sm.sl l ∧ f 1 = I most ∧ f 6 = I i ∧ f 7 = I j ∧ j ≤ s.args.length ∧ ∃ q : Nat, f 5 = I q ∧ q + argsMuch most (s.args.drop j) = n1 + argsMuch most s.args) (fun j => s.args.length - j) (by kernel_rfl) 0 (by simp [g0, g1, g5, g6]) ?_
      clear g g0 g1 g5 g6
      rintro j g _ ⟨rfl, g0, g1, g6, g7, hj, q, g5, hq⟩
      simp -dsimp [g0, g1, g5, g6, g7, hls]
      refine condVW_introD (fun hjt => ?_) (fun hjt => ?_)
      · rw [drop_cons hjt, argsMuch] at hq
        have hxg := exs_get hjt
        have x3 := fun H => mexpr_ok most _ s.args[j] (Nat.le_refl _) (by omega) H
        have m6 := s.args[j].much_le most
        simp only [Ex.cells_eq] at x3
        have w : IntKind.i64.wrap ((q : Int) + (s.args[j].much most : Nat)) = ((q + s.args[j].much most : Nat) : Int) := by rw [wrapI (by omega) (by omega)]; rfl
        simp -dsimp [g0, g1, g5, g6, g7, hls, List.getElem?_eq_getElem, hjt]
        refine acallsW_det (x3 _) ?_
        simp -dsimp [g0, g1, g5, g6, g7]
        exact ⟨j + 1, by omega, wrapS (by omega), by omega, _, w, by omega⟩
      · rw [drop_end hjt, argsMuch] at hq
        simp -dsimp [g0, g1, g5, g6]
        omega
    clear g g0 g1 g5 g6
    rintro g _ ⟨rfl, g0, g1, g6, g5⟩
    obtain ⟨n2, hn2⟩ : ∃ n2, n2 = n1 + argsMuch most s.args := ⟨_, rfl⟩
    rw [← hn2] at g5
    have cb := fun H => ih s.body (by omega) (by omega) H
    have ce := fun H => ih s.els (by omega) (by omega) H
    have w3 : IntKind.i64.wrap ((n2 : Int) + (smsMuch most 0 s.body : Nat)) = ((n2 + smsMuch most 0 s.body : Nat) : Int) := by rw [wrapI (by omega) (by omega)]; rfl
    have w4 : IntKind.i64.wrap (((n2 + smsMuch most 0 s.body : Nat) : Int) + (smsMuch most 0 s.els : Nat)) = ((n2 + smsMuch most 0 s.body + smsMuch most 0 s.els : Nat) : Int) := by rw [wrapI (by omega) (by omega)]; rfl
    refine awp_all (fun _ => false) (fun _ => none) (by kernel_rfl) ?_
    simp -dsimp [g0, g1, g5, g6, hls]
    refine callDW_intro (cb _) ?_
    simp -dsimp [g0, g1, g5, g6, hls]
    refine callDW_intro (ce _) ?_
    simp -dsimp [g0, g1, g5, g6]
    rw [w3, w4]
    omega
def smallF (most : Int) : List Fc → Nat → Option Nat
  | [], n => some n
  | f :: l, n => if 200 < f.params.length + f.vars.length + f.rets.length then none else smallF most l (n + smsMuch most 0 f.body)
def smallB (p : Pg) (most : Int) : Bool := if 40 < p.funcs.length ∨ 20 < p.regions.length then false else match smallF most p.funcs 0 with | none => false | some n => decide ((n : Int) ≤ most)
theorem small_ok (p : Pg) (hp : p.Ok2) (most : Int) (H : List Blk) : ACalls Try.prog 4 [.agg p.cells, I most] H (fun e H' => e = .ret (Bo (smallB p most)) ∧ H' = H) := by
  refine acalls_tidy (acalls_of_awp Try.func4 rfl (by kernel_rfl) ?_)
  obtain ⟨M, hM⟩ : ∃ M, M = H ++ [.box 25 p.cells] := ⟨_, rfl⟩
  have hMp : M[H.length]? = some (.box 25 p.cells) := by rw [hM]; simp
  have hpr := hp.ok.regions
  have hpf := hp.ok.funcs
  obtain ⟨E, hE⟩ : ∃ E, E = smallB p most := ⟨_, rfl⟩
  have fin : ∀ c, c = E → Tidy H (fun x H' => x = .ret (Bo E) ∧ H' = H) (.ret (Bo c)) M := fun c hc => by rw [hM, hc]; exact tidy_same rfl ⟨rfl, rfl⟩
  rw [← hE]
  unfold smallB at hE
  simp only [Pg.cells] at hM hMp
  refine awp_cut (fun _ => false) (fun _ => none) (fun f H' => M = H' ∧ f 2 = .bp H.length 0 ∧ f 1 = I most) (by kernel_rfl) ?_ ?_
  · simp -dsimp [hM]
  clear hM
  rintro g _ ⟨rfl, g2, g1⟩
  refine awp_cut (fun _ => false) (fun _ => none) (fun f H' => M = H' ∧ f 2 = .bp H.length 0 ∧ f 1 = I most ∧ p.funcs.length ≤ 40 ∧ p.regions.length ≤ 20) (by kernel_rfl) ?_ ?_
  · simp -dsimp [g1, g2, hMp]
    refine guardVW_introFD (fun h => ?_) (fun h => ?_)
    · simp -dsimp [g1, g2, hMp, h]
      rw [if_pos (.inl (by omega))] at hE
      exact fin _ hE.symm
    · simp -dsimp [g1, g2, hMp, h]
      refine condVW_introD (fun h2 => ?_) (fun h2 => ?_)
      · simp -dsimp
        rw [if_pos (.inr (by omega))] at hE
        exact fin _ hE.symm
      · simp -dsimp [g1, g2]
        omega
  clear g g1 g2
  rintro g _ ⟨rfl, g2, g1, h40, h20⟩
  rw [if_neg (by omega)] at hE
  refine awp_cut (fun _ => false) (fun _ => none) (fun f H' => M = H' ∧ f 2 = .bp H.length 0 ∧ f 1 = I most ∧ f 5 = I 0) (by kernel_rfl) ?_ ?_
  · simp -dsimp [g1, g2]
  clear g g1 g2
  rintro g _ ⟨rfl, g2, g1, g5⟩
  refine awp_all (fun _ => false) (fun _ => none) (by kernel_rfl) ?_
  simp -dsimp [g1, g2, g5]
  refine loop_rule (hn := fun _ => false) (od := fun _ => none) (fun (i : Nat) f H' => M = H' ∧ f 2 = .bp H.length 0 ∧ f 1 = I most ∧ f 6 = I i ∧ i ≤ p.funcs.length ∧ ∃ n : Nat, f 5 = I n ∧ n ≤ i * 2^36 ∧ smallF most (p.funcs.drop i) n = smallF most p.funcs 0) (fun i => p.funcs.length - i) (by kernel_rfl) 0 (by simp [g1, g2, g5]; exact ⟨0, rfl, rfl, rfl⟩) ?_
  clear g g1 g2 g5
  rintro i g _ ⟨rfl, g2, g1, g6, hi, n, g5, hnb, hn⟩
  simp -dsimp [g1, g2, g5, g6, hMp]
  refine condVW_introD (fun hlt => ?_) (fun hlt => ?_)
  · rw [drop_cons hlt, smallF] at hn
    have hb := hp.body36 _ (List.getElem_mem hlt)
    have h1 := hp.ok.params _ (List.getElem_mem hlt)
    have h2 := hp.ok.vars _ (List.getElem_mem hlt)
    have h3 := hp.ok.rets _ (List.getElem_mem hlt)
    have hfi : p.funcs[i]? = some p.funcs[i] := List.getElem?_eq_getElem hlt
    obtain ⟨F, hF⟩ : ∃ F, F = p.funcs[i] := ⟨_, rfl⟩
    rw [← hF] at hn hb h1 h2 h3 hfi
    clear hF
    have w1 : IntKind.i64.wrap ((F.params.length : Int) + F.vars.length) = (F.params.length : Int) + F.vars.length := wrapI (by omega) (by omega)
    have w2 : IntKind.i64.wrap ((F.params.length : Int) + F.vars.length + F.rets.length) = (F.params.length : Int) + F.vars.length + F.rets.length := wrapI (by omega) (by omega)
    have cm := fun H => much_ok most _ F.body (Nat.lt_succ_self _) (by omega) H
    have hml := smsMuch_le most _ F.body 0 (Nat.le_refl _)
    have w3 : IntKind.i64.wrap ((n : Int) + (smsMuch most 0 F.body : Nat)) = ((n + smsMuch most 0 F.body : Nat) : Int) := by rw [wrapI (by omega) (by omega)]; rfl
    simp -dsimp [g1, g2, g5, g6, hMp, hfi, w1, w2]
    refine condVW_introD (fun h => ?_) (fun h => ?_)
    · rw [if_pos (by omega)] at hn
      simp -dsimp
      exact fin _ (by rw [hE, ← hn])
    · rw [if_neg (by omega)] at hn
      simp -dsimp [g1, g2, g5, g6, hMp, hfi]
      refine acallsW_det (cm _) ?_
      simp -dsimp [g1, g2, g5, g6]
      exact ⟨i + 1, by omega, wrapS (by omega), by omega, _, w3, by omega, hn⟩
  · rw [drop_end hlt, smallF] at hn
    simp -dsimp [g1, g2, g5]
    exact fin _ (by rw [hE, ← hn])
end Go.Proofs
namespace Go.Proofs
open Go.Mu
theorem larr_own (p : Pg) (F : Fc) (hF : p.funcs[0]? = some F) (hv : F.vars.length ≤ 2^36) (H : List Blk) : ACalls Try.prog 8 [.agg p.cells] H (fun e H' => e = .ret (ownS H.length ((stkV F.vars).map Vr.cells)) ∧ H' = H ++ [ownB 42 4 ((stkV F.vars).map Vr.cells)]) := by
  refine acalls_tidy (acalls_spare 1 (acalls_of_vc (hn := fun d => d == 35) (od := fun _ => none) Try.func8 rfl (by kernel_rfl) ?_))
  obtain ⟨bP, hbP⟩ : ∃ bP, bP = Blk.box 25 [Rg.sl p.regions, Fc.sl p.funcs] := ⟨_, rfl⟩
  obtain ⟨M, hM⟩ : ∃ M : List Vr → List Blk → List Blk, M = fun l L => H ++ ownB 42 4 (l.map Vr.cells) :: bP :: L := ⟨_, rfl⟩
  have hMe : ∀ l L, M l L = H ++ ownB 42 4 (l.map Vr.cells) :: bP :: L := fun l L => by rw [hM]
  have mA : ∀ l L R, M l L ++ R = M l (L ++ R) := fun l L R => by rw [hMe, hMe]; simp
  have mL : ∀ l L, (M l L).length = H.length + 2 + L.length := fun l L => by rw [hMe]; simp; omega
  have m0 : ∀ l L, (M l L)[H.length]? = some (ownB 42 4 (l.map Vr.cells)) := fun l L => by rw [hMe]; simp
  have m1 : ∀ l L, (M l L)[H.length + 1]? = some (.box 25 [Rg.sl p.regions, Fc.sl p.funcs]) := fun l L => by rw [hMe, ← hbP]; simp
  have s0 : ∀ l L l', (M l L).set H.length (ownB 42 4 (l'.map Vr.cells)) = M l' L := fun l L l' => by rw [hMe, hMe]; simp
  have g0 : H ++ [.pend] ++ [bP] = M [] [] := by rw [hMe]; simp
  have hlen : (H ++ [Blk.pend]).length = H.length + 1 := by simp
  clear hM
  obtain ⟨W, hW⟩ : ∃ W, W = H ++ [Blk.pend] := ⟨_, rfl⟩
  rw [show List.replicate 1 Blk.pend = [.pend] from rfl, ← hW]
  rw [← hW] at g0 hlen
  have hF2 : (p.funcs.map Fc.cells)[0]? = some F.cells := by rw [List.getElem?_map, hF]; rfl
  simp only [Fc.cells] at hF2
  simp -dsimp
  rw [hlen, ← hbP, g0]
  refine loop_rule (hn := fun d => d == 35) (od := fun _ => none) (fun (x : Nat × List Blk) f H' => H' = M (stkV (F.vars.take x.1)) x.2 ∧ f 1 = .bp (H.length + 1) 0 ∧ f 3 = ownS H.length ((stkV (F.vars.take x.1)).map Vr.cells) ∧ f 4 = I x.1 ∧ x.1 ≤ F.vars.length)
    (fun x => F.vars.length - x.1) (by kernel_rfl) (0, []) (by simp [stkV]) ?_
  rintro ⟨i, L⟩ f _ ⟨rfl, f1, f3, f4, hi⟩
  simp only at f3 f4 hi
  simp -dsimp [f1, f3, f4, m1, hF, hF2]
  refine condVW_introD (fun hlt => ?_) (fun hlt => ?_)
  · have hlt' : i < F.vars.length := by omega
    have hx := List.getElem?_eq_getElem hlt'
    have ht := stkV_take hlt'
    obtain ⟨v, hv'⟩ : ∃ v, v = F.vars[i] := ⟨_, rfl⟩
    rw [← hv'] at hx ht
    have w1 : IntKind.i64.wrap ((i : Int) + 1) = ((i + 1 : Nat) : Int) := wrapS (by omega)
    have hl1 := stkV_len (F.vars.take i)
    have hl2 : (F.vars.take i).length ≤ F.vars.length := by simp; omega
    by_cases hk : v.kind = 3
    · have hkb : (v.kind == 3) = true := by simpa using hk
      rw [if_pos hk] at ht
      simp -dsimp [f1, f3, f4, m1, hF, hF2, hx, hkb]
      refine appendVW_own (es := (stkV (F.vars.take i)).map Vr.cells) (by exact m0 _ _) (by simp; omega) (by simp; omega) ?_
      have hs : (stkV (F.vars.take i)).map Vr.cells ++ [[St v.name, I v.kind, I v.size, Bo v.secret]] = (stkV (F.vars.take (i + 1))).map Vr.cells := by rw [ht]; simp
      rw [hs, s0]
      simp -dsimp [f1, f3, f4]
      exact ⟨i + 1, by omega, ⟨_, rfl⟩, rfl, w1, by omega⟩
    · have hkb : (v.kind == 3) = false := by simpa using hk
      rw [if_neg hk, List.append_nil] at ht
      simp -dsimp [f1, f3, f4, m1, hF, hF2, hx, hkb]
      exact ⟨i + 1, by omega, ⟨_, by rw [ht]⟩, by rw [ht], w1, by omega⟩
  · have : F.vars.take i = F.vars := List.take_of_length_le (by omega)
    rw [this] at f3 ⊢
    simp -dsimp [f3]
    rw [hMe, show H ++ ownB 42 4 ((stkV F.vars).map Vr.cells) :: bP :: L = (H ++ [ownB 42 4 ((stkV F.vars).map Vr.cells)]) ++ (bP :: L) by simp]
    exact tidy_to (H2 := H ++ [ownB 42 4 ((stkV F.vars).map Vr.cells)]) (by simp) (fun hu => underH_appF (by simp) hu (by intro b hb; simp only [List.mem_singleton] at hb; subst hb; exact under_ownB_plain (vrsF_frzB _))) (under_ownS _ _ _ (by simp)) ⟨rfl, rfl⟩
def stackB (S st : Int) : Bool := decide (49152 ≤ st) && decide (st % 16 = 0) && decide (st ≤ 65536 - S)
theorem stack_ok (l : Ly) (h0 : 0 ≤ l.size) (h1 : l.size ≤ 8192) (st : Int) (H : List Blk) : ACalls Try.prog 7 [.agg l.cells, U st] H (fun e H' => e = .ret (Bo (stackB l.size st)) ∧ H' = H) := by
  refine acalls_tidy (acalls_of_vc (hn := fun _ => false) (od := fun _ => none) Try.func7 rfl (by kernel_rfl) ?_)
  have fin : ∀ b L, b = stackB l.size st → Tidy H (fun e H' => e = .ret (Bo (stackB l.size st)) ∧ H' = H) (.ret (Bo b)) (H ++ L) := fun b L h => by rw [h]; exact tidy_same rfl ⟨rfl, rfl⟩
  have w1 : IntKind.i64.wrap (65536 - l.size) = 65536 - l.size := wrapI (by omega) (by omega)
  have w2 : IntKind.u64.wrap (65536 - l.size) = 65536 - l.size := by
    unfold IntKind.wrap; simp [IntKind.bits, IntKind.signed]; omega
  simp -dsimp [h0, h1, w1, w2]
  refine guardVW_introTD (fun q1 => ?_) (fun q1 => ?_)
  · have hm : st.tmod 16 = st % 16 := Int.tmod_eq_emod_of_nonneg (by omega)
    have hm2 : IntKind.u64.wrap (st % 16) = st % 16 := by
      unfold IntKind.wrap; simp [IntKind.bits, IntKind.signed]; omega
    simp -dsimp [h0, h1, w1, w2, q1, hm, hm2]
    refine guardVW_introTE (fun q2 => ?_) (fun q2 q2a q2b => ?_)
    · have q2a : (st % 16 == 0) = true := by simp [q2]
      simp -dsimp [h0, h1, w1, w2, q1, hm, hm2, q2a]
      refine fin _ _ ?_
      simp [stackB, q1, q2]
    · simp -dsimp [h0, h1, w1, w2, q1, hm, hm2, q2a]
      refine fin _ _ ?_
      simp [stackB, q1, q2]
  · simp -dsimp [h0, h1, w1, w2, q1]
    refine fin _ _ ?_
    simp [stackB, q1]
theorem frameApart_ok (p : Pg) (hp : p.OkF) (st : Int) (H : List Blk) : ACalls Try.prog 3 [.agg p.cells, U st] H (fun e H' => e = .ret (Bo true) ∧ H' = H) := by
  refine acalls_tidy (acalls_spare 2 (acalls_of_vc (hn := fun d => d == 60 || d == 130 || d == 134) (od := fun _ => none) Try.func3 rfl (by kernel_rfl) ?_))
  have cs := fun H => small_ok p hp.ok2 500 H
  have cl := fun H => lay_ok p hp H
  have ck := fun H => known_ok H
  simp only [Pg.cells] at cs cl
  have fin : ∀ L, Tidy H (fun e H' => e = AE.ret (Bo true) ∧ H' = H) (.ret (Bo true)) (H ++ L) := fun L => tidy_same rfl ⟨rfl, rfl⟩
  obtain ⟨bP, hbP⟩ : ∃ bP, bP = Blk.box 25 [Rg.sl p.regions, Fc.sl p.funcs] := ⟨_, rfl⟩
  obtain ⟨V, hV⟩ : ∃ V : List Blk → List Blk, V = fun L => H ++ [.pend, .pend, bP] ++ L := ⟨_, rfl⟩
  have hVe : ∀ L, V L = H ++ [.pend, .pend, bP] ++ L := fun L => by rw [hV]
  have vA : ∀ L R, V L ++ R = V (L ++ R) := fun L R => by rw [hVe, hVe]; simp
  have vL : ∀ L, (V L).length = H.length + 3 + L.length := fun L => by rw [hVe]; simp; omega
  have v0 : ∀ L, (V L)[H.length + 2]? = some (.box 25 [Rg.sl p.regions, Fc.sl p.funcs]) := fun L => by rw [hVe, ← hbP]; simp
  have vN : ∀ L X, (V (L ++ [X]))[(V L).length]? = some X := fun L X => by rw [← vA]; simp
  have vN0 : ∀ X, (V [X])[(V []).length]? = some X := fun X => vN [] X
  have vS0 : ∀ X Y, (V [X]).set (V []).length Y = V [Y] := fun X Y => by rw [hVe, hVe, hVe]; simp
  have g0 : H ++ [.pend, .pend, bP] = V [] := by rw [hVe]; simp
  have hfin : ∀ L, Tidy H (fun e H' => e = AE.ret (Bo true) ∧ H' = H) (.ret (Bo true)) (V L) := fun L => by rw [hVe, List.append_assoc]; exact fin _
  simp -dsimp
  rw [← hbP, g0]
  refine acallsW_det (cs _) ?_
  simp -dsimp
  cases hsm : smallB p 500
  · simp -dsimp
    refine acallsW_det (ck _) ?_
    simp -dsimp
    exact hfin _
  simp -dsimp [v0]
  refine acallsW_det (cl _) ?_
  obtain ⟨Lp, hLp⟩ : ∃ Lp, Lp = (layF p).1 := ⟨_, rfl⟩
  obtain ⟨e, he⟩ : ∃ e, e = (layF p).2 := ⟨_, rfl⟩
  rw [← hLp, ← he]
  simp only [Ly.cells]
  simp -dsimp [vA, vN0, vS0]
  refine guardVW_introFNE (fun q1 q1a q1b => ?_) (fun q1 => ?_)
  · simp -dsimp [q1b]
    refine acallsW_det (ck _) ?_
    simp -dsimp
    exact hfin _
  have q1b : (e != 0) = false := by simp [q1]
  have hl0 : (layF p).2 = 0 := by rw [← he]; exact q1
  obtain ⟨F, hF⟩ := lay_in hl0
  have hb := totV_bnd hF.sz
  have h8 := hF.size
  have hu := up16_ge (totV (arrV p))
  have hS : Lp.size = up16 (totV (arrV p)) := by rw [hLp, hF.lay]
  have cst := fun H => stack_ok Lp (by omega) (by omega) st H
  have cw := fun n H => where_ok p hp Lp (by rw [hLp, hF.lay]; simp only [laysV_len]; have := hF.arr.len; rw [hF.arr.arr]; omega) n H
  simp only [Ly.cells, Pg.cells] at cst cw
  simp -dsimp [q1b, vN0]
  refine acallsW_det (cst _) ?_
  simp -dsimp [q1b]
  cases hst : stackB Lp.size st
  · simp -dsimp
    refine acallsW_det (ck _) ?_
    simp -dsimp
    exact hfin _
  simp -dsimp [v0]
  unfold stackB at hst
  simp only [Bool.and_eq_true, decide_eq_true_eq] at hst
  obtain ⟨⟨hs1, hs2⟩, hs3⟩ := hst
  rw [hLp] at hs3
  have hsp := spans_in hl0 hs1 hs2 hs3
  have hwa := fun {i} => where_all st hl0 (i := i)
  have hla := hF.arr.len
  have hvars := hp.vars F (List.mem_of_getElem? hF.arr.fn)
  refine acallsW_of (larr_own p F hF.arr.fn hvars _) ?_
  rintro e1 H1 ⟨rfl, rfl⟩
  rw [← hF.arr.arr]
  rw [← hF.arr.arr] at hla
  have hreg := hp.regions
  obtain ⟨bL, hbL⟩ : ∃ bL, bL = Blk.box 31 [Pl.sl Lp.places, I Lp.size] := ⟨_, rfl⟩
  obtain ⟨M, hM⟩ : ∃ M : List Vr → List Int → List Int → List Blk, M = fun a fr to => H ++ ownB 26 1 (fr.map fun n => [U n]) :: ownB 26 1 (to.map fun n => [U n]) :: bP :: bL :: ownB 42 4 (a.map Vr.cells) :: [] := ⟨_, rfl⟩
  have hMe : ∀ a fr to, M a fr to = H ++ ownB 26 1 (fr.map fun n => [U n]) :: ownB 26 1 (to.map fun n => [U n]) :: bP :: bL :: ownB 42 4 (a.map Vr.cells) :: [] := fun a fr to => by rw [hM]
  have hMV : V [bL] ++ [ownB 42 4 ((arrV p).map Vr.cells)] = M (arrV p) [] [] := by
    have ob : ∀ t sz, ownB t sz [] = .pend := fun t sz => by simp [ownB]
    rw [hMe, hVe, List.map_nil, ob]; simp
  have m2 : ∀ a fr to, (M a fr to)[H.length + 2]? = some (.box 25 [Rg.sl p.regions, Fc.sl p.funcs]) := fun a fr to => by rw [hMe, ← hbP]; simp
  have m3 : ∀ a fr to, (M a fr to)[H.length + 3]? = some (.box 31 [Pl.sl Lp.places, I Lp.size]) := fun a fr to => by rw [hMe, ← hbL]; simp
  have m4 : ∀ a fr to, (M a fr to)[H.length + 4]? = some (ownB 42 4 (a.map Vr.cells)) := fun a fr to => by rw [hMe]; simp
  have m0 : ∀ a fr to, (M a fr to)[H.length]? = some (ownB 26 1 (fr.map fun n => [U n])) := fun a fr to => by rw [hMe]; simp
  have m1 : ∀ a fr to, (M a fr to)[H.length + 1]? = some (ownB 26 1 (to.map fun n => [U n])) := fun a fr to => by rw [hMe]; simp
  have s4 : ∀ a a' fr to, (M a fr to).set (H.length + 4) (ownB 42 4 (a'.map Vr.cells)) = M a' fr to := fun a a' fr to => by rw [hMe, hMe]; simp
  have s0 : ∀ a fr to (fr' : List Int), (M a fr to).set H.length (ownB 26 1 (fr'.map fun n => [U n])) = M a fr' to := fun a fr to fr' => by rw [hMe, hMe]; simp
  have s1 : ∀ a fr to (to' : List Int), (M a fr to).set (H.length + 1) (ownB 26 1 (to'.map fun n => [U n])) = M a fr to' := fun a fr to to' => by rw [hMe, hMe]; simp
  have hMfin : ∀ a fr to, Tidy H (fun e H' => e = AE.ret (Bo true) ∧ H' = H) (.ret (Bo true)) (M a fr to) := fun a fr to => by rw [hMe]; exact fin _
  have l4 : ∀ (a : List Vr) fr to, lenV (M a fr to) 1 (ownS (H.length + 4) (a.map Vr.cells)) = some (a.length : Int) := fun a fr to => by rw [lenV_ownS (m4 a fr to)]; simp
  have l0 : ∀ a (fr : List Int) to, lenV (M a fr to) 1 (ownS H.length (fr.map fun n => [U n])) = some (fr.length : Int) := fun a fr to => by rw [lenV_ownS (m0 a fr to)]; simp
  rw [← hbL, hMV, vL, vL]
  simp only [List.length_nil, List.length_cons, Nat.add_zero, Nat.zero_add, Nat.add_assoc, Nat.reduceAdd]
  clear hM
  simp -dsimp
  refine loop_rule (hn := fun d => d == 60 || d == 130 || d == 134) (od := fun _ => none) (fun (i : Nat) f H' => H' = M (arrV p ++ regV (p.regions.take i)) [] [] ∧ f 1 = U st ∧ f 2 = .bp (H.length + 2) 0 ∧ f 5 = .bp (H.length + 3) 0 ∧ f 7 = ownS (H.length + 4) ((arrV p ++ regV (p.regions.take i)).map Vr.cells) ∧ f 8 = I i ∧ i ≤ p.regions.length)
    (fun i => p.regions.length - i) (by kernel_rfl) 0 ⟨by simp [regV], by simp, by simp, by simp, by simp [regV], by simp, by simp⟩ ?_
  rintro i f _ ⟨rfl, f1, f2, f5, f7, f8, hi⟩
  simp -dsimp [f1, f2, f5, f7, f8, m2]
  refine condVW_introD (fun hlt => ?_) (fun hlt => ?_)
  · have hlt' : i < p.regions.length := by omega
    have hx := List.getElem?_eq_getElem hlt'
    have ht : regV (p.regions.take (i + 1)) = regV (p.regions.take i) ++ [⟨p.regions[i].name, 0, p.regions[i].size, false⟩] := by rw [List.take_succ_eq_append_getElem hlt', regV, regV, List.map_append]; rfl
    have hln : (arrV p ++ regV (p.regions.take i)).length ≤ 64 + 2^36 := by simp [regV]; omega
    obtain ⟨v, hv⟩ : ∃ v, v = p.regions[i] := ⟨_, rfl⟩
    rw [← hv] at hx ht
    have w1 : IntKind.i64.wrap ((i : Int) + 1) = ((i + 1 : Nat) : Int) := wrapS (by omega)
    obtain ⟨a, ha⟩ : ∃ a, a = arrV p ++ regV (p.regions.take i) := ⟨_, rfl⟩
    have ha' : arrV p ++ regV (p.regions.take (i + 1)) = a ++ [⟨v.name, 0, v.size, false⟩] := by rw [ht, ha, List.append_assoc]
    rw [← ha] at f7 hln ⊢
    simp -dsimp [f1, f2, f5, f7, f8, m2, hx]
    refine appendVW_own (es := a.map Vr.cells) (by exact m4 _ _ _) (by simp; omega) (by simp; omega) ?_
    have hs : a.map Vr.cells ++ [[St v.name, I 0, I v.size, Bo false]] = (a ++ [(⟨v.name, 0, v.size, false⟩ : Vr)]).map Vr.cells := by simp
    rw [hs, s4]
    simp -dsimp [f1, f2, f5, f8]
    have ha2 := congrArg (List.map Vr.cells) ha'
    simp only [List.map_append, List.map_cons, List.map_nil, Vr.cells] at ha2
    exact ⟨i + 1, by omega, by rw [ha'], by rw [ha2], w1, by omega⟩
  · have hti : p.regions.take i = p.regions := List.take_of_length_le (by omega)
    rw [hti] at f7 ⊢
    rw [show arrV p ++ regV p.regions = allV p from rfl] at f7 ⊢
    simp -dsimp [f7, l4]
    refine condVW_introD (fun h16 => ?_) (fun h16 => ?_)
    · simp -dsimp
      refine acallsW_det (ck _) ?_
      simp -dsimp
      exact hMfin _ _ _
    simp -dsimp
    obtain ⟨sp, hspe⟩ : ∃ sp, sp = spans st p := ⟨_, rfl⟩
    have hspl : sp.length = (allV p).length := by rw [hspe, spans_len]
    rw [← hspe] at hsp hwa
    obtain ⟨al, hal⟩ : ∃ al, al = allV p := ⟨_, rfl⟩
    rw [← hal] at hwa hspl f7 h16 ⊢
    refine loop_rule (hn := fun d => d == 60 || d == 130 || d == 134) (od := fun _ => none) (fun (i : Nat) f H' => H' = M al ((sp.map Prod.fst).take i) ((sp.map Prod.snd).take i) ∧ f 1 = U st ∧ f 2 = .bp (H.length + 2) 0 ∧ f 5 = .bp (H.length + 3) 0 ∧ f 7 = ownS (H.length + 4) (al.map Vr.cells) ∧
        f 9 = ownS H.length (((sp.map Prod.fst).take i).map fun n => [U n]) ∧ f 10 = ownS (H.length + 1) (((sp.map Prod.snd).take i).map fun n => [U n]) ∧ f 11 = I i ∧ i ≤ al.length)
      (fun i => al.length - i) (by kernel_rfl) 0 ⟨by simp, by simp [f1], by simp [f2], by simp [f5], by simp [f7], by simp, by simp, by simp, by simp⟩ ?_
    clear f1 f2 f5 f7 f8
    rintro i f _ ⟨rfl, f1, f2, f5, f7, f9, f10, f11, hi⟩
    simp -dsimp [f1, f2, f5, f7, f11, l4]
    refine condVW_introD (fun hlt => ?_) (fun hlt => ?_)
    · have hlt' : i < al.length := by omega
      have hx := List.getElem?_eq_getElem hlt'
      obtain ⟨at_, ab, c1, c2, c3, c4, c5, c6⟩ := hwa hlt'
      rw [← hLp] at c1
      have hxs := List.getElem?_eq_getElem (show i < sp.length by omega)
      obtain ⟨v, hv⟩ : ∃ v, v = al[i] := ⟨_, rfl⟩
      rw [← hv] at hx c1 c4 c5 c6
      obtain ⟨a, ha⟩ : ∃ a, a = if ab then at_ + st else at_ := ⟨_, rfl⟩
      rw [← ha] at c6
      have hin := hsp.1 _ (List.mem_of_getElem? c6)
      unfold SpanIn at hin
      simp only at hin
      obtain ⟨i1, i2, i3⟩ := hin
      have hpw : ∀ k (hk : k < i), ∃ x y : Int, (sp.take i)[k]? = some (x, y) ∧ ¬ (a < y ∧ x < a + 8 * v.size) := fun k hk => by
        have hks : k < sp.length := by omega
        refine ⟨sp[k].1, sp[k].2, by rw [List.getElem?_take_of_lt hk, List.getElem?_eq_getElem hks], ?_⟩
        have := (List.pairwise_iff_getElem.1 hsp.2) k i hks (by omega) hk
        rw [List.getElem?_eq_getElem (by omega)] at c6
        rw [Option.some.inj c6] at this
        exact this
      have ht : sp.take (i + 1) = sp.take i ++ [(a, a + 8 * v.size)] := by
        rw [List.take_succ_eq_append_getElem (by omega)]
        congr 2
        rw [List.getElem?_eq_getElem (by omega)] at c6
        exact Option.some.inj c6
      have hne : al.map Vr.cells ≠ [] := by
        intro h; rw [List.map_eq_nil_iff] at h; rw [h] at hlt'; simp at hlt'
      have hA : ownS (H.length + 4) (al.map Vr.cells) = .hs (H.length + 4) 0 al.length al.length := by rw [ownS, if_neg hne]; simp
      have m4 : ∀ fr to, (M al fr to)[H.length + 4]? = some (.row 42 4 (al.map Vr.cells)) := fun fr to => by rw [m4, ownB, if_neg hne]
      rw [hA] at f7
      have w1 : IntKind.i64.wrap ((i : Int) + 1) = ((i + 1 : Nat) : Int) := wrapS (by omega)
      obtain ⟨fr, hfr⟩ : ∃ fr, fr = (sp.map Prod.fst).take i := ⟨_, rfl⟩
      obtain ⟨to, hto⟩ : ∃ to, to = (sp.map Prod.snd).take i := ⟨_, rfl⟩
      have hfr' : (sp.map Prod.fst).take (i + 1) = fr ++ [a] := by rw [← List.map_take, ht, List.map_append, List.map_take, ← hfr]; rfl
      have hto' : (sp.map Prod.snd).take (i + 1) = to ++ [a + 8 * v.size] := by rw [← List.map_take, ht, List.map_append, List.map_take, ← hto]; rfl
      have hfl : fr.length = i := by rw [hfr]; simp; omega
      have htl : to.length = i := by rw [hto]; simp; omega
      have hpw2 : ∀ k < i, ∃ x y : Int, fr[k]? = some x ∧ to[k]? = some y ∧ ¬ (a < y ∧ x < a + 8 * v.size) := fun k hk => by
        obtain ⟨x, y, h1, h2⟩ := hpw k hk
        exact ⟨x, y, by rw [hfr, ← List.map_take, List.getElem?_map, h1]; rfl, by rw [hto, ← List.map_take, List.getElem?_map, h1]; rfl, h2⟩
      rw [← hfr] at f9 ⊢
      rw [← hto] at f10 ⊢
      clear hpw
      have u1 : IntKind.u64.wrap at_ = at_ := by unfold IntKind.wrap; simp [IntKind.bits, IntKind.signed]; omega
      have u2 : IntKind.u64.wrap a = a := by unfold IntKind.wrap; simp [IntKind.bits, IntKind.signed]; omega
      have u3 : IntKind.u64.wrap (8 * v.size) = 8 * v.size := by unfold IntKind.wrap; simp [IntKind.bits, IntKind.signed]; omega
      have u4 : IntKind.u64.wrap (a + 8 * v.size) = a + 8 * v.size := by unfold IntKind.wrap; simp [IntKind.bits, IntKind.signed]; omega
      have u5 : IntKind.i64.wrap (8 * v.size) = 8 * v.size := wrapI (by omega) (by omega)
      have u6 : a.tmod 8 = 0 := by rw [Int.tmod_eq_emod_of_nonneg (by omega)]; omega
      have u7 : ¬ 65536 < a + 8 * v.size := by omega
      simp -dsimp [f1, f2, f5, f7, f11, m2, m3, m4, hx]
      refine ⟨hlt', ?_⟩
      simp -dsimp [f1, f2, f5, f7, f11, m2, m3, m4, hx]
      refine callDW_intro (cw _ _) ?_
      rw [c1]
      simp -dsimp [f1, f2, f5, f7, f11, m2, m3, m4, hx, u1]
      cases ab
      all_goals
        simp only [if_true, if_false, Bool.false_eq_true, ↓reduceIte] at ha
        first | rw [← ha] at u1 c2 c3 | skip
        simp -dsimp [f1, f2, f5, f7, f11, m4, hx, u1, u2, u3, u4, u5, u6, u7, ← ha]
        refine ⟨hlt', ?_⟩
        simp -dsimp [f1, f2, f5, f7, f11, m4, hx, u1, u2, u3, u4, u5, u6, u7, ← ha]
        refine loop_rule (hn := fun d => d == 60 || d == 130 || d == 134) (od := fun _ => none) (fun (k : Nat) f H' => H' = M al fr to ∧ f 1 = U st ∧ f 2 = .bp (H.length + 2) 0 ∧ f 5 = .bp (H.length + 3) 0 ∧ f 7 = .hs (H.length + 4) 0 al.length al.length ∧
            f 9 = ownS H.length (fr.map fun n => [U n]) ∧ f 10 = ownS (H.length + 1) (to.map fun n => [U n]) ∧ f 11 = I i ∧ f 15 = U a ∧ f 16 = U (a + 8 * v.size) ∧ f 17 = I k ∧ k ≤ i)
          (fun k => i - k) (by kernel_rfl) 0 ⟨rfl, by simp [f1], by simp [f2], by simp [f5], by simp [f7], by simp [f9], by simp [f10], by simp [f11], by simp [ha], by simp [ha], by simp, by simp⟩ ?_
        clear f1 f2 f5 f7 f9 f10 f11
        rintro k f _ ⟨rfl, f1, f2, f5, f7, f9, f10, f11, f15, f16, f17, hk⟩
        simp -dsimp [f1, f2, f5, f7, f9, f10, f11, f15, f16, f17, l0, hfl]
        refine condVW_introD (fun hlk => ?_) (fun hlk => ?_)
        · have hlk' : k < i := by omega
          obtain ⟨x, y, k1, k2, k3⟩ := hpw2 k hlk'
          have hn1 : (fr.map fun n => [U n]) ≠ [] := by
            intro h; rw [List.map_eq_nil_iff] at h; rw [h] at hfl; simp at hfl; omega
          have hn2 : (to.map fun n => [U n]) ≠ [] := by
            intro h; rw [List.map_eq_nil_iff] at h; rw [h] at htl; simp at htl; omega
          have o1 : ownS H.length (fr.map fun n => [U n]) = .hs H.length 0 i i := by rw [ownS, if_neg hn1]; simp [hfl]
          have o2 : ownS (H.length + 1) (to.map fun n => [U n]) = .hs (H.length + 1) 0 i i := by rw [ownS, if_neg hn2]; simp [htl]
          have m0 : (M al fr to)[H.length]? = some (.row 26 1 (fr.map fun n => [U n])) := by rw [m0, ownB, if_neg hn1]
          have m1 : (M al fr to)[H.length + 1]? = some (.row 26 1 (to.map fun n => [U n])) := by rw [m1, ownB, if_neg hn2]
          have f9' := f9
          have f10' := f10
          rw [o1] at f9'
          rw [o2] at f10'
          have wk : IntKind.i64.wrap ((k : Int) + 1) = ((k + 1 : Nat) : Int) := wrapS (by omega)
          simp -dsimp [f1, f2, f5, f7, f9', f10', f11, f15, f16, f17, m1, k2, htl]
          refine ⟨by first | exact hlk' | exact ⟨htl, hlk'⟩ | exact ⟨hfl, hlk'⟩, ?_⟩
          simp -dsimp [f1, f2, f5, f7, f9', f10', f11, f15, f16, f17, m1, k2, htl]
          refine guardVW_introTD (fun q1 => ?_) (fun q1 => ?_)
          · have q3 : ¬ x < a + 8 * v.size := fun h => k3 ⟨q1, h⟩
            simp -dsimp [f1, f2, f5, f7, f9', f10', f11, f15, f16, f17, m0, k1, q1, hfl]
            refine ⟨by first | exact hlk' | exact ⟨htl, hlk'⟩ | exact ⟨hfl, hlk'⟩, ?_⟩
            simp -dsimp [f1, f2, f5, f7, f9', f10', f11, f15, f16, f17, m0, k1, q1, q3, hfl]
            exact ⟨k + 1, by omega, o1.symm, o2.symm, wk, by omega⟩
          · simp -dsimp [f1, f2, f5, f7, f9', f10', f11, f15, f16, f17, q1]
            exact ⟨k + 1, by omega, o1.symm, o2.symm, wk, by omega⟩
        · simp -dsimp [f1, f2, f5, f7, f9, f10, f11, f15, f16, f17]
          refine appendVW_own (es := fr.map fun n => [U n]) (by exact m0 _ _ _) (by simp; omega) (by simp; omega) ?_
          have hs1 : (fr.map fun n => [U n]) ++ [[U a]] = (fr ++ [a]).map fun n => [U n] := by simp
          have hs2 : (to.map fun n => [U n]) ++ [[U (a + 8 * v.size)]] = (to ++ [a + 8 * v.size]).map fun n => [U n] := by simp
          rw [hs1, s0]
          simp -dsimp [f1, f2, f5, f7, f9, f10, f11, f15, f16, f17]
          refine appendVW_own (es := to.map fun n => [U n]) (by exact m1 _ _ _) (by simp; omega) (by simp; omega) ?_
          rw [hs2, s1]
          simp -dsimp [f1, f2, f5, f7, f9, f10, f11, f15, f16, f17]
          exact ⟨i + 1, by omega, by rw [hfr', hto'], hA.symm, by rw [hs1, ← hfr', List.map_take, List.map_map], by rw [hs2, ← hto', List.map_take, List.map_map], w1, by omega⟩
    · simp -dsimp
      refine acallsW_det (ck _) ?_
      simp -dsimp
      exact hMfin _ _ _
end Go.Proofs
