/- The document's layer 7: names, lists, operations. -/
import Derived.Test.YtihlekehnihnpaaG23toU7
import Derived.Test.YtihlekehnihnpaaFwUtoU1
import Derived.Test.YtihlekehnihnpaaFwZtoU19
import Derived.Test.YtihlekehnihnpaaL1
set_option linter.unusedVariables false
set_option linter.unusedSimpArgs false
set_option maxHeartbeats 4000000
set_option maxRecDepth 100000
namespace Go.Proofs
open Go.Mu
end Go.Proofs
namespace Go.Proofs
open Go.Mu
def findV : List Vr → ByteArray → Int
  | [], _ => 0
  | v :: l, n => if v.name = n then (if v.kind = 1 then 1 else 2) else findV l n
def findR : List Rg → ByteArray → Int
  | [], _ => 0
  | r :: l, n => if r.name = n then 3 else findR l n
def findK (rs : List Rg) (vs : List Vr) (n : ByteArray) : Int := if findV vs n = 0 then findR rs n else findV vs n
def wordK (k : Int) : Int := if k = 0 then 8 else if k = 1 then 0 else 9
def arrayK (k : Int) : Int := if k = 0 then 8 else if k = 1 then 9 else 0
end Go.Proofs
namespace Go.Proofs
open Go.Mu
structure NamesAt (p : Pg) (k : Nat) (hk : k < p.funcs.length) (tv : List (ByteArray × Vr)) (ta : List (ByteArray × Bool)) : Prop where
  word : ∀ n, wordE tv ta n = wordK (findK p.regions (p.funcs[k].params ++ p.funcs[k].vars) n)
  array : ∀ n, arrayE tv ta n = arrayK (findK p.regions (p.funcs[k].params ++ p.funcs[k].vars) n)
end Go.Proofs
namespace Go.Proofs
open Go.Mu
end Go.Proofs
namespace Go.Proofs
open Go.Mu
end Go.Proofs
namespace Go.Proofs
open Go.Mu
end Go.Proofs
namespace Go.Proofs
open Go.Mu
end Go.Proofs
namespace Go.Proofs
open Go.Mu
mutual
def Ex.num (deep : Nat) : Ex → Nat
  | .mk _ _ _ args => if 64 < deep then 0 else 1 + exsNum (deep + 1) args
def exsNum (deep : Nat) : List Ex → Nat
  | [] => 0
  | e :: l => e.num deep + exsNum deep l
end
end Go.Proofs
namespace Go.Proofs
open Go.Mu
def Ex.nz (deep : Nat) (e : Ex) : Nat := if blankB e then 0 else e.num deep
def exsNz (deep : Nat) : List Ex → Nat
  | [] => 0
  | e :: l => e.nz deep + exsNz deep l
mutual
def Sm.num (deep : Nat) : Sm → Nat
  | .mk _ _ _ e a args _ _ body els => 1 + e.nz deep + a.nz deep + exsNz deep args + smsNum (deep + 1) body + smsNum (deep + 1) els
def smsNum (deep : Nat) : List Sm → Nat
  | [] => 0
  | s :: l => if 64 < deep then 0 else s.num deep + smsNum deep l
end
end Go.Proofs
namespace Go.Proofs
open Go.Mu
def funcsNum : List Fc → Nat
  | [] => 0
  | f :: l => smsNum 1 f.body + funcsNum l
end Go.Proofs
namespace Go.Proofs
open Go.Mu
structure Kept (B : Nat) (H : List Blk) (h : Option Nat) (H' : List Blk) (h' : Option Nat) : Prop where
  pre : ∀ M : List Blk, M.length = B → (∃ L, H = M ++ L) → ∃ L, H' = M ++ L
  old : ∀ i b, H[i]? = some b → h ≠ some i → H'[i]? = some b
  apart : ∀ j, j < H.length → h ≠ some j → h' ≠ some j
end Go.Proofs
namespace Go.Proofs
open Go.Mu
structure Pg.Ok3 (p : Pg) : Prop where
  ok : p.Ok2
  total : funcsNum p.funcs ≤ 2^50
end Go.Proofs
namespace Go.Proofs
open Go.Mu
mutual
def Ex.much (most : Int) : Ex → Nat
  | .mk _ _ _ args => exsMuch most 1 args
def exsMuch (most : Int) (n : Nat) : List Ex → Nat
  | [] => n
  | e :: l => if (n : Int) ≤ most then exsMuch most (n + e.much most) l else n
end
theorem Ex.much_eq (most : Int) (e : Ex) : e.much most = exsMuch most 1 e.args := by cases e; rw [Ex.much]; rfl
theorem exsMuch_le (most : Int) (m : Nat) : ∀ (l : List Ex) (n : Nat), exsCount l ≤ m → exsMuch most n l ≤ n + exsCount l := by
  induction m with
  | zero => intro l n hl; have := exs_len l; have : l = [] := List.eq_nil_of_length_eq_zero (by omega); subst this; simp [exsMuch]
  | succ m ih =>
    intro l
    induction l with
    | nil => intro n _; simp [exsMuch]
    | cons e l ihl =>
      intro n hl
      simp only [exsCount] at hl ⊢
      have he := Ex.count_eq e
      rw [exsMuch]
      split
      · have h1 := ihl (n + e.much most) (by omega)
        have h2 := ih e.args 1 (by omega)
        rw [Ex.much_eq] at h1 ⊢
        omega
      · omega
theorem Ex.much_le (most : Int) (e : Ex) : e.much most ≤ e.count := by
  rw [Ex.much_eq, Ex.count_eq]; have := exsMuch_le most _ e.args 1 (Nat.le_refl _); omega
def argsMuch (most : Int) : List Ex → Nat
  | [] => 0
  | e :: l => e.much most + argsMuch most l
theorem argsMuch_le (most : Int) : ∀ l, argsMuch most l ≤ exsCount l
  | [] => by simp [argsMuch]
  | e :: l => by simp only [argsMuch, exsCount]; have := e.much_le most; have := argsMuch_le most l; omega
mutual
def Sm.much (most : Int) : Sm → Nat
  | .mk _ _ ns e a args _ _ body els => 1 + ns.length + e.much most + a.much most + argsMuch most args + (smsMuch most 0 body + smsMuch most 0 els)
def smsMuch (most : Int) (n : Nat) : List Sm → Nat
  | [] => n
  | s :: l => if (n : Int) ≤ most then smsMuch most (n + s.much most) l else n
end
theorem Sm.much_eq (most : Int) (s : Sm) : s.much most = 1 + s.names.length + s.e.much most + s.a.much most + argsMuch most s.args + (smsMuch most 0 s.body + smsMuch most 0 s.els) := by cases s; rw [Sm.much]; rfl
theorem smsMuch_le (most : Int) (m : Nat) : ∀ (l : List Sm) (n : Nat), smsCount l ≤ m → smsMuch most n l ≤ n + smsCount l := by
  induction m with
  | zero => intro l n hl; have := sms_len l; have : l = [] := List.eq_nil_of_length_eq_zero (by omega); subst this; simp [smsMuch]
  | succ m ih =>
    intro l
    induction l with
    | nil => intro n _; simp [smsMuch]
    | cons s l ihl =>
      intro n hl
      simp only [smsCount] at hl ⊢
      have he := Sm.count_eq s
      rw [smsMuch]
      split
      · have h1 := ihl (n + s.much most) (by omega)
        have h2 := ih s.body 0 (by omega)
        have h3 := ih s.els 0 (by omega)
        have h4 := s.e.much_le most
        have h5 := s.a.much_le most
        have h6 := argsMuch_le most s.args
        rw [Sm.much_eq] at h1 ⊢
        omega
      · omega
theorem Sm.much_le (most : Int) (s : Sm) : s.much most ≤ s.count := by
  rw [Sm.much_eq, Sm.count_eq]
  have h2 := smsMuch_le most _ s.body 0 (Nat.le_refl _)
  have h3 := smsMuch_le most _ s.els 0 (Nat.le_refl _)
  have h4 := s.e.much_le most
  have h5 := s.a.much_le most
  have h6 := argsMuch_le most s.args
  omega
theorem mexpr_ok (most : Int) (m : Nat) : ∀ (e : Ex), e.count ≤ m → e.count ≤ 2^40 → ∀ (H : List Blk),
    ACalls Try.prog 66 [.agg e.cells, I most] H (fun x H' => x = .ret (I (e.much most)) ∧ H' = H) := by
  induction m with
  | zero => intro e h; have := Ex.count_eq e; omega
  | succ m ih =>
    intro e hm hc H
    refine acalls_tidy (acalls_of_vc (hn := fun _ => false) (od := fun _ => none) Try.func66 rfl (by kernel_rfl) ?_)
    have hce := Ex.count_eq e
    have hla := exs_len e.args
    have hml := e.much_le most
    obtain ⟨M, hM⟩ : ∃ M, M = H ++ [.box 69 e.cells] := ⟨_, rfl⟩
    have hMe : M[H.length]? = some (.box 69 e.cells) := by rw [hM]; simp
    obtain ⟨E, hE⟩ : ∃ E, E = e.much most := ⟨_, rfl⟩
    have fin : ∀ c : Int, c = (E : Int) → Tidy H (fun x H' => x = .ret (I E) ∧ H' = H) (.ret (I c)) M := fun c hc => by rw [hM, hc]; exact tidy_same rfl ⟨rfl, rfl⟩
    rw [← hE] at hml ⊢
    rw [Ex.much_eq] at hE
    simp only [Ex.cells_eq] at hM hMe
    simp -dsimp
    rw [← hM]
    refine loop_rule (hn := fun _ => false) (od := fun _ => none) (fun (i : Nat) f H' => M = H' ∧ f 2 = .bp H.length 0 ∧ f 1 = I most ∧ f 6 = I i ∧ i ≤ e.args.length ∧ ∃ n : Nat, f 5 = I n ∧ n ≤ 2^41 ∧ exsMuch most n (e.args.drop i) = E) (fun i => e.args.length - i) (by kernel_rfl) 0 (by simp [hE]; exact ⟨1, rfl, by omega, rfl⟩) ?_
    clear hM hE
    rintro i g _ ⟨rfl, g2, g1, g6, hi, n, g5, hnb, hn⟩
    simp -dsimp [g1, g2, g5, g6, hMe]
    refine guardVW_introTD (fun hlt => ?_) (fun hlt => ?_)
    · rw [drop_cons hlt, exsMuch] at hn
      simp -dsimp [g1, g2, g5, g6, hMe, hlt]
      refine condVW_introD (fun hle => ?_) (fun hle => ?_)
      · rw [if_pos hle] at hn
        have hg := exs_get hlt
        have cr := fun H => ih e.args[i] (by omega) (by omega) H
        have hml2 := e.args[i].much_le most
        have hnE : n + e.args[i].much most ≤ 2^41 := by
          have : ∀ (l : List Ex) (q : Nat), q ≤ exsMuch most q l := by
            intro l
            induction l with
            | nil => intro q; simp [exsMuch]
            | cons a l ihl => intro q; rw [exsMuch]; split; have := ihl (q + a.much most); omega; exact Nat.le_refl _
          have := this (e.args.drop (i + 1)) (n + e.args[i].much most)
          omega
        simp only [Ex.cells_eq] at cr
        have w3 : IntKind.i64.wrap ((n : Int) + (e.args[i].much most : Nat)) = ((n + e.args[i].much most : Nat) : Int) := by rw [wrapI (by omega) (by omega)]; rfl
        simp -dsimp [g1, g2, g5, g6, hMe, List.getElem?_eq_getElem, hlt]
        refine acallsW_det (cr _) ?_
        simp -dsimp [g1, g2, g5, g6]
        exact ⟨i + 1, by omega, wrapS (by omega), by omega, _, w3, hnE, hn⟩
      · rw [if_neg hle] at hn
        simp -dsimp [g5]
        exact fin _ (by omega)
    · rw [drop_end hlt, exsMuch] at hn
      simp -dsimp [g5, hlt]
      exact fin _ (by omega)
end Go.Proofs
namespace Go.Proofs
open Go.Mu
theorem smsMuch_ge (most : Int) : ∀ (l : List Sm) (q : Nat), q ≤ smsMuch most q l
  | [], q => by simp [smsMuch]
  | s :: l, q => by rw [smsMuch]; split; have := smsMuch_ge most l (q + s.much most); omega; exact Nat.le_refl _
theorem much_ok (most : Int) (m : Nat) : ∀ (l : List Sm), smsCount l < m → smsCount l ≤ 2^40 → ∀ (H : List Blk),
    ACalls Try.prog 27 [Sm.sl l, I most] H (fun x H' => x = .ret (I (smsMuch most 0 l)) ∧ H' = H) := by
  induction m with
  | zero => intro l h; omega
  | succ m ih =>
    intro l hm hc H
    refine acalls_of_awp Try.func27 rfl (by kernel_rfl) ?_
    have hlen := sms_len l
    have hml := smsMuch_le most _ l 0 (Nat.le_refl _)
    obtain ⟨E, hE⟩ : ∃ E, E = smsMuch most 0 l := ⟨_, rfl⟩
    rw [← hE] at hml ⊢
    refine awp_cut (fun _ => false) (fun _ => none) (fun f H' => H = H' ∧ f 0 = Sm.sl l ∧ f 1 = I most) (by kernel_rfl) ?_ ?_
    · simp -dsimp
    rintro g _ ⟨rfl, g0, g1⟩
    refine awp_cut (fun _ => false) (fun _ => none) (fun f H' => H = H' ∧ f 0 = Sm.sl l ∧ f 1 = I most ∧ f 5 = I 0) (by kernel_rfl) ?_ ?_
    · simp -dsimp [g0, g1]
    clear g g0 g1
    rintro g _ ⟨rfl, g0, g1, g5⟩
    refine awp_cutA (fun f H' => H = H' ∧ f 5 = I E) ?_ ?_
    rotate_left
    · clear g g0 g1 g5
      rintro g _ ⟨rfl, g5⟩
      refine awp_all (fun _ => false) (fun _ => none) (by kernel_rfl) ?_
      simp -dsimp [g5]
    refine awp_cut (fun _ => false) (fun _ => none) (fun f H' => H = H' ∧ f 0 = Sm.sl l ∧ f 1 = I most ∧ f 5 = I 0 ∧ f 6 = I 0) (by kernel_rfl) ?_ ?_
    · simp -dsimp [g0, g1, g5]
    clear g g0 g1 g5
    rintro g _ ⟨rfl, g0, g1, g5, g6⟩
    refine awp_block ?_
    refine awp_loopI (fun (i : Nat) f H' => H = H' ∧ f 0 = Sm.sl l ∧ f 1 = I most ∧ f 6 = I i ∧ i ≤ l.length ∧ ∃ n : Nat, f 5 = I n ∧ smsMuch most n (l.drop i) = E) (fun i => l.length - i) 0 ⟨rfl, g0, g1, g6, by omega, 0, g5, by rw [hE]; simp⟩ ?_
    clear g g0 g1 g5 g6
    rintro i g _ ⟨rfl, g0, g1, g6, hi, n, g5, hn⟩
    refine awp_cut (fun _ => false) (fun _ => none) (fun f H' => H = H' ∧ f 0 = Sm.sl l ∧ f 1 = I most ∧ f 6 = I i ∧ f 5 = I n ∧ i < l.length ∧ (n : Int) ≤ most) (by kernel_rfl) ?_ ?_
    · simp -dsimp [g0, g1, g5, g6]
      refine guardVW_introTD (fun hlt => ?_) (fun hlt => ?_)
      · rw [drop_cons hlt, smsMuch] at hn
        simp -dsimp [g0, g1, g5, g6, hlt]
        refine condVW_introD (fun hle => ?_) (fun hle => ?_)
        · simp -dsimp [g0, g1, g5, g6]
          first
            | exact ⟨hlt, hle⟩
            | exact hle
        · rw [if_neg hle] at hn
          simp -dsimp [g5]
          omega
      · rw [drop_end hlt, smsMuch] at hn
        simp -dsimp [g5, hlt]
        omega
    clear g g0 g1 g5 g6
    rintro g _ ⟨rfl, g0, g1, g6, g5, hlt, hle⟩
    rw [drop_cons hlt, smsMuch, if_pos hle] at hn
    have hg := sms_get hlt
    have hsc := Sm.count_eq l[i]
    have hls : l[i]? = some l[i] := List.getElem?_eq_getElem hlt
    obtain ⟨s, hs⟩ : ∃ s, s = l[i] := ⟨_, rfl⟩
    rw [← hs] at hn hg hsc hls
    clear hs
    have hge := smsMuch_ge most (l.drop (i + 1)) (n + s.much most)
    have hsm := s.much_le most
    have hse := s.much_eq most
    have m1 := s.e.much_le most
    have m2 := s.a.much_le most
    have m3 := argsMuch_le most s.args
    have m4 := smsMuch_le most _ s.body 0 (Nat.le_refl _)
    have m5 := smsMuch_le most _ s.els 0 (Nat.le_refl _)
    refine awp_cutA (fun f H' => H = H' ∧ f 0 = Sm.sl l ∧ f 1 = I most ∧ f 6 = I i ∧ f 5 = I (n + s.much most : Nat)) ?_ ?_
    rotate_left
    · clear g g0 g1 g5 g6
      rintro g _ ⟨rfl, g0, g1, g6, g5⟩
      obtain ⟨N, hN⟩ : ∃ N, N = n + s.much most := ⟨_, rfl⟩
      rw [← hN] at g5 hn
      refine awp_all (fun _ => false) (fun _ => none) (by kernel_rfl) ?_
      simp -dsimp [g0, g1, g5, g6]
      first
        | exact ⟨i + 1, by omega, wrapS (by omega), by omega, N, rfl, hn⟩
        | exact ⟨i + 1, by omega, wrapS (by omega), by omega, hn⟩
    refine awp_block ?_
    have x1 := fun H => mexpr_ok most _ s.e (Nat.le_refl _) (by omega) H
    have x2 := fun H => mexpr_ok most _ s.a (Nat.le_refl _) (by omega) H
    simp only [Ex.cells_eq] at x1 x2
    obtain ⟨n1, hn1⟩ : ∃ n1, n1 = n + 1 + s.names.length + s.e.much most + s.a.much most := ⟨_, rfl⟩
    refine awp_cut (fun _ => false) (fun _ => none) (fun f H' => H = H' ∧ f 0 = Sm.sl l ∧ f 1 = I most ∧ f 6 = I i ∧ f 5 = I n1) (by kernel_rfl) ?_ ?_
    · have w1 : IntKind.i64.wrap ((n : Int) + 1) = (n : Int) + 1 := wrapI (by omega) (by omega)
      have w2 : IntKind.i64.wrap ((n : Int) + 1 + s.names.length) = (n : Int) + 1 + s.names.length := wrapI (by omega) (by omega)
      have w3 : IntKind.i64.wrap ((n : Int) + 1 + s.names.length + (s.e.much most : Nat)) = (n : Int) + 1 + s.names.length + (s.e.much most : Nat) := wrapI (by omega) (by omega)
      have w4 : IntKind.i64.wrap ((n : Int) + 1 + s.names.length + (s.e.much most : Nat) + (s.a.much most : Nat)) = (n1 : Int) := by rw [wrapI (by omega) (by omega)]; omega
      simp -dsimp [g0, g1, g5, g6, hls, w1, w2]
      refine callDW_intro (x1 _) ?_
      simp -dsimp [g0, g1, g5, g6, hls, w1, w2, w3]
      refine callDW_intro (x2 _) ?_
      simp -dsimp [g0, g1, g5, g6, w1, w2, w3, w4]
    clear g g0 g1 g5 g6
    rintro g _ ⟨rfl, g0, g1, g6, g5⟩
    have hla := exs_len s.args
    refine awp_cut (fun _ => false) (fun _ => none) (fun f H' => H = H' ∧ f 0 = Sm.sl l ∧ f 1 = I most ∧ f 6 = I i ∧ f 5 = I (n1 + argsMuch most s.args : Nat)) (by kernel_rfl) ?_ ?_
    · simp -dsimp [g0, g1, g5, g6]
      refine loop_rule (hn := fun _ => false) (od := fun _ => none) (fun (j : Nat) f H' => H = H' ∧ f 0 = Sm.sl l ∧ f 1 = I most ∧ f 6 = I i ∧ f 7 = I j ∧ j ≤ s.args.length ∧ ∃ q : Nat, f 5 = I q ∧ q + argsMuch most (s.args.drop j) = n1 + argsMuch most s.args) (fun j => s.args.length - j) (by kernel_rfl) 0 (by simp [g0, g1, g5, g6]) ?_
      clear g g0 g1 g5 g6
      rintro j g _ ⟨rfl, g0, g1, g6, g7, hj, q, g5, hq⟩
      simp -dsimp [g0, g1, g5, g6, g7, hls]
      refine condVW_introD (fun hjt => ?_) (fun hjt => ?_)
      · rw [drop_cons hjt, argsMuch] at hq
        have hxg := exs_get hjt
        have x3 := fun H => mexpr_ok most _ s.args[j] (Nat.le_refl _) (by omega) H
        have m6 := s.args[j].much_le most
        simp only [Ex.cells_eq] at x3
        have w : IntKind.i64.wrap ((q : Int) + (s.args[j].much most : Nat)) = ((q + s.args[j].much most : Nat) : Int) := by rw [wrapI (by omega) (by omega)]; rfl
        simp -dsimp [g0, g1, g5, g6, g7, hls, List.getElem?_eq_getElem, hjt]
        refine acallsW_det (x3 _) ?_
        simp -dsimp [g0, g1, g5, g6, g7]
        exact ⟨j + 1, by omega, wrapS (by omega), by omega, _, w, by omega⟩
      · rw [drop_end hjt, argsMuch] at hq
        simp -dsimp [g0, g1, g5, g6]
        omega
    clear g g0 g1 g5 g6
    rintro g _ ⟨rfl, g0, g1, g6, g5⟩
    obtain ⟨n2, hn2⟩ : ∃ n2, n2 = n1 + argsMuch most s.args := ⟨_, rfl⟩
    rw [← hn2] at g5
    have cb := fun H => ih s.body (by omega) (by omega) H
    have ce := fun H => ih s.els (by omega) (by omega) H
    have w3 : IntKind.i64.wrap ((n2 : Int) + (smsMuch most 0 s.body : Nat)) = ((n2 + smsMuch most 0 s.body : Nat) : Int) := by rw [wrapI (by omega) (by omega)]; rfl
    have w4 : IntKind.i64.wrap (((n2 + smsMuch most 0 s.body : Nat) : Int) + (smsMuch most 0 s.els : Nat)) = ((n2 + smsMuch most 0 s.body + smsMuch most 0 s.els : Nat) : Int) := by rw [wrapI (by omega) (by omega)]; rfl
    refine awp_all (fun _ => false) (fun _ => none) (by kernel_rfl) ?_
    simp -dsimp [g0, g1, g5, g6, hls]
    refine callDW_intro (cb _) ?_
    simp -dsimp [g0, g1, g5, g6, hls]
    refine callDW_intro (ce _) ?_
    simp -dsimp [g0, g1, g5, g6]
    rw [w3, w4]
    omega
def smallF (most : Int) : List Fc → Nat → Option Nat
  | [], n => some n
  | f :: l, n => if 200 < f.params.length + f.vars.length + f.rets.length then none else smallF most l (n + smsMuch most 0 f.body)
def smallB (p : Pg) (most : Int) : Bool := if 40 < p.funcs.length ∨ 20 < p.regions.length then false else match smallF most p.funcs 0 with | none => false | some n => decide ((n : Int) ≤ most)
theorem small_ok (p : Pg) (hp : p.Ok2) (most : Int) (H : List Blk) : ACalls Try.prog 8 [.agg p.cells, I most] H (fun e H' => e = .ret (Bo (smallB p most)) ∧ H' = H) := by
  refine acalls_tidy (acalls_of_awp Try.func8 rfl (by kernel_rfl) ?_)
  obtain ⟨M, hM⟩ : ∃ M, M = H ++ [.box 25 p.cells] := ⟨_, rfl⟩
  have hMp : M[H.length]? = some (.box 25 p.cells) := by rw [hM]; simp
  have hpr := hp.ok.regions
  have hpf := hp.ok.funcs
  obtain ⟨E, hE⟩ : ∃ E, E = smallB p most := ⟨_, rfl⟩
  have fin : ∀ c, c = E → Tidy H (fun x H' => x = .ret (Bo E) ∧ H' = H) (.ret (Bo c)) M := fun c hc => by rw [hM, hc]; exact tidy_same rfl ⟨rfl, rfl⟩
  rw [← hE]
  unfold smallB at hE
  simp only [Pg.cells] at hM hMp
  refine awp_cut (fun _ => false) (fun _ => none) (fun f H' => M = H' ∧ f 2 = .bp H.length 0 ∧ f 1 = I most) (by kernel_rfl) ?_ ?_
  · simp -dsimp [hM]
  clear hM
  rintro g _ ⟨rfl, g2, g1⟩
  refine awp_cut (fun _ => false) (fun _ => none) (fun f H' => M = H' ∧ f 2 = .bp H.length 0 ∧ f 1 = I most ∧ p.funcs.length ≤ 40 ∧ p.regions.length ≤ 20) (by kernel_rfl) ?_ ?_
  · simp -dsimp [g1, g2, hMp]
    refine guardVW_introFD (fun h => ?_) (fun h => ?_)
    · simp -dsimp [g1, g2, hMp, h]
      rw [if_pos (.inl (by omega))] at hE
      exact fin _ hE.symm
    · simp -dsimp [g1, g2, hMp, h]
      refine condVW_introD (fun h2 => ?_) (fun h2 => ?_)
      · simp -dsimp
        rw [if_pos (.inr (by omega))] at hE
        exact fin _ hE.symm
      · simp -dsimp [g1, g2]
        omega
  clear g g1 g2
  rintro g _ ⟨rfl, g2, g1, h40, h20⟩
  rw [if_neg (by omega)] at hE
  refine awp_cut (fun _ => false) (fun _ => none) (fun f H' => M = H' ∧ f 2 = .bp H.length 0 ∧ f 1 = I most ∧ f 5 = I 0) (by kernel_rfl) ?_ ?_
  · simp -dsimp [g1, g2]
  clear g g1 g2
  rintro g _ ⟨rfl, g2, g1, g5⟩
  refine awp_all (fun _ => false) (fun _ => none) (by kernel_rfl) ?_
  simp -dsimp [g1, g2, g5]
  refine loop_rule (hn := fun _ => false) (od := fun _ => none) (fun (i : Nat) f H' => M = H' ∧ f 2 = .bp H.length 0 ∧ f 1 = I most ∧ f 6 = I i ∧ i ≤ p.funcs.length ∧ ∃ n : Nat, f 5 = I n ∧ n ≤ i * 2^36 ∧ smallF most (p.funcs.drop i) n = smallF most p.funcs 0) (fun i => p.funcs.length - i) (by kernel_rfl) 0 (by simp [g1, g2, g5]; exact ⟨0, rfl, rfl, rfl⟩) ?_
  clear g g1 g2 g5
  rintro i g _ ⟨rfl, g2, g1, g6, hi, n, g5, hnb, hn⟩
  simp -dsimp [g1, g2, g5, g6, hMp]
  refine condVW_introD (fun hlt => ?_) (fun hlt => ?_)
  · rw [drop_cons hlt, smallF] at hn
    have hb := hp.body36 _ (List.getElem_mem hlt)
    have h1 := hp.ok.params _ (List.getElem_mem hlt)
    have h2 := hp.ok.vars _ (List.getElem_mem hlt)
    have h3 := hp.ok.rets _ (List.getElem_mem hlt)
    have hfi : p.funcs[i]? = some p.funcs[i] := List.getElem?_eq_getElem hlt
    obtain ⟨F, hF⟩ : ∃ F, F = p.funcs[i] := ⟨_, rfl⟩
    rw [← hF] at hn hb h1 h2 h3 hfi
    clear hF
    have w1 : IntKind.i64.wrap ((F.params.length : Int) + F.vars.length) = (F.params.length : Int) + F.vars.length := wrapI (by omega) (by omega)
    have w2 : IntKind.i64.wrap ((F.params.length : Int) + F.vars.length + F.rets.length) = (F.params.length : Int) + F.vars.length + F.rets.length := wrapI (by omega) (by omega)
    have cm := fun H => much_ok most _ F.body (Nat.lt_succ_self _) (by omega) H
    have hml := smsMuch_le most _ F.body 0 (Nat.le_refl _)
    have w3 : IntKind.i64.wrap ((n : Int) + (smsMuch most 0 F.body : Nat)) = ((n + smsMuch most 0 F.body : Nat) : Int) := by rw [wrapI (by omega) (by omega)]; rfl
    simp -dsimp [g1, g2, g5, g6, hMp, hfi, w1, w2]
    refine condVW_introD (fun h => ?_) (fun h => ?_)
    · rw [if_pos (by omega)] at hn
      simp -dsimp
      exact fin _ (by rw [hE, ← hn])
    · rw [if_neg (by omega)] at hn
      simp -dsimp [g1, g2, g5, g6, hMp, hfi]
      refine acallsW_det (cm _) ?_
      simp -dsimp [g1, g2, g5, g6]
      exact ⟨i + 1, by omega, wrapS (by omega), by omega, _, w3, by omega, hn⟩
  · rw [drop_end hlt, smallF] at hn
    simp -dsimp [g1, g2, g5]
    exact fin _ (by rw [hE, ← hn])
end Go.Proofs
namespace Go.Proofs
open Go.Mu
structure Pg.OkA (p : Pg) : Prop where
  ok3 : p.Ok3
  okl : p.OkL
end Go.Proofs
namespace Go.Proofs
open Go.Mu
def inI (n : Int) : Bool := decide (-9223372036854775808 ≤ n) && decide (n ≤ 9223372036854775807)
def inU (n : Int) : Bool := decide (0 ≤ n) && decide (n ≤ 18446744073709551615)
mutual
def Ex.rng : Ex → Bool
  | .mk o w _ a => inI o && inU w && exsRng a
def exsRng : List Ex → Bool
  | [] => true
  | e :: l => e.rng && exsRng l
end
mutual
def Sm.rng : Sm → Bool
  | .mk k _ _ e a l lo hi b el => inI k && e.rng && a.rng && exsRng l && inU lo && inU hi && smsRng b && smsRng el
def smsRng : List Sm → Bool
  | [] => true
  | s :: l => s.rng && smsRng l
end
theorem exs_rng {l : List Ex} (h : ∀ e ∈ l, e.rng = true) : exsRng l = true := by
  induction l with
  | nil => rfl
  | cons e l ih => rw [exsRng, h e (List.mem_cons_self ..), ih (fun e he => h e (List.mem_cons_of_mem _ he))]; rfl
theorem sms_rng {l : List Sm} (h : ∀ e ∈ l, e.rng = true) : smsRng l = true := by
  induction l with
  | nil => rfl
  | cons e l ih => rw [smsRng, h e (List.mem_cons_self ..), ih (fun e he => h e (List.mem_cons_of_mem _ he))]; rfl
end Go.Proofs
namespace Go.Proofs.Ytihlekehnihnpaa.Lift
open Go.ChangeShapes Go.WideShapes Go.ChangeAt Go.RowKit Go.Mu Go.Proofs
section
variable {H : Type} {enc : TypeId × Value → H} {cx : Cx}
theorem tells_i (t : TypeId) (h : Try.prog.underlying t = some (.int .i64)) (n : Nat) : Tells enc Try.prog cx n t (fun i : Int => [I i]) (fun _ => 1) (fun i => inI i = true) := (tells_int h).map id (fun _ => rfl) (fun _ => Nat.le_refl _) (fun i hi => by simp only [IntKind.min, IntKind.max] at hi; simp only [inI, id, Bool.and_eq_true, decide_eq_true_eq]; exact hi)
theorem tells_u (n : Nat) : Tells enc Try.prog cx n 40 (fun i : Int => [U i]) (fun _ => 1) (fun i => inU i = true) := (tells_int (by kernel_rfl)).map id (fun _ => rfl) (fun _ => Nat.le_refl _) (fun i hi => by simp only [IntKind.min, IntKind.max] at hi; simp only [inU, id, Bool.and_eq_true, decide_eq_true_eq]; exact hi)
theorem tells_s (n : Nat) : Tells enc Try.prog cx n 9 (fun s : ByteArray => [St s]) (fun s => s.size + 1) (fun _ => True) := tells_string (by kernel_rfl)
theorem exs_sizes (l : List Ex) : sizes Ex.count l = exsCount l := by
  induction l with
  | nil => rfl
  | cons e l ih => simp only [sizes, List.map_cons, List.sum_cons, exsCount] at ih ⊢; omega
theorem sms_sizes (l : List Sm) : sizes Sm.count l = smsCount l := by
  induction l with
  | nil => rfl
  | cons e l ih => simp only [sizes, List.map_cons, List.sum_cons, smsCount] at ih ⊢; omega
theorem tells_strs (hΦ : ∀ b, b < cx.w.heap.size → cx.Φ b) : ∀ n, Tells enc Try.prog cx n 35 (fun l : List ByteArray => [St.sl l]) (sizes fun s => s.size + 1) (fun _ => True)
  | 0 => tells_zero
  | n + 1 => (tells_slice (e := 9) (sz := 1) (by kernel_rfl) (by kernel_rfl) (by omega) hΦ (tells_s n)).map id (fun _ => rfl) (fun l => Nat.le_succ _) (fun _ _ => trivial)
theorem tells_exs2 (hΦ : ∀ b, b < cx.w.heap.size → cx.Φ b) : ∀ n, Tells enc Try.prog cx n 69 Ex.cells Ex.count (fun e => e.rng = true) ∧ Tells enc Try.prog cx n 67 (fun l : List Ex => [Ex.sl l]) exsCount (fun l => exsRng l = true)
  | 0 => ⟨tells_zero, tells_zero⟩
  | n + 1 => by
    obtain ⟨h1, h2⟩ := tells_exs2 hΦ n
    refine ⟨(tells_struct (fl := [(66, 0, 1), (40, 1, 1), (9, 2, 1), (67, 3, 1)]) (by kernel_rfl) (by kernel_rfl)
      (tellsF_cons (tells_i 66 (by kernel_rfl) n) (tellsF_cons (tells_u n) (tellsF_cons (tells_s n) (tellsF_cons h2 tellsF_nil))))).map (fun (a0, a1, a2, a3, _) => Ex.mk a0 a1 a2 a3) (fun _ => Ex.cells_eq _) (fun ⟨a0, a1, a2, a3, _⟩ => by simp only [Ex.count]; omega) (fun ⟨a0, a1, a2, a3, _⟩ ⟨h0, h1, _, h3, _⟩ => by rw [Ex.rng, h0, h1, h3]; rfl), ?_⟩
    exact (tells_slice (e := 69) (sz := 4) (by kernel_rfl) (by kernel_rfl) (by omega) hΦ h1).map id (fun _ => rfl) (fun l => by rw [exs_sizes]; exact Nat.le_succ _) (fun l h => exs_rng h)
theorem tells_sms2 (hΦ : ∀ b, b < cx.w.heap.size → cx.Φ b) : ∀ n, Tells enc Try.prog cx n 71 Sm.cells Sm.count (fun e => e.rng = true) ∧ Tells enc Try.prog cx n 36 (fun l : List Sm => [Sm.sl l]) smsCount (fun l => smsRng l = true)
  | 0 => ⟨tells_zero, tells_zero⟩
  | n + 1 => by
    obtain ⟨h1, h2⟩ := tells_sms2 hΦ n
    obtain ⟨e1, e2⟩ := tells_exs2 (enc := enc) hΦ n
    refine ⟨(tells_struct (fl := [(65, 0, 1), (9, 1, 1), (35, 2, 1), (69, 3, 4), (69, 7, 4), (67, 11, 1), (40, 12, 1), (40, 13, 1), (36, 14, 1), (36, 15, 1)]) (by kernel_rfl) (by kernel_rfl)
      (tellsF_cons (tells_i 65 (by kernel_rfl) n) (tellsF_cons (tells_s n) (tellsF_cons (tells_strs hΦ n) (tellsF_cons e1 (tellsF_cons e1 (tellsF_cons e2 (tellsF_cons (tells_u n) (tellsF_cons (tells_u n) (tellsF_cons h2 (tellsF_cons h2 tellsF_nil))))))))))).map
      (fun (a0, a1, a2, a3, a4, a5, a6, a7, a8, a9, _) => Sm.mk a0 a1 a2 a3 a4 a5 a6 a7 a8 a9) (fun ⟨a0, a1, a2, a3, a4, a5, a6, a7, a8, a9, _⟩ => by rw [Sm.cells_eq, Ex.cells_eq, Ex.cells_eq]; rfl)
      (fun ⟨a0, a1, a2, a3, a4, a5, a6, a7, a8, a9, _⟩ => by have := sizes_len (size := fun s : ByteArray => s.size + 1) (fun _ => by omega) a2; simp only [Sm.count]; omega) (fun ⟨a0, a1, a2, a3, a4, a5, a6, a7, a8, a9, _⟩ ⟨h0, _, _, h3, h4, h5, h6, h7, h8, h9, _⟩ => by rw [Sm.rng, h0, h3, h4, h5, h6, h7, h8, h9]; rfl), ?_⟩
    exact (tells_slice (e := 71) (sz := 16) (by kernel_rfl) (by kernel_rfl) (by omega) hΦ h1).map id (fun _ => rfl) (fun l => by rw [sms_sizes]; exact Nat.le_succ _) (fun l h => sms_rng h)
end
theorem arg_str {H : Type} {enc : TypeId × Value → H} {W : World} {base : Nat} : ArgOk enc Try.prog W base 9 (fun s : ByteArray => St s) (fun s => s.size + 1) (fun _ => True) := arg_one (one_string (by kernel_rfl)) tells_s
theorem arg_u {H : Type} {enc : TypeId × Value → H} {W : World} {base : Nat} : ArgOk enc Try.prog W base 40 (fun n : Int => U n) (fun _ => 1) (fun n => inU n = true) := arg_one (one_int (k := .u64) (by kernel_rfl)) tells_u
theorem arg_sms {H : Type} {enc : TypeId × Value → H} {W : World} {base : Nat} : ArgOk enc Try.prog W base 36 (fun l : List Sm => Sm.sl l) smsCount (fun l => smsRng l = true) := arg_one (one_slice (e := 71) (by kernel_rfl)) (fun n => (tells_sms2 (fun _ h => h) n).2)
end Go.Proofs.Ytihlekehnihnpaa.Lift
