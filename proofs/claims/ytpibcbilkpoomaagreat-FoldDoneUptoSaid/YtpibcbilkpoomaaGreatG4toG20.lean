/- Checks of names; lists of variables and functions. -/
import Derived.Test.YtpibcbilkpoomaaGreatG1toRN
set_option linter.unusedVariables false
set_option linter.unusedSimpArgs false
set_option maxHeartbeats 4000000
set_option maxRecDepth 100000
namespace Go.Proofs
open Go.Mu
theorem var_indexF (l : List Vr) (p : Vr → Bool) (g : FuncId) (cap : List AV) (hok : okFn Tryz.prog g = true) (hl : l.length ≤ 2^40) (H : List Blk) (hg : ∀ x ∈ l, ACalls Tryz.prog g (.agg x.cells :: cap) H (fun e H' => e = .ret (Bo (p x)) ∧ H' = H)) :
    ACalls Tryz.prog 234 [.vs 4 (l.map fun x => x.cells), .fn (.func g) [] cap] H (fun e H' => e = .ret (I (idxP p l 0)) ∧ H' = H) := by
  refine acalls_tidy (acalls_of_vc (hn := fun _ => false) (od := fun _ => none) Tryz.func234 rfl (by kernel_rfl) ?_)
  simp -dsimp
  refine loop_rule (hn := fun _ => false) (od := fun _ => none) (fun (i : Nat) f H' => H' = H ∧ f 0 = .vs 4 (l.map fun x => x.cells) ∧ f 1 = .fn (.func g) [] cap ∧ f 7 = I l.length ∧ f 8 = I i ∧ i ≤ l.length ∧ idxP p (l.drop i) i = idxP p l 0) (fun i => l.length - i) (by kernel_rfl) 0 (by simp) ?_
  rintro i f H' ⟨rfl, h0, h1, h7, h8, hi, hinv⟩
  simp -dsimp [h0, h1, h7, h8]
  refine condVW_introD (fun hlt => ?_) (fun hlt => ?_)
  · rw [drop_cons hlt, idxP] at hinv
    have hx := hg l[i] (List.getElem_mem hlt)
    try simp only [Vr.cells, Fc.cells] at hx
    simp -dsimp [h0, h1, h7, h8, List.getElem?_eq_getElem, hlt, hok]
    refine acallsW_det hx ?_
    simp -dsimp
    refine condVW_intro (fun hp => ?_) (fun hp => ?_)
    · simp -dsimp
      rw [if_pos hp] at hinv
      exact tidy_now rfl ⟨by rw [hinv], rfl⟩
    · simp -dsimp [h0, h1, h7, h8]
      rw [if_neg (by simp [hp])] at hinv
      exact ⟨i + 1, by omega, wrapS (by omega), by omega, by simpa using hinv⟩
  · simp -dsimp
    rw [drop_end hlt, idxP] at hinv
    exact tidy_now rfl ⟨by rw [hinv], rfl⟩
theorem var_containsF (l : List Vr) (p : Vr → Bool) (g : FuncId) (cap : List AV) (hok : okFn Tryz.prog g = true) (hl : l.length ≤ 2^40) (H : List Blk) (hg : ∀ x ∈ l, ACalls Tryz.prog g (.agg x.cells :: cap) H (fun e H' => e = .ret (Bo (p x)) ∧ H' = H)) :
    ACalls Tryz.prog 184 [.vs 4 (l.map fun x => x.cells), .fn (.func g) [] cap] H (fun e H' => e = .ret (Bo (l.any p)) ∧ H' = H) := by
  refine acalls_tidy (acalls_of_vc (hn := fun _ => false) (od := fun _ => none) Tryz.func184 rfl (by kernel_rfl) ?_)
  simp -dsimp
  refine acallsW_det (var_indexF l p g cap hok hl _ hg) ?_
  simp -dsimp
  exact tidy_now rfl ⟨by rw [idxP_any _ _ _ (Int.le_refl 0)], rfl⟩
theorem func_indexF (l : List Fc) (p : Fc → Bool) (g : FuncId) (cap : List AV) (hok : okFn Tryz.prog g = true) (hl : l.length ≤ 2^40) (H : List Blk) (hg : ∀ x ∈ l, ACalls Tryz.prog g (.agg x.cells :: cap) H (fun e H' => e = .ret (Bo (p x)) ∧ H' = H)) :
    ACalls Tryz.prog 193 [.vs 5 (l.map fun x => x.cells), .fn (.func g) [] cap] H (fun e H' => e = .ret (I (idxP p l 0)) ∧ H' = H) := by
  refine acalls_tidy (acalls_of_vc (hn := fun _ => false) (od := fun _ => none) Tryz.func193 rfl (by kernel_rfl) ?_)
  simp -dsimp
  refine loop_rule (hn := fun _ => false) (od := fun _ => none) (fun (i : Nat) f H' => H' = H ∧ f 0 = .vs 5 (l.map fun x => x.cells) ∧ f 1 = .fn (.func g) [] cap ∧ f 7 = I l.length ∧ f 8 = I i ∧ i ≤ l.length ∧ idxP p (l.drop i) i = idxP p l 0) (fun i => l.length - i) (by kernel_rfl) 0 (by simp) ?_
  rintro i f H' ⟨rfl, h0, h1, h7, h8, hi, hinv⟩
  simp -dsimp [h0, h1, h7, h8]
  refine condVW_introD (fun hlt => ?_) (fun hlt => ?_)
  · rw [drop_cons hlt, idxP] at hinv
    have hx := hg l[i] (List.getElem_mem hlt)
    try simp only [Vr.cells, Fc.cells] at hx
    simp -dsimp [h0, h1, h7, h8, List.getElem?_eq_getElem, hlt, hok]
    refine acallsW_det hx ?_
    simp -dsimp
    refine condVW_intro (fun hp => ?_) (fun hp => ?_)
    · simp -dsimp
      rw [if_pos hp] at hinv
      exact tidy_now rfl ⟨by rw [hinv], rfl⟩
    · simp -dsimp [h0, h1, h7, h8]
      rw [if_neg (by simp [hp])] at hinv
      exact ⟨i + 1, by omega, wrapS (by omega), by omega, by simpa using hinv⟩
  · simp -dsimp
    rw [drop_end hlt, idxP] at hinv
    exact tidy_now rfl ⟨by rw [hinv], rfl⟩
theorem kind_index (l : List Int) (s : Int) (hl : l.length ≤ 2^40) (H : List Blk) : ACalls Tryz.prog 251 [.vs 1 (l.map fun x => [I x]), I s] H (fun e H' => e = .ret (I (idxP (fun x => decide (s = x)) l 0)) ∧ H' = H) := by
  refine acalls_tidy (acalls_of_vc (hn := fun _ => false) (od := fun _ => none) Tryz.func251 rfl (by kernel_rfl) ?_)
  simp -dsimp
  refine loop_rule (hn := fun _ => false) (od := fun _ => none) (fun (i : Nat) f H' => H' = H ∧ f 0 = .vs 1 (l.map fun x => [I x]) ∧ f 1 = I s ∧ f 7 = I l.length ∧ f 8 = I i ∧ i ≤ l.length ∧ idxP (fun x => decide (s = x)) (l.drop i) i = idxP (fun x => decide (s = x)) l 0) (fun i => l.length - i) (by kernel_rfl) 0 (by simp) ?_
  rintro i f H' ⟨rfl, h0, h1, h7, h8, hi, hinv⟩
  simp -dsimp [h0, h1, h7, h8]
  refine condVW_introD (fun hlt => ?_) (fun hlt => ?_)
  · rw [drop_cons hlt, idxP] at hinv
    simp -dsimp [h0, h1, h7, h8, List.getElem?_eq_getElem, hlt]
    refine condVW_introEq (fun hp => ?_) (fun hp => ?_)
    · simp -dsimp
      rw [if_pos (by simpa using hp)] at hinv
      exact tidy_now rfl ⟨by rw [hinv], rfl⟩
    · simp -dsimp [h0, h1, h7, h8]
      rw [if_neg (by simpa using hp)] at hinv
      exact ⟨i + 1, by omega, wrapS (by omega), by omega, by simpa using hinv⟩
  · simp -dsimp
    rw [drop_end hlt, idxP] at hinv
    exact tidy_now rfl ⟨by rw [hinv], rfl⟩
theorem kind_contains (l : List Int) (s : Int) (hl : l.length ≤ 2^40) (H : List Blk) : ACalls Tryz.prog 230 [.vs 1 (l.map fun x => [I x]), I s] H (fun e H' => e = .ret (Bo (l.any fun x => decide (s = x))) ∧ H' = H) := by
  refine acalls_tidy (acalls_of_vc (hn := fun _ => false) (od := fun _ => none) Tryz.func230 rfl (by kernel_rfl) ?_)
  simp -dsimp
  refine acallsW_det (kind_index l s hl _) ?_
  simp -dsimp
  exact tidy_now rfl ⟨by rw [idxP_any _ _ _ (Int.le_refl 0)], rfl⟩
abbrev refP (t : TypeId) (e : Int) : AV := .ifc t (.agg [I e])
abbrev refS (e : Int) : AV := refP 233 e
def chkE (e : Int) : AE := if e = 0 then .ret (.tup []) else .pan (refS e)
def ChkR (e : Int) (H : List Blk) : AE → List Blk → Prop := fun x H' => x = chkE e ∧ H' = H
theorem must_ok (b : Bool) (e : Int) (he : e ≠ 0) (H : List Blk) : ACalls Tryz.prog 173 [Bo b, I e] H (ChkR (mustE b e) H) := by
  refine acalls_tidy (acalls_of_vc (hn := fun _ => false) (od := fun _ => none) Tryz.func173 rfl (by kernel_rfl) ?_)
  cases b
  · simp -dsimp
    exact tidy_nowP rfl ⟨by simp [chkE, he], rfl⟩
  · simp -dsimp
    exact tidy_now rfl ⟨rfl, rfl⟩
end Go.Proofs
namespace Go.Proofs
open Go.Mu
theorem chkW {g : FuncId} {args : List AV} {H : List Blk} {R : AE → List Blk → Prop} {w : Wit R} {e : Int} (h : ACalls Tryz.prog g args H (ChkR e H)) (hz : e = 0 → R (.ret (.tup [])) H) (hn : e ≠ 0 → R (.pan (refS e)) H) : ACallsW Tryz.prog g args H R w := by
  refine acallsW_of h ?_
  rintro x H' ⟨rfl, rfl⟩
  unfold chkE
  split
  · rename_i h; exact hz h
  · rename_i h; exact hn h
theorem mustW {b : Bool} {e : Int} {H : List Blk} {R : AE → List Blk → Prop} {w : Wit R} (he : e ≠ 0) (hz : b = true → R (.ret (.tup [])) H) (hn : b = false → R (.pan (refS e)) H) : ACallsW Tryz.prog 173 [Bo b, I e] H R w := by
  refine chkW (must_ok b e he H) (fun h => hz ?_) (fun h => ?_)
  · cases b
    · exact absurd h he
    · rfl
  · cases b
    · exact hn rfl
    · exact absurd rfl h
theorem mustW_t {e : Int} {H : List Blk} {R : AE → List Blk → Prop} {w : Wit R} (h : R (.ret (.tup [])) H) (he : e ≠ 0 := by decide) : ACallsW Tryz.prog 173 [Bo true, I e] H R w := mustW he (fun _ => h) (fun h => by cases h)
theorem mustW_f {e : Int} {H : List Blk} {R : AE → List Blk → Prop} {w : Wit R} (h : R (.pan (refS e)) H) (he : e ≠ 0 := by decide) : ACallsW Tryz.prog 173 [Bo false, I e] H R w := mustW he (fun h => by cases h) (fun _ => h)
theorem mustW_D {p : Prop} [Decidable p] {e : Int} {H : List Blk} {R : AE → List Blk → Prop} {w : Wit R} (hz : p → R (.ret (.tup [])) H) (hn : ¬p → R (.pan (refS e)) H) (he : e ≠ 0 := by decide) : ACallsW Tryz.prog 173 [Bo (decide p), I e] H R w := mustW he (fun h => hz (of_decide_eq_true h)) (fun h => hn (of_decide_eq_false h))
theorem mustW_E {a b : Int} {e : Int} {H : List Blk} {R : AE → List Blk → Prop} {w : Wit R} (hz : a = b → R (.ret (.tup [])) H) (hn : a ≠ b → (a == b) = false → (a != b) = true → R (.pan (refS e)) H) (he : e ≠ 0 := by decide) : ACallsW Tryz.prog 173 [Bo (a == b), I e] H R w := mustW he (fun h => hz (by simpa using h)) (fun h => hn (ne_b h).1 (ne_b h).2.1 (ne_b h).2.2)
theorem mustW_NE {a b : Int} {e : Int} {H : List Blk} {R : AE → List Blk → Prop} {w : Wit R} (hz : a ≠ b → (a == b) = false → (a != b) = true → R (.ret (.tup [])) H) (hn : a = b → R (.pan (refS e)) H) (he : e ≠ 0 := by decide) : ACallsW Tryz.prog 173 [Bo (a != b), I e] H R w := mustW he (fun h => (fun h => hz (ne_b h).1 (ne_b h).2.1 (ne_b h).2.2) (by simpa using h)) (fun h => hn (by simpa using h))
theorem mustW_B {b : Bool} {e : Int} {H : List Blk} {R : AE → List Blk → Prop} {w : Wit R} (hz : b = false → R (.ret (.tup [])) H) (hn : b = true → R (.pan (refS e)) H) (he : e ≠ 0 := by decide) : ACallsW Tryz.prog 173 [Bo (!b), I e] H R w := mustW he (fun h => hz (by simpa using h)) (fun h => hn (by simpa using h))
theorem mustW_V {b : Bool} {e : Int} {H : List Blk} {R : AE → List Blk → Prop} {w : Wit R} (hz : b = true → R (.ret (.tup [])) H) (hn : b = false → R (.pan (refS e)) H) (he : e ≠ 0 := by decide) : ACallsW Tryz.prog 173 [Bo b, I e] H R w := mustW he hz hn
theorem chkE_ne {e : Int} (h : e ≠ 0) : chkE e = .pan (refS e) := if_neg h
theorem tidy_chk0 {H L : List Blk} {e : Int} (he : e = 0) : Tidy H (ChkR e H) (.ret (.tup [])) (H ++ L) := by
  subst he; exact tidy_same rfl ⟨rfl, rfl⟩
theorem tidy_chkP {H L : List Blk} {e e' : Int} (he : e' = e) (h0 : e' ≠ 0) : Tidy H (ChkR e H) (.pan (refS e')) (H ++ L) := by
  subst he; exact tidy_sameP rfl ⟨(chkE_ne h0).symm, rfl⟩
theorem tidy_chk0' {H : List Blk} {e : Int} (he : e = 0) : Tidy H (ChkR e H) (.ret (.tup [])) H := by
  subst he; exact tidy_now rfl ⟨rfl, rfl⟩
theorem tidy_chkP' {H : List Blk} {e e' : Int} (he : e' = e) (h0 : e' ≠ 0) : Tidy H (ChkR e H) (.pan (refS e')) H := by
  subst he; exact tidy_nowP rfl ⟨(chkE_ne h0).symm, rfl⟩
def ownW : List ByteArray := [⟨#[114, 101, 103, 105, 111, 110]⟩, ⟨#[115, 101, 99, 114, 101, 116]⟩, ⟨#[102, 110]⟩, ⟨#[118, 97, 114]⟩, ⟨#[97, 114, 114, 97, 121]⟩, ⟨#[115, 116, 97, 99, 107]⟩, ⟨#[105, 102]⟩, ⟨#[101, 108, 115, 101]⟩, ⟨#[119, 104, 105, 108, 101]⟩, ⟨#[102, 111, 114]⟩, ⟨#[112, 105, 99, 107]⟩]
theorem words_ok (H : List Blk) : ACalls Tryz.prog 226 [] H (fun e H' => e = .ret (St.sl ownW) ∧ H' = H) := by
  refine acalls_tidy (acalls_of_vc (hn := fun _ => false) (od := fun _ => none) Tryz.func226 rfl (by kernel_rfl) ?_)
  simp -dsimp
  exact tidy_now rfl ⟨rfl, rfl⟩
abbrev B8 (b : UInt8) : AV := .v (.int .u8 b.toNat)
theorem byte_indexF (l : List UInt8) (p : UInt8 → Bool) (g : FuncId) (cap : List AV) (hok : okFn Tryz.prog g = true) (hl : l.length ≤ 2^40) (H : List Blk) (hg : ∀ x ∈ l, ACalls Tryz.prog g (B8 x :: cap) H (fun e H' => e = .ret (Bo (p x)) ∧ H' = H)) :
    ACalls Tryz.prog 250 [.vs 1 (l.map fun x => [B8 x]), .fn (.func g) [] cap] H (fun e H' => e = .ret (I (idxP p l 0)) ∧ H' = H) := by
  refine acalls_tidy (acalls_of_vc (hn := fun _ => false) (od := fun _ => none) Tryz.func250 rfl (by kernel_rfl) ?_)
  simp -dsimp
  refine loop_rule (hn := fun _ => false) (od := fun _ => none) (fun (i : Nat) f H' => H' = H ∧ f 0 = .vs 1 (l.map fun x => [B8 x]) ∧ f 1 = .fn (.func g) [] cap ∧ f 7 = I l.length ∧ f 8 = I i ∧ i ≤ l.length ∧ idxP p (l.drop i) i = idxP p l 0) (fun i => l.length - i) (by kernel_rfl) 0 (by simp) ?_
  rintro i f H' ⟨rfl, h0, h1, h7, h8, hi, hinv⟩
  simp -dsimp [h0, h1, h7, h8]
  refine condVW_introD (fun hlt => ?_) (fun hlt => ?_)
  · rw [drop_cons hlt, idxP] at hinv
    have hx := hg l[i] (List.getElem_mem hlt)
    try simp only [Vr.cells, Fc.cells] at hx
    simp -dsimp [h0, h1, h7, h8, List.getElem?_eq_getElem, hlt, hok]
    refine acallsW_det hx ?_
    simp -dsimp
    refine condVW_intro (fun hp => ?_) (fun hp => ?_)
    · simp -dsimp
      rw [if_pos hp] at hinv
      exact tidy_now rfl ⟨by rw [hinv], rfl⟩
    · simp -dsimp [h0, h1, h7, h8]
      rw [if_neg (by simp [hp])] at hinv
      exact ⟨i + 1, by omega, wrapS (by omega), by omega, by simpa using hinv⟩
  · simp -dsimp
    rw [drop_end hlt, idxP] at hinv
    exact tidy_now rfl ⟨by rw [hinv], rfl⟩
theorem byte_containsF (l : List UInt8) (p : UInt8 → Bool) (g : FuncId) (cap : List AV) (hok : okFn Tryz.prog g = true) (hl : l.length ≤ 2^40) (H : List Blk) (hg : ∀ x ∈ l, ACalls Tryz.prog g (B8 x :: cap) H (fun e H' => e = .ret (Bo (p x)) ∧ H' = H)) :
    ACalls Tryz.prog 227 [.vs 1 (l.map fun x => [B8 x]), .fn (.func g) [] cap] H (fun e H' => e = .ret (Bo (l.any p)) ∧ H' = H) := by
  refine acalls_tidy (acalls_of_vc (hn := fun _ => false) (od := fun _ => none) Tryz.func227 rfl (by kernel_rfl) ?_)
  simp -dsimp
  refine acallsW_det (byte_indexF l p g cap hok hl _ hg) ?_
  simp -dsimp
  exact tidy_now rfl ⟨by rw [idxP_any _ _ _ (Int.le_refl 0)], rfl⟩
@[simp] theorem bytesA_mk (l : List UInt8) : bytesA ⟨⟨l⟩⟩ = l.map fun b => [B8 b] := rfl
@[simp] theorem size_mk (l : List UInt8) : (ByteArray.mk ⟨l⟩).size = l.length := rfl
def badB (b : UInt8) : Bool := (decide ((b.toNat : Int) < 97) || decide (122 < (b.toNat : Int))) && (decide ((b.toNat : Int) < 48) || decide (57 < (b.toNat : Int))) && (b.toNat : Int) != 95
theorem bad_ok (b : UInt8) (H : List Blk) : ACalls Tryz.prog 228 [B8 b] H (fun e H' => e = .ret (Bo (badB b)) ∧ H' = H) := by
  refine acalls_tidy (acalls_of_vc (hn := fun _ => false) (od := fun _ => none) Tryz.func228 rfl (by kernel_rfl) ?_)
  simp -dsimp
  repeat' ((with_reducible first | refine And.intro ?_ ?_ | refine guardVW_introTD (fun _ => ?_) (fun _ => ?_) | refine guardVW_introFD (fun _ => ?_) (fun _ => ?_) | refine condVW_introD (fun _ => ?_) (fun _ => ?_) | refine guardVW_introTE (fun _ => ?_) (fun _ _ _ => ?_) | refine guardVW_introFE (fun _ => ?_) (fun _ _ _ => ?_) | refine condVW_introE (fun _ => ?_) (fun _ _ _ => ?_) | refine guardVW_introTNE (fun _ _ _ => ?_) (fun _ => ?_) | refine guardVW_introFNE (fun _ _ _ => ?_) (fun _ => ?_) | refine condVW_introNE (fun _ _ _ => ?_) (fun _ => ?_) | refine guardVW_introTB (fun _ => ?_) (fun _ => ?_) | refine guardVW_introFB (fun _ => ?_) (fun _ => ?_) | refine condVW_introB (fun _ => ?_) (fun _ => ?_) | refine guardVW_introT (fun _ => ?_) (fun _ => ?_) | refine guardVW_introF (fun _ => ?_) (fun _ => ?_) | refine condVW_intro (fun _ => ?_) (fun _ => ?_)) <;> simp -dsimp [*])
  all_goals refine tidy_now rfl ⟨?_, rfl⟩
  all_goals first | (simp [badB, *]; done) | trace_state
def lowB (b : UInt8) : Bool := !(decide ((b.toNat : Int) < 97) || decide (122 < (b.toNat : Int)))
def namedB (s : ByteArray) : Bool := match s.data.toList with
  | [] => false
  | b :: l => decide (l.length < 16) && lowB b && !(ownW.any fun x => decide (s = x)) && !((b :: l).any badB)
theorem named_ok (s : ByteArray) (hs : s.size ≤ 2^40) (H : List Blk) : ACalls Tryz.prog 177 [St s] H (fun e H' => e = .ret (Bo (namedB s)) ∧ H' = H) := by
  refine acalls_tidy (acalls_of_vc (hn := fun _ => false) (od := fun _ => none) Tryz.func177 rfl (by kernel_rfl) ?_)
  have c := words_ok
  have d := fun s H => str_contains ownW s (by decide) H
  obtain ⟨⟨l⟩⟩ := s
  have f := fun H => byte_containsF l badB 228 [] (by simp) (by simp only [size_mk] at hs; omega) H (fun x _ => bad_ok x H)
  cases l with
  | nil =>
    simp -dsimp
    exact tidy_now rfl ⟨rfl, rfl⟩
  | cons b l =>
    simp only [List.map_cons] at f
    simp -dsimp
    repeat' ((with_reducible first | refine And.intro ?_ ?_ | refine guardVW_introTD (fun _ => ?_) (fun _ => ?_) | refine guardVW_introFD (fun _ => ?_) (fun _ => ?_) | refine condVW_introD (fun _ => ?_) (fun _ => ?_) | refine guardVW_introTE (fun _ => ?_) (fun _ _ _ => ?_) | refine guardVW_introFE (fun _ => ?_) (fun _ _ _ => ?_) | refine condVW_introE (fun _ => ?_) (fun _ _ _ => ?_) | refine guardVW_introTNE (fun _ _ _ => ?_) (fun _ => ?_) | refine guardVW_introFNE (fun _ _ _ => ?_) (fun _ => ?_) | refine condVW_introNE (fun _ _ _ => ?_) (fun _ => ?_) | refine guardVW_introTB (fun _ => ?_) (fun _ => ?_) | refine guardVW_introFB (fun _ => ?_) (fun _ => ?_) | refine condVW_introB (fun _ => ?_) (fun _ => ?_) | refine guardVW_introT (fun _ => ?_) (fun _ => ?_) | refine guardVW_introF (fun _ => ?_) (fun _ => ?_) | refine condVW_intro (fun _ => ?_) (fun _ => ?_) | refine acallsW_det (c _) ?_ | refine callDW_intro (c _) ?_ | refine acallsW_det (d _ _) ?_ | refine callDW_intro (d _ _) ?_ | refine acallsW_det (f _) ?_ | refine callDW_intro (f _) ?_) <;> simp -dsimp [*])
    all_goals first
      | (exfalso; omega)
      | (refine tidy_now rfl ⟨?_, rfl⟩; simp [namedB, lowB, *]; done)
      | (refine tidy_now rfl ⟨?_, rfl⟩; simp [namedB, lowB, *]; intros; omega)
      | trace_state
end Go.Proofs
namespace Go.Proofs
open Go.Mu
def aset {β : Type} (k : ByteArray) (v : β) : List (ByteArray × β) → List (ByteArray × β)
  | [] => [(k, v)]
  | (k', v') :: r => if k = k' then (k, v) :: r else (k', v') :: aset k v r
def alook {β : Type} (k : ByteArray) : List (ByteArray × β) → Option β
  | [] => none
  | (k', v') :: r => if k = k' then some v' else alook k r
def strM {β : Type} (g : β → AV) (l : List (ByteArray × β)) : List (Value × AV) := l.map fun p => (.string p.1, g p.2)
theorem mset_str {β : Type} (g : β → AV) (k : ByteArray) (v : β) : ∀ l, mset .string (.string k) (g v) (strM g l) = some (strM g (aset k v l))
  | [] => rfl
  | (k', v') :: r => by
    have e : strM g ((k', v') :: r) = (.string k', g v') :: strM g r := rfl
    rw [e, mset, sameNow_str, aset]
    by_cases h : k = k'
    · subst h; simp [strM]
    · have h' : decide (k = k') = false := by simp [h]
      simp only [h', if_neg h]
      rw [mset_str g k v r]; rfl
theorem mfind_str {β : Type} (g : β → AV) (k : ByteArray) : ∀ l, mfind .string (.string k) (strM g l) = some ((alook k l).map g)
  | [] => rfl
  | (k', v') :: r => by
    have e : strM g ((k', v') :: r) = (.string k', g v') :: strM g r := rfl
    rw [e, mfind, sameNow_str, alook]
    by_cases h : k = k'
    · subst h; simp
    · have h' : decide (k = k') = false := by simp [h]
      simp only [h', if_neg h]
      rw [mfind_str g k r]
abbrev okA (b : Bool) : AV := .agg [Bo b]
theorem alook_set {β : Type} (k k' : ByteArray) (v : β) : ∀ l, alook k (aset k' v l) = if k = k' then some v else alook k l
  | [] => by simp [aset, alook]
  | (a, b) :: r => by
    rw [aset]
    by_cases h : k' = a
    · subst h
      rw [if_pos rfl, alook, alook]
      split <;> rfl
    · rw [if_neg h, alook, alook, alook_set k k' v r]
      by_cases h1 : k = a
      · subst h1; rw [if_pos rfl, if_pos rfl, if_neg (fun e => h e.symm)]
      · rw [if_neg h1, if_neg h1]
def seenB (s : ByteArray) (l : List (ByteArray × Bool)) : Bool := (alook s l).getD false
def oneE (s : ByteArray) (l : List (ByteArray × Bool)) : Int := mustE (namedB s && !(seenB s l)) 8
theorem optmap_getD {β γ : Type} (o : Option β) (g : β → γ) (d : β) : (o.map g).getD (g d) = g (o.getD d) := by cases o <;> rfl
theorem one_ok (s : ByteArray) (hs : s.size ≤ 2^40) (l : List (ByteArray × Bool)) (k : Nat) (H : List Blk) (hk : H[k]? = some (.map (strM okA l))) :
    ACalls Tryz.prog 176 [St s, .hm k] H (fun x H' => x = chkE (oneE s l) ∧ H' = if oneE s l = 0 then H.set k (.map (strM okA (aset s true l))) else H) := by
  refine acalls_of_vc (hn := fun _ => false) (od := fun _ => none) Tryz.func176 rfl (by kernel_rfl) ?_
  have c := fun H => named_ok s hs H
  have hm : mapEs H (.hm k) = some (strM okA l) := by simp only [mapEs]; rw [hk]
  have hf := mfind_str okA s l
  have hs := mset_str okA s true l
  have hd : ((alook s l).map okA).getD (assertV.avZ (.agg #[.bool false])) = okA ((alook s l).getD false) := optmap_getD _ okA false
  obtain ⟨b, hb⟩ : ∃ b, (alook s l).getD false = b := ⟨_, rfl⟩
  rw [hb] at hd
  simp -dsimp [hm, hf, hs]
  refine acallsW_det (c _) ?_
  cases hn : namedB s
  · simp -dsimp
    repeat' ((with_reducible first | refine And.intro ?_ ?_ | refine guardVW_introTD (fun _ => ?_) (fun _ => ?_) | refine guardVW_introFD (fun _ => ?_) (fun _ => ?_) | refine condVW_introD (fun _ => ?_) (fun _ => ?_) | refine guardVW_introTE (fun _ => ?_) (fun _ _ _ => ?_) | refine guardVW_introFE (fun _ => ?_) (fun _ _ _ => ?_) | refine condVW_introE (fun _ => ?_) (fun _ _ _ => ?_) | refine guardVW_introTNE (fun _ _ _ => ?_) (fun _ => ?_) | refine guardVW_introFNE (fun _ _ _ => ?_) (fun _ => ?_) | refine condVW_introNE (fun _ _ _ => ?_) (fun _ => ?_) | refine guardVW_introTB (fun _ => ?_) (fun _ => ?_) | refine guardVW_introFB (fun _ => ?_) (fun _ => ?_) | refine condVW_introB (fun _ => ?_) (fun _ => ?_) | refine guardVW_introT (fun _ => ?_) (fun _ => ?_) | refine guardVW_introF (fun _ => ?_) (fun _ => ?_) | refine condVW_intro (fun _ => ?_) (fun _ => ?_) | refine mustW_t ?_ | refine mustW_f ?_ | refine mustW_D (fun _ => ?_) (fun _ => ?_) | refine mustW_E (fun _ => ?_) (fun _ _ _ => ?_) | refine mustW_NE (fun _ _ _ => ?_) (fun _ => ?_) | refine mustW_B (fun _ => ?_) (fun _ => ?_) | refine mustW_V (fun _ => ?_) (fun _ => ?_)) <;> simp -dsimp [*])
    exact ⟨by simp [oneE, hn]; rfl, by simp [oneE, hn]⟩
  · cases b
    · simp -dsimp [hm, hf, hs, hd]
      refine mustW_t ?_
      simp -dsimp [hm, hf, hs, hd]
      have e : oneE s l = 0 := by simp [oneE, hn, seenB, hb]
      exact ⟨by rw [e]; rfl, by simp [e]⟩
    · simp -dsimp [hm, hf, hs, hd]
      refine mustW_f ?_
      simp -dsimp
      have e : oneE s l = 8 := by simp [oneE, hn, seenB, hb]
      exact ⟨by rw [e]; rfl, by simp [e]⟩
end Go.Proofs
namespace Go.Proofs
open Go.Mu
def argsN (op : Int) : Int := if op = 1 ∨ op = 2 then 0 else if op = 3 ∨ op = 4 ∨ op = 5 then 1 else if op = 21 then 3 else if 6 ≤ op ∧ op ≤ 20 then 2 else -1
theorem args_ok (op : Int) (H : List Blk) : ACalls Tryz.prog 232 [I op] H (fun e H' => e = .ret (I (argsN op)) ∧ H' = H) := by
  refine acalls_tidy (acalls_of_vc (hn := fun _ => false) (od := fun _ => none) Tryz.func232 rfl (by kernel_rfl) ?_)
  simp -dsimp
  repeat' ((with_reducible first | refine And.intro ?_ ?_ | refine guardVW_introTD (fun _ => ?_) (fun _ => ?_) | refine guardVW_introFD (fun _ => ?_) (fun _ => ?_) | refine condVW_introD (fun _ => ?_) (fun _ => ?_) | refine guardVW_introTE (fun _ => ?_) (fun _ _ _ => ?_) | refine guardVW_introFE (fun _ => ?_) (fun _ _ _ => ?_) | refine condVW_introE (fun _ => ?_) (fun _ _ _ => ?_) | refine guardVW_introTNE (fun _ _ _ => ?_) (fun _ => ?_) | refine guardVW_introFNE (fun _ _ _ => ?_) (fun _ => ?_) | refine condVW_introNE (fun _ _ _ => ?_) (fun _ => ?_) | refine guardVW_introTB (fun _ => ?_) (fun _ => ?_) | refine guardVW_introFB (fun _ => ?_) (fun _ => ?_) | refine condVW_introB (fun _ => ?_) (fun _ => ?_) | refine guardVW_introT (fun _ => ?_) (fun _ => ?_) | refine guardVW_introF (fun _ => ?_) (fun _ => ?_) | refine condVW_intro (fun _ => ?_) (fun _ => ?_)) <;> simp -dsimp [*])
  all_goals refine tidy_now rfl ⟨?_, rfl⟩
  all_goals unfold argsN
  all_goals first | (subst_vars; rfl) | (simp [*]; done) | (rw [if_neg (by omega), if_neg (by omega), if_neg (by omega)]; first | rw [if_pos (by omega)] | rw [if_neg (by omega)])
def blankB (e : Ex) : Bool := e.op == 0 && e.word == 0 && e.name.toList.isEmpty && ((e.args.length : Int) == 0)
theorem blank_ok (e : Ex) (H : List Blk) : ACalls Tryz.prog 231 [.agg e.cells] H (fun x H' => x = .ret (Bo (blankB e)) ∧ H' = H) := by
  refine acalls_tidy (acalls_of_vc (hn := fun _ => false) (od := fun _ => none) Tryz.func231 rfl (by kernel_rfl) ?_)
  simp -dsimp
  repeat' ((with_reducible first | refine And.intro ?_ ?_ | refine guardVW_introTD (fun _ => ?_) (fun _ => ?_) | refine guardVW_introFD (fun _ => ?_) (fun _ => ?_) | refine condVW_introD (fun _ => ?_) (fun _ => ?_) | refine guardVW_introTE (fun _ => ?_) (fun _ _ _ => ?_) | refine guardVW_introFE (fun _ => ?_) (fun _ _ _ => ?_) | refine condVW_introE (fun _ => ?_) (fun _ _ _ => ?_) | refine guardVW_introTNE (fun _ _ _ => ?_) (fun _ => ?_) | refine guardVW_introFNE (fun _ _ _ => ?_) (fun _ => ?_) | refine condVW_introNE (fun _ _ _ => ?_) (fun _ => ?_) | refine guardVW_introTB (fun _ => ?_) (fun _ => ?_) | refine guardVW_introFB (fun _ => ?_) (fun _ => ?_) | refine condVW_introB (fun _ => ?_) (fun _ => ?_) | refine guardVW_introT (fun _ => ?_) (fun _ => ?_) | refine guardVW_introF (fun _ => ?_) (fun _ => ?_) | refine condVW_intro (fun _ => ?_) (fun _ => ?_)) <;> simp -dsimp [*])
  all_goals exact tidy_same rfl ⟨by simp [blankB, *], rfl⟩
def askBox (p : Pg) (f : Int) (kv ka : Nat) (keep : AV) (all : List ByteArray) : Blk := .box 192 [Rg.sl p.regions, Fc.sl p.funcs, I f, .hm kv, .hm ka, keep, St.sl all]
abbrev Vr.av (v : Vr) : AV := .agg v.cells
structure AskIn (H : List Blk) (a : Nat) (p : Pg) (f : Int) (kv ka : Nat) (keep : AV) (all : List ByteArray) (tv : List (ByteArray × Vr)) (ta : List (ByteArray × Bool)) : Prop where
  box : H[a]? = some (askBox p f kv ka keep all)
  vars : H[kv]? = some (.map (strM Vr.av tv))
  arr : H[ka]? = some (.map (strM okA ta))
def isV (n : ByteArray) (tv : List (ByteArray × Vr)) : Bool := (alook n tv).isSome
abbrev vr0 : Vr := ⟨ByteArray.empty, 0, 0, false⟩
def kindV (n : ByteArray) (tv : List (ByteArray × Vr)) : Int := ((alook n tv).getD vr0).kind
def wordE (tv : List (ByteArray × Vr)) (ta : List (ByteArray × Bool)) (n : ByteArray) : Int :=
  thenE (mustE (isV n tv || seenB n ta) 8) (mustE (isV n tv && kindV n tv == 1) 9)
def arrayE (tv : List (ByteArray × Vr)) (ta : List (ByteArray × Bool)) (n : ByteArray) : Int :=
  thenE (mustE (isV n tv || seenB n ta) 8) (mustE (!isV n tv || kindV n tv != 1) 9)
theorem word_ok (n : ByteArray) {H : List Blk} {a : Nat} {p : Pg} {f : Int} {kv ka : Nat} {keep : AV} {all : List ByteArray} {tv : List (ByteArray × Vr)} {ta : List (ByteArray × Bool)} (h : AskIn H a p f kv ka keep all tv ta) :
    ACalls Tryz.prog 179 [.bp a 0, St n] H (ChkR (wordE tv ta n) H) := by
  refine acalls_tidy (acalls_of_vc (hn := fun _ => false) (od := fun _ => none) Tryz.func179 rfl (by kernel_rfl) ?_)
  obtain ⟨hb, hv, ha⟩ := h
  simp only [askBox] at hb
  have gb : ∀ x, (H ++ [x])[a]? = H[a]? := fun x => by rw [get_app_old hb [x], hb]
  have hma : ∀ L, mapEs (H ++ L) (.hm ka) = some (strM okA ta) := fun L => by simp only [mapEs]; rw [get_app_old ha L]
  have hmv0 : mapEs H (.hm kv) = some (strM Vr.av tv) := by simp only [mapEs]; rw [hv]
  have hfv := mfind_str Vr.av n tv
  have hfa := mfind_str okA n ta
  have hd : ((alook n ta).map okA).getD (assertV.avZ (.agg #[.bool false])) = okA (seenB n ta) := optmap_getD _ okA false
  have hd2 : ((alook n tv).map Vr.av).getD (assertV.avZ (.agg #[.string ByteArray.empty, .int .i64 0, .int .i64 0, .bool false])) = Vr.av ((alook n tv).getD vr0) := optmap_getD _ Vr.av vr0
  obtain ⟨v, hvv⟩ : ∃ v, (alook n tv).getD vr0 = v := ⟨_, rfl⟩
  have hki : kindV n tv = v.kind := by rw [kindV, hvv]
  have hiv : (alook n tv).isSome = isV n tv := rfl
  rw [hvv] at hd2
  simp -dsimp [hb, hmv0, hfv, hd2, hiv]
  cases hi : isV n tv <;> cases hs : seenB n ta
  all_goals try simp -dsimp [gb, hb, hma, hfa, hd, hs]
  all_goals repeat' ((with_reducible first | refine And.intro ?_ ?_ | refine guardVW_introTD (fun _ => ?_) (fun _ => ?_) | refine guardVW_introFD (fun _ => ?_) (fun _ => ?_) | refine condVW_introD (fun _ => ?_) (fun _ => ?_) | refine guardVW_introTE (fun _ => ?_) (fun _ _ _ => ?_) | refine guardVW_introFE (fun _ => ?_) (fun _ _ _ => ?_) | refine condVW_introE (fun _ => ?_) (fun _ _ _ => ?_) | refine guardVW_introTNE (fun _ _ _ => ?_) (fun _ => ?_) | refine guardVW_introFNE (fun _ _ _ => ?_) (fun _ => ?_) | refine condVW_introNE (fun _ _ _ => ?_) (fun _ => ?_) | refine guardVW_introTB (fun _ => ?_) (fun _ => ?_) | refine guardVW_introFB (fun _ => ?_) (fun _ => ?_) | refine condVW_introB (fun _ => ?_) (fun _ => ?_) | refine guardVW_introT (fun _ => ?_) (fun _ => ?_) | refine guardVW_introF (fun _ => ?_) (fun _ => ?_) | refine condVW_intro (fun _ => ?_) (fun _ => ?_) | refine mustW_t ?_ | refine mustW_f ?_ | refine mustW_D (fun _ => ?_) (fun _ => ?_) | refine mustW_E (fun _ => ?_) (fun _ _ _ => ?_) | refine mustW_NE (fun _ _ _ => ?_) (fun _ => ?_) | refine mustW_B (fun _ => ?_) (fun _ => ?_) | refine mustW_V (fun _ => ?_) (fun _ => ?_)) <;> simp -dsimp [*])
  all_goals first | exact tidy_chk0 (by simp [wordE, arrayE, hi, hs, hki, mustE, *]) | exact tidy_chkP (by simp [wordE, arrayE, hi, hs, hki, mustE, thenE, *]) (by decide)
theorem array_ok (n : ByteArray) {H : List Blk} {a : Nat} {p : Pg} {f : Int} {kv ka : Nat} {keep : AV} {all : List ByteArray} {tv : List (ByteArray × Vr)} {ta : List (ByteArray × Bool)} (h : AskIn H a p f kv ka keep all tv ta) :
    ACalls Tryz.prog 182 [.bp a 0, St n] H (ChkR (arrayE tv ta n) H) := by
  refine acalls_tidy (acalls_of_vc (hn := fun _ => false) (od := fun _ => none) Tryz.func182 rfl (by kernel_rfl) ?_)
  obtain ⟨hb, hv, ha⟩ := h
  simp only [askBox] at hb
  have gb : ∀ x, (H ++ [x])[a]? = H[a]? := fun x => by rw [get_app_old hb [x], hb]
  have hma : ∀ L, mapEs (H ++ L) (.hm ka) = some (strM okA ta) := fun L => by simp only [mapEs]; rw [get_app_old ha L]
  have hmv0 : mapEs H (.hm kv) = some (strM Vr.av tv) := by simp only [mapEs]; rw [hv]
  have hfv := mfind_str Vr.av n tv
  have hfa := mfind_str okA n ta
  have hd : ((alook n ta).map okA).getD (assertV.avZ (.agg #[.bool false])) = okA (seenB n ta) := optmap_getD _ okA false
  have hd2 : ((alook n tv).map Vr.av).getD (assertV.avZ (.agg #[.string ByteArray.empty, .int .i64 0, .int .i64 0, .bool false])) = Vr.av ((alook n tv).getD vr0) := optmap_getD _ Vr.av vr0
  obtain ⟨v, hvv⟩ : ∃ v, (alook n tv).getD vr0 = v := ⟨_, rfl⟩
  have hki : kindV n tv = v.kind := by rw [kindV, hvv]
  have hiv : (alook n tv).isSome = isV n tv := rfl
  rw [hvv] at hd2
  simp -dsimp [hb, hmv0, hfv, hd2, hiv]
  cases hi : isV n tv <;> cases hs : seenB n ta
  all_goals try simp -dsimp [gb, hb, hma, hfa, hd, hs]
  all_goals repeat' ((with_reducible first | refine And.intro ?_ ?_ | refine guardVW_introTD (fun _ => ?_) (fun _ => ?_) | refine guardVW_introFD (fun _ => ?_) (fun _ => ?_) | refine condVW_introD (fun _ => ?_) (fun _ => ?_) | refine guardVW_introTE (fun _ => ?_) (fun _ _ _ => ?_) | refine guardVW_introFE (fun _ => ?_) (fun _ _ _ => ?_) | refine condVW_introE (fun _ => ?_) (fun _ _ _ => ?_) | refine guardVW_introTNE (fun _ _ _ => ?_) (fun _ => ?_) | refine guardVW_introFNE (fun _ _ _ => ?_) (fun _ => ?_) | refine condVW_introNE (fun _ _ _ => ?_) (fun _ => ?_) | refine guardVW_introTB (fun _ => ?_) (fun _ => ?_) | refine guardVW_introFB (fun _ => ?_) (fun _ => ?_) | refine condVW_introB (fun _ => ?_) (fun _ => ?_) | refine guardVW_introT (fun _ => ?_) (fun _ => ?_) | refine guardVW_introF (fun _ => ?_) (fun _ => ?_) | refine condVW_intro (fun _ => ?_) (fun _ => ?_) | refine mustW_t ?_ | refine mustW_f ?_ | refine mustW_D (fun _ => ?_) (fun _ => ?_) | refine mustW_E (fun _ => ?_) (fun _ _ _ => ?_) | refine mustW_NE (fun _ _ _ => ?_) (fun _ => ?_) | refine mustW_B (fun _ => ?_) (fun _ => ?_) | refine mustW_V (fun _ => ?_) (fun _ => ?_)) <;> simp -dsimp [*])
  all_goals first | exact tidy_chk0 (by simp [wordE, arrayE, hi, hs, hki, mustE, *]) | exact tidy_chkP (by simp [wordE, arrayE, hi, hs, hki, mustE, thenE, *]) (by decide)
theorem sets_ok (n : ByteArray) {H : List Blk} {a : Nat} {p : Pg} {f : Int} {kv ka : Nat} {keep : AV} {all : List ByteArray} {tv : List (ByteArray × Vr)} {ta : List (ByteArray × Bool)} (h : AskIn H a p f kv ka keep all tv ta) (hall : all.length ≤ 2^40) :
    ACalls Tryz.prog 180 [.bp a 0, St n] H (ChkR (mustE (!(all.any fun x => decide (n = x))) 2) H) := by
  refine acalls_tidy (acalls_of_vc (hn := fun _ => false) (od := fun _ => none) Tryz.func180 rfl (by kernel_rfl) ?_)
  obtain ⟨hb, hv, ha⟩ := h
  simp only [askBox] at hb
  have c := fun H => str_contains all n hall H
  simp -dsimp [hb]
  refine acallsW_det (c _) ?_
  cases hc : all.any fun x => decide (n = x)
  all_goals try simp -dsimp
  all_goals repeat' ((with_reducible first | refine And.intro ?_ ?_ | refine guardVW_introTD (fun _ => ?_) (fun _ => ?_) | refine guardVW_introFD (fun _ => ?_) (fun _ => ?_) | refine condVW_introD (fun _ => ?_) (fun _ => ?_) | refine guardVW_introTE (fun _ => ?_) (fun _ _ _ => ?_) | refine guardVW_introFE (fun _ => ?_) (fun _ _ _ => ?_) | refine condVW_introE (fun _ => ?_) (fun _ _ _ => ?_) | refine guardVW_introTNE (fun _ _ _ => ?_) (fun _ => ?_) | refine guardVW_introFNE (fun _ _ _ => ?_) (fun _ => ?_) | refine condVW_introNE (fun _ _ _ => ?_) (fun _ => ?_) | refine guardVW_introTB (fun _ => ?_) (fun _ => ?_) | refine guardVW_introFB (fun _ => ?_) (fun _ => ?_) | refine condVW_introB (fun _ => ?_) (fun _ => ?_) | refine guardVW_introT (fun _ => ?_) (fun _ => ?_) | refine guardVW_introF (fun _ => ?_) (fun _ => ?_) | refine condVW_intro (fun _ => ?_) (fun _ => ?_) | refine mustW_t ?_ | refine mustW_f ?_ | refine mustW_D (fun _ => ?_) (fun _ => ?_) | refine mustW_E (fun _ => ?_) (fun _ _ _ => ?_) | refine mustW_NE (fun _ _ _ => ?_) (fun _ => ?_) | refine mustW_B (fun _ => ?_) (fun _ => ?_) | refine mustW_V (fun _ => ?_) (fun _ => ?_)) <;> simp -dsimp [*])
  · exact tidy_chk0' (by simp)
  · exact tidy_chkP' (by simp) (by decide)
mutual
def Ex.chk (tv : List (ByteArray × Vr)) (ta : List (ByteArray × Bool)) (deep : Nat) : Ex → Int
  | .mk op word name args => thenE (mustE (decide ((deep : Int) ≤ 64)) 12) <| thenE (mustE (decide (0 ≤ argsN op) && (args.length : Int) == argsN op) 9) <|
      thenE (mustE (op == 1 || word == 0) 9) <| thenE (if op = 2 then wordE tv ta name else if op = 3 then arrayE tv ta name else mustE name.toList.isEmpty 9) <| exsChk tv ta (deep + 1) args
def exsChk (tv : List (ByteArray × Vr)) (ta : List (ByteArray × Bool)) (deep : Nat) : List Ex → Int
  | [] => 0
  | e :: l => thenE (e.chk tv ta deep) (exsChk tv ta deep l)
end
theorem Ex.chk_eq (tv : List (ByteArray × Vr)) (ta : List (ByteArray × Bool)) (deep : Nat) (e : Ex) : e.chk tv ta deep = thenE (mustE (decide ((deep : Int) ≤ 64)) 12) (thenE (mustE (decide (0 ≤ argsN e.op) && (e.args.length : Int) == argsN e.op) 9) (
      thenE (mustE (e.op == 1 || e.word == 0) 9) (thenE (if e.op = 2 then wordE tv ta e.name else if e.op = 3 then arrayE tv ta e.name else mustE e.name.toList.isEmpty 9) (exsChk tv ta (deep + 1) e.args)))) := by
  cases e; rw [Ex.chk]; rfl
end Go.Proofs
namespace Go.Proofs
open Go.Mu
theorem AskIn.app {H : List Blk} {a : Nat} {p : Pg} {f : Int} {kv ka : Nat} {keep : AV} {all : List ByteArray} {tv : List (ByteArray × Vr)} {ta : List (ByteArray × Bool)} (h : AskIn H a p f kv ka keep all tv ta) (L : List Blk) : AskIn (H ++ L) a p f kv ka keep all tv ta :=
  ⟨get_app_old h.box L, get_app_old h.vars L, get_app_old h.arr L⟩
theorem exs_parts (e : Ex) {i : Nat} (h : i < e.args.length) : e.args[i].count < e.count := by
  have := exs_get h
  rw [Ex.count_eq e]; omega
theorem expr_ok (tv : List (ByteArray × Vr)) (ta : List (ByteArray × Bool)) (n : Nat) : ∀ (e : Ex) (deep : Nat), e.count ≤ n → e.count ≤ 2^40 → deep ≤ 2^40 + n → ∀ {H : List Blk} {a : Nat} {p : Pg} {f : Int} {kv ka : Nat} {keep : AV} {all : List ByteArray}, AskIn H a p f kv ka keep all tv ta →
    ACalls Tryz.prog 181 [.bp a 0, .agg e.cells, I deep] H (ChkR (e.chk tv ta deep) H) := by
  induction n with
  | zero => intro e deep h; rw [Ex.count_eq] at h; omega
  | succ n ih =>
    intro e deep hn hb hdeep H a p f kv ka keep all h
    refine acalls_tidy (acalls_of_vc (hn := fun _ => false) (od := fun _ => none) Tryz.func181 rfl (by kernel_rfl) ?_)
    rw [Ex.chk_eq]
    have hlen := exs_len e.args
    have hec := Ex.count_eq e
    have ca := fun H => args_ok e.op H
    obtain ⟨E, hE⟩ : ∃ E, E = thenE (mustE (decide ((deep : Int) ≤ 64)) 12) (thenE (mustE (decide (0 ≤ argsN e.op) && (e.args.length : Int) == argsN e.op) 9) (
      thenE (mustE (e.op == 1 || e.word == 0) 9) (thenE (if e.op = 2 then wordE tv ta e.name else if e.op = 3 then arrayE tv ta e.name else mustE e.name.toList.isEmpty 9) (exsChk tv ta (deep + 1) e.args)))) := ⟨_, rfl⟩
    rw [← hE]
    replace hE := Hid.mk hE
    replace hec := Hid.mk hec
    simp -dsimp
    repeat' ((with_reducible first | refine And.intro ?_ ?_ | refine guardVW_introTD (fun _ => ?_) (fun _ => ?_) | refine guardVW_introFD (fun _ => ?_) (fun _ => ?_) | refine condVW_introD (fun _ => ?_) (fun _ => ?_) | refine guardVW_introTE (fun _ => ?_) (fun _ _ _ => ?_) | refine guardVW_introFE (fun _ => ?_) (fun _ _ _ => ?_) | refine condVW_introE (fun _ => ?_) (fun _ _ _ => ?_) | refine guardVW_introTNE (fun _ _ _ => ?_) (fun _ => ?_) | refine guardVW_introFNE (fun _ _ _ => ?_) (fun _ => ?_) | refine condVW_introNE (fun _ _ _ => ?_) (fun _ => ?_) | refine guardVW_introTB (fun _ => ?_) (fun _ => ?_) | refine guardVW_introFB (fun _ => ?_) (fun _ => ?_) | refine condVW_introB (fun _ => ?_) (fun _ => ?_) | refine guardVW_introT (fun _ => ?_) (fun _ => ?_) | refine guardVW_introF (fun _ => ?_) (fun _ => ?_) | refine condVW_intro (fun _ => ?_) (fun _ => ?_) | refine mustW_t ?_ | refine mustW_f ?_ | refine mustW_D (fun _ => ?_) (fun _ => ?_) | refine mustW_E (fun _ => ?_) (fun _ _ _ => ?_) | refine mustW_NE (fun _ _ _ => ?_) (fun _ => ?_) | refine mustW_B (fun _ => ?_) (fun _ => ?_) | refine mustW_V (fun _ => ?_) (fun _ => ?_) | refine acallsW_det (ca _) ?_ | refine callDW_intro (ca _) ?_ | refine chkW (word_ok _ (h.app _)) (fun _ => ?_) (fun _ => ?_) | refine chkW (array_ok _ (h.app _)) (fun _ => ?_) (fun _ => ?_)) <;> simp -dsimp [*])
    all_goals replace hE := hE.out
    all_goals try (refine tidy_chkP ?_ (by first | decide | assumption); rw [hE]; clear ih ca h hE; first | (simp [thenE, mustE, *]; done) | (simp_all [thenE, mustE]; done))
    all_goals
      have hE2 : E = exsChk tv ta (deep + 1) e.args := by rw [hE]; clear ih ca h hE; simp_all [thenE, mustE]
      clear hE
      subst hE2
      have hec := hec.out
      have hb2 : ∀ i (hi : i < e.args.length), e.args[i].count < e.count := fun i hi => exs_parts e hi
      refine loop_rule (hn := fun _ => false) (od := fun _ => none) (fun (i : Nat) f H' => (∃ L, H' = H ++ L) ∧ f 0 = .bp a 0 ∧ f 2 = I deep ∧ f 53 = Ex.sl e.args ∧ f 54 = I e.args.length ∧ f 55 = I i ∧ i ≤ e.args.length ∧ exsChk tv ta (deep + 1) (e.args.drop i) = exsChk tv ta (deep + 1) e.args) (fun i => e.args.length - i) (by kernel_rfl) 0 (by simp; try (clear ih ca h hb2; simp_all)) ?_
      rintro i f H' ⟨⟨L, rfl⟩, f0, f2, f53, f54, f55, hi, hinv⟩
      simp -dsimp [f0, f2, f53, f54, f55]
      refine condVW_introD (fun hlt => ?_) (fun hlt => ?_)
      · rw [drop_cons hlt, exsChk] at hinv
        have hb3 := hb2 i hlt
        have ih := ih e.args[i] (deep + 1) (by omega) (by omega) (by omega) (h.app (L ++ [.box 73 e.args[i].cells]))
        simp only [Ex.cells_eq, show ((deep + 1 : Nat) : Int) = (deep : Int) + 1 from rfl] at ih
        have ew : IntKind.i64.wrap ((deep : Int) + 1) = (deep : Int) + 1 := wrapI (by omega) (by omega)
        simp -dsimp [f0, f2, f53, f54, f55, List.getElem?_eq_getElem, hlt, ew]
        refine chkW ih (fun hz => ?_) (fun hz => ?_)
        · rw [hz, thenE_zero] at hinv
          simp -dsimp [f0, f2, f53, f54, f55]
          exact ⟨i + 1, by omega, wrapS (by omega), by omega, by simpa using hinv⟩
        · simp -dsimp
          rw [thenE_ne hz] at hinv
          exact tidy_chkP hinv hz
      · simp -dsimp
        rw [drop_end hlt, exsChk] at hinv
        exact tidy_chk0 hinv.symm
end Go.Proofs
namespace Go.Proofs
open Go.Mu
def hasK (k : Int) (l : List Int) : Bool := l.any fun x => decide (k = x)
theorem has_ok (l : List Int) (hl : l.length ≤ 2^40) (s : Sm) (b : Nat) (H : List Blk) (hb : H[b]? = some (.box 82 s.cells)) : ACalls Tryz.prog 229 [.vs 1 (l.map fun x => [I x]), .bp b 0] H (fun e H' => e = .ret (Bo (hasK s.kind l)) ∧ H' = H) := by
  refine acalls_tidy (acalls_of_vc (hn := fun _ => false) (od := fun _ => none) Tryz.func229 rfl (by kernel_rfl) ?_)
  have c := fun H => kind_contains l s.kind hl H
  simp only [Sm.cells_eq] at hb
  simp -dsimp [hb]
  refine acallsW_det (c _) ?_
  simp -dsimp
  exact tidy_now rfl ⟨rfl, rfl⟩
def kd1 (s : Sm) : Bool := decide (1 ≤ s.kind) && decide (s.kind ≤ 6)
def kd2 (s : Sm) : Bool := s.name.toList.isEmpty || hasK s.kind [1, 2, 5, 6]
def kd3 (s : Sm) : Bool := blankB s.e || hasK s.kind [1, 2, 3, 4]
def kd4 (s : Sm) : Bool := blankB s.a || hasK s.kind [2]
def kd5 (s : Sm) : Bool := (s.args.length : Int) == 0 && (s.names.length : Int) == 0 || hasK s.kind [6]
def kd6 (s : Sm) : Bool := s.low == 0 && s.high == 0 || hasK s.kind [5]
def kd7 (s : Sm) : Bool := (s.body.length : Int) == 0 || hasK s.kind [3, 4, 5]
def kd8 (s : Sm) : Bool := (s.els.length : Int) == 0 || hasK s.kind [3]
def kindE (s : Sm) : Int := mustE (kd1 s && kd2 s && kd3 s && kd4 s && kd5 s && kd6 s && kd7 s && kd8 s) 9
theorem kind_ok (s : Sm) (H : List Blk) : ACalls Tryz.prog 178 [.agg s.cells] H (ChkR (kindE s) H) := by
  refine acalls_tidy (acalls_of_awp Tryz.func178 rfl (by kernel_rfl) ?_)
  obtain ⟨M, hM⟩ : ∃ M, M = H ++ [.box 82 s.cells] := ⟨_, rfl⟩
  have hMk : M[H.length]? = some (.box 82 s.cells) := by rw [hM]; simp
  have c := fun l hl => has_ok l hl s H.length M hMk
  have c1 := c [1, 2, 5, 6] (by decide)
  have c2 := c [1, 2, 3, 4] (by decide)
  have c3 := c [2] (by decide)
  have c4 := c [6] (by decide)
  have c5 := c [5] (by decide)
  have c6 := c [3, 4, 5] (by decide)
  have c7 := c [3] (by decide)
  clear c
  have d1 := fun H => blank_ok s.e H
  have d2 := fun H => blank_ok s.a H
  simp only [Sm.cells_eq, Ex.cells_eq, List.map_cons, List.map_nil] at hMk c1 c2 c3 c4 c5 c6 c7 d1 d2
  refine awp_cut (fun _ => false) (fun _ => none) (fun f H' => M = H' ∧ f 1 = .bp H.length 0) (by kernel_rfl) ?_ ?_
  · simp -dsimp [hM]
  replace hM := Hid.mk hM
  rintro f _ ⟨rfl, f1⟩
  refine awp_cut (fun _ => false) (fun _ => none) (fun f H' => M = H' ∧ f 1 = .bp H.length 0 ∧ kd1 s = true) (by kernel_rfl) ?_ ?_
  · simp -dsimp [f1, hMk]
    repeat' ((with_reducible first | refine And.intro ?_ ?_ | refine guardVW_introTD (fun _ => ?_) (fun _ => ?_) | refine guardVW_introFD (fun _ => ?_) (fun _ => ?_) | refine condVW_introD (fun _ => ?_) (fun _ => ?_) | refine guardVW_introTE (fun _ => ?_) (fun _ _ _ => ?_) | refine guardVW_introFE (fun _ => ?_) (fun _ _ _ => ?_) | refine condVW_introE (fun _ => ?_) (fun _ _ _ => ?_) | refine guardVW_introTNE (fun _ _ _ => ?_) (fun _ => ?_) | refine guardVW_introFNE (fun _ _ _ => ?_) (fun _ => ?_) | refine condVW_introNE (fun _ _ _ => ?_) (fun _ => ?_) | refine guardVW_introTB (fun _ => ?_) (fun _ => ?_) | refine guardVW_introFB (fun _ => ?_) (fun _ => ?_) | refine condVW_introB (fun _ => ?_) (fun _ => ?_) | refine guardVW_introT (fun _ => ?_) (fun _ => ?_) | refine guardVW_introF (fun _ => ?_) (fun _ => ?_) | refine condVW_intro (fun _ => ?_) (fun _ => ?_) | refine mustW_t ?_ | refine mustW_f ?_ | refine mustW_D (fun _ => ?_) (fun _ => ?_) | refine mustW_E (fun _ => ?_) (fun _ _ _ => ?_) | refine mustW_NE (fun _ _ _ => ?_) (fun _ => ?_) | refine mustW_B (fun _ => ?_) (fun _ => ?_) | refine mustW_V (fun _ => ?_) (fun _ => ?_) | refine acallsW_det (d1 _) ?_ | refine callDW_intro (d1 _) ?_ | refine acallsW_det (d2 _) ?_ | refine callDW_intro (d2 _) ?_ | refine acallsW_det (c1) ?_ | refine callDW_intro (c1) ?_ | refine acallsW_det (c2) ?_ | refine callDW_intro (c2) ?_ | refine acallsW_det (c3) ?_ | refine callDW_intro (c3) ?_ | refine acallsW_det (c4) ?_ | refine callDW_intro (c4) ?_ | refine acallsW_det (c5) ?_ | refine callDW_intro (c5) ?_ | refine acallsW_det (c6) ?_ | refine callDW_intro (c6) ?_ | refine acallsW_det (c7) ?_ | refine callDW_intro (c7) ?_) <;> simp -dsimp [*])
    all_goals first
      | (simp [kd1, *]; done)
      | (rw [hM.out]; exact tidy_chk0 (by simp [kindE, kd1, *]))
      | (rw [hM.out]; exact tidy_chkP (by simp [kindE, kd1, *]) (by decide))
      | trace_state
  clear f f1
  rintro f _ ⟨rfl, f1, k1⟩
  refine awp_cut (fun _ => false) (fun _ => none) (fun f H' => M = H' ∧ f 1 = .bp H.length 0 ∧ f 2 = .fn (.func 229) [] [.bp H.length 0]) (by kernel_rfl) ?_ ?_
  · simp -dsimp [f1]
  clear f f1
  rintro f _ ⟨rfl, f1, f2⟩
  refine awp_cut (fun _ => false) (fun _ => none) (fun f H' => M = H' ∧ f 1 = .bp H.length 0 ∧ f 2 = .fn (.func 229) [] [.bp H.length 0] ∧ kd2 s = true) (by kernel_rfl) ?_ ?_
  · simp -dsimp [f1, hMk, f2]
    repeat' ((with_reducible first | refine And.intro ?_ ?_ | refine guardVW_introTD (fun _ => ?_) (fun _ => ?_) | refine guardVW_introFD (fun _ => ?_) (fun _ => ?_) | refine condVW_introD (fun _ => ?_) (fun _ => ?_) | refine guardVW_introTE (fun _ => ?_) (fun _ _ _ => ?_) | refine guardVW_introFE (fun _ => ?_) (fun _ _ _ => ?_) | refine condVW_introE (fun _ => ?_) (fun _ _ _ => ?_) | refine guardVW_introTNE (fun _ _ _ => ?_) (fun _ => ?_) | refine guardVW_introFNE (fun _ _ _ => ?_) (fun _ => ?_) | refine condVW_introNE (fun _ _ _ => ?_) (fun _ => ?_) | refine guardVW_introTB (fun _ => ?_) (fun _ => ?_) | refine guardVW_introFB (fun _ => ?_) (fun _ => ?_) | refine condVW_introB (fun _ => ?_) (fun _ => ?_) | refine guardVW_introT (fun _ => ?_) (fun _ => ?_) | refine guardVW_introF (fun _ => ?_) (fun _ => ?_) | refine condVW_intro (fun _ => ?_) (fun _ => ?_) | refine mustW_t ?_ | refine mustW_f ?_ | refine mustW_D (fun _ => ?_) (fun _ => ?_) | refine mustW_E (fun _ => ?_) (fun _ _ _ => ?_) | refine mustW_NE (fun _ _ _ => ?_) (fun _ => ?_) | refine mustW_B (fun _ => ?_) (fun _ => ?_) | refine mustW_V (fun _ => ?_) (fun _ => ?_) | refine acallsW_det (d1 _) ?_ | refine callDW_intro (d1 _) ?_ | refine acallsW_det (d2 _) ?_ | refine callDW_intro (d2 _) ?_ | refine acallsW_det (c1) ?_ | refine callDW_intro (c1) ?_ | refine acallsW_det (c2) ?_ | refine callDW_intro (c2) ?_ | refine acallsW_det (c3) ?_ | refine callDW_intro (c3) ?_ | refine acallsW_det (c4) ?_ | refine callDW_intro (c4) ?_ | refine acallsW_det (c5) ?_ | refine callDW_intro (c5) ?_ | refine acallsW_det (c6) ?_ | refine callDW_intro (c6) ?_ | refine acallsW_det (c7) ?_ | refine callDW_intro (c7) ?_) <;> simp -dsimp [*])
    all_goals first
      | (simp [kd2, *]; done)
      | (rw [hM.out]; exact tidy_chk0 (by simp [kindE, kd2, *]))
      | (rw [hM.out]; exact tidy_chkP (by simp [kindE, kd2, *]) (by decide))
      | trace_state
  clear f f1 f2
  rintro f _ ⟨rfl, f1, f2, k2⟩
  refine awp_cut (fun _ => false) (fun _ => none) (fun f H' => M = H' ∧ f 1 = .bp H.length 0 ∧ f 2 = .fn (.func 229) [] [.bp H.length 0] ∧ kd3 s = true) (by kernel_rfl) ?_ ?_
  · simp -dsimp [f1, hMk, f2]
    repeat' ((with_reducible first | refine And.intro ?_ ?_ | refine guardVW_introTD (fun _ => ?_) (fun _ => ?_) | refine guardVW_introFD (fun _ => ?_) (fun _ => ?_) | refine condVW_introD (fun _ => ?_) (fun _ => ?_) | refine guardVW_introTE (fun _ => ?_) (fun _ _ _ => ?_) | refine guardVW_introFE (fun _ => ?_) (fun _ _ _ => ?_) | refine condVW_introE (fun _ => ?_) (fun _ _ _ => ?_) | refine guardVW_introTNE (fun _ _ _ => ?_) (fun _ => ?_) | refine guardVW_introFNE (fun _ _ _ => ?_) (fun _ => ?_) | refine condVW_introNE (fun _ _ _ => ?_) (fun _ => ?_) | refine guardVW_introTB (fun _ => ?_) (fun _ => ?_) | refine guardVW_introFB (fun _ => ?_) (fun _ => ?_) | refine condVW_introB (fun _ => ?_) (fun _ => ?_) | refine guardVW_introT (fun _ => ?_) (fun _ => ?_) | refine guardVW_introF (fun _ => ?_) (fun _ => ?_) | refine condVW_intro (fun _ => ?_) (fun _ => ?_) | refine mustW_t ?_ | refine mustW_f ?_ | refine mustW_D (fun _ => ?_) (fun _ => ?_) | refine mustW_E (fun _ => ?_) (fun _ _ _ => ?_) | refine mustW_NE (fun _ _ _ => ?_) (fun _ => ?_) | refine mustW_B (fun _ => ?_) (fun _ => ?_) | refine mustW_V (fun _ => ?_) (fun _ => ?_) | refine acallsW_det (d1 _) ?_ | refine callDW_intro (d1 _) ?_ | refine acallsW_det (d2 _) ?_ | refine callDW_intro (d2 _) ?_ | refine acallsW_det (c1) ?_ | refine callDW_intro (c1) ?_ | refine acallsW_det (c2) ?_ | refine callDW_intro (c2) ?_ | refine acallsW_det (c3) ?_ | refine callDW_intro (c3) ?_ | refine acallsW_det (c4) ?_ | refine callDW_intro (c4) ?_ | refine acallsW_det (c5) ?_ | refine callDW_intro (c5) ?_ | refine acallsW_det (c6) ?_ | refine callDW_intro (c6) ?_ | refine acallsW_det (c7) ?_ | refine callDW_intro (c7) ?_) <;> simp -dsimp [*])
    all_goals first
      | (simp [kd3, *]; done)
      | (rw [hM.out]; exact tidy_chk0 (by simp [kindE, kd3, *]))
      | (rw [hM.out]; exact tidy_chkP (by simp [kindE, kd3, *]) (by decide))
      | trace_state
  clear f f1 f2
  rintro f _ ⟨rfl, f1, f2, k3⟩
  refine awp_cut (fun _ => false) (fun _ => none) (fun f H' => M = H' ∧ f 1 = .bp H.length 0 ∧ f 2 = .fn (.func 229) [] [.bp H.length 0] ∧ kd4 s = true) (by kernel_rfl) ?_ ?_
  · simp -dsimp [f1, hMk, f2]
    repeat' ((with_reducible first | refine And.intro ?_ ?_ | refine guardVW_introTD (fun _ => ?_) (fun _ => ?_) | refine guardVW_introFD (fun _ => ?_) (fun _ => ?_) | refine condVW_introD (fun _ => ?_) (fun _ => ?_) | refine guardVW_introTE (fun _ => ?_) (fun _ _ _ => ?_) | refine guardVW_introFE (fun _ => ?_) (fun _ _ _ => ?_) | refine condVW_introE (fun _ => ?_) (fun _ _ _ => ?_) | refine guardVW_introTNE (fun _ _ _ => ?_) (fun _ => ?_) | refine guardVW_introFNE (fun _ _ _ => ?_) (fun _ => ?_) | refine condVW_introNE (fun _ _ _ => ?_) (fun _ => ?_) | refine guardVW_introTB (fun _ => ?_) (fun _ => ?_) | refine guardVW_introFB (fun _ => ?_) (fun _ => ?_) | refine condVW_introB (fun _ => ?_) (fun _ => ?_) | refine guardVW_introT (fun _ => ?_) (fun _ => ?_) | refine guardVW_introF (fun _ => ?_) (fun _ => ?_) | refine condVW_intro (fun _ => ?_) (fun _ => ?_) | refine mustW_t ?_ | refine mustW_f ?_ | refine mustW_D (fun _ => ?_) (fun _ => ?_) | refine mustW_E (fun _ => ?_) (fun _ _ _ => ?_) | refine mustW_NE (fun _ _ _ => ?_) (fun _ => ?_) | refine mustW_B (fun _ => ?_) (fun _ => ?_) | refine mustW_V (fun _ => ?_) (fun _ => ?_) | refine acallsW_det (d1 _) ?_ | refine callDW_intro (d1 _) ?_ | refine acallsW_det (d2 _) ?_ | refine callDW_intro (d2 _) ?_ | refine acallsW_det (c1) ?_ | refine callDW_intro (c1) ?_ | refine acallsW_det (c2) ?_ | refine callDW_intro (c2) ?_ | refine acallsW_det (c3) ?_ | refine callDW_intro (c3) ?_ | refine acallsW_det (c4) ?_ | refine callDW_intro (c4) ?_ | refine acallsW_det (c5) ?_ | refine callDW_intro (c5) ?_ | refine acallsW_det (c6) ?_ | refine callDW_intro (c6) ?_ | refine acallsW_det (c7) ?_ | refine callDW_intro (c7) ?_) <;> simp -dsimp [*])
    all_goals first
      | (simp [kd4, *]; done)
      | (rw [hM.out]; exact tidy_chk0 (by simp [kindE, kd4, *]))
      | (rw [hM.out]; exact tidy_chkP (by simp [kindE, kd4, *]) (by decide))
      | trace_state
  clear f f1 f2
  rintro f _ ⟨rfl, f1, f2, k4⟩
  refine awp_cut (fun _ => false) (fun _ => none) (fun f H' => M = H' ∧ f 1 = .bp H.length 0 ∧ f 2 = .fn (.func 229) [] [.bp H.length 0] ∧ kd5 s = true) (by kernel_rfl) ?_ ?_
  · simp -dsimp [f1, hMk, f2]
    repeat' ((with_reducible first | refine And.intro ?_ ?_ | refine guardVW_introTD (fun _ => ?_) (fun _ => ?_) | refine guardVW_introFD (fun _ => ?_) (fun _ => ?_) | refine condVW_introD (fun _ => ?_) (fun _ => ?_) | refine guardVW_introTE (fun _ => ?_) (fun _ _ _ => ?_) | refine guardVW_introFE (fun _ => ?_) (fun _ _ _ => ?_) | refine condVW_introE (fun _ => ?_) (fun _ _ _ => ?_) | refine guardVW_introTNE (fun _ _ _ => ?_) (fun _ => ?_) | refine guardVW_introFNE (fun _ _ _ => ?_) (fun _ => ?_) | refine condVW_introNE (fun _ _ _ => ?_) (fun _ => ?_) | refine guardVW_introTB (fun _ => ?_) (fun _ => ?_) | refine guardVW_introFB (fun _ => ?_) (fun _ => ?_) | refine condVW_introB (fun _ => ?_) (fun _ => ?_) | refine guardVW_introT (fun _ => ?_) (fun _ => ?_) | refine guardVW_introF (fun _ => ?_) (fun _ => ?_) | refine condVW_intro (fun _ => ?_) (fun _ => ?_) | refine mustW_t ?_ | refine mustW_f ?_ | refine mustW_D (fun _ => ?_) (fun _ => ?_) | refine mustW_E (fun _ => ?_) (fun _ _ _ => ?_) | refine mustW_NE (fun _ _ _ => ?_) (fun _ => ?_) | refine mustW_B (fun _ => ?_) (fun _ => ?_) | refine mustW_V (fun _ => ?_) (fun _ => ?_) | refine acallsW_det (d1 _) ?_ | refine callDW_intro (d1 _) ?_ | refine acallsW_det (d2 _) ?_ | refine callDW_intro (d2 _) ?_ | refine acallsW_det (c1) ?_ | refine callDW_intro (c1) ?_ | refine acallsW_det (c2) ?_ | refine callDW_intro (c2) ?_ | refine acallsW_det (c3) ?_ | refine callDW_intro (c3) ?_ | refine acallsW_det (c4) ?_ | refine callDW_intro (c4) ?_ | refine acallsW_det (c5) ?_ | refine callDW_intro (c5) ?_ | refine acallsW_det (c6) ?_ | refine callDW_intro (c6) ?_ | refine acallsW_det (c7) ?_ | refine callDW_intro (c7) ?_) <;> simp -dsimp [*])
    all_goals first
      | (simp [kd5, *]; done)
      | (rw [hM.out]; exact tidy_chk0 (by simp [kindE, kd5, *]))
      | (rw [hM.out]; exact tidy_chkP (by simp [kindE, kd5, *]) (by decide))
      | trace_state
  clear f f1 f2
  rintro f _ ⟨rfl, f1, f2, k5⟩
  refine awp_cut (fun _ => false) (fun _ => none) (fun f H' => M = H' ∧ f 1 = .bp H.length 0 ∧ f 2 = .fn (.func 229) [] [.bp H.length 0] ∧ kd6 s = true) (by kernel_rfl) ?_ ?_
  · simp -dsimp [f1, hMk, f2]
    repeat' ((with_reducible first | refine And.intro ?_ ?_ | refine guardVW_introTD (fun _ => ?_) (fun _ => ?_) | refine guardVW_introFD (fun _ => ?_) (fun _ => ?_) | refine condVW_introD (fun _ => ?_) (fun _ => ?_) | refine guardVW_introTE (fun _ => ?_) (fun _ _ _ => ?_) | refine guardVW_introFE (fun _ => ?_) (fun _ _ _ => ?_) | refine condVW_introE (fun _ => ?_) (fun _ _ _ => ?_) | refine guardVW_introTNE (fun _ _ _ => ?_) (fun _ => ?_) | refine guardVW_introFNE (fun _ _ _ => ?_) (fun _ => ?_) | refine condVW_introNE (fun _ _ _ => ?_) (fun _ => ?_) | refine guardVW_introTB (fun _ => ?_) (fun _ => ?_) | refine guardVW_introFB (fun _ => ?_) (fun _ => ?_) | refine condVW_introB (fun _ => ?_) (fun _ => ?_) | refine guardVW_introT (fun _ => ?_) (fun _ => ?_) | refine guardVW_introF (fun _ => ?_) (fun _ => ?_) | refine condVW_intro (fun _ => ?_) (fun _ => ?_) | refine mustW_t ?_ | refine mustW_f ?_ | refine mustW_D (fun _ => ?_) (fun _ => ?_) | refine mustW_E (fun _ => ?_) (fun _ _ _ => ?_) | refine mustW_NE (fun _ _ _ => ?_) (fun _ => ?_) | refine mustW_B (fun _ => ?_) (fun _ => ?_) | refine mustW_V (fun _ => ?_) (fun _ => ?_) | refine acallsW_det (d1 _) ?_ | refine callDW_intro (d1 _) ?_ | refine acallsW_det (d2 _) ?_ | refine callDW_intro (d2 _) ?_ | refine acallsW_det (c1) ?_ | refine callDW_intro (c1) ?_ | refine acallsW_det (c2) ?_ | refine callDW_intro (c2) ?_ | refine acallsW_det (c3) ?_ | refine callDW_intro (c3) ?_ | refine acallsW_det (c4) ?_ | refine callDW_intro (c4) ?_ | refine acallsW_det (c5) ?_ | refine callDW_intro (c5) ?_ | refine acallsW_det (c6) ?_ | refine callDW_intro (c6) ?_ | refine acallsW_det (c7) ?_ | refine callDW_intro (c7) ?_) <;> simp -dsimp [*])
    all_goals first
      | (simp [kd6, *]; done)
      | (rw [hM.out]; exact tidy_chk0 (by simp [kindE, kd6, *]))
      | (rw [hM.out]; exact tidy_chkP (by simp [kindE, kd6, *]) (by decide))
      | trace_state
  clear f f1 f2
  rintro f _ ⟨rfl, f1, f2, k6⟩
  refine awp_cut (fun _ => false) (fun _ => none) (fun f H' => M = H' ∧ f 1 = .bp H.length 0 ∧ f 2 = .fn (.func 229) [] [.bp H.length 0] ∧ kd7 s = true) (by kernel_rfl) ?_ ?_
  · simp -dsimp [f1, hMk, f2]
    repeat' ((with_reducible first | refine And.intro ?_ ?_ | refine guardVW_introTD (fun _ => ?_) (fun _ => ?_) | refine guardVW_introFD (fun _ => ?_) (fun _ => ?_) | refine condVW_introD (fun _ => ?_) (fun _ => ?_) | refine guardVW_introTE (fun _ => ?_) (fun _ _ _ => ?_) | refine guardVW_introFE (fun _ => ?_) (fun _ _ _ => ?_) | refine condVW_introE (fun _ => ?_) (fun _ _ _ => ?_) | refine guardVW_introTNE (fun _ _ _ => ?_) (fun _ => ?_) | refine guardVW_introFNE (fun _ _ _ => ?_) (fun _ => ?_) | refine condVW_introNE (fun _ _ _ => ?_) (fun _ => ?_) | refine guardVW_introTB (fun _ => ?_) (fun _ => ?_) | refine guardVW_introFB (fun _ => ?_) (fun _ => ?_) | refine condVW_introB (fun _ => ?_) (fun _ => ?_) | refine guardVW_introT (fun _ => ?_) (fun _ => ?_) | refine guardVW_introF (fun _ => ?_) (fun _ => ?_) | refine condVW_intro (fun _ => ?_) (fun _ => ?_) | refine mustW_t ?_ | refine mustW_f ?_ | refine mustW_D (fun _ => ?_) (fun _ => ?_) | refine mustW_E (fun _ => ?_) (fun _ _ _ => ?_) | refine mustW_NE (fun _ _ _ => ?_) (fun _ => ?_) | refine mustW_B (fun _ => ?_) (fun _ => ?_) | refine mustW_V (fun _ => ?_) (fun _ => ?_) | refine acallsW_det (d1 _) ?_ | refine callDW_intro (d1 _) ?_ | refine acallsW_det (d2 _) ?_ | refine callDW_intro (d2 _) ?_ | refine acallsW_det (c1) ?_ | refine callDW_intro (c1) ?_ | refine acallsW_det (c2) ?_ | refine callDW_intro (c2) ?_ | refine acallsW_det (c3) ?_ | refine callDW_intro (c3) ?_ | refine acallsW_det (c4) ?_ | refine callDW_intro (c4) ?_ | refine acallsW_det (c5) ?_ | refine callDW_intro (c5) ?_ | refine acallsW_det (c6) ?_ | refine callDW_intro (c6) ?_ | refine acallsW_det (c7) ?_ | refine callDW_intro (c7) ?_) <;> simp -dsimp [*])
    all_goals first
      | (simp [kd7, *]; done)
      | (rw [hM.out]; exact tidy_chk0 (by simp [kindE, kd7, *]))
      | (rw [hM.out]; exact tidy_chkP (by simp [kindE, kd7, *]) (by decide))
      | trace_state
  clear f f1 f2
  rintro f _ ⟨rfl, f1, f2, k7⟩
  refine awp_all (fun _ => false) (fun _ => none) (by kernel_rfl) ?_
  simp -dsimp [f1, hMk, f2]
  repeat' ((with_reducible first | refine And.intro ?_ ?_ | refine guardVW_introTD (fun _ => ?_) (fun _ => ?_) | refine guardVW_introFD (fun _ => ?_) (fun _ => ?_) | refine condVW_introD (fun _ => ?_) (fun _ => ?_) | refine guardVW_introTE (fun _ => ?_) (fun _ _ _ => ?_) | refine guardVW_introFE (fun _ => ?_) (fun _ _ _ => ?_) | refine condVW_introE (fun _ => ?_) (fun _ _ _ => ?_) | refine guardVW_introTNE (fun _ _ _ => ?_) (fun _ => ?_) | refine guardVW_introFNE (fun _ _ _ => ?_) (fun _ => ?_) | refine condVW_introNE (fun _ _ _ => ?_) (fun _ => ?_) | refine guardVW_introTB (fun _ => ?_) (fun _ => ?_) | refine guardVW_introFB (fun _ => ?_) (fun _ => ?_) | refine condVW_introB (fun _ => ?_) (fun _ => ?_) | refine guardVW_introT (fun _ => ?_) (fun _ => ?_) | refine guardVW_introF (fun _ => ?_) (fun _ => ?_) | refine condVW_intro (fun _ => ?_) (fun _ => ?_) | refine mustW_t ?_ | refine mustW_f ?_ | refine mustW_D (fun _ => ?_) (fun _ => ?_) | refine mustW_E (fun _ => ?_) (fun _ _ _ => ?_) | refine mustW_NE (fun _ _ _ => ?_) (fun _ => ?_) | refine mustW_B (fun _ => ?_) (fun _ => ?_) | refine mustW_V (fun _ => ?_) (fun _ => ?_) | refine acallsW_det (d1 _) ?_ | refine callDW_intro (d1 _) ?_ | refine acallsW_det (d2 _) ?_ | refine callDW_intro (d2 _) ?_ | refine acallsW_det (c1) ?_ | refine callDW_intro (c1) ?_ | refine acallsW_det (c2) ?_ | refine callDW_intro (c2) ?_ | refine acallsW_det (c3) ?_ | refine callDW_intro (c3) ?_ | refine acallsW_det (c4) ?_ | refine callDW_intro (c4) ?_ | refine acallsW_det (c5) ?_ | refine callDW_intro (c5) ?_ | refine acallsW_det (c6) ?_ | refine callDW_intro (c6) ?_ | refine acallsW_det (c7) ?_ | refine callDW_intro (c7) ?_) <;> simp -dsimp [*])
  all_goals first
    | (simp [kd8, *]; done)
    | (rw [hM.out]; exact tidy_chk0 (by simp [kindE, kd8, *]))
    | (rw [hM.out]; exact tidy_chkP (by simp [kindE, kd8, *]) (by decide))
    | trace_state
end Go.Proofs
namespace Go.Proofs
open Go.Mu
def allE {α : Type} (p : α → Int) : List α → Int
  | [] => 0
  | a :: l => thenE (p a) (allE p l)
theorem allE_drop {α : Type} (p : α → Int) {l : List α} {i : Nat} (h : i < l.length) : allE p (l.drop i) = thenE (p l[i]) (allE p (l.drop (i + 1))) := by rw [drop_cons h, allE]
theorem allE_end {α : Type} (p : α → Int) {l : List α} {i : Nat} (h : ¬ i < l.length) : allE p (l.drop i) = 0 := by rw [drop_end h]; rfl
def kindP (v : Vr) : Int := mustE (v.kind == 1 && v.size == 0) 9
def kindQ (v : Vr) : Int := mustE (decide (1 ≤ v.kind) && decide (v.kind ≤ 3) && (v.kind != 1 || v.size == 0 && !v.secret)) 9
def kindsE (f : Fc) : Int := thenE (allE kindP f.params) (allE kindQ f.vars)
theorem kinds_ok (f : Fc) (hp : f.params.length ≤ 2^40) (hv : f.vars.length ≤ 2^40) (H : List Blk) : ACalls Tryz.prog 108 [.agg f.cells] H (ChkR (kindsE f) H) := by
  refine acalls_tidy (acalls_of_awp Tryz.func108 rfl (by kernel_rfl) ?_)
  obtain ⟨M, hM⟩ : ∃ M, M = H ++ [.box 56 f.cells] := ⟨_, rfl⟩
  have hMk : M[H.length]? = some (.box 56 f.cells) := by rw [hM]; simp
  have hMa : ∀ L, (M ++ L)[H.length]? = some (.box 56 f.cells) := fun L => get_app_old hMk L
  simp only [Fc.cells] at hMk hMa
  refine awp_cut (fun _ => false) (fun _ => none) (fun f H' => M = H' ∧ f 1 = .bp H.length 0) (by kernel_rfl) ?_ ?_
  · simp -dsimp [hM]
  replace hM := Hid.mk hM
  rintro g _ ⟨rfl, f1⟩
  refine awp_cut (fun _ => false) (fun _ => none) (fun g H' => (∃ L, H' = M ++ L) ∧ g 1 = .bp H.length 0 ∧ allE kindP f.params = 0) (by kernel_rfl) ?_ ?_
  · simp -dsimp [f1, hMk]
    refine loop_rule (hn := fun _ => false) (od := fun _ => none) (fun (i : Nat) g H' => (∃ L, H' = M ++ L) ∧ g 1 = .bp H.length 0 ∧ g 7 = Vr.sl f.params ∧ g 8 = I f.params.length ∧ g 9 = I i ∧ i ≤ f.params.length ∧ allE kindP (f.params.drop i) = allE kindP f.params) (fun i => f.params.length - i) (by kernel_rfl) 0 (by simp [*]) ?_
    clear g f1
    rintro i g _ ⟨⟨L, rfl⟩, g1, g7, g8, g9, hi, hinv⟩
    simp -dsimp [g1, g7, g8, g9]
    refine condVW_introD (fun hlt => ?_) (fun hlt => ?_)
    · rw [allE_drop _ hlt] at hinv
      simp -dsimp [g1, g7, g8, g9, List.getElem?_eq_getElem, hlt]
      repeat' ((with_reducible first | refine And.intro ?_ ?_ | refine guardVW_introTD (fun _ => ?_) (fun _ => ?_) | refine guardVW_introFD (fun _ => ?_) (fun _ => ?_) | refine condVW_introD (fun _ => ?_) (fun _ => ?_) | refine guardVW_introTE (fun _ => ?_) (fun _ _ _ => ?_) | refine guardVW_introFE (fun _ => ?_) (fun _ _ _ => ?_) | refine condVW_introE (fun _ => ?_) (fun _ _ _ => ?_) | refine guardVW_introTNE (fun _ _ _ => ?_) (fun _ => ?_) | refine guardVW_introFNE (fun _ _ _ => ?_) (fun _ => ?_) | refine condVW_introNE (fun _ _ _ => ?_) (fun _ => ?_) | refine guardVW_introTB (fun _ => ?_) (fun _ => ?_) | refine guardVW_introFB (fun _ => ?_) (fun _ => ?_) | refine condVW_introB (fun _ => ?_) (fun _ => ?_) | refine guardVW_introT (fun _ => ?_) (fun _ => ?_) | refine guardVW_introF (fun _ => ?_) (fun _ => ?_) | refine condVW_intro (fun _ => ?_) (fun _ => ?_) | refine mustW_t ?_ | refine mustW_f ?_ | refine mustW_D (fun _ => ?_) (fun _ => ?_) | refine mustW_E (fun _ => ?_) (fun _ _ _ => ?_) | refine mustW_NE (fun _ _ _ => ?_) (fun _ => ?_) | refine mustW_B (fun _ => ?_) (fun _ => ?_) | refine mustW_V (fun _ => ?_) (fun _ => ?_)) <;> simp -dsimp [*])
      all_goals first
        | (have e : kindP f.params[i] = 0 := by simp [kindP, mustE, *]
           rw [e, thenE_zero] at hinv
           exact ⟨i + 1, by omega, wrapS (by omega), by omega, hinv⟩)
        | (have e : kindP f.params[i] = 9 := by simp [kindP, mustE, *]
           rw [e, thenE_ne (by decide)] at hinv
           rw [hM.out, List.append_assoc]
           exact tidy_chkP (by rw [kindsE, ← hinv, thenE_ne (by decide)]) (by decide))
    · rw [allE_end _ hlt] at hinv
      simp -dsimp [g1]
      exact hinv.symm
  clear g f1
  rintro g _ ⟨⟨L0, rfl⟩, f1, hz⟩
  refine awp_all (fun _ => false) (fun _ => none) (by kernel_rfl) ?_
  simp -dsimp [f1, hMa]
  refine loop_rule (hn := fun _ => false) (od := fun _ => none) (fun (i : Nat) g H' => (∃ L, H' = M ++ L) ∧ g 24 = Vr.sl f.vars ∧ g 25 = I f.vars.length ∧ g 26 = I i ∧ i ≤ f.vars.length ∧ allE kindQ (f.vars.drop i) = allE kindQ f.vars) (fun i => f.vars.length - i) (by kernel_rfl) 0 (by simp) ?_
  clear g f1
  rintro i g _ ⟨⟨L, rfl⟩, g7, g8, g9, hi, hinv⟩
  simp -dsimp [g7, g8, g9]
  refine condVW_introD (fun hlt => ?_) (fun hlt => ?_)
  · rw [allE_drop _ hlt] at hinv
    simp -dsimp [g7, g8, g9, List.getElem?_eq_getElem, hlt]
    repeat' ((with_reducible first | refine And.intro ?_ ?_ | refine guardVW_introTD (fun _ => ?_) (fun _ => ?_) | refine guardVW_introFD (fun _ => ?_) (fun _ => ?_) | refine condVW_introD (fun _ => ?_) (fun _ => ?_) | refine guardVW_introTE (fun _ => ?_) (fun _ _ _ => ?_) | refine guardVW_introFE (fun _ => ?_) (fun _ _ _ => ?_) | refine condVW_introE (fun _ => ?_) (fun _ _ _ => ?_) | refine guardVW_introTNE (fun _ _ _ => ?_) (fun _ => ?_) | refine guardVW_introFNE (fun _ _ _ => ?_) (fun _ => ?_) | refine condVW_introNE (fun _ _ _ => ?_) (fun _ => ?_) | refine guardVW_introTB (fun _ => ?_) (fun _ => ?_) | refine guardVW_introFB (fun _ => ?_) (fun _ => ?_) | refine condVW_introB (fun _ => ?_) (fun _ => ?_) | refine guardVW_introT (fun _ => ?_) (fun _ => ?_) | refine guardVW_introF (fun _ => ?_) (fun _ => ?_) | refine condVW_intro (fun _ => ?_) (fun _ => ?_) | refine mustW_t ?_ | refine mustW_f ?_ | refine mustW_D (fun _ => ?_) (fun _ => ?_) | refine mustW_E (fun _ => ?_) (fun _ _ _ => ?_) | refine mustW_NE (fun _ _ _ => ?_) (fun _ => ?_) | refine mustW_B (fun _ => ?_) (fun _ => ?_) | refine mustW_V (fun _ => ?_) (fun _ => ?_)) <;> simp -dsimp [*])
    all_goals first
      | (have e : kindQ f.vars[i] = 0 := by simp [kindQ, mustE, *]
         rw [e, thenE_zero] at hinv
         exact ⟨i + 1, by omega, wrapS (by omega), by omega, hinv⟩)
      | (have e : kindQ f.vars[i] = 9 := by simp [kindQ, mustE, *]
         rw [e, thenE_ne (by decide)] at hinv
         rw [hM.out, List.append_assoc]
         exact tidy_chkP (by rw [kindsE, hz, ← hinv, thenE_zero]) (by decide))
  · rw [allE_end _ hlt] at hinv
    simp -dsimp
    rw [hM.out, List.append_assoc]
    exact tidy_chk0 (by rw [kindsE, hz, ← hinv, thenE_zero])
end Go.Proofs
namespace Go.Proofs
open Go.Mu
def boundP (r : Rg) : Int := mustE (decide (0 ≤ r.addr) && r.addr.tmod 8 == 0 && decide (r.addr ≤ 49152 - 8 * r.size)) 14
def apartP (r q : Rg) : Int := mustE (decide (q.addr + 8 * q.size ≤ r.addr) || decide (r.addr + 8 * r.size ≤ q.addr)) 14
def boundsE (done : List Rg) : List Rg → Int
  | [] => 0
  | r :: l => thenE (boundP r) (thenE (allE (apartP r) done) (boundsE (done ++ [r]) l))
theorem take_succ' {α : Type} {l : List α} {i : Nat} (h : i < l.length) : l.take (i + 1) = l.take i ++ [l[i]] := List.take_succ_eq_append_getElem h
def SizeIn (r : Rg) : Prop := 1 ≤ r.size ∧ r.size ≤ 512
theorem bounds_ok (p : Pg) (hr : p.regions.length ≤ 2^40) (hs : ∀ r ∈ p.regions, SizeIn r) (H : List Blk) : ACalls Tryz.prog 107 [.agg p.cells] H (ChkR (boundsE [] p.regions) H) := by
  refine acalls_tidy (acalls_of_awp Tryz.func107 rfl (by kernel_rfl) ?_)
  obtain ⟨M, hM⟩ : ∃ M, M = H ++ [.box 25 p.cells] := ⟨_, rfl⟩
  have hMk : M[H.length]? = some (.box 25 p.cells) := by rw [hM]; simp
  have hMa : ∀ L, (M ++ L)[H.length]? = some (.box 25 p.cells) := fun L => get_app_old hMk L
  simp only [Pg.cells] at hMk hMa
  refine awp_cut (fun _ => false) (fun _ => none) (fun f H' => M = H' ∧ f 1 = .bp H.length 0) (by kernel_rfl) ?_ ?_
  · simp -dsimp [hM]
  replace hM := Hid.mk hM
  rintro g _ ⟨rfl, f1⟩
  refine awp_all (fun _ => false) (fun _ => none) (by kernel_rfl) ?_
  simp -dsimp [f1, hMk]
  refine loop_rule (hn := fun _ => false) (od := fun _ => none) (fun (i : Nat) g H' => (∃ L, H' = M ++ L) ∧ g 1 = .bp H.length 0 ∧ g 7 = Rg.sl p.regions ∧ g 8 = I p.regions.length ∧ g 9 = I i ∧ i ≤ p.regions.length ∧ boundsE (p.regions.take i) (p.regions.drop i) = boundsE [] p.regions ∧
    (∀ r ∈ p.regions.take i, 0 ≤ r.addr ∧ r.addr ≤ 49152)) (fun i => p.regions.length - i) (by kernel_rfl) 0 (by simp [f1]) ?_
  clear g f1
  rintro i g _ ⟨⟨L, rfl⟩, g1, g7, g8, g9, hi, hinv, hin⟩
  simp -dsimp [g1, g7, g8, g9]
  refine condVW_introD (fun hlt => ?_) (fun hlt => ?_)
  · rw [drop_cons hlt, boundsE] at hinv
    have hsr : SizeIn p.regions[i] := hs _ (List.getElem_mem hlt)
    obtain ⟨hs1, hs2⟩ := hsr
    have w1 : IntKind.i64.wrap (8 * p.regions[i].size) = 8 * p.regions[i].size := wrapI (by omega) (by omega)
    have w2 : IntKind.i64.wrap (49152 - 8 * p.regions[i].size) = 49152 - 8 * p.regions[i].size := wrapI (by omega) (by omega)
    simp -dsimp [g1, g7, g8, g9, List.getElem?_eq_getElem, hlt]
    replace hin := Hid.mk hin
    replace hinv := Hid.mk hinv
    repeat' ((with_reducible first | refine And.intro ?_ ?_ | refine guardVW_introTD (fun _ => ?_) (fun _ => ?_) | refine guardVW_introFD (fun _ => ?_) (fun _ => ?_) | refine condVW_introD (fun _ => ?_) (fun _ => ?_) | refine guardVW_introTE (fun _ => ?_) (fun _ _ _ => ?_) | refine guardVW_introFE (fun _ => ?_) (fun _ _ _ => ?_) | refine condVW_introE (fun _ => ?_) (fun _ _ _ => ?_) | refine guardVW_introTNE (fun _ _ _ => ?_) (fun _ => ?_) | refine guardVW_introFNE (fun _ _ _ => ?_) (fun _ => ?_) | refine condVW_introNE (fun _ _ _ => ?_) (fun _ => ?_) | refine guardVW_introTB (fun _ => ?_) (fun _ => ?_) | refine guardVW_introFB (fun _ => ?_) (fun _ => ?_) | refine condVW_introB (fun _ => ?_) (fun _ => ?_) | refine guardVW_introT (fun _ => ?_) (fun _ => ?_) | refine guardVW_introF (fun _ => ?_) (fun _ => ?_) | refine condVW_intro (fun _ => ?_) (fun _ => ?_) | refine mustW_t ?_ | refine mustW_f ?_ | refine mustW_D (fun _ => ?_) (fun _ => ?_) | refine mustW_E (fun _ => ?_) (fun _ _ _ => ?_) | refine mustW_NE (fun _ _ _ => ?_) (fun _ => ?_) | refine mustW_B (fun _ => ?_) (fun _ => ?_) | refine mustW_V (fun _ => ?_) (fun _ => ?_)) <;> simp -dsimp [w1, w2, hMa, *])
    rotate_left
    all_goals try
      have e : boundP p.regions[i] = 14 := by simp [boundP, mustE, *]
      have hinv := hinv.out
      rw [e, thenE_ne (by decide)] at hinv
      rw [hM.out, List.append_assoc]
      exact tidy_chkP hinv (by decide)
    have hb : boundP p.regions[i] = 0 := by simp [boundP, mustE, *]
    replace hinv := hinv.out
    rw [hb, thenE_zero] at hinv
    have hin := hin.out
    refine loop_rule (hn := fun _ => false) (od := fun _ => none) (fun (k : Nat) g H' => (∃ L2, H' = M ++ (L ++ Blk.box 96 p.regions[i].cells :: L2)) ∧ g 1 = .bp H.length 0 ∧ g 7 = Rg.sl p.regions ∧ g 8 = I p.regions.length ∧ g 9 = I i ∧ g 3 = .bp (M.length + L.length) 0 ∧
      g 36 = Rg.sl (p.regions.take i) ∧ g 37 = I i ∧ g 38 = I k ∧ k ≤ i ∧ allE (apartP p.regions[i]) ((p.regions.take i).drop k) = allE (apartP p.regions[i]) (p.regions.take i)) (fun k => i - k) (by kernel_rfl) 0 (by simp [g1, g7, g8, g9, List.map_take]) ?_
    clear g g1 g7 g8 g9
    rintro k g _ ⟨⟨L2, rfl⟩, g1, g7, g8, g9, g3, g36, g37, g38, hk, hinv2⟩
    simp only [Rg.sl, List.map_take] at g36
    have hlt2 : (p.regions.take i).length = i := by simp; omega
    simp -dsimp [g1, g7, g8, g9, g3, g36, g37, g38]
    refine condVW_introD (fun hkt => ?_) (fun hkt => ?_)
    · have hkl : k < (p.regions.take i).length := by omega
      rw [allE_drop _ hkl] at hinv2
      obtain ⟨q, hq⟩ : ∃ q, q = (p.regions.take i)[k] := ⟨_, rfl⟩
      have hqm : q ∈ p.regions.take i := by rw [hq]; exact List.getElem_mem _
      obtain ⟨hq1, hq2⟩ := hin q hqm
      obtain ⟨hq3, hq4⟩ := hs q (List.mem_of_mem_take hqm)
      have hq5 : p.regions[k]'(by omega) = q := by rw [hq, List.getElem_take]
      rw [← hq] at hinv2
      have w3 : IntKind.i64.wrap (8 * q.size) = 8 * q.size := wrapI (by omega) (by omega)
      have w4 : IntKind.i64.wrap (q.addr + 8 * q.size) = q.addr + 8 * q.size := wrapI (by omega) (by omega)
      have w5 : IntKind.i64.wrap (p.regions[i].addr + 8 * p.regions[i].size) = p.regions[i].addr + 8 * p.regions[i].size := wrapI (by omega) (by omega)
      have hk2 : k < p.regions.length := by omega
      clear hq
      replace hin := Hid.mk hin
      replace hinv := Hid.mk hinv
      replace hinv2 := Hid.mk hinv2
      simp -dsimp [g1, g7, g8, g9, g3, g36, g37, g38, List.getElem?_take, List.getElem?_eq_getElem, hkt, hk2, hq5, w1, w3, w4, w5]
      repeat' ((with_reducible first | refine And.intro ?_ ?_ | refine guardVW_introTD (fun _ => ?_) (fun _ => ?_) | refine guardVW_introFD (fun _ => ?_) (fun _ => ?_) | refine condVW_introD (fun _ => ?_) (fun _ => ?_) | refine guardVW_introTE (fun _ => ?_) (fun _ _ _ => ?_) | refine guardVW_introFE (fun _ => ?_) (fun _ _ _ => ?_) | refine condVW_introE (fun _ => ?_) (fun _ _ _ => ?_) | refine guardVW_introTNE (fun _ _ _ => ?_) (fun _ => ?_) | refine guardVW_introFNE (fun _ _ _ => ?_) (fun _ => ?_) | refine condVW_introNE (fun _ _ _ => ?_) (fun _ => ?_) | refine guardVW_introTB (fun _ => ?_) (fun _ => ?_) | refine guardVW_introFB (fun _ => ?_) (fun _ => ?_) | refine condVW_introB (fun _ => ?_) (fun _ => ?_) | refine guardVW_introT (fun _ => ?_) (fun _ => ?_) | refine guardVW_introF (fun _ => ?_) (fun _ => ?_) | refine condVW_intro (fun _ => ?_) (fun _ => ?_) | refine mustW_t ?_ | refine mustW_f ?_ | refine mustW_D (fun _ => ?_) (fun _ => ?_) | refine mustW_E (fun _ => ?_) (fun _ _ _ => ?_) | refine mustW_NE (fun _ _ _ => ?_) (fun _ => ?_) | refine mustW_B (fun _ => ?_) (fun _ => ?_) | refine mustW_V (fun _ => ?_) (fun _ => ?_)) <;> simp -dsimp [*])
      all_goals replace hinv2 := hinv2.out
      all_goals first
        | (have e : apartP p.regions[i] q = 0 := by simp [apartP, mustE, *]
           rw [e, thenE_zero] at hinv2
           exact ⟨k + 1, by omega, wrapS (by omega), by omega, hinv2⟩)
        | (have e : apartP p.regions[i] q = 14 := by simp [apartP, mustE, *]
           have hinv := hinv.out
           rw [e, thenE_ne (by decide)] at hinv2
           rw [← hinv2, thenE_ne (by decide)] at hinv
           rw [hM.out, List.append_assoc]
           exact tidy_chkP hinv (by decide))
    · simp -dsimp [g1, g7, g8, g9]
      rw [allE_end _ (by omega)] at hinv2
      rw [← hinv2, thenE_zero] at hinv
      refine ⟨i + 1, by omega, wrapS (by omega), by omega, ?_, ?_⟩
      · rw [take_succ' hlt]; exact hinv
      · intro r hr
        rw [take_succ' hlt] at hr
        rcases List.mem_append.1 hr with hr | hr
        · exact hin r hr
        · obtain rfl := List.mem_singleton.1 hr
          constructor <;> omega
  · rw [drop_end hlt, boundsE] at hinv
    simp -dsimp
    rw [hM.out, List.append_assoc]
    exact tidy_chk0 hinv.symm
end Go.Proofs
namespace Go.Proofs
open Go.Mu
section
variable {H : List Blk} {c : Nat}
theorem s1_same {X : Blk} (h : H[c]? = some X) : H.set c X = H := by
  apply List.ext_getElem?
  intro i
  rw [List.getElem?_set]
  split
  · rename_i e; subst e
    rw [if_pos (lt_of_get h), h]
  · rfl
theorem s1_get (hc : c < H.length) (X : Blk) (L : List Blk) : (H.set c X ++ L)[c]? = some X := by
  rw [List.getElem?_append_left (by simpa using hc), List.getElem?_set_self hc]
theorem s1_set (hc : c < H.length) (X Y : Blk) (L : List Blk) : (H.set c X ++ L).set c Y = H.set c Y ++ L := by
  rw [List.set_append, if_pos (by simpa using hc), List.set_set]
theorem s1_getN (X : Blk) (L : List Blk) (i : Nat) : (H.set c X ++ L)[H.length + i]? = L[i]? := by
  rw [List.getElem?_append_right (by simp)]; simp
theorem s1_getE (X : Blk) (L : List Blk) : (H.set c X ++ L)[H.length]? = L[0]? := s1_getN X L 0
theorem s1_setN (X Y : Blk) (L : List Blk) (i : Nat) : (H.set c X ++ L).set (H.length + i) Y = H.set c X ++ L.set i Y := by
  rw [List.set_append, if_neg (by simp)]; simp
theorem s1_setE (X Y : Blk) (L : List Blk) : (H.set c X ++ L).set H.length Y = H.set c X ++ L.set 0 Y := s1_setN X Y L 0
theorem s1_len (X : Blk) : (H.set c X).length = H.length := by simp
end
theorem tidy_s1 {H L : List Blk} {c : Nat} {X : Blk} {R : AE → List Blk → Prop} {r : AV} (hX : ∀ n, X.under n = true) (hu : r.under H.length = true) (h : R (.ret r) (H.set c X)) : Tidy H R (.ret r) (H.set c X ++ L) :=
  tidy_to (by simp) (fun hh => by rw [s1_len]; exact underH_set hh (hX _)) (by rw [s1_len]; exact hu) h
abbrev cntB (n : Int) : Blk := .box 274 [I n]
mutual
def Ex.cnt (deep n : Int) : Ex → Int
  | .mk _ _ _ args => if 64 < deep then n else if 65536 < n then n else exsCnt (deep + 1) (n + 1) args
def exsCnt (deep n : Int) : List Ex → Int
  | [] => n
  | e :: l => exsCnt deep (e.cnt deep n) l
end
theorem Ex.cnt_eq (deep n : Int) (e : Ex) : e.cnt deep n = if 64 < deep then n else if 65536 < n then n else exsCnt (deep + 1) (n + 1) e.args := by cases e; rw [Ex.cnt]; rfl
theorem exsCnt_le (m : Nat) : ∀ (l : List Ex), exsCount l ≤ m → ∀ (deep n : Int), 0 ≤ n → n ≤ 65537 → 0 ≤ exsCnt deep n l ∧ exsCnt deep n l ≤ 65537 := by
  induction m with
  | zero => intro l hl deep n h0 h1; have := exs_len l; have : l = [] := List.eq_nil_of_length_eq_zero (by omega); subst this; simp [exsCnt]; omega
  | succ m ih =>
    intro l
    induction l with
    | nil => intro _ deep n h0 h1; simp only [exsCnt]; omega
    | cons e l ihl =>
      intro hl deep n h0 h1
      simp only [exsCount] at hl
      have he := Ex.count_eq e
      rw [exsCnt, Ex.cnt_eq]
      split
      · exact ihl (by omega) deep n h0 h1
      · split
        · exact ihl (by omega) deep n h0 h1
        · have := ih e.args (by omega) (deep + 1) (n + 1) (by omega) (by omega)
          exact ihl (by omega) deep _ this.1 this.2
theorem Ex.cnt_le (e : Ex) (deep n : Int) (h0 : 0 ≤ n) (h1 : n ≤ 65537) : 0 ≤ e.cnt deep n ∧ e.cnt deep n ≤ 65537 := by
  have := exsCnt_le _ [e] (Nat.le_refl _) deep n h0 h1
  simpa [exsCnt] using this
theorem cexpr_ok (m : Nat) : ∀ (e : Ex) (deep n : Int), e.count ≤ m → e.count ≤ 2^40 → 0 ≤ deep → deep ≤ 65 → 0 ≤ n → n ≤ 65537 → ∀ (H : List Blk) (c : Nat), H[c]? = some (cntB n) →
    ACalls Tryz.prog 249 [.bp c 0, .agg e.cells, I deep] H (fun x H' => x = .ret (.tup []) ∧ H' = H.set c (cntB (e.cnt deep n))) := by
  induction m with
  | zero => intro e deep n h; rw [Ex.count_eq] at h; omega
  | succ m ih =>
    intro e deep n hn hb hd0 hd hn0 hn1 H c hc
    refine acalls_tidy (acalls_of_awp Tryz.func249 rfl (by kernel_rfl) ?_)
    have hcl := lt_of_get hc
    obtain ⟨G, hG⟩ : ∃ G : Int → List Blk, ∀ n, G n = H.set c (cntB n) := ⟨_, fun _ => rfl⟩
    have gl : ∀ n, (G n).length = H.length := fun n => by rw [hG]; simp
    have gg : ∀ n L, (G n ++ L)[c]? = some (cntB n) := fun n L => by rw [hG]; exact s1_get hcl _ _
    have gs : ∀ n k L, (G n ++ L).set c (cntB k) = G k ++ L := fun n k L => by rw [hG, hG]; exact s1_set hcl _ _ _
    have gN : ∀ n L i, (G n ++ L)[H.length + i]? = L[i]? := fun n L i => by rw [hG]; exact s1_getN _ _ _
    have gE : ∀ n L, (G n ++ L)[H.length]? = L[0]? := fun n L => by rw [hG]; exact s1_getE _ _
    have sN : ∀ n L i X, (G n ++ L).set (H.length + i) X = G n ++ L.set i X := fun n L i X => by rw [hG]; exact s1_setN _ _ _ _
    obtain ⟨E, hE⟩ : ∃ E, E = e.cnt deep n := ⟨_, rfl⟩
    rw [← hE]
    have done : ∀ L, Tidy H (fun x H' => x = AE.ret (.tup []) ∧ H' = H.set c (cntB E)) (.ret (.tup [])) (G E ++ L) := fun L => by
      rw [hG]; exact tidy_s1 (fun _ => rfl) rfl ⟨rfl, rfl⟩
    have hH : H = G n := by rw [hG, s1_same hc]
    clear hG hc
    have hlen := exs_len e.args
    have hec := Ex.count_eq e
    refine awp_cut (fun _ => false) (fun _ => none) (fun f H' => H' = G n ++ [.box 73 e.cells] ∧ f 0 = .bp c 0 ∧ f 2 = I deep ∧ f 4 = .bp H.length 0) (by kernel_rfl) ?_ ?_
    · simp -dsimp
      rw [← hH]
    clear hH
    replace hE := Hid.mk hE
    replace hec := Hid.mk hec
    replace done := Hid.mk done
    rintro g _ ⟨rfl, g0, g2, g4⟩
    refine awp_cut (fun _ => false) (fun _ => none) (fun f H' => H' = G n ++ [.box 73 e.cells] ∧ f 0 = .bp c 0 ∧ f 2 = I deep ∧ f 4 = .bp H.length 0 ∧ deep ≤ 64 ∧ n ≤ 65536) (by kernel_rfl) ?_ ?_
    · simp -dsimp [g0, g2, g4, gg]
      repeat' ((with_reducible first | refine And.intro ?_ ?_ | refine guardVW_introTD (fun _ => ?_) (fun _ => ?_) | refine guardVW_introFD (fun _ => ?_) (fun _ => ?_) | refine condVW_introD (fun _ => ?_) (fun _ => ?_) | refine guardVW_introTE (fun _ => ?_) (fun _ _ _ => ?_) | refine guardVW_introFE (fun _ => ?_) (fun _ _ _ => ?_) | refine condVW_introE (fun _ => ?_) (fun _ _ _ => ?_) | refine guardVW_introTNE (fun _ _ _ => ?_) (fun _ => ?_) | refine guardVW_introFNE (fun _ _ _ => ?_) (fun _ => ?_) | refine condVW_introNE (fun _ _ _ => ?_) (fun _ => ?_) | refine guardVW_introTB (fun _ => ?_) (fun _ => ?_) | refine guardVW_introFB (fun _ => ?_) (fun _ => ?_) | refine condVW_introB (fun _ => ?_) (fun _ => ?_) | refine guardVW_introT (fun _ => ?_) (fun _ => ?_) | refine guardVW_introF (fun _ => ?_) (fun _ => ?_) | refine condVW_intro (fun _ => ?_) (fun _ => ?_)) <;> simp -dsimp [g0, g2, g4, gg, *])
      · have hE := hE.out
        rw [Ex.cnt_eq, if_pos (by assumption)] at hE
        subst hE; exact done.out _
      · have hE := hE.out
        rw [Ex.cnt_eq, if_neg (by assumption), if_pos (by assumption)] at hE
        subst hE; exact done.out _
      · omega
    clear g g0 g2 g4
    rintro g _ ⟨rfl, g0, g2, g4, hd64, hn64⟩
    replace hE := hE.out
    replace hec := hec.out
    rw [Ex.cnt_eq, if_neg (by omega), if_neg (by omega)] at hE
    have w1 : IntKind.i64.wrap (n + 1) = n + 1 := wrapI (by omega) (by omega)
    have w2 : IntKind.i64.wrap (deep + 1) = deep + 1 := wrapI (by omega) (by omega)
    have ge : ∀ L, (G (n + 1) ++ .box 73 e.cells :: L)[H.length]? = some (.box 73 e.cells) := fun L => gE _ _
    simp only [Ex.cells_eq] at ge
    refine awp_all (fun _ => false) (fun _ => none) (by kernel_rfl) ?_
    simp -dsimp [g0, g2, g4, gg, gs, w1, ge]
    refine loop_rule (hn := fun _ => false) (od := fun _ => none) (fun (i : Nat) g H' => (∃ k L, H' = G k ++ L ∧ 0 ≤ k ∧ k ≤ 65537 ∧ exsCnt (deep + 1) k (e.args.drop i) = exsCnt (deep + 1) (n + 1) e.args) ∧ g 0 = .bp c 0 ∧ g 2 = I deep ∧ g 25 = Ex.sl e.args ∧ g 26 = I e.args.length ∧ g 27 = I i ∧ i ≤ e.args.length) (fun i => e.args.length - i) (by kernel_rfl) 0
      (by simp [g0, g2]; exact ⟨n + 1, ⟨_, rfl⟩, by omega, by omega, rfl⟩) ?_
    clear g g0 g2 g4
    rintro i g _ ⟨⟨k, L, rfl, hk0, hk1, hinv⟩, g0, g2, g25, g26, g27, hi⟩
    simp -dsimp [g0, g2, g25, g26, g27]
    refine condVW_introD (fun hlt => ?_) (fun hlt => ?_)
    · rw [drop_cons hlt, exsCnt] at hinv
      have hb3 := exs_parts e hlt
      have ih := ih e.args[i] (deep + 1) k (by omega) (by omega) (by omega) (by omega) hk0 hk1 (G k ++ (L ++ [.box 73 e.args[i].cells])) c (gg _ _)
      rw [gs] at ih
      have hcl := Ex.cnt_le e.args[i] (deep + 1) k hk0 hk1
      simp only [Ex.cells_eq] at ih
      simp -dsimp [g0, g2, g25, g26, g27, List.getElem?_eq_getElem, hlt, w2]
      refine acallsW_of ih ?_
      rintro x H' ⟨rfl, rfl⟩
      simp -dsimp [g0, g2, g25, g26, g27]
      exact ⟨i + 1, by omega, ⟨_, ⟨_, rfl⟩, hcl.1, hcl.2, hinv⟩, wrapS (by omega), by omega⟩
    · simp -dsimp
      rw [drop_end hlt, exsCnt] at hinv
      rw [← hE] at hinv
      subst hinv
      exact done.out _
end Go.Proofs
namespace Go.Proofs
open Go.Mu
def exsCntB (deep n : Int) : List Ex → Int
  | [] => n
  | e :: l => exsCntB deep (if blankB e then n else e.cnt deep n) l
mutual
def Sm.cnt (deep n : Int) : Sm → Int
  | .mk _ _ _ e a args _ _ body els => smsCnt (deep + 1) (smsCnt (deep + 1) (exsCntB deep (n + 1) (e :: a :: args)) body) els
def smsCnt (deep n : Int) : List Sm → Int
  | [] => n
  | s :: l => if 64 < deep then n else if 65536 < n then n else smsCnt deep (s.cnt deep n) l
end
theorem Sm.cnt_eq (deep n : Int) (s : Sm) : s.cnt deep n = smsCnt (deep + 1) (smsCnt (deep + 1) (exsCntB deep (n + 1) (s.e :: s.a :: s.args)) s.body) s.els := by cases s; rw [Sm.cnt]; rfl
theorem smsCnt_deep {deep : Int} (h : 64 < deep) (n : Int) (l : List Sm) : smsCnt deep n l = n := by
  cases l with
  | nil => rw [smsCnt]
  | cons s l => rw [smsCnt, if_pos h]
theorem exsCntB_le (deep : Int) : ∀ (l : List Ex) (n : Int), 0 ≤ n → n ≤ 65537 → 0 ≤ exsCntB deep n l ∧ exsCntB deep n l ≤ 65537
  | [], n, h0, h1 => by simp only [exsCntB]; omega
  | e :: l, n, h0, h1 => by
    rw [exsCntB]
    split
    · exact exsCntB_le deep l n h0 h1
    · have := Ex.cnt_le e deep n h0 h1
      exact exsCntB_le deep l _ this.1 this.2
theorem smsCnt_le (m : Nat) : ∀ (l : List Sm), smsCount l ≤ m → ∀ (deep n : Int), 0 ≤ n → n ≤ 65537 → 0 ≤ smsCnt deep n l ∧ smsCnt deep n l ≤ 65537 := by
  induction m with
  | zero => intro l hl deep n h0 h1; have := sms_len l; have : l = [] := List.eq_nil_of_length_eq_zero (by omega); subst this; simp only [smsCnt]; omega
  | succ m ih =>
    intro l
    induction l with
    | nil => intro _ deep n h0 h1; simp only [smsCnt]; omega
    | cons s l ihl =>
      intro hl deep n h0 h1
      simp only [smsCount] at hl
      have he := Sm.count_eq s
      rw [smsCnt]
      split
      · omega
      · split
        · omega
        · rw [Sm.cnt_eq]
          have a := exsCntB_le deep (s.e :: s.a :: s.args) (n + 1) (by omega) (by omega)
          have b := ih s.body (by omega) (deep + 1) _ a.1 a.2
          have c := ih s.els (by omega) (deep + 1) _ b.1 b.2
          exact ihl (by omega) deep _ c.1 c.2
theorem cstmts_ok (m : Nat) : ∀ (l : List Sm) (deep n : Int), smsCount l ≤ m → smsCount l ≤ 2^40 → 0 ≤ deep → deep ≤ 65 → 0 ≤ n → n ≤ 65537 → ∀ (H : List Blk) (c : Nat), H[c]? = some (cntB n) →
    ACalls Tryz.prog 225 [.bp c 0, Sm.sl l, I deep] H (fun x H' => x = .ret (.tup []) ∧ H' = H.set c (cntB (smsCnt deep n l))) := by
  induction m with
  | zero =>
    intro l deep n hm _ _ _ _ _ H c hc
    have := sms_len l
    obtain rfl : l = [] := List.eq_nil_of_length_eq_zero (by omega)
    refine acalls_tidy (acalls_of_vc (hn := fun d => d == 1000034) (od := fun _ => none) Tryz.func225 rfl (by kernel_rfl) ?_)
    have done : Tidy H (fun x H' => x = AE.ret (.tup []) ∧ H' = H.set c (cntB (smsCnt deep n []))) (.ret (.tup [])) H := by
      rw [smsCnt, s1_same hc]
      exact tidy_now rfl ⟨rfl, rfl⟩
    simp -dsimp
    repeat' ((with_reducible first | refine And.intro ?_ ?_ | refine guardVW_introTD (fun _ => ?_) (fun _ => ?_) | refine guardVW_introFD (fun _ => ?_) (fun _ => ?_) | refine condVW_introD (fun _ => ?_) (fun _ => ?_) | refine guardVW_introTE (fun _ => ?_) (fun _ _ _ => ?_) | refine guardVW_introFE (fun _ => ?_) (fun _ _ _ => ?_) | refine condVW_introE (fun _ => ?_) (fun _ _ _ => ?_) | refine guardVW_introTNE (fun _ _ _ => ?_) (fun _ => ?_) | refine guardVW_introFNE (fun _ _ _ => ?_) (fun _ => ?_) | refine condVW_introNE (fun _ _ _ => ?_) (fun _ => ?_) | refine guardVW_introTB (fun _ => ?_) (fun _ => ?_) | refine guardVW_introFB (fun _ => ?_) (fun _ => ?_) | refine condVW_introB (fun _ => ?_) (fun _ => ?_) | refine guardVW_introT (fun _ => ?_) (fun _ => ?_) | refine guardVW_introF (fun _ => ?_) (fun _ => ?_) | refine condVW_intro (fun _ => ?_) (fun _ => ?_)) <;> simp -dsimp [*])
    refine loop_rule (hn := fun d => d == 1000034) (od := fun _ => none) (fun (i : Nat) g H' => H' = H ∧ g 13 = I 0 ∧ g 14 = I 0) (fun i => 0) (by kernel_rfl) 0 (by simp) ?_
    rintro i g _ ⟨rfl, g13, g14⟩
    simp -dsimp [g13, g14]
    exact done
  | succ m ih =>
    intro l deep n hn hb hd0 hd hn0 hn1 H c hc
    refine acalls_tidy (acalls_of_awp Tryz.func225 rfl (by kernel_rfl) ?_)
    have hcl := lt_of_get hc
    obtain ⟨G, hG⟩ : ∃ G : Int → List Blk, ∀ n, G n = H.set c (cntB n) := ⟨_, fun _ => rfl⟩
    have gl : ∀ n, (G n).length = H.length := fun n => by rw [hG]; simp
    have gg : ∀ n L, (G n ++ L)[c]? = some (cntB n) := fun n L => by rw [hG]; exact s1_get hcl _ _
    have gs : ∀ n k L, (G n ++ L).set c (cntB k) = G k ++ L := fun n k L => by rw [hG, hG]; exact s1_set hcl _ _ _
    have gN : ∀ n L i, (G n ++ L)[H.length + i]? = L[i]? := fun n L i => by rw [hG]; exact s1_getN _ _ _
    have gE : ∀ n L, (G n ++ L)[H.length]? = L[0]? := fun n L => by rw [hG]; exact s1_getE _ _
    have sN : ∀ n L i X, (G n ++ L).set (H.length + i) X = G n ++ L.set i X := fun n L i X => by rw [hG]; exact s1_setN _ _ _ _
    have sE : ∀ n L X, (G n ++ L).set H.length X = G n ++ L.set 0 X := fun n L X => by rw [hG]; exact s1_setE _ _ _
    obtain ⟨E, hE⟩ : ∃ E, E = smsCnt deep n l := ⟨_, rfl⟩
    rw [← hE]
    have done : ∀ L, Tidy H (fun x H' => x = AE.ret (.tup []) ∧ H' = H.set c (cntB E)) (.ret (.tup [])) (G E ++ L) := fun L => by
      rw [hG]; exact tidy_s1 (fun _ => rfl) rfl ⟨rfl, rfl⟩
    have hH : H = G n ++ [] := by rw [hG, s1_same hc]; simp
    clear hG hc
    have hlen := sms_len l
    refine awp_cut (fun _ => false) (fun _ => none) (fun f H' => H' = G n ++ [] ∧ f 0 = .bp c 0 ∧ f 1 = Sm.sl l ∧ f 2 = I deep ∧ deep ≤ 64) (by kernel_rfl) ?_ ?_
    · simp -dsimp
      refine condVW_introD (fun h => ?_) (fun h => ?_)
      · simp -dsimp
        rw [smsCnt_deep h] at hE
        subst hE
        have d := done []
        rw [← hH] at d
        exact d
      · simp -dsimp
        exact ⟨by simpa using hH, by omega⟩
    clear hH
    rintro g _ ⟨rfl, g0, g1, g2, hd64⟩
    refine awp_all (fun d => d == 1000034) (fun _ => none) (by kernel_rfl) ?_
    simp -dsimp [g0, g1, g2]
    refine loop_rule (hn := fun d => d == 1000034) (od := fun _ => none) (fun (i : Nat) g H' => (∃ k L, H' = G k ++ L ∧ 0 ≤ k ∧ k ≤ 65537 ∧ smsCnt deep k (l.drop i) = smsCnt deep n l) ∧ g 0 = .bp c 0 ∧ g 2 = I deep ∧ g 12 = Sm.sl l ∧ g 13 = I l.length ∧ g 14 = I i ∧ i ≤ l.length) (fun i => l.length - i) (by kernel_rfl) 0
      (by simp [g0, g2]; exact ⟨n, ⟨[], by simp⟩, by omega, by omega, rfl⟩) ?_
    clear g g0 g1 g2
    rintro i g _ ⟨⟨k, L, rfl, hk0, hk1, hinv⟩, g0, g2, g12, g13, g14, hi⟩
    simp -dsimp [g0, g2, g12, g13, g14]
    refine condVW_introD (fun hlt => ?_) (fun hlt => ?_)
    · rw [drop_cons hlt, smsCnt, if_neg (by omega)] at hinv
      have hb3 := sms_get hlt
      simp -dsimp [g0, g2, g12, g13, g14, List.getElem?_eq_getElem, hlt, gg, gl]
      refine condVW_introD (fun hk => ?_) (fun hk => ?_)
      · simp -dsimp
        rw [if_pos hk, ← hE] at hinv
        subst hinv
        exact done _
      rw [if_neg hk, Sm.cnt_eq] at hinv
      obtain ⟨es, hes⟩ : ∃ es, es = l[i].e :: l[i].a :: l[i].args := ⟨_, rfl⟩
      have hesl : es.length ≤ 2^40 := by rw [hes]; have := exs_len l[i].args; have := Sm.count_eq l[i]; have := Ex.count_eq l[i].e; have := Ex.count_eq l[i].a; simp; omega
      have w1 : IntKind.i64.wrap (k + 1) = k + 1 := wrapI (by omega) (by omega)
      have hel : [I l[i].e.op, U l[i].e.word, St l[i].e.name, Ex.sl l[i].e.args] :: [I l[i].a.op, U l[i].a.word, St l[i].a.name, Ex.sl l[i].a.args] :: l[i].args.map Ex.cells = es.map Ex.cells := by rw [hes]; simp
      have hbd : (2 + l[i].args.length) * 56 ≤ 140737488355328 ∧ 2 + l[i].args.length ≤ 9223372036854775807 := by
        have e : es.length = 2 + l[i].args.length := by rw [hes]; simp; omega
        omega
      have hlen2 : l[i].args.length + 1 + 1 = es.length := by rw [hes]; simp
      have hcnt : exsCount es ≤ l[i].count := by rw [hes]; have := Sm.count_eq l[i]; simp only [exsCount]; omega
      have hsc := Sm.count_eq l[i]
      have hbound := exsCntB_le deep es (k + 1) (by omega) (by omega)
      have w2 : IntKind.i64.wrap (deep + 1) = deep + 1 := wrapI (by omega) (by omega)
      rw [← hes] at hinv
      clear hes
      simp -dsimp [g0, g2, g12, g13, g14, gg, gs, gl, gN, w1, hel, hbd, hlen2]
      refine loop_rule (hn := fun d => d == 1000034) (od := fun _ => none) (fun (j : Nat) g H' => (∃ q L2, H' = G q ++ (L ++ Blk.box 82 l[i].cells :: L2) ∧ 0 ≤ q ∧ q ≤ 65537 ∧ exsCntB deep q (es.drop j) = exsCntB deep (k + 1) es) ∧ g 0 = .bp c 0 ∧ g 2 = I deep ∧ g 12 = Sm.sl l ∧ g 13 = I l.length ∧ g 14 = I i ∧
        g 7 = .bp (H.length + L.length) 0 ∧ g 37 = Ex.sl es ∧ g 38 = I es.length ∧ g 39 = I j ∧ j ≤ es.length) (fun j => es.length - j) (by kernel_rfl) 0 (by simp [g0, g2, g12, g13, g14]; exact ⟨k + 1, ⟨[], rfl⟩, by omega, by omega, rfl⟩) ?_
      clear g g0 g2 g12 g13 g14
      rintro j g _ ⟨⟨q, L2, rfl, hq0, hq1, hinv2⟩, g0, g2, g12, g13, g14, g7, g37, g38, g39, hj⟩
      simp -dsimp [g0, g2, g12, g13, g14, g7, g37, g38, g39]
      refine condVW_introD (fun hjt => ?_) (fun hjt => ?_)
      · rw [drop_cons hjt, exsCntB] at hinv2
        simp -dsimp [g0, g2, g12, g13, g14, g7, g37, g38, g39, List.getElem?_eq_getElem, hjt, gg, gl]
        have cb := fun H => blank_ok es[j] H
        have hej := exs_get hjt
        have ce := fun L => cexpr_ok es[j].count es[j] deep q (Nat.le_refl _) (by omega) hd0 (by omega) hq0 hq1 (G q ++ L) c (gg _ _)
        simp only [gs] at ce
        have hcl2 := Ex.cnt_le es[j] deep q hq0 hq1
        simp only [Ex.cells_eq] at cb ce
        refine acallsW_det (cb _) ?_
        simp -dsimp
        refine condVW_introB (fun hbl => ?_) (fun hbl => ?_)
        · rw [if_neg (by simp [hbl])] at hinv2
          simp -dsimp [g0, g2, g12, g13, g14, g7, g37, g38, g39, gN, gl]
          refine acallsW_of (ce _) ?_
          rintro x H' ⟨rfl, rfl⟩
          simp -dsimp [g0, g2, g12, g13, g14, g7, g37, g38, g39]
          exact ⟨j + 1, by omega, ⟨_, ⟨_, rfl⟩, hcl2.1, hcl2.2, hinv2⟩, wrapS (by omega), by omega⟩
        · rw [if_pos hbl] at hinv2
          simp -dsimp [g0, g2, g12, g13, g14, g7, g37, g38, g39, gN, gl]
          exact ⟨j + 1, by omega, ⟨_, ⟨_, rfl⟩, hq0, hq1, hinv2⟩, wrapS (by omega), by omega⟩
      · rw [drop_end hjt, exsCntB] at hinv2
        subst hinv2
        simp -dsimp [g0, g2, g12, g13, g14, g7, g37, g38, g39, gN, gl, w2]
        have c1 := fun L => ih l[i].body (deep + 1) _ (by omega) (by omega) (by omega) (by omega) hbound.1 hbound.2 (G _ ++ L) c (gg _ _)
        simp only [gs] at c1
        have b1 := smsCnt_le _ l[i].body (Nat.le_refl _) (deep + 1) _ hbound.1 hbound.2
        refine acallsW_of (c1 _) ?_
        rintro x H' ⟨rfl, rfl⟩
        simp -dsimp [g0, g2, g12, g13, g14, g7, g37, g38, g39, gN, gl, w2]
        have c2 := fun L => ih l[i].els (deep + 1) _ (by omega) (by omega) (by omega) (by omega) b1.1 b1.2 (G _ ++ L) c (gg _ _)
        simp only [gs] at c2
        have b2 := smsCnt_le _ l[i].els (Nat.le_refl _) (deep + 1) _ b1.1 b1.2
        refine acallsW_of (c2 _) ?_
        rintro x H' ⟨rfl, rfl⟩
        simp -dsimp [g0, g2, g12, g13, g14, g7, g37, g38, g39, gN, gl, w2]
        exact ⟨i + 1, by omega, ⟨_, ⟨_, rfl⟩, b2.1, b2.2, hinv⟩, wrapS (by omega), by omega⟩
    · simp -dsimp
      rw [drop_end hlt, smsCnt, ← hE] at hinv
      subst hinv
      exact done _
end Go.Proofs
namespace Go.Proofs
open Go.Mu
def funcsCnt (n : Int) : List Fc → Int
  | [] => n
  | f :: l => funcsCnt (smsCnt 1 n f.body) l
theorem funcsCnt_le : ∀ (l : List Fc) (n : Int), 0 ≤ n → n ≤ 65537 → 0 ≤ funcsCnt n l ∧ funcsCnt n l ≤ 65537
  | [], n, h0, h1 => by simp only [funcsCnt]; omega
  | f :: l, n, h0, h1 => by
    rw [funcsCnt]
    have := smsCnt_le _ f.body (Nat.le_refl _) 1 n h0 h1
    exact funcsCnt_le l _ this.1 this.2
structure Pg.Ok (p : Pg) : Prop where
  regions : p.regions.length ≤ 2^40
  funcs : p.funcs.length ≤ 2^40
  body : ∀ f ∈ p.funcs, smsCount f.body ≤ 2^40
  params : ∀ f ∈ p.funcs, f.params.length ≤ 2^36
  vars : ∀ f ∈ p.funcs, f.vars.length ≤ 2^36
  rets : ∀ f ∈ p.funcs, f.rets.length ≤ 2^40
def sizeM (p : Pg) : Int := funcsCnt 0 p.funcs
theorem size_ok (p : Pg) (hp : p.Ok) (H : List Blk) : ACalls Tryz.prog 175 [.agg p.cells] H (fun e H' => e = .ret (I (sizeM p)) ∧ H' = H) := by
  refine acalls_tidy (acalls_of_awp Tryz.func175 rfl (by kernel_rfl) ?_)
  obtain ⟨M, hM⟩ : ∃ M, M = H ++ [.box 25 p.cells, cntB 0] := ⟨_, rfl⟩
  have hMl : M.length = H.length + 2 := by rw [hM]; simp
  have hc : M[H.length + 1]? = some (cntB 0) := by rw [hM]; simp
  have hcl := lt_of_get hc
  obtain ⟨c, hcc⟩ : ∃ c, c = H.length + 1 := ⟨_, rfl⟩
  rw [← hcc] at hc hcl
  obtain ⟨G, hG⟩ : ∃ G : Int → List Blk, ∀ n, G n = M.set c (cntB n) := ⟨_, fun _ => rfl⟩
  have gg : ∀ n L, (G n ++ L)[c]? = some (cntB n) := fun n L => by rw [hG]; exact s1_get hcl _ _
  have gs : ∀ n k L, (G n ++ L).set c (cntB k) = G k ++ L := fun n k L => by rw [hG, hG]; exact s1_set hcl _ _ _
  have gp : ∀ n L, (G n ++ L)[H.length]? = some (.box 25 p.cells) := fun n L => by
    rw [hG, List.getElem?_append_left (by simp; omega), List.getElem?_set_ne (by omega), hM]; simp
  have fin : ∀ n L, G n ++ L = H ++ (.box 25 p.cells :: cntB n :: L) := fun n L => by
    rw [hG, hM, hcc]; simp
  have hH : M = G 0 ++ [] := by rw [hG, s1_same hc]; simp
  simp only [Pg.cells] at gp hM
  have gp0 : ∀ n, (G n)[H.length]? = some (.box 25 [Rg.sl p.regions, Fc.sl p.funcs]) := fun n => by have := gp n []; simpa using this
  refine awp_cut (fun _ => false) (fun _ => none) (fun f H' => H' = H ++ [.box 25 p.cells] ∧ f 1 = .bp H.length 0) (by kernel_rfl) ?_ ?_
  · simp -dsimp
  rintro g _ ⟨rfl, g1⟩
  refine awp_cut (fun _ => false) (fun _ => none) (fun f H' => H' = G 0 ++ [] ∧ f 1 = .bp H.length 0 ∧ f 3 = .bp c 0) (by kernel_rfl) ?_ ?_
  · simp -dsimp [g1]
    exact ⟨by rw [← hM]; simpa using hH, hcc.symm⟩
  clear g g1 hM hG hH
  rintro g _ ⟨rfl, g1, g3⟩
  refine awp_cut (fun _ => false) (fun _ => none) (fun f H' => (∃ L, H' = G (sizeM p) ++ L) ∧ f 3 = .bp c 0) (by kernel_rfl) ?_ ?_
  · simp -dsimp [g1, g3, gp, gp0]
    refine loop_rule (hn := fun _ => false) (od := fun _ => none) (fun (i : Nat) g H' => (∃ k L, H' = G k ++ L ∧ 0 ≤ k ∧ k ≤ 65537 ∧ funcsCnt k (p.funcs.drop i) = sizeM p) ∧ g 3 = .bp c 0 ∧ g 9 = Fc.sl p.funcs ∧ g 10 = I p.funcs.length ∧ g 11 = I i ∧ i ≤ p.funcs.length) (fun i => p.funcs.length - i) (by kernel_rfl) 0
      (by simp [g3]; exact ⟨0, ⟨[], by simp⟩, by omega, by omega, rfl⟩) ?_
    clear g g1 g3
    rintro i g _ ⟨⟨k, L, rfl, hk0, hk1, hinv⟩, g3, g9, g10, g11, hi⟩
    simp -dsimp [g3, g9, g10, g11]
    have hpf := hp.funcs
    refine condVW_introD (fun hlt => ?_) (fun hlt => ?_)
    · rw [drop_cons hlt, funcsCnt] at hinv
      have hb := hp.body _ (List.getElem_mem hlt)
      have cs := fun L => cstmts_ok _ p.funcs[i].body 1 k (Nat.le_refl _) hb (by omega) (by omega) hk0 hk1 (G k ++ L) c (gg _ _)
      simp only [gs] at cs
      have b1 := smsCnt_le _ p.funcs[i].body (Nat.le_refl _) 1 k hk0 hk1
      simp -dsimp [g3, g9, g10, g11, List.getElem?_eq_getElem, hlt]
      refine acallsW_of (cs _) ?_
      rintro x H' ⟨rfl, rfl⟩
      simp -dsimp [g3, g9, g10, g11]
      exact ⟨i + 1, by omega, ⟨_, ⟨_, rfl⟩, b1.1, b1.2, hinv⟩, wrapS (by omega), by omega⟩
    · simp -dsimp [g3]
      rw [drop_end hlt, funcsCnt] at hinv
      subst hinv
      exact ⟨_, rfl⟩
  clear g g1 g3
  rintro g _ ⟨⟨L, rfl⟩, g3⟩
  have hle := funcsCnt_le p.funcs 0 (by omega) (by omega)
  have e : (if (65537 : Int) < sizeM p then 65537 else sizeM p) = sizeM p := by rw [if_neg]; unfold sizeM; omega
  refine awp_all (fun _ => false) (fun _ => none) (by kernel_rfl) ?_
  simp -dsimp [g3, gg, e]
  rw [fin]
  exact tidy_same rfl ⟨rfl, rfl⟩
end Go.Proofs
namespace Go.Proofs
open Go.Mu
def RowAt (H : List Blk) (x : AV) (t : TypeId) (sz : Nat) (es : List (List AV)) : Prop := (x = nilS ∧ es = []) ∨ ∃ k, x = .hs k 0 es.length es.length ∧ H[k]? = some (.row t sz es)
theorem vclone_ok (l : List Vr) (hl : l.length ≤ 2^36) (H : List Blk) : ACalls Tryz.prog 68 [Vr.sl l] H (fun e H' => (l = [] ∧ e = .ret nilS ∧ H' = H) ∨ (e = .ret (.hs H.length 0 l.length l.length) ∧ H' = H ++ [.row 120 4 (l.map Vr.cells)])) := by
  refine acalls_of_vc (hn := fun d => d == 5 || d == 7) (od := fun _ => none) Tryz.func68 rfl (by kernel_rfl) ?_
  simp -dsimp
  refine slNilW_vs (fun hne => ?_) (fun he => ⟨?_, ?_⟩)
  · simp -dsimp
    refine appendVW_hs (es := []) (by simp) rfl rfl (by simp; omega) (by simp; omega) ?_
    simp -dsimp
  · have : l = [] := by simpa using he
    simp -dsimp
    exact this
  · simp -dsimp
    refine appendVW_hs (es := []) (by simp) rfl rfl (by simp; omega) (by simp; omega) ?_
    simp -dsimp
def sizeE (n : Int) : Int := mustE (decide (1 ≤ n) && decide (n ≤ 512)) 13
theorem sizechk_ok (n : Int) (H : List Blk) : ACalls Tryz.prog 174 [I n] H (ChkR (sizeE n) H) := by
  refine acalls_tidy (acalls_of_vc (hn := fun _ => false) (od := fun _ => none) Tryz.func174 rfl (by kernel_rfl) ?_)
  simp -dsimp
  repeat' ((with_reducible first | refine And.intro ?_ ?_ | refine guardVW_introTD (fun _ => ?_) (fun _ => ?_) | refine guardVW_introFD (fun _ => ?_) (fun _ => ?_) | refine condVW_introD (fun _ => ?_) (fun _ => ?_) | refine guardVW_introTE (fun _ => ?_) (fun _ _ _ => ?_) | refine guardVW_introFE (fun _ => ?_) (fun _ _ _ => ?_) | refine condVW_introE (fun _ => ?_) (fun _ _ _ => ?_) | refine guardVW_introTNE (fun _ _ _ => ?_) (fun _ => ?_) | refine guardVW_introFNE (fun _ _ _ => ?_) (fun _ => ?_) | refine condVW_introNE (fun _ _ _ => ?_) (fun _ => ?_) | refine guardVW_introTB (fun _ => ?_) (fun _ => ?_) | refine guardVW_introFB (fun _ => ?_) (fun _ => ?_) | refine condVW_introB (fun _ => ?_) (fun _ => ?_) | refine guardVW_introT (fun _ => ?_) (fun _ => ?_) | refine guardVW_introF (fun _ => ?_) (fun _ => ?_) | refine condVW_intro (fun _ => ?_) (fun _ => ?_) | refine mustW_t ?_ | refine mustW_f ?_ | refine mustW_D (fun _ => ?_) (fun _ => ?_) | refine mustW_E (fun _ => ?_) (fun _ _ _ => ?_) | refine mustW_NE (fun _ _ _ => ?_) (fun _ => ?_) | refine mustW_B (fun _ => ?_) (fun _ => ?_) | refine mustW_V (fun _ => ?_) (fun _ => ?_)) <;> simp -dsimp [*])
  all_goals first | exact tidy_chk0' (by simp [sizeE, *]) | exact tidy_chkP' (by simp [sizeE, mustE, *]) (by decide)
theorem size13 {n : Int} (h : sizeE n ≠ 0) : sizeE n = 13 := by
  unfold sizeE mustE at h ⊢
  split at h
  · exact absurd rfl h
  · rw [if_neg (by assumption)]
def manyV (v : Vr) : Int := if v.kind = 2 ∨ v.kind = 3 then sizeE v.size else 0
def manyF (f : Fc) : Int := thenE (mustE (decide ((f.params.length : Int) + f.vars.length ≤ 64) && decide ((f.rets.length : Int) ≤ 64)) 13) (allE manyV (f.params ++ f.vars))
def manyE (p : Pg) : Int := thenE (mustE (decide ((p.regions.length : Int) ≤ 16) && decide (1 ≤ (p.funcs.length : Int)) && decide ((p.funcs.length : Int) ≤ 32)) 13)
  (thenE (allE (fun r => sizeE r.size) p.regions) (thenE (allE manyF p.funcs) (mustE (decide (sizeM p ≤ 65536)) 13)))
theorem many_ok (p : Pg) (hp : p.Ok) (H : List Blk) : ACalls Tryz.prog 105 [.agg p.cells] H (ChkR (manyE p) H) := by
  refine acalls_tidy (acalls_of_awp Tryz.func105 rfl (by kernel_rfl) ?_)
  obtain ⟨M, hM⟩ : ∃ M, M = H ++ [.box 25 p.cells] := ⟨_, rfl⟩
  have hMk : M[H.length]? = some (.box 25 p.cells) := by rw [hM]; simp
  have hMa : ∀ L, (M ++ L)[H.length]? = some (.box 25 p.cells) := fun L => get_app_old hMk L
  have cs := fun H => size_ok p hp H
  simp only [Pg.cells] at hMk hMa cs
  have endP : ∀ L, Hid (manyE p = 13 → Tidy H (ChkR (manyE p) H) (.pan (refS 13)) (M ++ L)) := fun L => ⟨fun h => by
    rw [hM, List.append_assoc]; exact tidy_chkP h.symm (by decide)⟩
  have end0 : ∀ L, Hid (manyE p = 0 → Tidy H (ChkR (manyE p) H) (.ret (.tup [])) (M ++ L)) := fun L => ⟨fun h => by
    rw [hM, List.append_assoc]; exact tidy_chk0 h⟩
  refine awp_cut (fun _ => false) (fun _ => none) (fun f H' => H' = M ++ [] ∧ f 1 = .bp H.length 0) (by kernel_rfl) ?_ ?_
  · simp -dsimp [hM]
  clear hM hMk
  rintro g _ ⟨rfl, g1⟩
  -- numbers
  refine awp_cut (fun _ => false) (fun _ => none) (fun f H' => H' = M ++ [] ∧ f 1 = .bp H.length 0 ∧ mustE (decide ((p.regions.length : Int) ≤ 16) && decide (1 ≤ (p.funcs.length : Int)) && decide ((p.funcs.length : Int) ≤ 32)) 13 = 0) (by kernel_rfl) ?_ ?_
  · have hMk := hMa []
    rw [List.append_nil] at hMk
    simp -dsimp [g1, hMk]
    repeat' ((with_reducible first | refine And.intro ?_ ?_ | refine guardVW_introTD (fun _ => ?_) (fun _ => ?_) | refine guardVW_introFD (fun _ => ?_) (fun _ => ?_) | refine condVW_introD (fun _ => ?_) (fun _ => ?_) | refine guardVW_introTE (fun _ => ?_) (fun _ _ _ => ?_) | refine guardVW_introFE (fun _ => ?_) (fun _ _ _ => ?_) | refine condVW_introE (fun _ => ?_) (fun _ _ _ => ?_) | refine guardVW_introTNE (fun _ _ _ => ?_) (fun _ => ?_) | refine guardVW_introFNE (fun _ _ _ => ?_) (fun _ => ?_) | refine condVW_introNE (fun _ _ _ => ?_) (fun _ => ?_) | refine guardVW_introTB (fun _ => ?_) (fun _ => ?_) | refine guardVW_introFB (fun _ => ?_) (fun _ => ?_) | refine condVW_introB (fun _ => ?_) (fun _ => ?_) | refine guardVW_introT (fun _ => ?_) (fun _ => ?_) | refine guardVW_introF (fun _ => ?_) (fun _ => ?_) | refine condVW_intro (fun _ => ?_) (fun _ => ?_) | refine mustW_t ?_ | refine mustW_f ?_ | refine mustW_D (fun _ => ?_) (fun _ => ?_) | refine mustW_E (fun _ => ?_) (fun _ _ _ => ?_) | refine mustW_NE (fun _ _ _ => ?_) (fun _ => ?_) | refine mustW_B (fun _ => ?_) (fun _ => ?_) | refine mustW_V (fun _ => ?_) (fun _ => ?_)) <;> simp -dsimp [*])
    all_goals first
      | (simp [mustE, *]; done)
      | (have e := (endP []).out (by simp [manyE, thenE, mustE, *]); simpa using e)
      | trace_state
  clear g g1
  rintro g _ ⟨rfl, g1, h1⟩
  refine awp_cut (fun _ => false) (fun _ => none) (fun f H' => H' = M ++ [] ∧ f 1 = .bp H.length 0 ∧ f 2 = .fn (.func 174) [] []) (by kernel_rfl) ?_ ?_
  · simp -dsimp [g1]
  clear g g1
  rintro g _ ⟨rfl, g1, g2⟩
  -- regions
  refine awp_cut (fun _ => false) (fun _ => none) (fun f H' => (∃ L, H' = M ++ L) ∧ f 1 = .bp H.length 0 ∧ f 2 = .fn (.func 174) [] [] ∧ allE (fun r => sizeE r.size) p.regions = 0) (by kernel_rfl) ?_ ?_
  · have hMk := hMa []
    rw [List.append_nil] at hMk
    simp -dsimp [g1, g2, hMk]
    have hpr := hp.regions
    refine loop_rule (hn := fun _ => false) (od := fun _ => none) (fun (i : Nat) g H' => (∃ L, H' = M ++ L) ∧ g 1 = .bp H.length 0 ∧ g 2 = .fn (.func 174) [] [] ∧ g 27 = Rg.sl p.regions ∧ g 28 = I p.regions.length ∧ g 29 = I i ∧ i ≤ p.regions.length ∧ allE (fun r => sizeE r.size) (p.regions.drop i) = allE (fun r => sizeE r.size) p.regions) (fun i => p.regions.length - i) (by kernel_rfl) 0 (by simp [g1, g2]) ?_
    clear g g1 g2
    rintro i g _ ⟨⟨L, rfl⟩, g1, g2, g7, g8, g9, hi, hinv⟩
    simp -dsimp [g1, g2, g7, g8, g9]
    refine condVW_introD (fun hlt => ?_) (fun hlt => ?_)
    · rw [allE_drop _ hlt] at hinv
      simp -dsimp [g1, g2, g7, g8, g9, List.getElem?_eq_getElem, hlt]
      refine chkW (sizechk_ok _ _) (fun hz => ?_) (fun hz => ?_)
      · rw [hz, thenE_zero] at hinv
        simp -dsimp [g1, g2, g7, g8, g9]
        exact ⟨i + 1, by omega, wrapS (by omega), by omega, hinv⟩
      · rw [thenE_ne hz] at hinv
        have e13 : sizeE p.regions[i].size = 13 := by unfold sizeE mustE at hz ⊢; split at hz; · exact absurd rfl hz
                                                      rw [if_neg (by assumption)]
        simp -dsimp [e13]
        rw [e13] at hinv
        exact (endP _).out (by rw [manyE, h1, thenE_zero, ← hinv]; rfl)
    · rw [allE_end _ hlt] at hinv
      simp -dsimp [g1, g2]
      exact hinv.symm
  clear g g1 g2
  rintro g _ ⟨⟨L0, rfl⟩, g1, g2, h2⟩
  -- functions
  refine awp_cutA (fun f H' => (∃ L, H' = M ++ L) ∧ f 1 = .bp H.length 0 ∧ allE manyF p.funcs = 0) ?_ ?_
  · refine awp_cut (fun _ => false) (fun _ => none) (fun f H' => (∃ L, H' = M ++ L) ∧ f 1 = .bp H.length 0 ∧ f 2 = .fn (.func 174) [] [] ∧ f 39 = Fc.sl p.funcs ∧ f 40 = I p.funcs.length ∧ f 41 = I 0) (by kernel_rfl) ?_ ?_
    · simp -dsimp [g1, g2, hMa]
    clear g g1 g2
    rintro g _ ⟨⟨L, rfl⟩, g1, g2, g39, g40, g41⟩
    refine awp_block ?_
    have hpf := hp.funcs
    refine awp_loopI (fun (i : Nat) g H' => (∃ L, H' = M ++ L) ∧ g 1 = .bp H.length 0 ∧ g 2 = .fn (.func 174) [] [] ∧ g 39 = Fc.sl p.funcs ∧ g 40 = I p.funcs.length ∧ g 41 = I i ∧ i ≤ p.funcs.length ∧ allE manyF (p.funcs.drop i) = allE manyF p.funcs) (fun i => p.funcs.length - i) 0 (by simp [*]) ?_
    clear g g1 g2 g39 g40 g41
    rintro i g _ ⟨⟨L, rfl⟩, g1, g2, g39, g40, g41, hi, hinv⟩
    refine awp_cut (fun _ => false) (fun _ => none) (fun f H' => H' = M ++ L ∧ f 1 = .bp H.length 0 ∧ f 2 = .fn (.func 174) [] [] ∧ f 39 = Fc.sl p.funcs ∧ f 40 = I p.funcs.length ∧ f 41 = I i ∧ f 42 = Bo (decide ((i : Int) < p.funcs.length))) (by kernel_rfl) ?_ ?_
    · simp -dsimp [g1, g2, g39, g40, g41]
    clear g g1 g2 g39 g40 g41
    rintro g _ ⟨rfl, g1, g2, g39, g40, g41, g42⟩
    refine awp_cut (fun _ => false) (fun _ => none) (fun f H' => H' = M ++ L ∧ f 1 = .bp H.length 0 ∧ f 2 = .fn (.func 174) [] [] ∧ f 39 = Fc.sl p.funcs ∧ f 40 = I p.funcs.length ∧ f 41 = I i ∧ i < p.funcs.length) (by kernel_rfl) ?_ ?_
    · simp -dsimp [g42]
      refine condVW_introD (fun hlt => ?_) (fun hlt => ?_)
      · simp -dsimp [g1, g2, g39, g40, g41]
        omega
      · rw [allE_end _ (by omega)] at hinv
        simp -dsimp [g1]
        exact hinv.symm
    clear g g1 g2 g39 g40 g41 g42
    rintro g _ ⟨rfl, g1, g2, g39, g40, g41, hlt⟩
    rw [allE_drop _ hlt] at hinv
    have hpp := hp.params _ (List.getElem_mem hlt)
    have hpv := hp.vars _ (List.getElem_mem hlt)
    have hprt := hp.rets _ (List.getElem_mem hlt)
    obtain ⟨F, hF⟩ : ∃ F, F = p.funcs[i] := ⟨_, rfl⟩
    rw [← hF] at hinv hpp hpv hprt
    have err : ∀ L, Hid (manyF F = 13 → Tidy H (ChkR (manyE p) H) (.pan (refS 13)) (M ++ L)) := fun L => ⟨fun h => (endP L).out (by
      rw [h, thenE_ne (by decide)] at hinv; rw [manyE, h1, h2, ← hinv]; rfl)⟩
    refine awp_cutA (fun f H' => (∃ L, H' = M ++ L) ∧ f 1 = .bp H.length 0 ∧ f 2 = .fn (.func 174) [] [] ∧ f 39 = Fc.sl p.funcs ∧ f 40 = I p.funcs.length ∧ f 41 = I i ∧ manyF F = 0) ?_ ?_
    · refine awp_block ?_
      refine awp_cut (fun _ => false) (fun _ => none) (fun f H' => H' = M ++ (L ++ [Blk.box 56 F.cells]) ∧ f 1 = .bp H.length 0 ∧ f 2 = .fn (.func 174) [] [] ∧ f 39 = Fc.sl p.funcs ∧ f 40 = I p.funcs.length ∧ f 41 = I i ∧ f 6 = .bp (M.length + L.length) 0) (by kernel_rfl) ?_ ?_
      · simp -dsimp [g1, g2, g39, g40, g41, List.getElem?_eq_getElem, hlt, hF]
      clear g g1 g2 g39 g40 g41
      rintro g _ ⟨rfl, g1, g2, g39, g40, g41, g6⟩
      have w1 : IntKind.i64.wrap ((F.params.length : Int) + F.vars.length) = (F.params.length : Int) + F.vars.length := wrapI (by omega) (by omega)
      refine awp_cut (fun _ => false) (fun _ => none) (fun f H' => H' = M ++ (L ++ [Blk.box 56 F.cells]) ∧ f 1 = .bp H.length 0 ∧ f 2 = .fn (.func 174) [] [] ∧ f 39 = Fc.sl p.funcs ∧ f 40 = I p.funcs.length ∧ f 41 = I i ∧ f 6 = .bp (M.length + L.length) 0 ∧
        mustE (decide ((F.params.length : Int) + F.vars.length ≤ 64) && decide ((F.rets.length : Int) ≤ 64)) 13 = 0) (by kernel_rfl) ?_ ?_
      · clear hF hinv
        simp -dsimp [g1, g2, g39, g40, g41, g6, w1]
        repeat' ((with_reducible first | refine And.intro ?_ ?_ | refine guardVW_introTD (fun _ => ?_) (fun _ => ?_) | refine guardVW_introFD (fun _ => ?_) (fun _ => ?_) | refine condVW_introD (fun _ => ?_) (fun _ => ?_) | refine guardVW_introTE (fun _ => ?_) (fun _ _ _ => ?_) | refine guardVW_introFE (fun _ => ?_) (fun _ _ _ => ?_) | refine condVW_introE (fun _ => ?_) (fun _ _ _ => ?_) | refine guardVW_introTNE (fun _ _ _ => ?_) (fun _ => ?_) | refine guardVW_introFNE (fun _ _ _ => ?_) (fun _ => ?_) | refine condVW_introNE (fun _ _ _ => ?_) (fun _ => ?_) | refine guardVW_introTB (fun _ => ?_) (fun _ => ?_) | refine guardVW_introFB (fun _ => ?_) (fun _ => ?_) | refine condVW_introB (fun _ => ?_) (fun _ => ?_) | refine guardVW_introT (fun _ => ?_) (fun _ => ?_) | refine guardVW_introF (fun _ => ?_) (fun _ => ?_) | refine condVW_intro (fun _ => ?_) (fun _ => ?_) | refine mustW_t ?_ | refine mustW_f ?_ | refine mustW_D (fun _ => ?_) (fun _ => ?_) | refine mustW_E (fun _ => ?_) (fun _ _ _ => ?_) | refine mustW_NE (fun _ _ _ => ?_) (fun _ => ?_) | refine mustW_B (fun _ => ?_) (fun _ => ?_) | refine mustW_V (fun _ => ?_) (fun _ => ?_)) <;> simp -dsimp [*])
        all_goals first
          | (simp [mustE, *]; done)
          | (exact (err _).out (by simp [manyF, thenE, mustE, *]))
          | trace_state
      clear g g1 g2 g39 g40 g41 g6
      rintro g _ ⟨rfl, g1, g2, g39, g40, g41, g6, h4⟩
      refine awp_cut (fun d => d == 62 || d == 65) (fun id => if id = 12 then some [(0, []), (1, []), (3, []), (4, []), (7, []), (2, [3, 4, 7]), (5, [7]), (6, [])] else none) (fun f H' => (∃ L2, H' = M ++ (L ++ Blk.box 56 F.cells :: L2)) ∧ f 1 = .bp H.length 0 ∧ f 2 = .fn (.func 174) [] [] ∧ f 39 = Fc.sl p.funcs ∧ f 40 = I p.funcs.length ∧ f 41 = I i ∧
        RowAt H' (f 65) 120 4 ((F.params ++ F.vars).map Vr.cells) ∧ f 66 = I (F.params ++ F.vars).length ∧ f 67 = I 0) (by kernel_rfl) ?_ ?_
      · simp -dsimp [g1, g2, g39, g40, g41, g6]
        refine acallsW_of (vclone_ok F.params hpp _) ?_
        rintro e H' (⟨hl, rfl, rfl⟩ | ⟨rfl, rfl⟩)
        · simp -dsimp [g1, g2, g39, g40, g41, g6]
          refine appendVW_nil (by simp; omega) (by simp; omega) (fun hy => ?_) (fun hy => ?_)
          · have hv : F.vars = [] := by simpa using hy
            simp -dsimp [g1, g2, g39, g40, g41, g6, hl, hv]
            exact .inl ⟨rfl, rfl⟩
          · simp -dsimp [g1, g2, g39, g40, g41, g6, hl]
            exact .inr ⟨M.length + (L.length + 1), by simp, by simp⟩
        · simp -dsimp [g1, g2, g39, g40, g41, g6]
          refine appendVW_hs (es := F.params.map Vr.cells) (by simp) (by simp) (by simp) (by simp; omega) (by simp; omega) ?_
          simp -dsimp [g1, g2, g39, g40, g41, g6]
          exact .inr ⟨M.length + (L.length + 1), by simp, by simp⟩
      clear g g1 g2 g39 g40 g41 g6
      rintro g _ ⟨⟨L2, rfl⟩, g1, g2, g39, g40, g41, hrow, g66, g67⟩
      obtain ⟨W, hW⟩ : ∃ W, W = M ++ (L ++ Blk.box 56 F.cells :: L2) := ⟨_, rfl⟩
      have hWM : ∀ L3, ∃ L4, W ++ L3 = M ++ L4 := fun L3 => ⟨L ++ Blk.box 56 F.cells :: L2 ++ L3, by rw [hW]; simp⟩
      rw [← hW] at hrow ⊢
      clear hW hF
      obtain ⟨vs, hvs⟩ : ∃ vs, vs = F.params ++ F.vars := ⟨_, rfl⟩
      have hvl : vs.length ≤ 2^40 := by rw [hvs]; simp; omega
      have hmf : manyF F = allE manyV vs := by rw [manyF, h4, thenE_zero, hvs]
      rw [← hvs] at hrow g66
      clear hvs
      refine awp_all (fun _ => false) (fun _ => none) (by kernel_rfl) ?_
      simp -dsimp
      refine loop_rule (hn := fun _ => false) (od := fun _ => none) (fun (j : Nat) f H' => (∃ L3, H' = W ++ L3) ∧ f 1 = .bp H.length 0 ∧ f 2 = .fn (.func 174) [] [] ∧ f 39 = Fc.sl p.funcs ∧ f 40 = I p.funcs.length ∧ f 41 = I i ∧ RowAt W (f 65) 120 4 (vs.map Vr.cells) ∧ f 66 = I vs.length ∧ f 67 = I j ∧ j ≤ vs.length ∧ allE manyV (vs.drop j) = allE manyV vs) (fun j => vs.length - j) (by kernel_rfl) 0 (by simp [*]) ?_
      clear g g1 g2 g39 g40 g41 hrow g66 g67
      rintro j g _ ⟨⟨L3, rfl⟩, g1, g2, g39, g40, g41, hrow, g66, g67, hj, hinv2⟩
      simp -dsimp [g66, g67]
      refine condVW_introD (fun hjt => ?_) (fun hjt => ?_)
      · rw [allE_drop _ hjt] at hinv2
        rcases hrow with ⟨g65, hes⟩ | ⟨k, g65, hk⟩
        · have : vs = [] := by simpa using hes
          subst this
          simp at hjt
        · have hkL := fun L => get_app_old hk L
          replace hinv := Hid.mk hinv
          replace hinv2 := Hid.mk hinv2
          simp -dsimp [g1, g2, g39, g40, g41, g65, g66, g67, hkL, List.getElem?_eq_getElem, hjt]
          replace hmf := Hid.mk hmf
          repeat' ((with_reducible first | refine And.intro ?_ ?_ | refine guardVW_introTD (fun _ => ?_) (fun _ => ?_) | refine guardVW_introFD (fun _ => ?_) (fun _ => ?_) | refine condVW_introD (fun _ => ?_) (fun _ => ?_) | refine guardVW_introTE (fun _ => ?_) (fun _ _ _ => ?_) | refine guardVW_introFE (fun _ => ?_) (fun _ _ _ => ?_) | refine condVW_introE (fun _ => ?_) (fun _ _ _ => ?_) | refine guardVW_introTNE (fun _ _ _ => ?_) (fun _ => ?_) | refine guardVW_introFNE (fun _ _ _ => ?_) (fun _ => ?_) | refine condVW_introNE (fun _ _ _ => ?_) (fun _ => ?_) | refine guardVW_introTB (fun _ => ?_) (fun _ => ?_) | refine guardVW_introFB (fun _ => ?_) (fun _ => ?_) | refine condVW_introB (fun _ => ?_) (fun _ => ?_) | refine guardVW_introT (fun _ => ?_) (fun _ => ?_) | refine guardVW_introF (fun _ => ?_) (fun _ => ?_) | refine condVW_intro (fun _ => ?_) (fun _ => ?_) | refine chkW (sizechk_ok _ _) (fun hz => ?_) (fun hz => ?_)) <;> simp -dsimp [*])
          all_goals replace hinv2 := hinv2.out
          all_goals first
            | (have e : manyV vs[j] = 0 := by simp [manyV, *]
               rw [e, thenE_zero] at hinv2
               exact ⟨j + 1, by omega, .inr ⟨k, by simp, hk⟩, wrapS (by omega), by omega, hinv2⟩)
            | (have e13 := size13 hz
               have e : manyV vs[j] = 13 := by simp [manyV, *]
               rw [e, thenE_ne (by decide)] at hinv2
               rw [e13]
               refine (fun (h : ∀ L3, Tidy H (ChkR (manyE p) H) (.pan (refS 13)) (W ++ L3)) => h _) fun L3 => ?_
               obtain ⟨L4, h4'⟩ := hWM L3
               rw [h4']
               exact (err L4).out (by rw [hmf.out, ← hinv2]))
            | trace_state
      · rw [allE_end _ hjt] at hinv2
        obtain ⟨L4, h4'⟩ := hWM L3
        simp -dsimp [g1, g2, g39, g40, g41]
        exact ⟨⟨L4, h4'⟩, by rw [hmf, ← hinv2]⟩
    clear g g1 g2 g39 g40 g41
    rintro g _ ⟨⟨L5, rfl⟩, g1, g2, g39, g40, g41, h5⟩
    rw [h5, thenE_zero] at hinv
    refine awp_all (fun _ => false) (fun _ => none) (by kernel_rfl) ?_
    simp -dsimp [g1, g2, g39, g40, g41]
    exact ⟨i + 1, by omega, wrapS (by omega), by omega, hinv⟩
  clear g g1 g2
  rintro g _ ⟨⟨L1, rfl⟩, g1, h3⟩
  refine awp_all (fun _ => false) (fun _ => none) (by kernel_rfl) ?_
  simp -dsimp [g1, hMa]
  refine acallsW_det (cs _) ?_
  simp -dsimp
  repeat' ((with_reducible first | refine And.intro ?_ ?_ | refine guardVW_introTD (fun _ => ?_) (fun _ => ?_) | refine guardVW_introFD (fun _ => ?_) (fun _ => ?_) | refine condVW_introD (fun _ => ?_) (fun _ => ?_) | refine guardVW_introTE (fun _ => ?_) (fun _ _ _ => ?_) | refine guardVW_introFE (fun _ => ?_) (fun _ _ _ => ?_) | refine condVW_introE (fun _ => ?_) (fun _ _ _ => ?_) | refine guardVW_introTNE (fun _ _ _ => ?_) (fun _ => ?_) | refine guardVW_introFNE (fun _ _ _ => ?_) (fun _ => ?_) | refine condVW_introNE (fun _ _ _ => ?_) (fun _ => ?_) | refine guardVW_introTB (fun _ => ?_) (fun _ => ?_) | refine guardVW_introFB (fun _ => ?_) (fun _ => ?_) | refine condVW_introB (fun _ => ?_) (fun _ => ?_) | refine guardVW_introT (fun _ => ?_) (fun _ => ?_) | refine guardVW_introF (fun _ => ?_) (fun _ => ?_) | refine condVW_intro (fun _ => ?_) (fun _ => ?_) | refine mustW_t ?_ | refine mustW_f ?_ | refine mustW_D (fun _ => ?_) (fun _ => ?_) | refine mustW_E (fun _ => ?_) (fun _ _ _ => ?_) | refine mustW_NE (fun _ _ _ => ?_) (fun _ => ?_) | refine mustW_B (fun _ => ?_) (fun _ => ?_) | refine mustW_V (fun _ => ?_) (fun _ => ?_)) <;> simp -dsimp [*])
  · exact (end0 _).out (by rw [manyE, h1, h2, h3]; simp [*])
  · exact (endP _).out (by rw [manyE, h1, h2, h3]; simp [mustE, *])
end Go.Proofs
namespace Go.Proofs
open Go.Mu
abbrev Tab := List (ByteArray × Bool)
def onesE : List ByteArray → Tab → Int
  | [], _ => 0
  | s :: l, t => thenE (oneE s t) (onesE l (aset s true t))
def onesT (l : List ByteArray) (t : Tab) : Tab := l.foldl (fun t s => aset s true t) t
def varsE : List Vr → Tab → Tab → Int
  | [], _, _ => 0
  | v :: l, own, reg => thenE (oneE v.name own) (varsE l (aset v.name true own) (aset v.name (v.kind == 1) reg))
def regT (l : List Vr) (t : Tab) : Tab := l.foldl (fun t v => aset v.name (v.kind == 1) t) t
def retsE (reg : Tab) : List ByteArray → Tab → Int
  | [], _ => 0
  | s :: l, t => thenE (mustE (seenB s reg) 8) (thenE (oneE s t) (retsE reg l (aset s true t)))
def nameF (rs : List Rg) (f : Fc) : Int := thenE (varsE (f.params ++ f.vars) (onesT (rs.map Rg.name) []) []) (retsE (regT (f.params ++ f.vars) []) f.rets [])
def namesE (p : Pg) : Int := thenE (onesE (p.regions.map Rg.name) []) (thenE (onesE (p.funcs.map Fc.name) (onesT (p.regions.map Rg.name) [])) (allE (nameF p.regions) p.funcs))
structure Pg.NOk (p : Pg) : Prop where
  regions : ∀ r ∈ p.regions, r.name.size ≤ 2^40
  funcs : ∀ f ∈ p.funcs, f.name.size ≤ 2^40 ∧ (∀ v ∈ f.params ++ f.vars, v.name.size ≤ 2^40) ∧ (∀ s ∈ f.rets, s.size ≤ 2^40)
theorem oneW {s : ByteArray} {l : Tab} {k : Nat} {H : List Blk} {R : AE → List Blk → Prop} {w : Wit R} (hs : s.size ≤ 2^40) (hk : H[k]? = some (.map (strM okA l)))
    (hz : oneE s l = 0 → R (.ret (.tup [])) (H.set k (.map (strM okA (aset s true l))))) (hn : oneE s l = 8 → R (.pan (refS 8)) H) : ACallsW Tryz.prog 176 [St s, .hm k] H R w := by
  refine acallsW_of (one_ok s hs l k H hk) ?_
  rintro e H' ⟨rfl, rfl⟩
  by_cases h : oneE s l = 0
  · rw [if_pos h, h]; exact hz h
  · have h8 : oneE s l = 8 := by
      unfold oneE mustE at h ⊢
      split at h
      · exact absurd rfl h
      · rw [if_neg (by assumption)]
    rw [if_neg h, h8]; exact hn h8
theorem onesE_drop {l : List ByteArray} {i : Nat} (h : i < l.length) (t : Tab) : onesE (l.drop i) t = thenE (oneE l[i] t) (onesE (l.drop (i + 1)) (aset l[i] true t)) := by rw [drop_cons h, onesE]
theorem onesT_take {l : List ByteArray} {i : Nat} (h : i < l.length) (t : Tab) : onesT (l.take (i + 1)) t = aset l[i] true (onesT (l.take i) t) := by rw [take_succ' h, onesT, List.foldl_append]; rfl
theorem names_ok (p : Pg) (hp : p.Ok) (hq : p.NOk) (H : List Blk) : ACalls Tryz.prog 106 [.agg p.cells] H (ChkR (namesE p) H) := by
  refine acalls_tidy (acalls_of_awp Tryz.func106 rfl (by kernel_rfl) ?_)
  have endP : ∀ L, Hid (namesE p = 8 → Tidy H (ChkR (namesE p) H) (.pan (refS 8)) (H ++ L)) := fun L => ⟨fun h => tidy_chkP h.symm (by decide)⟩
  have end0 : ∀ L, Hid (namesE p = 0 → Tidy H (ChkR (namesE p) H) (.ret (.tup [])) (H ++ L)) := fun L => ⟨fun h => tidy_chk0 h⟩
  have fn : Fn := .func 176
  refine awp_cut (fun _ => false) (fun _ => none) (fun f H' => H' = H ++ [.box 25 p.cells] ∧ f 1 = .bp H.length 0) (by kernel_rfl) ?_ ?_
  · simp -dsimp
  rintro g _ ⟨rfl, g1⟩
  refine awp_cut (fun _ => false) (fun _ => none) (fun f H' => H' = H ++ [Blk.box 25 p.cells, Blk.map (strM okA [])] ∧ f 1 = .bp H.length 0 ∧ f 2 = .hm (H.length + 1)) (by kernel_rfl) ?_ ?_
  · simp -dsimp [g1, strM]
  clear g g1
  rintro g _ ⟨rfl, g1, g2⟩
  refine awp_cut (fun _ => false) (fun _ => none) (fun f H' => H' = H ++ [Blk.box 25 p.cells, Blk.map (strM okA [])] ∧ f 1 = .bp H.length 0 ∧ f 2 = .hm (H.length + 1) ∧ f 3 = .fn (.func 176) [] []) (by kernel_rfl) ?_ ?_
  · simp -dsimp [g1, g2]
  clear g g1 g2
  rintro g _ ⟨rfl, g1, g2, g3⟩
  -- regions
  refine awp_cut (fun _ => false) (fun _ => none) (fun f H' => (∃ L, H' = H ++ (Blk.box 25 p.cells :: Blk.map (strM okA (onesT (p.regions.map Rg.name) [])) :: L)) ∧ f 1 = .bp H.length 0 ∧ f 2 = .hm (H.length + 1) ∧ f 3 = .fn (.func 176) [] [] ∧ onesE (p.regions.map Rg.name) [] = 0) (by kernel_rfl) ?_ ?_
  · have hpr := hp.regions
    simp -dsimp [g1, g2, g3]
    refine loop_rule (hn := fun _ => false) (od := fun _ => none) (fun (i : Nat) g H' => (∃ L, H' = H ++ (Blk.box 25 p.cells :: Blk.map (strM okA (onesT ((p.regions.map Rg.name).take i) [])) :: L)) ∧ g 1 = .bp H.length 0 ∧ g 2 = .hm (H.length + 1) ∧ g 3 = .fn (.func 176) [] [] ∧
      g 22 = Rg.sl p.regions ∧ g 23 = I p.regions.length ∧ g 24 = I i ∧ i ≤ p.regions.length ∧ onesE ((p.regions.map Rg.name).drop i) (onesT ((p.regions.map Rg.name).take i) []) = onesE (p.regions.map Rg.name) []) (fun i => p.regions.length - i) (by kernel_rfl) 0 (by simp [g1, g2, g3, onesT]) ?_
    clear g g1 g2 g3
    rintro i g _ ⟨⟨L, rfl⟩, g1, g2, g3, g7, g8, g9, hi, hinv⟩
    simp -dsimp [g1, g2, g3, g7, g8, g9]
    refine condVW_introD (fun hlt => ?_) (fun hlt => ?_)
    · have hltn : i < (p.regions.map Rg.name).length := by simpa using hlt
      rw [onesE_drop hltn] at hinv
      have hT := onesT_take hltn []
      rw [List.getElem_map] at hinv hT
      obtain ⟨T, hTT⟩ : ∃ T, T = onesT ((p.regions.map Rg.name).take i) [] := ⟨_, rfl⟩
      rw [← hTT] at hinv hT ⊢
      have hsz := hq.regions _ (List.getElem_mem hlt)
      simp -dsimp [g1, g2, g3, g7, g8, g9, List.getElem?_eq_getElem, hlt]
      refine oneW hsz (by simp; rfl) (fun hz => ?_) (fun hz => ?_)
      · rw [hz, thenE_zero] at hinv
        simp -dsimp [g1, g2, g3, g7, g8, g9]
        exact ⟨i + 1, by omega, by rw [hT], wrapS (by omega), by omega, by rw [hT]; exact hinv⟩
      · rw [hz, thenE_ne (by decide)] at hinv
        simp -dsimp
        exact (endP _).out (by rw [namesE, ← hinv]; rfl)
    · have e : (p.regions.map Rg.name).take i = p.regions.map Rg.name := List.take_of_length_le (by simp; omega)
      have e2 : (p.regions.map Rg.name).drop i = [] := List.drop_of_length_le (by simp; omega)
      rw [e, e2, onesE] at hinv
      simp -dsimp [g1, g2, g3, e]
      exact hinv.symm
  clear g g1 g2 g3
  rintro g _ ⟨⟨L0, rfl⟩, g1, g2, g3, h1⟩
  obtain ⟨T0, hT0⟩ : ∃ T0, T0 = onesT (p.regions.map Rg.name) [] := ⟨_, rfl⟩
  rw [← hT0]
  refine awp_cut (fun _ => false) (fun _ => none) (fun f H' => H' = H ++ (Blk.box 25 p.cells :: Blk.map (strM okA T0) :: L0) ∧ f 1 = .bp H.length 0 ∧ f 2 = .hm (H.length + 1) ∧ f 3 = .fn (.func 176) [] [] ∧ f 6 = I p.regions.length) (by kernel_rfl) ?_ ?_
  · simp -dsimp [g1, g2, g3]
  clear g g1 g2 g3
  rintro g _ ⟨rfl, g1, g2, g3, g6⟩
  -- functions' names
  refine awp_cut (fun _ => false) (fun _ => none) (fun f H' => (∃ L, H' = H ++ (Blk.box 25 p.cells :: Blk.map (strM okA (onesT (p.funcs.map Fc.name) T0)) :: L)) ∧ f 1 = .bp H.length 0 ∧ f 3 = .fn (.func 176) [] [] ∧ f 6 = I p.regions.length ∧ onesE (p.funcs.map Fc.name) T0 = 0) (by kernel_rfl) ?_ ?_
  · have hpr := hp.funcs
    simp -dsimp [g1, g2, g3, g6]
    refine loop_rule (hn := fun _ => false) (od := fun _ => none) (fun (i : Nat) g H' => (∃ L, H' = H ++ (Blk.box 25 p.cells :: Blk.map (strM okA (onesT ((p.funcs.map Fc.name).take i) T0)) :: L)) ∧ g 1 = .bp H.length 0 ∧ g 2 = .hm (H.length + 1) ∧ g 3 = .fn (.func 176) [] [] ∧ g 6 = I p.regions.length ∧
      g 38 = Fc.sl p.funcs ∧ g 39 = I p.funcs.length ∧ g 40 = I i ∧ i ≤ p.funcs.length ∧ onesE ((p.funcs.map Fc.name).drop i) (onesT ((p.funcs.map Fc.name).take i) T0) = onesE (p.funcs.map Fc.name) T0) (fun i => p.funcs.length - i) (by kernel_rfl) 0 (by simp [g1, g2, g3, g6, onesT]) ?_
    clear g g1 g2 g3 g6
    rintro i g _ ⟨⟨L, rfl⟩, g1, g2, g3, g6, g7, g8, g9, hi, hinv⟩
    simp -dsimp [g1, g2, g3, g6, g7, g8, g9]
    refine condVW_introD (fun hlt => ?_) (fun hlt => ?_)
    · have hltn : i < (p.funcs.map Fc.name).length := by simpa using hlt
      rw [onesE_drop hltn] at hinv
      have hT := onesT_take hltn T0
      rw [List.getElem_map] at hinv hT
      obtain ⟨T, hTT⟩ : ∃ T, T = onesT ((p.funcs.map Fc.name).take i) T0 := ⟨_, rfl⟩
      rw [← hTT] at hinv hT ⊢
      have hsz := (hq.funcs _ (List.getElem_mem hlt)).1
      simp -dsimp [g1, g2, g3, g6, g7, g8, g9, List.getElem?_eq_getElem, hlt]
      refine oneW hsz (by simp; rfl) (fun hz => ?_) (fun hz => ?_)
      · rw [hz, thenE_zero] at hinv
        simp -dsimp [g1, g2, g3, g6, g7, g8, g9]
        exact ⟨i + 1, by omega, by rw [hT], wrapS (by omega), by omega, by rw [hT]; exact hinv⟩
      · rw [hz, thenE_ne (by decide)] at hinv
        simp -dsimp
        exact (endP _).out (by rw [namesE, h1, thenE_zero, ← hT0, ← hinv]; rfl)
    · have e : (p.funcs.map Fc.name).take i = p.funcs.map Fc.name := List.take_of_length_le (by simp; omega)
      have e2 : (p.funcs.map Fc.name).drop i = [] := List.drop_of_length_le (by simp; omega)
      rw [e, e2, onesE] at hinv
      simp -dsimp [g1, g2, g3, g6, e]
      exact hinv.symm
  clear g g1 g2 g3 g6
  rintro g _ ⟨⟨L1, rfl⟩, g1, g3, g6, h2⟩
  have hE : namesE p = allE (nameF p.regions) p.funcs := by rw [namesE, h1, thenE_zero, ← hT0, h2, thenE_zero]
  obtain ⟨W, hW⟩ : ∃ W, W = H ++ (Blk.box 25 p.cells :: Blk.map (strM okA (onesT (p.funcs.map Fc.name) T0)) :: L1) := ⟨_, rfl⟩
  have hWp : ∀ L, (W ++ L)[H.length]? = some (.box 25 p.cells) := fun L => by rw [hW]; simp
  have hWp0 : W[H.length]? = some (.box 25 p.cells) := by rw [hW]; simp
  have endP2 : ∀ L, Hid (namesE p = 8 → Tidy H (ChkR (namesE p) H) (.pan (refS 8)) (W ++ L)) := fun L => ⟨fun h => by rw [hW, List.append_assoc]; exact (endP _).out h⟩
  have end02 : ∀ L, Hid (namesE p = 0 → Tidy H (ChkR (namesE p) H) (.ret (.tup [])) (W ++ L)) := fun L => ⟨fun h => by rw [hW, List.append_assoc]; exact (end0 _).out h⟩
  simp only [Pg.cells] at hWp hWp0
  rw [← hW]
  clear hW endP end0
  have hpf := hp.funcs
  have hpr := hp.regions
  -- functions
  refine awp_cut (fun _ => false) (fun _ => none) (fun f H' => (∃ L, H' = W ++ L) ∧ f 1 = .bp H.length 0 ∧ f 3 = .fn (.func 176) [] [] ∧ f 6 = I p.regions.length ∧ f 51 = Fc.sl p.funcs ∧ f 52 = I p.funcs.length ∧ f 53 = I 0) (by kernel_rfl) ?_ ?_
  · simp -dsimp [g1, g3, g6, hWp0]
  clear g g1 g3 g6
  rintro g _ ⟨⟨L, rfl⟩, g1, g3, g6, g51, g52, g53⟩
  refine awp_block ?_
  refine awp_loopI (fun (i : Nat) f H' => (∃ L, H' = W ++ L) ∧ f 1 = .bp H.length 0 ∧ f 3 = .fn (.func 176) [] [] ∧ f 6 = I p.regions.length ∧ f 51 = Fc.sl p.funcs ∧ f 52 = I p.funcs.length ∧ f 53 = I i ∧ i ≤ p.funcs.length ∧ allE (nameF p.regions) (p.funcs.drop i) = allE (nameF p.regions) p.funcs) (fun i => p.funcs.length - i) 0 (by simp [*]) ?_
  clear g g1 g3 g6 g51 g52 g53 L
  rintro i g _ ⟨⟨L, rfl⟩, g1, g3, g6, g51, g52, g53, hi, hinv⟩
  refine awp_cut (fun _ => false) (fun _ => none) (fun f H' => H' = W ++ L ∧ f 1 = .bp H.length 0 ∧ f 3 = .fn (.func 176) [] [] ∧ f 6 = I p.regions.length ∧ f 51 = Fc.sl p.funcs ∧ f 52 = I p.funcs.length ∧ f 53 = I i ∧ f 54 = Bo (decide ((i : Int) < p.funcs.length))) (by kernel_rfl) ?_ ?_
  · simp -dsimp [g1, g3, g6, g51, g52, g53]
  clear g g1 g3 g6 g51 g52 g53
  rintro g _ ⟨rfl, g1, g3, g6, g51, g52, g53, g54⟩
  refine awp_cut (fun _ => false) (fun _ => none) (fun f H' => H' = W ++ L ∧ f 1 = .bp H.length 0 ∧ f 3 = .fn (.func 176) [] [] ∧ f 6 = I p.regions.length ∧ f 51 = Fc.sl p.funcs ∧ f 52 = I p.funcs.length ∧ f 53 = I i ∧ i < p.funcs.length) (by kernel_rfl) ?_ ?_
  · simp -dsimp [g54]
    refine condVW_introD (fun hlt => ?_) (fun hlt => ?_)
    · simp -dsimp [g1, g3, g6, g51, g52, g53]
      omega
    · rw [allE_end _ (by omega)] at hinv
      simp -dsimp
      exact (end02 _).out (by rw [hE, ← hinv])
  clear g g1 g3 g6 g51 g52 g53 g54
  rintro g _ ⟨rfl, g1, g3, g6, g51, g52, g53, hlt⟩
  rw [allE_drop _ hlt] at hinv
  obtain ⟨F, hF⟩ : ∃ F, F = p.funcs[i] := ⟨_, rfl⟩
  have hpp := hp.params _ (List.getElem_mem hlt)
  have hpv := hp.vars _ (List.getElem_mem hlt)
  have hprt := hp.rets _ (List.getElem_mem hlt)
  obtain ⟨_, hnv, hnr⟩ := hq.funcs _ (List.getElem_mem hlt)
  rw [← hF] at hinv hpp hpv hprt hnv hnr
  have err : ∀ L, Hid (nameF p.regions F = 8 → Tidy H (ChkR (namesE p) H) (.pan (refS 8)) (W ++ L)) := fun L => ⟨fun h => (endP2 L).out (by
    rw [h, thenE_ne (by decide)] at hinv; rw [hE, ← hinv])⟩
  refine awp_cutA (fun f H' => (∃ L, H' = W ++ L) ∧ f 1 = .bp H.length 0 ∧ f 3 = .fn (.func 176) [] [] ∧ f 6 = I p.regions.length ∧ f 51 = Fc.sl p.funcs ∧ f 52 = I p.funcs.length ∧ f 53 = I i ∧ nameF p.regions F = 0) ?_ ?_
  rotate_left
  · clear g g1 g3 g6 g51 g52 g53
    rintro g _ ⟨⟨L5, rfl⟩, g1, g3, g6, g51, g52, g53, h5⟩
    rw [h5, thenE_zero] at hinv
    refine awp_all (fun _ => false) (fun _ => none) (by kernel_rfl) ?_
    simp -dsimp [g1, g3, g6, g51, g52, g53]
    exact ⟨i + 1, by omega, wrapS (by omega), by omega, hinv⟩
  refine awp_block ?_
  refine awp_cut (fun _ => false) (fun _ => none) (fun f H' => H' = W ++ (L ++ [Blk.box 56 F.cells]) ∧ f 1 = .bp H.length 0 ∧ f 3 = .fn (.func 176) [] [] ∧ f 6 = I p.regions.length ∧ f 51 = Fc.sl p.funcs ∧ f 52 = I p.funcs.length ∧ f 53 = I i ∧ f 10 = .bp (W.length + L.length) 0) (by kernel_rfl) ?_ ?_
  · simp -dsimp [g1, g3, g6, g51, g52, g53, List.getElem?_eq_getElem, hlt, hF]
  clear g g1 g3 g6 g51 g52 g53
  rintro g _ ⟨rfl, g1, g3, g6, g51, g52, g53, g10⟩
  obtain ⟨V, hV⟩ : ∃ V, V = W ++ (L ++ [Blk.box 56 F.cells]) := ⟨_, rfl⟩
  have hVp : ∀ L, (V ++ L)[H.length]? = some (.box 25 [Rg.sl p.regions, Fc.sl p.funcs]) := fun L => by rw [hV, List.append_assoc]; exact hWp _
  obtain ⟨c, hc⟩ : ∃ c, c = W.length + L.length := ⟨_, rfl⟩
  have hVf : ∀ L, (V ++ L)[c]? = some (.box 56 F.cells) := fun L => by rw [hV, hc]; simp
  have hVW : ∀ L, ∃ L', V ++ L = W ++ L' := fun L' => ⟨_, by rw [hV, List.append_assoc]⟩
  rw [← hc] at g10
  simp only [Fc.cells] at hVf
  rw [← hV]
  clear hV hc hF
  have errV : ∀ L, Hid (nameF p.regions F = 8 → Tidy H (ChkR (namesE p) H) (.pan (refS 8)) (V ++ L)) := fun L => ⟨fun h => by obtain ⟨L', e⟩ := hVW L; rw [e]; exact (err L').out h⟩
  clear err
  -- the regions' names
  refine awp_cut (fun _ => false) (fun _ => none) (fun f H' => H' = V ++ [Blk.map (strM okA [])] ∧ f 1 = .bp H.length 0 ∧ f 3 = .fn (.func 176) [] [] ∧ f 6 = I p.regions.length ∧ f 51 = Fc.sl p.funcs ∧ f 52 = I p.funcs.length ∧ f 53 = I i ∧ f 10 = .bp c 0 ∧ f 11 = .hm V.length) (by kernel_rfl) ?_ ?_
  · simp -dsimp [g1, g3, g6, g51, g52, g53, g10, strM]
  clear g g1 g3 g6 g51 g52 g53 g10
  rintro g _ ⟨rfl, g1, g3, g6, g51, g52, g53, g10, g11⟩
  obtain ⟨O, hO⟩ : ∃ O, O = onesT (p.regions.map Rg.name) [] := ⟨_, rfl⟩
  refine awp_cut (fun _ => false) (fun _ => none) (fun f H' => (∃ L, H' = V ++ (Blk.map (strM okA O) :: L)) ∧ f 1 = .bp H.length 0 ∧ f 3 = .fn (.func 176) [] [] ∧ f 6 = I p.regions.length ∧ f 51 = Fc.sl p.funcs ∧ f 52 = I p.funcs.length ∧ f 53 = I i ∧ f 10 = .bp c 0 ∧ f 11 = .hm V.length) (by kernel_rfl) ?_ ?_
  · simp -dsimp [g1, g3, g6, g51, g52, g53, g10, g11, hVp]
    refine loop_rule (hn := fun _ => false) (od := fun _ => none) (fun (j : Nat) f H' => (∃ L, H' = V ++ (Blk.map (strM okA (onesT ((p.regions.map Rg.name).take j) [])) :: L)) ∧ f 1 = .bp H.length 0 ∧ f 3 = .fn (.func 176) [] [] ∧ f 6 = I p.regions.length ∧ f 51 = Fc.sl p.funcs ∧ f 52 = I p.funcs.length ∧ f 53 = I i ∧ f 10 = .bp c 0 ∧ f 11 = .hm V.length ∧ f 61 = Rg.sl p.regions ∧ f 62 = I p.regions.length ∧ f 63 = I j ∧ j ≤ p.regions.length) (fun j => p.regions.length - j) (by kernel_rfl) 0 (by simp [g1, g3, g6, g51, g52, g53, g10, g11, onesT]; exact List.take_of_length_le (by simp)) ?_
    clear g g1 g3 g6 g51 g52 g53 g10 g11
    rintro j g _ ⟨⟨L, rfl⟩, g1, g3, g6, g51, g52, g53, g10, g11, g61, g62, g63, hj⟩
    simp -dsimp [g61, g62, g63]
    refine condVW_introD (fun hjt => ?_) (fun hjt => ?_)
    · have hltn : j < (p.regions.map Rg.name).length := by simpa using hjt
      have hT := onesT_take hltn []
      rw [List.getElem_map] at hT
      obtain ⟨T, hTT⟩ : ∃ T, T = onesT ((p.regions.map Rg.name).take j) [] := ⟨_, rfl⟩
      rw [← hTT] at hT ⊢
      have hst := mset_str okA p.regions[j].name true T
      simp -dsimp [g1, g3, g6, g51, g52, g53, g10, g11, g61, g62, g63, List.getElem?_eq_getElem, hjt, mapEs, hst]
      exact ⟨j + 1, by omega, by rw [hT], wrapS (by omega), by omega⟩
    · have e : (p.regions.map Rg.name).take j = p.regions.map Rg.name := List.take_of_length_le (by simp; omega)
      simp -dsimp [g1, g3, g6, g51, g52, g53, g10, g11, e, hO]
  clear g g1 g3 g6 g51 g52 g53 g10 g11
  rintro g _ ⟨⟨L2, rfl⟩, g1, g3, g6, g51, g52, g53, g10, g11⟩
  -- variables
  refine awp_cut (fun _ => false) (fun _ => none) (fun f H' => H' = V ++ (Blk.map (strM okA O) :: (L2 ++ [Blk.map (strM okA [])])) ∧ f 1 = .bp H.length 0 ∧ f 3 = .fn (.func 176) [] [] ∧ f 6 = I p.regions.length ∧ f 51 = Fc.sl p.funcs ∧ f 52 = I p.funcs.length ∧ f 53 = I i ∧ f 10 = .bp c 0 ∧ f 11 = .hm V.length ∧ f 14 = .hm (V.length + (L2.length + 1))) (by kernel_rfl) ?_ ?_
  · simp -dsimp [g1, g3, g6, g51, g52, g53, g10, g11, strM]
  clear g g1 g3 g6 g51 g52 g53 g10 g11
  rintro g _ ⟨rfl, g1, g3, g6, g51, g52, g53, g10, g11, g14⟩
  obtain ⟨vs, hvs⟩ : ∃ vs, vs = F.params ++ F.vars := ⟨_, rfl⟩
  have hvl : vs.length ≤ 2^40 := by rw [hvs]; simp; omega
  rw [← hvs] at hnv
  refine awp_cutA (fun f H' => (∃ L3, H' = V ++ (Blk.map (strM okA (onesT (vs.map Vr.name) O)) :: (L2 ++ (Blk.map (strM okA (regT vs [])) :: L3)))) ∧ f 1 = .bp H.length 0 ∧ f 3 = .fn (.func 176) [] [] ∧ f 6 = I p.regions.length ∧ f 51 = Fc.sl p.funcs ∧ f 52 = I p.funcs.length ∧ f 53 = I i ∧ f 10 = .bp c 0 ∧ f 14 = .hm (V.length + (L2.length + 1)) ∧ varsE vs O [] = 0) ?_ ?_
  · refine awp_cut (fun d => d == 75 || d == 78) (fun id => if id = 24 then some [(0, []), (1, []), (3, []), (4, []), (7, []), (2, [3, 4, 7]), (5, [7]), (6, [])] else none) (fun f H' => (∃ L3, H' = V ++ (Blk.map (strM okA O) :: (L2 ++ (Blk.map (strM okA []) :: L3))) ∧
      ((vs = [] ∧ f 78 = nilS) ∨ ∃ k R, f 78 = .hs (V.length + (L2.length + (k + 2))) 0 vs.length vs.length ∧ L3[k]? = some R ∧ R = Blk.row 120 4 (vs.map Vr.cells))) ∧ f 1 = .bp H.length 0 ∧ f 3 = .fn (.func 176) [] [] ∧ f 6 = I p.regions.length ∧ f 51 = Fc.sl p.funcs ∧ f 52 = I p.funcs.length ∧ f 53 = I i ∧ f 10 = .bp c 0 ∧ f 11 = .hm V.length ∧ f 14 = .hm (V.length + (L2.length + 1)) ∧
      f 79 = I vs.length ∧ f 80 = I 0) (by kernel_rfl) ?_ ?_
    · simp -dsimp [g1, g3, g6, g51, g52, g53, g10, g11, g14, hVf]
      refine acallsW_of (vclone_ok F.params hpp _) ?_
      rintro e H' (⟨hl, rfl, rfl⟩ | ⟨rfl, rfl⟩)
      · simp -dsimp [g1, g3, g6, g51, g52, g53, g10, g11, g14, hVf]
        refine appendVW_nil (by simp; omega) (by simp; omega) (fun hy => ?_) (fun hy => ?_)
        · have hv : F.vars = [] := by simpa using hy
          simp -dsimp [g1, g3, g6, g51, g52, g53, g10, g11, g14, hl, hv, hvs]
        · simp -dsimp [g1, g3, g6, g51, g52, g53, g10, g11, g14, hl, hvs]
          exact ⟨0, by omega, rfl⟩
      · simp -dsimp [g1, g3, g6, g51, g52, g53, g10, g11, g14, hVf]
        refine appendVW_hs (es := F.params.map Vr.cells) (by simp) (by simp) (by simp) (by simp; omega) (by simp; omega) ?_
        simp -dsimp [g1, g3, g6, g51, g52, g53, g10, g11, g14, hvs]
        exact ⟨0, by omega, rfl⟩
    clear g g1 g3 g6 g51 g52 g53 g10 g11 g14
    rintro g _ ⟨⟨L3, rfl, hrow⟩, g1, g3, g6, g51, g52, g53, g10, g11, g14, g79, g80⟩
    refine awp_all (fun _ => false) (fun _ => none) (by kernel_rfl) ?_
    simp -dsimp
    refine loop_rule (hn := fun _ => false) (od := fun _ => none) (fun (j : Nat) f H' => (∃ L4, H' = V ++ (Blk.map (strM okA (onesT ((vs.map Vr.name).take j) O)) :: (L2 ++ (Blk.map (strM okA (regT (vs.take j) [])) :: (L3 ++ L4))))) ∧ f 1 = .bp H.length 0 ∧ f 3 = .fn (.func 176) [] [] ∧ f 6 = I p.regions.length ∧ f 51 = Fc.sl p.funcs ∧ f 52 = I p.funcs.length ∧ f 53 = I i ∧ f 10 = .bp c 0 ∧ f 11 = .hm V.length ∧ f 14 = .hm (V.length + (L2.length + 1)) ∧
      f 78 = g 78 ∧ f 79 = I vs.length ∧ f 80 = I j ∧ j ≤ vs.length ∧ varsE (vs.drop j) (onesT ((vs.map Vr.name).take j) O) (regT (vs.take j) []) = varsE vs O []) (fun j => vs.length - j) (by kernel_rfl) 0 (by simp [*, onesT, regT]) ?_
    clear g1 g3 g6 g51 g52 g53 g10 g11 g14 g79 g80
    rintro j f _ ⟨⟨L4, rfl⟩, g1, g3, g6, g51, g52, g53, g10, g11, g14, g78, g79, g80, hj, hinv2⟩
    simp -dsimp [g79, g80]
    refine condVW_introD (fun hjt => ?_) (fun hjt => ?_)
    · rw [drop_cons hjt, varsE] at hinv2
      rcases hrow with ⟨hes, _⟩ | ⟨k, R, g78', hk, rfl⟩
      · subst hes; simp at hjt
      have hltn : j < (vs.map Vr.name).length := by simpa using hjt
      have hT := onesT_take hltn O
      rw [List.getElem_map] at hT
      have hreg : regT (vs.take (j + 1)) [] = aset vs[j].name (vs[j].kind == 1) (regT (vs.take j) []) := by rw [take_succ' hjt, regT, List.foldl_append]; rfl
      obtain ⟨T, hTT⟩ : ∃ T, T = onesT ((vs.map Vr.name).take j) O := ⟨_, rfl⟩
      obtain ⟨S, hSS⟩ : ∃ S, S = regT (vs.take j) [] := ⟨_, rfl⟩
      rw [← hTT] at hT hinv2 ⊢
      rw [← hSS] at hreg hinv2 ⊢
      have hR : ∀ (A B : Blk) X, (V ++ (A :: (L2 ++ (B :: (L3 ++ X)))))[V.length + (L2.length + (k + 2))]? = some (Blk.row 120 4 (vs.map Vr.cells)) := fun A B X => by
        rw [get_app_next, show L2.length + (k + 2) = (L2.length + (k + 1)) + 1 by omega, List.getElem?_cons_succ, get_app_next, List.getElem?_cons_succ]
        exact get_app_old hk X
      have hst := mset_str okA vs[j].name (vs[j].kind == 1) S
      have hsz := hnv _ (List.getElem_mem hjt)
      rw [g78'] at g78
      simp -dsimp [g1, g3, g6, g51, g52, g53, g10, g11, g14, g78, g79, g80, hR, List.getElem?_eq_getElem, hjt]
      refine oneW hsz (by simp; rfl) (fun hz => ?_) (fun hz => ?_)
      · rw [hz, thenE_zero] at hinv2
        simp -dsimp [g1, g3, g6, g51, g52, g53, g10, g11, g14, g78, g79, g80, hR, mapEs, hst]
        exact ⟨j + 1, by omega, ⟨by rw [hT], by rw [hreg]⟩, g78'.symm, wrapS (by omega), by omega, by rw [hT, hreg]; exact hinv2⟩
      · rw [hz, thenE_ne (by decide)] at hinv2
        simp -dsimp
        exact (errV _).out (by rw [nameF, ← hO, ← hvs, ← hinv2]; rfl)
    · have e : (vs.map Vr.name).take j = vs.map Vr.name := List.take_of_length_le (by simp; omega)
      have e2 : vs.take j = vs := List.take_of_length_le (by omega)
      rw [drop_end hjt, varsE] at hinv2
      simp -dsimp [g1, g3, g6, g51, g52, g53, g10, g11, g14, e, e2]
      exact hinv2.symm
  clear g g1 g3 g6 g51 g52 g53 g10 g11 g14
  rintro g _ ⟨⟨L3, rfl⟩, g1, g3, g6, g51, g52, g53, g10, g14, h6⟩
  have hnf : nameF p.regions F = retsE (regT vs []) F.rets [] := by rw [nameF, ← hO, ← hvs, h6, thenE_zero]
  obtain ⟨S, hS⟩ : ∃ S, S = regT vs [] := ⟨_, rfl⟩
  obtain ⟨T, hT⟩ : ∃ T, T = onesT (vs.map Vr.name) O := ⟨_, rfl⟩
  rw [← hS] at hnf ⊢
  rw [← hT]
  clear hS hT h6 hvs hO hnv hvl
  obtain ⟨d, hd⟩ : ∃ d, d = V.length + (L2.length + (L3.length + 1 + 1)) := ⟨_, rfl⟩
  -- results
  refine awp_cut (fun _ => false) (fun _ => none) (fun f H' => H' = V ++ (Blk.map (strM okA T) :: (L2 ++ (Blk.map (strM okA S) :: (L3 ++ [Blk.map (strM okA [])])))) ∧ f 1 = .bp H.length 0 ∧ f 3 = .fn (.func 176) [] [] ∧ f 6 = I p.regions.length ∧ f 51 = Fc.sl p.funcs ∧ f 52 = I p.funcs.length ∧ f 53 = I i ∧ f 10 = .bp c 0 ∧ f 14 = .hm (V.length + (L2.length + 1)) ∧ f 17 = .hm d) (by kernel_rfl) ?_ ?_
  · simp -dsimp [g1, g3, g6, g51, g52, g53, g10, g14, strM]
    omega
  clear g g1 g3 g6 g51 g52 g53 g10 g14
  rintro g _ ⟨rfl, g1, g3, g6, g51, g52, g53, g10, g14, g17⟩
  refine awp_all (fun _ => false) (fun _ => none) (by kernel_rfl) ?_
  simp -dsimp [g1, g3, g6, g51, g52, g53, g10, g14, hVf]
  have hG : ∀ X, (V ++ (Blk.map (strM okA T) :: (L2 ++ (Blk.map (strM okA S) :: (L3 ++ [X])))))[d]? = some X := fun X => by
    rw [hd, get_app_next, show L2.length + (L3.length + 1 + 1) = (L2.length + (L3.length + 1)) + 1 by omega, List.getElem?_cons_succ, get_app_next, List.getElem?_cons_succ]; simp
  have hSet : ∀ X Y, (V ++ (Blk.map (strM okA T) :: (L2 ++ (Blk.map (strM okA S) :: (L3 ++ [X]))))).set d Y = V ++ (Blk.map (strM okA T) :: (L2 ++ (Blk.map (strM okA S) :: (L3 ++ [Y])))) := fun X Y => by
    rw [hd, set_app_next, show L2.length + (L3.length + 1 + 1) = (L2.length + (L3.length + 1)) + 1 by omega, List.set_cons_succ, set_app_next, List.set_cons_succ]; simp
  clear hd
  refine loop_rule (hn := fun _ => false) (od := fun _ => none) (fun (j : Nat) f H' => H' = V ++ (Blk.map (strM okA T) :: (L2 ++ (Blk.map (strM okA S) :: (L3 ++ [Blk.map (strM okA (onesT (F.rets.take j) []))])))) ∧ f 1 = .bp H.length 0 ∧ f 3 = .fn (.func 176) [] [] ∧ f 6 = I p.regions.length ∧ f 51 = Fc.sl p.funcs ∧ f 52 = I p.funcs.length ∧ f 53 = I i ∧ f 14 = .hm (V.length + (L2.length + 1)) ∧ f 17 = .hm d ∧
    f 99 = St.sl F.rets ∧ f 100 = I F.rets.length ∧ f 101 = I j ∧ j ≤ F.rets.length ∧ retsE S (F.rets.drop j) (onesT (F.rets.take j) []) = retsE S F.rets []) (fun j => F.rets.length - j) (by kernel_rfl) 0 (by simp [g1, g3, g6, g51, g52, g53, g14, g17, onesT]) ?_
  clear g g1 g3 g6 g51 g52 g53 g10 g14 g17
  rintro j g _ ⟨rfl, g1, g3, g6, g51, g52, g53, g14, g17, g99, g100, g101, hj, hinv2⟩
  simp -dsimp [g99, g100, g101]
  refine condVW_introD (fun hjt => ?_) (fun hjt => ?_)
  · rw [drop_cons hjt, retsE] at hinv2
    have hT2 := onesT_take hjt []
    obtain ⟨N, hN⟩ : ∃ N, N = onesT (F.rets.take j) [] := ⟨_, rfl⟩
    rw [← hN] at hinv2 hT2 ⊢
    have hsz := hnr _ (List.getElem_mem hjt)
    have hfa := mfind_str okA F.rets[j] S
    have hgd : ((alook F.rets[j] S).map okA).getD (assertV.avZ (.agg #[.bool false])) = okA (seenB F.rets[j] S) := optmap_getD _ okA false
    simp -dsimp [g1, g3, g6, g51, g52, g53, g14, g17, g99, g100, g101, List.getElem?_eq_getElem, hjt, mapEs, hfa, hgd]
    refine mustW_V (fun hb => ?_) (fun hb => ?_)
    · rw [hb, mustE_true, thenE_zero] at hinv2
      simp -dsimp [g1, g3, g6, g51, g52, g53, g14, g17, g99, g100, g101]
      refine oneW hsz (hG _) (fun hz => ?_) (fun hz => ?_)
      · rw [hz, thenE_zero] at hinv2
        simp -dsimp [g1, g3, g6, g51, g52, g53, g14, g17, g99, g100, g101, hSet]
        exact ⟨j + 1, by omega, by rw [hT2], wrapS (by omega), by omega, by rw [hT2]; exact hinv2⟩
      · rw [hz, thenE_ne (by decide)] at hinv2
        simp -dsimp
        exact (errV _).out (by rw [hnf, ← hinv2])
    · rw [hb, mustE_false, thenE_ne (by decide)] at hinv2
      simp -dsimp
      exact (errV _).out (by rw [hnf, ← hinv2])
  · rw [drop_end hjt, retsE] at hinv2
    simp -dsimp [g1, g3, g6, g51, g52, g53]
    exact ⟨hVW _, by rw [hnf, ← hinv2]⟩
end Go.Proofs
namespace Go.Proofs
open Go.Mu
mutual
def Sm.words (deep : Nat) : Sm → List ByteArray
  | .mk k n _ _ _ _ _ _ body els => (if k = 5 then [n] else []) ++ smsWords (deep + 1) body ++ smsWords (deep + 1) els
def smsWords (deep : Nat) : List Sm → List ByteArray
  | [] => []
  | s :: l => if 64 < deep then [] else s.words deep ++ smsWords deep l
end
theorem Sm.words_eq (deep : Nat) (s : Sm) : s.words deep = (if s.kind = 5 then [s.name] else []) ++ smsWords (deep + 1) s.body ++ smsWords (deep + 1) s.els := by cases s; rw [Sm.words]; rfl
theorem smsWords_deep {deep : Nat} (h : 64 < deep) (l : List Sm) : smsWords deep l = [] := by
  cases l with
  | nil => rw [smsWords]
  | cons s l => rw [smsWords, if_pos h]
theorem smsWords_len (m : Nat) : ∀ (l : List Sm), smsCount l ≤ m → ∀ deep, (smsWords deep l).length ≤ smsCount l := by
  induction m with
  | zero => intro l hl deep; have := sms_len l; have : l = [] := List.eq_nil_of_length_eq_zero (by omega); subst this; simp [smsWords]
  | succ m ih =>
    intro l
    induction l with
    | nil => intro _ deep; simp [smsWords]
    | cons s l ihl =>
      intro hl deep
      simp only [smsCount] at hl ⊢
      have he := Sm.count_eq s
      rw [smsWords]
      split
      · simp
      · rw [Sm.words_eq]
        have a := ih s.body (by omega) (deep + 1)
        have b := ih s.els (by omega) (deep + 1)
        have c := ihl (by omega) deep
        have d : (if s.kind = 5 then [s.name] else []).length ≤ 1 := by split <;> simp
        simp only [List.length_append]
        omega
theorem counts_ok (m : Nat) : ∀ (l : List Sm) (deep : Nat), smsCount l ≤ m → smsCount l ≤ 2^36 → deep ≤ 65 → ∀ (H : List Blk),
    ACalls Tryz.prog 109 [Sm.sl l, I deep] H (fun e H' => e = .ret (St.sl (smsWords deep l)) ∧ H' = H) := by
  induction m with
  | zero =>
    intro l deep hm _ _ H
    have := sms_len l
    obtain rfl : l = [] := List.eq_nil_of_length_eq_zero (by omega)
    refine acalls_tidy (acalls_weakE (acalls_of_vc (hn := fun d => d == 22 || d == 29 || d == 35) (od := fun id => if id = 8 then some [(0, []), (1, []), (2, []), (3, []), (4, []), (5, []), (7, []), (8, []), (9, []), (10, []), (6, [7, 8, 9, 10]), (11, []), (12, []), (13, [])] else none) Tryz.func109 rfl (by kernel_rfl) ?_))
    have done : WeakE (Tidy H fun e H' => e = AE.ret (St.sl (smsWords deep [])) ∧ H' = H) (.ret nilS) H := by
      rw [smsWords]
      exact tidy_weak (.nil 1) (tidy_now rfl ⟨rfl, rfl⟩)
    simp -dsimp
    repeat' ((with_reducible first | refine And.intro ?_ ?_ | refine guardVW_introTD (fun _ => ?_) (fun _ => ?_) | refine guardVW_introFD (fun _ => ?_) (fun _ => ?_) | refine condVW_introD (fun _ => ?_) (fun _ => ?_) | refine guardVW_introTE (fun _ => ?_) (fun _ _ _ => ?_) | refine guardVW_introFE (fun _ => ?_) (fun _ _ _ => ?_) | refine condVW_introE (fun _ => ?_) (fun _ _ _ => ?_) | refine guardVW_introTNE (fun _ _ _ => ?_) (fun _ => ?_) | refine guardVW_introFNE (fun _ _ _ => ?_) (fun _ => ?_) | refine condVW_introNE (fun _ _ _ => ?_) (fun _ => ?_) | refine guardVW_introTB (fun _ => ?_) (fun _ => ?_) | refine guardVW_introFB (fun _ => ?_) (fun _ => ?_) | refine condVW_introB (fun _ => ?_) (fun _ => ?_) | refine guardVW_introT (fun _ => ?_) (fun _ => ?_) | refine guardVW_introF (fun _ => ?_) (fun _ => ?_) | refine condVW_intro (fun _ => ?_) (fun _ => ?_)) <;> simp -dsimp [*])
    refine loop_rule (hn := fun d => d == 22 || d == 29 || d == 35) (od := fun id => if id = 8 then some [(0, []), (1, []), (2, []), (3, []), (4, []), (5, []), (7, []), (8, []), (9, []), (10, []), (6, [7, 8, 9, 10]), (11, []), (12, []), (13, [])] else none) (fun (i : Nat) g H' => H' = H ∧ g 4 = nilS ∧ g 10 = I 0 ∧ g 11 = I 0) (fun i => 0) (by kernel_rfl) 0 (by simp) ?_
    rintro i g _ ⟨rfl, g4, g10, g11⟩
    simp -dsimp [g4, g10, g11]
    exact done
  | succ m ih =>
    intro l deep hm hb hd H
    refine acalls_under fun hu _ => acalls_tidy (acalls_weakE (acalls_spare 1 (acalls_of_awp Tryz.func109 rfl (by kernel_rfl) ?_)))
    refine awp_cut (fun _ => false) (fun _ => none) (fun f H' => H' = H ++ [Blk.pend] ∧ f 0 = Sm.sl l ∧ f 1 = I deep ∧ f 4 = nilS) (by kernel_rfl) ?_ ?_
    · simp -dsimp
    rintro g _ ⟨rfl, g0, g1, g4⟩
    have done : ∀ (ws : List ByteArray) L, ws = smsWords deep l → WeakE (Tidy H fun e H' => e = AE.ret (St.sl (smsWords deep l)) ∧ H' = H) (.ret (ownS H.length (ws.map fun s => [St s]))) (H ++ ownB 9 1 (ws.map fun s => [St s]) :: L) := fun ws L e => by
      subst e
      by_cases hw : smsWords deep l = []
      · rw [hw]
        refine tidy_weak (.nil 1) ?_
        exact tidy_same rfl ⟨rfl, rfl⟩
      · have hne : (smsWords deep l).map (fun s => [St s]) ≠ [] := by simpa using hw
        have hz : ((smsWords deep l).map fun s => [St s]).flatten.all AV.frzB = true := by
          rw [flat_ones, List.all_eq_true]
          intro c hc
          obtain ⟨b, _, rfl⟩ := List.mem_map.1 hc
          rfl
        refine tidy_weak (.refl _) ?_
        rw [ownB, if_neg hne]
        refine tidy_give1 hu 1 _ _ hz ?_ ?_
        · rw [frz_own _ _ _ hne]; rfl
        · rw [frz_own _ _ _ hne]; exact ⟨rfl, rfl⟩
    refine awp_cut (fun _ => false) (fun _ => none) (fun f H' => H' = H ++ [Blk.pend] ∧ f 0 = Sm.sl l ∧ f 1 = I deep ∧ f 4 = nilS ∧ deep ≤ 64) (by kernel_rfl) ?_ ?_
    · simp -dsimp [g0, g1, g4]
      refine condVW_introD (fun h => ?_) (fun h => ?_)
      · simp -dsimp
        have := done [] [] (smsWords_deep (by omega) l).symm
        simpa [ownS, ownB] using this
      · simp -dsimp [g0, g1, g4]
        omega
    clear g g0 g1 g4
    rintro g _ ⟨rfl, g0, g1, g4, hd64⟩
    have hlen := sms_len l
    refine awp_cut (fun d => d == 22 || d == 29 || d == 35) (fun id => if id = 8 then some [(0, []), (1, []), (2, []), (3, []), (4, []), (5, []), (7, []), (8, []), (9, []), (10, []), (6, [7, 8, 9, 10]), (11, []), (12, []), (13, [])] else none) (fun f H' => ∃ L, H' = H ++ ownB 9 1 ((smsWords deep l).map fun s => [St s]) :: L ∧ f 4 = ownS H.length ((smsWords deep l).map fun s => [St s])) (by kernel_rfl) ?_ ?_
    · simp -dsimp [g0, g1, g4]
      refine loop_rule (hn := fun d => d == 22 || d == 29 || d == 35) (od := fun id => if id = 8 then some [(0, []), (1, []), (2, []), (3, []), (4, []), (5, []), (7, []), (8, []), (9, []), (10, []), (6, [7, 8, 9, 10]), (11, []), (12, []), (13, [])] else none)
        (fun (i : Nat) g H' => (∃ ws L, H' = H ++ ownB 9 1 (ws.map fun s => [St s]) :: L ∧ g 4 = ownS H.length (ws.map fun s => [St s]) ∧ ws ++ smsWords deep (l.drop i) = smsWords deep l) ∧ g 1 = I deep ∧ g 9 = Sm.sl l ∧ g 10 = I l.length ∧ g 11 = I i ∧ i ≤ l.length) (fun i => l.length - i) (by kernel_rfl) 0
        (by simp [g1, g4]) ?_
      clear g g0 g1 g4
      rintro i g _ ⟨⟨ws, L, rfl, g4, hws⟩, g1, g9, g10, g11, hi⟩
      simp -dsimp [g1, g4, g9, g10, g11]
      refine condVW_introD (fun hlt => ?_) (fun hlt => ?_)
      · rw [drop_cons hlt, smsWords, if_neg (by omega), Sm.words_eq] at hws
        have hg := sms_get hlt
        have hsc := Sm.count_eq l[i]
        have hwl := smsWords_len _ l (Nat.le_refl _) deep
        have hwl2 := congrArg List.length hws
        simp only [List.length_append] at hwl2
        have w2 : IntKind.i64.wrap ((deep : Int) + 1) = (deep : Int) + 1 := wrapI (by omega) (by omega)
        simp -dsimp [g1, g4, g9, g10, g11, List.getElem?_eq_getElem, hlt]
        have c1 := fun H => ih l[i].body (deep + 1) (by omega) (by omega) (by omega) H
        have c2 := fun H => ih l[i].els (deep + 1) (by omega) (by omega) (by omega) H
        simp only [St.sl, show ((deep + 1 : Nat) : Int) = (deep : Int) + 1 from rfl] at c1 c2
        have step : ∀ ws1 : List ByteArray, (ws1 ++ smsWords (deep + 1) l[i].body ++ smsWords (deep + 1) l[i].els) ++ smsWords deep (l.drop (i + 1)) = smsWords deep l → ws1.length ≤ 2^37 := fun ws1 h => by
          have := congrArg List.length h
          simp only [List.length_append] at this
          omega
        refine condVW_introE (fun hk => ?_) (fun hk _ _ => ?_)
        · rw [if_pos hk] at hws
          simp -dsimp [g1, g4, g9, g10, g11]
          refine appendVW_own (es := ws.map fun s => [St s]) (by simp) (by simp; omega) (by simp; omega) ?_
          simp -dsimp [g1, g4, g9, g10, g11, w2]
          obtain ⟨ws1, hw1⟩ : ∃ ws1, ws1 = ws ++ [l[i].name] := ⟨_, rfl⟩
          have hm1 : List.map (fun s => [St s]) ws ++ [[AV.v (Value.string l[i].name)]] = ws1.map fun s => [St s] := by rw [hw1]; simp
          have hl1 : ws1.length ≤ ws.length + 1 := by rw [hw1]; simp
          rw [hm1]
          refine callDW_intro (c1 _) ?_
          simp -dsimp [g1, g4, g9, g10, g11, w2]
          refine appendVW_own (es := ws1.map fun s => [St s]) (by simp) (by simp; omega) (by simp; omega) ?_
          simp -dsimp [g1, g4, g9, g10, g11, w2]
          refine callDW_intro (c2 _) ?_
          simp -dsimp [g1, g4, g9, g10, g11, w2]
          refine appendVW_own (es := (ws1.map fun s => [St s]) ++ (smsWords (deep + 1) l[i].body).map fun s => [St s]) (by simp) (by simp; omega) (by simp; omega) ?_
          simp -dsimp [g1, g4, g9, g10, g11, w2]
          exact ⟨i + 1, by omega, ⟨ws1 ++ smsWords (deep + 1) l[i].body ++ smsWords (deep + 1) l[i].els, by simp, by simp, by rw [← hws, hw1]; simp⟩, wrapS (by omega), by omega⟩
        · rw [if_neg hk] at hws
          simp -dsimp [g1, g4, g9, g10, g11, w2]
          obtain ⟨ws1, hw1⟩ : ∃ ws1, ws1 = ws := ⟨_, rfl⟩
          have hl1 : ws1.length ≤ ws.length + 1 := by rw [hw1]; omega
          rw [← hw1]
          refine callDW_intro (c1 _) ?_
          simp -dsimp [g1, g4, g9, g10, g11, w2]
          refine appendVW_own (es := ws1.map fun s => [St s]) (by simp) (by simp; omega) (by simp; omega) ?_
          simp -dsimp [g1, g4, g9, g10, g11, w2]
          refine callDW_intro (c2 _) ?_
          simp -dsimp [g1, g4, g9, g10, g11, w2]
          refine appendVW_own (es := (ws1.map fun s => [St s]) ++ (smsWords (deep + 1) l[i].body).map fun s => [St s]) (by simp) (by simp; omega) (by simp; omega) ?_
          simp -dsimp [g1, g4, g9, g10, g11, w2]
          exact ⟨i + 1, by omega, ⟨ws1 ++ smsWords (deep + 1) l[i].body ++ smsWords (deep + 1) l[i].els, by simp, by simp, by rw [← hws, hw1]; simp⟩, wrapS (by omega), by omega⟩
      · rw [drop_end hlt, smsWords, List.append_nil] at hws
        subst hws
        simp -dsimp [g4]
    clear g g0 g1 g4
    rintro g _ ⟨L, rfl, g4⟩
    refine awp_all (fun _ => false) (fun _ => none) (by kernel_rfl) ?_
    simp -dsimp [g4]
    exact done _ _ rfl
end Go.Proofs
namespace Go.Proofs
open Go.Mu
theorem named_is_ok (f : Fc) (s : Sm) (b : Nat) (H : List Blk) (hb : H[b]? = some (.box 82 s.cells)) : ACalls Tryz.prog 235 [.agg f.cells, .bp b 0] H (fun e H' => e = .ret (Bo (decide (f.name = s.name))) ∧ H' = H) := by
  refine acalls_tidy (acalls_of_vc (hn := fun _ => false) (od := fun _ => none) Tryz.func235 rfl (by kernel_rfl) ?_)
  have hbL := fun L => get_app_old hb L
  simp only [Sm.cells_eq] at hbL
  simp -dsimp [hbL]
  exact tidy_same rfl ⟨rfl, rfl⟩
def takesE (tv : List (ByteArray × Vr)) (ta : List (ByteArray × Bool)) (all : List ByteArray) : List ByteArray → List ByteArray → Int
  | _, [] => 0
  | done, n :: l => thenE (wordE tv ta n) (thenE (mustE (!(all.any fun x => decide (n = x))) 2) (thenE (mustE (!(done.any fun x => decide (n = x))) 2) (takesE tv ta all (done ++ [n]) l)))
def callE (p : Pg) (f : Int) (tv : List (ByteArray × Vr)) (ta : List (ByteArray × Bool)) (all : List ByteArray) (s : Sm) (deep : Nat) : Int :=
  match p.funcs[(idxP (fun g => decide (g.name = s.name)) p.funcs 0).toNat]? with
  | none => 8
  | some g => thenE (mustE (decide (0 ≤ idxP (fun g => decide (g.name = s.name)) p.funcs 0)) 8) (thenE (mustE (decide (idxP (fun g => decide (g.name = s.name)) p.funcs 0 < f)) 9)
    (thenE (takesE tv ta all [] s.names) (thenE (mustE ((s.args.length : Int) == g.params.length && (s.names.length : Int) == g.rets.length) 2) (exsChk tv ta deep s.args))))
theorem idxP_in {α : Type} (p : α → Bool) : ∀ (l : List α) (i : Nat), idxP p l i = -1 ∨ ∃ k, k < l.length ∧ idxP p l i = ((i + k : Nat) : Int)
  | [], i => .inl rfl
  | a :: l, i => by
    rw [idxP]
    split
    · exact .inr ⟨0, by simp, by simp⟩
    · rcases idxP_in p l (i + 1) with h | ⟨k, hk, h⟩
      · exact .inl h
      · exact .inr ⟨k + 1, by simp; omega, by rw [show ((i : Int) + 1) = ((i + 1 : Nat) : Int) from rfl, h]; congr 1; omega⟩
theorem call_ok (s : Sm) (deep : Nat) (hs : s.count ≤ 2^40) (hd : deep ≤ 64) {H : List Blk} {a : Nat} {p : Pg} {f : Int} {kv ka : Nat} {keep : AV} {all : List ByteArray} {tv : List (ByteArray × Vr)} {ta : List (ByteArray × Bool)} (h : AskIn H a p f kv ka keep all tv ta)
    (hall : all.length ≤ 2^40) (hp : p.Ok) (hf0 : 0 ≤ f) (hfl : f ≤ p.funcs.length) : ACalls Tryz.prog 186 [.bp a 0, .agg s.cells, I deep] H (ChkR (callE p f tv ta all s deep) H) := by
  refine acalls_tidy (acalls_of_awp Tryz.func186 rfl (by kernel_rfl) ?_)
  obtain ⟨M, hM⟩ : ∃ M, M = H ++ [.box 82 s.cells] := ⟨_, rfl⟩
  have hMs : ∀ L, (M ++ L)[H.length]? = some (.box 82 s.cells) := fun L => by rw [hM]; simp
  have hMs0 : M[H.length]? = some (.box 82 s.cells) := by rw [hM]; simp
  have hA : AskIn M a p f kv ka keep all tv ta := by rw [hM]; exact h.app _
  have hb := fun L => get_app_old hA.box L
  have hb0 := hA.box
  obtain ⟨E, hE⟩ : ∃ E, E = callE p f tv ta all s deep := ⟨_, rfl⟩
  rw [← hE]
  have endP : ∀ e L, e = E → e ≠ 0 → Tidy H (ChkR E H) (.pan (refS e)) (M ++ L) := fun e L he h0 => by rw [hM, List.append_assoc]; exact tidy_chkP he h0
  have end0 : ∀ L, E = 0 → Tidy H (ChkR E H) (.ret (.tup [])) (M ++ L) := fun L he => by rw [hM, List.append_assoc]; exact tidy_chk0 he
  have ci := func_indexF p.funcs (fun g => decide (g.name = s.name)) 235 [.bp H.length 0] (by simp) hp.funcs M (fun x _ => named_is_ok x s H.length M hMs0)
  have ix := idxP_in (fun g => decide (g.name = s.name)) p.funcs 0
  unfold callE at hE
  obtain ⟨ii, hii⟩ : ∃ ii, ii = idxP (fun (g : Fc) => decide (g.name = s.name)) p.funcs 0 := ⟨_, rfl⟩
  simp only [← hii] at hE
  rw [← hii] at ci
  rw [show ((0 : Nat) : Int) = 0 from rfl, ← hii] at ix
  simp only [Sm.cells_eq, askBox] at hMs hMs0 hb hb0
  refine awp_cut (fun _ => false) (fun _ => none) (fun f H' => M = H' ∧ f 0 = .bp a 0 ∧ f 2 = I deep ∧ f 4 = .bp H.length 0) (by kernel_rfl) ?_ ?_
  · simp -dsimp [hM]
  clear hM
  rintro g _ ⟨rfl, g0, g2, g4⟩
  refine awp_cut (fun d => d == 18) (fun _ => none) (fun f H' => M = H' ∧ f 0 = .bp a 0 ∧ f 2 = I deep ∧ f 4 = .bp H.length 0 ∧ f 6 = I ii) (by kernel_rfl) ?_ ?_
  · simp -dsimp [g0, g2, g4, hb0]
    refine acallsW_det ci ?_
    simp -dsimp [g0, g2, g4]
  clear g g0 g2 g4 ci
  rintro g _ ⟨rfl, g0, g2, g4, g6⟩
  -- there is one
  refine awp_cut (fun _ => false) (fun _ => none) (fun f H' => M = H' ∧ f 0 = .bp a 0 ∧ f 2 = I deep ∧ f 4 = .bp H.length 0 ∧ f 6 = I ii ∧ 0 ≤ ii) (by kernel_rfl) ?_ ?_
  · simp -dsimp [g6]
    refine mustW_D (fun h0 => ?_) (fun h0 => ?_)
    · simp -dsimp [g0, g2, g4, g6]
      exact h0
    · simp -dsimp
      have e8 : E = 8 := by
        rw [hE]
        split
        · rfl
        · rw [decide_eq_false h0, mustE_false, thenE_ne (by decide)]
      simpa using endP 8 [] e8.symm (by decide)
  clear g g0 g2 g4 g6
  rintro g _ ⟨rfl, g0, g2, g4, g6, h0⟩
  obtain ⟨k, hk, hki⟩ : ∃ k, k < p.funcs.length ∧ ii = (k : Int) := by
    rcases ix with h | ⟨k, hk, h⟩
    · omega
    · exact ⟨k, hk, by omega⟩
  subst hki
  rw [show ((k : Int)).toNat = k from rfl, List.getElem?_eq_getElem hk] at hE
  simp only [decide_eq_true h0, mustE_true, thenE_zero] at hE
  clear h0 ix hii
  -- it stands ahead
  refine awp_cut (fun _ => false) (fun _ => none) (fun g H' => M = H' ∧ g 0 = .bp a 0 ∧ g 2 = I deep ∧ g 4 = .bp H.length 0 ∧ g 6 = I k ∧ (k : Int) < f) (by kernel_rfl) ?_ ?_
  · simp -dsimp [g0, g6, hb0]
    refine mustW_D (fun h1 => ?_) (fun h1 => ?_)
    · simp -dsimp [g0, g2, g4, g6]
      exact h1
    · simp -dsimp
      rw [decide_eq_false h1, mustE_false, thenE_ne (by decide)] at hE
      simpa using endP 9 [] hE.symm (by decide)
  clear g g0 g2 g4 g6
  rintro g _ ⟨rfl, g0, g2, g4, g6, h1⟩
  rw [decide_eq_true h1, mustE_true, thenE_zero] at hE
  obtain ⟨F, hF⟩ : ∃ F, F = p.funcs[k] := ⟨_, rfl⟩
  rw [← hF] at hE
  refine awp_cut (fun _ => false) (fun _ => none) (fun g H' => (∃ L, H' = M ++ (Blk.box 56 F.cells :: L)) ∧ g 0 = .bp a 0 ∧ g 2 = I deep ∧ g 4 = .bp H.length 0 ∧ g 7 = .bp M.length 0) (by kernel_rfl) ?_ ?_
  · simp -dsimp [g0, g2, g4, g6, hb0, List.getElem?_eq_getElem, hk, hF]
  clear g g0 g2 g4 g6 hF
  rintro g _ ⟨⟨L, rfl⟩, g0, g2, g4, g7⟩
  obtain ⟨W, hW⟩ : ∃ W, W = M ++ (Blk.box 56 F.cells :: L) := ⟨_, rfl⟩
  have hWF : ∀ L, (W ++ L)[M.length]? = some (.box 56 F.cells) := fun L => by rw [hW]; simp
  have hWs : ∀ L, (W ++ L)[H.length]? = some (.box 82 s.cells) := fun L => by rw [hW, List.append_assoc]; simpa using hMs _
  have hWA : AskIn W a p f kv ka keep all tv ta := by rw [hW]; exact hA.app _
  have endPW : ∀ e L, e = E → e ≠ 0 → Tidy H (ChkR E H) (.pan (refS e)) (W ++ L) := fun e L he h0 => by rw [hW, List.append_assoc]; exact endP e _ he h0
  have end0W : ∀ L, E = 0 → Tidy H (ChkR E H) (.ret (.tup [])) (W ++ L) := fun L he => by rw [hW, List.append_assoc]; exact end0 _ he
  rw [← hW]
  clear hW endP end0 hMs hMs0 hA hb hb0
  simp only [Sm.cells_eq] at hWs
  simp only [Fc.cells] at hWF
  have hsc := Sm.count_eq s
  have hna := exs_len s.args
  -- names
  refine awp_cut (fun _ => false) (fun _ => none) (fun g H' => (∃ L, H' = W ++ L) ∧ g 0 = .bp a 0 ∧ g 2 = I deep ∧ g 4 = .bp H.length 0 ∧ g 7 = .bp M.length 0 ∧ takesE tv ta all [] s.names = 0) (by kernel_rfl) ?_ ?_
  · have hWs0 := hWs []
    rw [List.append_nil] at hWs0
    simp -dsimp [g0, g2, g4, g7, hWs0]
    refine loop_rule (hn := fun _ => false) (od := fun _ => none) (fun (i : Nat) g H' => W = H' ∧ g 0 = .bp a 0 ∧ g 2 = I deep ∧ g 4 = .bp H.length 0 ∧ g 7 = .bp M.length 0 ∧ g 38 = St.sl s.names ∧ g 39 = I s.names.length ∧ g 40 = I i ∧ i ≤ s.names.length ∧ takesE tv ta all (s.names.take i) (s.names.drop i) = takesE tv ta all [] s.names) (fun i => s.names.length - i) (by kernel_rfl) 0 (by simp [g0, g2, g4, g7]) ?_
    clear g g0 g2 g4 g7
    rintro i g _ ⟨rfl, g0, g2, g4, g7, g38, g39, g40, hi, hinv⟩
    simp -dsimp [g0, g2, g4, g7, g38, g39, g40]
    refine condVW_introD (fun hlt => ?_) (fun hlt => ?_)
    · rw [drop_cons hlt, takesE] at hinv
      obtain ⟨nm, hnm⟩ : ∃ nm, nm = s.names[i] := ⟨_, rfl⟩
      have htk : (s.names.take i).length ≤ 2^40 := by simp; omega
      have cc := fun H => str_contains (s.names.take i) nm htk H
      simp only [St.sl, List.map_take] at cc
      have cw := word_ok nm hWA
      have cs2 := sets_ok nm hWA hall
      have hWs0 := hWs []
      rw [List.append_nil] at hWs0
      rw [← hnm] at hinv
      simp -dsimp [g0, g2, g4, g7, g38, g39, g40, List.getElem?_eq_getElem, hlt, ← hnm]
      refine chkW cw (fun hz => ?_) (fun hz => ?_)
      rotate_left
      · rw [thenE_ne hz] at hinv
        simp -dsimp
        have e : wordE tv ta nm = E := by rw [hE, ← hinv, thenE_ne hz]
        simpa using endPW _ [] e hz
      rw [hz, thenE_zero] at hinv
      simp -dsimp [g0, g2, g4, g7, g38, g39, g40]
      refine chkW cs2 (fun hz2 => ?_) (fun hz2 => ?_)
      rotate_left
      · rw [thenE_ne hz2] at hinv
        simp -dsimp
        have e : mustE (!(all.any fun x => decide (nm = x))) 2 = E := by rw [hE, ← hinv, thenE_ne hz2]
        simpa using endPW _ [] e hz2
      rw [hz2, thenE_zero] at hinv
      have hile : i ≤ s.names.length := hi
      simp -dsimp [g0, g2, g4, g7, g38, g39, g40, hWs0, hile]
      refine acallsW_det (cc _) ?_
      simp -dsimp
      refine mustW_B (fun hb => ?_) (fun hb => ?_)
      · rw [hb] at hinv
        simp only [Bool.not_false, mustE_true, thenE_zero] at hinv
        simp -dsimp [g0, g2, g4, g7, g38, g39, g40]
        exact ⟨i + 1, by omega, wrapS (by omega), by omega, by rw [take_succ' hlt, ← hnm]; exact hinv⟩
      · rw [hb] at hinv
        simp only [Bool.not_true, mustE_false] at hinv
        rw [thenE_ne (by decide)] at hinv
        simp -dsimp
        have e : (2 : Int) = E := by rw [hE, ← hinv, thenE_ne (by decide)]
        simpa using endPW _ [] e (by decide)
    · rw [drop_end hlt, takesE] at hinv
      simp -dsimp [g0, g2, g4, g7]
      exact hinv.symm
  clear g g0 g2 g4 g7
  rintro g _ ⟨⟨L2, rfl⟩, g0, g2, g4, g7, ht⟩
  rw [ht, thenE_zero] at hE
  refine awp_cut (fun _ => false) (fun _ => none) (fun g H' => H' = W ++ L2 ∧ g 0 = .bp a 0 ∧ g 2 = I deep ∧ g 4 = .bp H.length 0 ∧ mustE ((s.args.length : Int) == F.params.length && (s.names.length : Int) == F.rets.length) 2 = 0) (by kernel_rfl) ?_ ?_
  · replace hE := Hid.mk hE
    replace endPW := Hid.mk endPW
    clear end0W
    simp -dsimp [g0, g2, g4, g7, hWs, hWF]
    repeat' ((with_reducible first | refine And.intro ?_ ?_ | refine guardVW_introTD (fun _ => ?_) (fun _ => ?_) | refine guardVW_introFD (fun _ => ?_) (fun _ => ?_) | refine condVW_introD (fun _ => ?_) (fun _ => ?_) | refine guardVW_introTE (fun _ => ?_) (fun _ _ _ => ?_) | refine guardVW_introFE (fun _ => ?_) (fun _ _ _ => ?_) | refine condVW_introE (fun _ => ?_) (fun _ _ _ => ?_) | refine guardVW_introTNE (fun _ _ _ => ?_) (fun _ => ?_) | refine guardVW_introFNE (fun _ _ _ => ?_) (fun _ => ?_) | refine condVW_introNE (fun _ _ _ => ?_) (fun _ => ?_) | refine guardVW_introTB (fun _ => ?_) (fun _ => ?_) | refine guardVW_introFB (fun _ => ?_) (fun _ => ?_) | refine condVW_introB (fun _ => ?_) (fun _ => ?_) | refine guardVW_introT (fun _ => ?_) (fun _ => ?_) | refine guardVW_introF (fun _ => ?_) (fun _ => ?_) | refine condVW_intro (fun _ => ?_) (fun _ => ?_) | refine mustW_t ?_ | refine mustW_f ?_ | refine mustW_D (fun _ => ?_) (fun _ => ?_) | refine mustW_E (fun _ => ?_) (fun _ _ _ => ?_) | refine mustW_NE (fun _ _ _ => ?_) (fun _ => ?_) | refine mustW_B (fun _ => ?_) (fun _ => ?_) | refine mustW_V (fun _ => ?_) (fun _ => ?_)) <;> simp -dsimp [*])
    all_goals exact endPW.out 2 _ (by rw [hE.out, thenE_ne] <;> simp [mustE, *]) (by decide)
  clear g g0 g2 g4 g7
  rintro g _ ⟨rfl, g0, g2, g4, hm⟩
  rw [hm, thenE_zero] at hE
  refine awp_all (fun _ => false) (fun _ => none) (by kernel_rfl) ?_
  simp -dsimp [g0, g2, g4, hWs]
  refine loop_rule (hn := fun _ => false) (od := fun _ => none) (fun (i : Nat) g H' => (∃ L, H' = W ++ L) ∧ g 0 = .bp a 0 ∧ g 2 = I deep ∧ g 78 = Ex.sl s.args ∧ g 79 = I s.args.length ∧ g 80 = I i ∧ i ≤ s.args.length ∧ exsChk tv ta deep (s.args.drop i) = exsChk tv ta deep s.args) (fun i => s.args.length - i) (by kernel_rfl) 0 (by simp [g0, g2]) ?_
  clear g g0 g2 g4
  rintro i g _ ⟨⟨L, rfl⟩, g0, g2, g78, g79, g80, hi, hinv⟩
  simp -dsimp [g0, g2, g78, g79, g80]
  refine condVW_introD (fun hlt => ?_) (fun hlt => ?_)
  · rw [drop_cons hlt, exsChk] at hinv
    have hb3 := exs_get hlt
    have ce := expr_ok tv ta _ s.args[i] deep (Nat.le_refl _) (by omega) (by omega) (hWA.app (L ++ [.box 73 s.args[i].cells]))
    simp only [Ex.cells_eq] at ce
    simp -dsimp [g0, g2, g78, g79, g80, List.getElem?_eq_getElem, hlt]
    refine chkW ce (fun hz => ?_) (fun hz => ?_)
    · rw [hz, thenE_zero] at hinv
      simp -dsimp [g0, g2, g78, g79, g80]
      exact ⟨i + 1, by omega, wrapS (by omega), by omega, hinv⟩
    · simp -dsimp
      rw [thenE_ne hz] at hinv
      exact endPW _ _ (by rw [hE, ← hinv]) hz
  · simp -dsimp
    rw [drop_end hlt, exsChk] at hinv
    exact end0W _ (by rw [hE, ← hinv])
end Go.Proofs
namespace Go.Proofs
open Go.Mu
theorem str_index_own (l : List ByteArray) (n : Nat) (hn : n ≤ l.length) (s : ByteArray) (hl : l.length ≤ 2^40) (r : Nat) (H : List Blk) (hr : H[r]? = some (.row 9 1 (l.map fun x => [St x]))) :
    ACalls Tryz.prog 233 [.hs r 0 n l.length, St s] H (fun e H' => e = .ret (I (idxP (fun x => decide (s = x)) (l.take n) 0)) ∧ H' = H) := by
  refine acalls_of_vc (hn := fun _ => false) (od := fun _ => none) Tryz.func233 rfl (by kernel_rfl) ?_
  simp -dsimp [hr]
  refine loop_rule (hn := fun _ => false) (od := fun _ => none) (fun (i : Nat) f H' => H = H' ∧ f 0 = .hs r 0 n l.length ∧ f 1 = St s ∧ f 7 = I n ∧ f 8 = I i ∧ i ≤ n ∧ idxP (fun x => decide (s = x)) ((l.take n).drop i) i = idxP (fun x => decide (s = x)) (l.take n) 0) (fun i => n - i) (by kernel_rfl) 0 (by simp) ?_
  rintro i f H' ⟨rfl, h0, h1, h7, h8, hi, hinv⟩
  have hln : (l.take n).length = n := by simp; omega
  simp -dsimp [h0, h1, h7, h8]
  refine condVW_introD (fun hlt => ?_) (fun hlt => ?_)
  · have hlt2 : i < (l.take n).length := by omega
    have hlt3 : i < l.length := by omega
    rw [drop_cons hlt2, idxP, List.getElem_take] at hinv
    simp -dsimp [h0, h1, h7, h8, hr, List.getElem?_eq_getElem, hlt, hlt3]
    refine condVW_introD (fun hp => ?_) (fun hp => ?_)
    · simp -dsimp
      rw [if_pos (by simpa using hp)] at hinv
      exact hinv
    · simp -dsimp [h0, h1, h7, h8]
      rw [if_neg (by simpa using hp)] at hinv
      exact ⟨i + 1, by omega, wrapS (by omega), by omega, by simpa using hinv⟩
  · simp -dsimp
    rw [drop_end (by omega), idxP] at hinv
    exact hinv
theorem str_contains_own (l : List ByteArray) (n : Nat) (hn : n ≤ l.length) (s : ByteArray) (hl : l.length ≤ 2^40) (r : Nat) (H : List Blk) (hr : H[r]? = some (.row 9 1 (l.map fun x => [St x]))) :
    ACalls Tryz.prog 183 [.hs r 0 n l.length, St s] H (fun e H' => e = .ret (Bo ((l.take n).any fun x => decide (s = x))) ∧ H' = H) := by
  refine acalls_of_vc (hn := fun _ => false) (od := fun _ => none) Tryz.func183 rfl (by kernel_rfl) ?_
  simp -dsimp
  refine acallsW_det (str_index_own l n hn s hl r H hr) ?_
  simp -dsimp
  exact idxP_any _ _ _ (Int.le_refl 0)
mutual
def Sm.chk (p : Pg) (f : Int) (F : Fc) (tv : List (ByteArray × Vr)) (ta : List (ByteArray × Bool)) (all : List ByteArray) (deep : Nat) (around : List ByteArray) : Sm → Int
  | .mk kind name names e a args low high body els =>
    thenE (mustE (decide ((deep : Int) ≤ 64)) 12) <| thenE (kindE (.mk kind name names e a args low high body els)) <|
      if kind = 1 then thenE (wordE tv ta name) (thenE (mustE (!(all.any fun x => decide (name = x))) 2) (e.chk tv ta deep))
      else if kind = 2 then thenE (arrayE tv ta name) (thenE (a.chk tv ta deep) (thenE (e.chk tv ta deep) (thenE (smsChk p f F tv ta all (deep + 1) around body) (smsChk p f F tv ta all (deep + 1) around els))))
      else if kind = 3 ∨ kind = 4 then thenE (e.chk tv ta deep) (thenE (smsChk p f F tv ta all (deep + 1) around body) (smsChk p f F tv ta all (deep + 1) around els))
      else if kind = 5 then thenE (wordE tv ta name) (thenE (mustE (!(around.any fun x => decide (name = x))) 2) (thenE (mustE (decide (low ≤ high) && decide (high ≤ 65536) && !(F.rets.any fun x => decide (name = x))) 2)
        (thenE (mustE (!(F.params.any fun v => decide (v.name = name))) 2) (smsChk p f F tv ta all (deep + 1) (around ++ [name]) body))))
      else callE p f tv ta all (.mk kind name names e a args low high body els) deep
def smsChk (p : Pg) (f : Int) (F : Fc) (tv : List (ByteArray × Vr)) (ta : List (ByteArray × Bool)) (all : List ByteArray) (deep : Nat) (around : List ByteArray) : List Sm → Int
  | [] => 0
  | s :: l => thenE (s.chk p f F tv ta all deep around) (smsChk p f F tv ta all deep around l)
end
theorem Sm.chk_eq (p : Pg) (f : Int) (F : Fc) (tv : List (ByteArray × Vr)) (ta : List (ByteArray × Bool)) (all : List ByteArray) (deep : Nat) (around : List ByteArray) (s : Sm) : s.chk p f F tv ta all deep around =
    thenE (mustE (decide ((deep : Int) ≤ 64)) 12) (thenE (kindE s) (
      if s.kind = 1 then thenE (wordE tv ta s.name) (thenE (mustE (!(all.any fun x => decide (s.name = x))) 2) (s.e.chk tv ta deep))
      else if s.kind = 2 then thenE (arrayE tv ta s.name) (thenE (s.a.chk tv ta deep) (thenE (s.e.chk tv ta deep) (thenE (smsChk p f F tv ta all (deep + 1) around s.body) (smsChk p f F tv ta all (deep + 1) around s.els))))
      else if s.kind = 3 ∨ s.kind = 4 then thenE (s.e.chk tv ta deep) (thenE (smsChk p f F tv ta all (deep + 1) around s.body) (smsChk p f F tv ta all (deep + 1) around s.els))
      else if s.kind = 5 then thenE (wordE tv ta s.name) (thenE (mustE (!(around.any fun x => decide (s.name = x))) 2) (thenE (mustE (decide (s.low ≤ s.high) && decide (s.high ≤ 65536) && !(F.rets.any fun x => decide (s.name = x))) 2)
        (thenE (mustE (!(F.params.any fun v => decide (v.name = s.name))) 2) (smsChk p f F tv ta all (deep + 1) (around ++ [s.name]) s.body))))
      else callE p f tv ta all s deep)) := by cases s; rw [Sm.chk]; rfl
theorem named_var_ok (v : Vr) (s : Sm) (b : Nat) (H : List Blk) (hb : H[b]? = some (.box 82 s.cells)) : ACalls Tryz.prog 185 [.agg v.cells, .bp b 0] H (fun e H' => e = .ret (Bo (decide (v.name = s.name))) ∧ H' = H) := by
  refine acalls_tidy (acalls_of_vc (hn := fun _ => false) (od := fun _ => none) Tryz.func185 rfl (by kernel_rfl) ?_)
  have hbL := fun L => get_app_old hb L
  simp only [Sm.cells_eq] at hbL
  simp -dsimp [hbL]
  exact tidy_same rfl ⟨rfl, rfl⟩
def keepV (r : Nat) (es : List ByteArray) (n : Nat) : AV := if es = [] then nilS else .hs r 0 n es.length
def keepB (es : List ByteArray) : Blk := ownB 9 1 (es.map fun x => [St x])
theorem keep_has (es : List ByteArray) (n : Nat) (hn : n ≤ es.length) (s : ByteArray) (hl : es.length ≤ 2^40) (r : Nat) (H : List Blk) (hr : H[r]? = some (keepB es)) :
    ACalls Tryz.prog 183 [keepV r es n, St s] H (fun e H' => e = .ret (Bo ((es.take n).any fun x => decide (s = x))) ∧ H' = H) := by
  unfold keepV
  by_cases he : es = []
  · subst he
    rw [if_pos rfl]
    have := str_contains [] s (by simp) H
    simpa using acalls_weak (args' := [St.sl [], St s]) (.cons (.nil 1) (.cons (.refl _) .nil)) this
  · rw [if_neg he]
    have hne : es.map (fun x => [St x]) ≠ [] := by simpa using he
    rw [keepB, ownB, if_neg hne] at hr
    exact str_contains_own es n hn s hl r H hr
end Go.Proofs
namespace Go.Proofs
open Go.Mu
theorem kind_in {s : Sm} (h : kindE s = 0) : s.kind = 1 ∨ s.kind = 2 ∨ s.kind = 3 ∨ s.kind = 4 ∨ s.kind = 5 ∨ s.kind = 6 := by
  unfold kindE mustE at h
  split at h
  · rename_i h1
    simp only [Bool.and_eq_true] at h1
    have h2 := h1.1.1.1.1.1.1.1
    unfold kd1 at h2
    simp only [Bool.and_eq_true, decide_eq_true_eq] at h2
    omega
  · cases h
theorem thenE_assoc (a b c : Int) : thenE (thenE a b) c = thenE a (thenE b c) := by
  by_cases h : a = 0
  · subst h; simp
  · rw [thenE_ne h, thenE_ne h, thenE_ne h]
def stG (p : Pg) (f : Int) (kv ka a r : Nat) (all : List ByteArray) (H : List Blk) (es : List ByteArray) (n : Nat) : List Blk := set2 H a (askBox p f kv ka (keepV r es n) all) r (keepB es)
def StR (c : Int) (n : Nat) (es : List ByteArray) (more : Nat) (G : List ByteArray → Nat → List Blk) : AE → List Blk → Prop := fun e H' =>
  (c = 0 → e = .ret (.tup []) ∧ ∃ es', H' = G es' n ∧ n ≤ es'.length ∧ es'.take n = es.take n ∧ es'.length ≤ es.length + more) ∧
  (c ≠ 0 → e = .pan (refS c) ∧ ∃ es' n', H' = G es' n')
def StM (E : Int) (n : Nat) (es : List ByteArray) (b : Nat) (G : List ByteArray → Nat → List Blk) (c : Int) (m : Nat) (H' : List Blk) : Prop :=
  c = E ∧ ∃ es' L, H' = G es' n ++ L ∧ n ≤ es'.length ∧ es'.take n = es.take n ∧ es'.length + m ≤ b
theorem appendVW_keep {H : List Blk} {sl : TypeId × Nat × List Value × Nat} {r n : Nat} {es : List ByteArray} {x : ByteArray} {K : AV → List Blk → Prop} {w : Wit K} (hk : H[r]? = some (keepB es)) (hn : n ≤ es.length) (h1 : sl.1 = 9) (h2 : sl.2.1 = 1) (hs : sl.2.2.2 ≤ 16)
    (hb : es.length ≤ 2^39) (h : K (keepV r (es.take n ++ x :: es.drop (n + 1)) (n + 1)) (H.set r (keepB (es.take n ++ x :: es.drop (n + 1))))) : appendVW H sl (keepV r es n) [[St x]] K w := by
  have hne : es.take n ++ x :: es.drop (n + 1) ≠ [] := by simp
  have hne2 : (es.take n ++ x :: es.drop (n + 1)).map (fun x => [St x]) ≠ [] := by simp
  obtain ⟨s1, s2, s3, s4⟩ := sl
  simp only at h1 h2 hs
  subst h1 h2
  rw [keepV, if_neg hne, keepB, ownB, if_neg hne2] at h
  unfold appendVW appendV
  by_cases he : es = []
  · subst he
    simp only [List.length_nil] at hn
    obtain rfl : n = 0 := by omega
    rw [keepV, if_pos rfl]
    simp only [keepB, ownB, List.map_nil, if_true] at hk
    refine And.intro (fun hy => by cases hy) (fun _ => ⟨by simp; omega, by simp, .inr ⟨r, hk, ?_⟩⟩)
    simpa using h
  · have hm : es.map (fun x => [St x]) ≠ [] := by simpa using he
    rw [keepV, if_neg he]
    rw [keepB, ownB, if_neg hm] at hk
    simp only [hk]
    refine ⟨by simp, ?_⟩
    by_cases hnn : n = es.length
    · subst hnn
      refine .inl ⟨⟨rfl, ?_, by simp; omega⟩, ?_⟩
      · have : (es.length + 1) * s4 ≤ (es.length + 1) * 16 := Nat.mul_le_mul_left _ hs
        have e : es.length + [[St x]].length = es.length + 1 := rfl
        rw [e]
        omega
      · have e1 : es.take es.length ++ x :: es.drop (es.length + 1) = es ++ [x] := by simp
        rw [e1] at h
        simpa using h
    · refine .inr ⟨by simp; omega, ?_⟩
      have e2 : (es.take n ++ x :: es.drop (n + 1)).length = es.length := by simp; omega
      rw [e2] at h
      simpa [List.map_take, List.map_drop] using h
section
variable {p : Pg} {kv ka a r k : Nat} {all : List ByteArray} {tv : List (ByteArray × Vr)} {ta : List (ByteArray × Bool)} {F : Fc}
theorem ask_ne {H : List Blk} {f : Int} {kp : AV} (h : AskIn H a p f kv ka kp all tv ta) {es : List ByteArray} (hr : H[r]? = some (keepB es)) : a ≠ r ∧ kv ≠ a ∧ kv ≠ r ∧ ka ≠ a ∧ ka ≠ r := by
  obtain ⟨h1, h2, h3⟩ := h
  have hq : ∀ (i : Nat) (x : Blk), H[i]? = some x → x ≠ keepB es → i ≠ r := fun i x hi hx e => by subst e; rw [hr] at hi; injection hi with hi; exact hx hi.symm
  have kb : ∀ (c : List AV), Blk.box 192 c ≠ keepB es := fun c => by unfold keepB ownB; split <;> (intro h; cases h)
  have km : ∀ c, Blk.map c ≠ keepB es := fun c => by unfold keepB ownB; split <;> (intro h; cases h)
  refine ⟨hq _ _ h1 (kb _), fun e => ?_, hq _ _ h2 (km _), fun e => ?_, hq _ _ h3 (km _)⟩
  · subst e; rw [h1] at h2; simp [askBox] at h2
  · subst e; rw [h1] at h3; simp [askBox] at h3
theorem stG_in {H : List Blk} {f : Int} {kp : AV} (h : AskIn H a p f kv ka kp all tv ta) {es0 : List ByteArray} (hr : H[r]? = some (keepB es0)) (es : List ByteArray) (n : Nat) (L : List Blk) : AskIn (stG p f kv ka a r all H es n ++ L) a p f kv ka (keepV r es n) all tv ta := by
  obtain ⟨n1, n2, n3, n4, n5⟩ := ask_ne h hr
  have ha := lt_of_get h.box
  have hv := lt_of_get h.vars
  have hk := lt_of_get h.arr
  refine ⟨m2_getA ha n1 _ _ _, ?_, ?_⟩
  · rw [stG, List.getElem?_append_left (by simpa using hv), set2, List.getElem?_set_ne (Ne.symm n3), List.getElem?_set_ne (Ne.symm n2)]; exact h.vars
  · rw [stG, List.getElem?_append_left (by simpa using hk), set2, List.getElem?_set_ne (Ne.symm n5), List.getElem?_set_ne (Ne.symm n4)]; exact h.arr
theorem stG_under {H : List Blk} {f : Int} {kp : AV} (h : AskIn H a p f kv ka kp all tv ta) {es0 : List ByteArray} (hr : H[r]? = some (keepB es0)) (es : List ByteArray) (n : Nat) (hu : underH H.length H = true) : underH H.length (stG p f kv ka a r all H es n) = true := by
  have h1 := lt_of_get h.vars
  have h2 := lt_of_get h.arr
  have h3 := lt_of_get hr
  have hb := List.mem_of_getElem? h.box
  have hub : (askBox p f kv ka kp all).under H.length = true := by
    simp only [underH, List.all_eq_true] at hu
    exact hu _ hb
  refine underH_set2 hu ?_ ?_
  · simp only [askBox, Blk.under, underL, List.all_cons, List.all_nil, Bool.and_eq_true, AV.under] at hub ⊢
    refine ⟨hub.1, hub.2.1, hub.2.2.1, hub.2.2.2.1, hub.2.2.2.2.1, ?_, hub.2.2.2.2.2.2⟩
    unfold keepV
    split
    · rfl
    · simp [AV.under, h3]
  · refine under_ownB _ _ _ _ ?_
    rw [List.all_eq_true]
    intro x hx
    obtain ⟨y, _, rfl⟩ := List.mem_map.1 hx
    rfl
end
end Go.Proofs
