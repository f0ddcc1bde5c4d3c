/- Places; a word loaded, stored. -/
import Derived.Test.YteoimifnfkpdeaaME5toRM3
set_option linter.unusedVariables false
set_option linter.unusedSimpArgs false
set_option maxHeartbeats 4000000
set_option maxRecDepth 100000
namespace Go.Proofs
open Go.Mu
theorem rgs_indexF (l : List Rg) (p : Rg → Bool) (g : FuncId) (cap : List AV) (hok : okFn Try.prog g = true) (hl : l.length ≤ 2^40) (H : List Blk) (hg : ∀ x ∈ l, ACalls Try.prog g (.agg x.cells :: cap) H (fun e H' => e = .ret (Bo (p x)) ∧ H' = H)) :
    ACalls Try.prog 138 [.vs 4 (l.map fun x => x.cells), .fn (.func g) [] cap] H (fun e H' => e = .ret (I (idxP p l 0)) ∧ H' = H) := by
  refine acalls_tidy (acalls_of_vc (hn := fun _ => false) (od := fun _ => none) Try.func138 rfl (by kernel_rfl) ?_)
  simp -dsimp
  refine loop_rule (hn := fun _ => false) (od := fun _ => none) (fun (i : Nat) f H' => H' = H ∧ f 0 = .vs 4 (l.map fun x => x.cells) ∧ f 1 = .fn (.func g) [] cap ∧ f 7 = I l.length ∧ f 8 = I i ∧ i ≤ l.length ∧ idxP p (l.drop i) i = idxP p l 0) (fun i => l.length - i) (by kernel_rfl) 0 (by simp) ?_
  rintro i f H' ⟨rfl, h0, h1, h7, h8, hi, hinv⟩
  simp -dsimp [h0, h1, h7, h8]
  refine condVW_introD (fun hlt => ?_) (fun hlt => ?_)
  · rw [drop_cons hlt, idxP] at hinv
    have hx := hg l[i] (List.getElem_mem hlt)
    try simp only [Vr.cells, Fc.cells] at hx
    simp -dsimp [h0, h1, h7, h8, List.getElem?_eq_getElem, hlt, hok]
    refine acallsW_det hx ?_
    simp -dsimp
    refine condVW_intro (fun hp => ?_) (fun hp => ?_)
    · simp -dsimp
      rw [if_pos hp] at hinv
      exact tidy_now rfl ⟨by rw [hinv], rfl⟩
    · simp -dsimp [h0, h1, h7, h8]
      rw [if_neg (by simp [hp])] at hinv
      exact ⟨i + 1, by omega, wrapS (by omega), by omega, by simpa using hinv⟩
  · simp -dsimp
    rw [drop_end hlt, idxP] at hinv
    exact tidy_now rfl ⟨by rw [hinv], rfl⟩
def hasA (a : Int) (r : Rg) : Bool := decide (r.addr ≤ a) && decide (a < r.fin)
theorem mhas_ok (a : Int) (r : Rg) (k : Nat) (H : List Blk) (hk : H[k]? = some (.box 3 [I a])) : ACalls Try.prog 137 [.agg r.cells, .bp k 0] H (fun e H' => e = .ret (Bo (hasA a r)) ∧ H' = H) := by
  refine acalls_tidy (acalls_of_vc (hn := fun _ => false) (od := fun _ => none) Try.func137 rfl (by kernel_rfl) ?_)
  have ce := fun H => mend_ok r H
  obtain ⟨E, hE⟩ : ∃ E, E = hasA a r := ⟨_, rfl⟩
  rw [← hE]
  unfold hasA at hE
  obtain ⟨c1, h1⟩ : ∃ c, c = decide (r.addr ≤ a) := ⟨_, rfl⟩
  obtain ⟨c2, h2⟩ : ∃ c, c = decide (a < r.fin) := ⟨_, rfl⟩
  rw [← h1, ← h2] at hE
  have h1 := h1.symm
  have h2 := h2.symm
  simp only [Rg.cells] at ce
  have hk' := get_app_old hk [.box 168 [St r.name, I r.addr, I r.size, Bo r.secret]]
  simp -dsimp [Rg.cells, hk', h1]
  cases c1
  · simp -dsimp
    rw [show E = false by simp [hE]]
    exact tidy_same rfl ⟨rfl, rfl⟩
  · simp -dsimp [hk']
    refine callDW_intro (ce _) ?_
    simp -dsimp [h2]
    rw [show E = c2 by simp [hE]]
    exact tidy_same rfl ⟨rfl, rfl⟩
def placeN (l : List Rg) (a : Int) : Int := if 65536 ≤ a then -2 else if 49152 ≤ a then -1 else if idxP (hasA a) l 0 < 0 then -2 else idxP (hasA a) l 0
theorem idxP_lt {α : Type} (p : α → Bool) : ∀ (l : List α) (i : Int), 0 ≤ i → -1 ≤ idxP p l i ∧ idxP p l i < i + l.length
  | [], i, h => by simp [idxP]; omega
  | a :: l, i, h => by
    rw [idxP]
    have := idxP_lt p l (i + 1) (by omega)
    split <;> simp <;> omega
theorem mplace_ok {M : List Blk} {k kb : Nat} {lay : List Rg} {b : List Int} (m : MemAt M k kb lay b) (hl : lay.length ≤ 16) (a : Int) (h0 : 0 ≤ a) (h1 : a < 2^64) : ACalls Try.prog 136 [.bp k 0, U a] M (fun e M' => (∃ q, e = .ret (.tup [I (placeN lay a), I q])) ∧ M' = M) := by
  refine acalls_tidy (acalls_of_vc (hn := fun _ => false) (od := fun _ => none) Try.func136 rfl (by kernel_rfl) ?_)
  have ct := mthere_ok m
  obtain ⟨m1, m2, m3⟩ := m
  obtain ⟨E, hE⟩ : ∃ E, E = placeN lay a := ⟨_, rfl⟩
  rw [← hE]
  unfold placeN at hE
  simp -dsimp
  refine acallsW_det ct ?_
  by_cases h2 : 65536 ≤ a
  · have d : decide (65536 ≤ a) = true := decide_eq_true h2
    rw [if_pos h2] at hE
    subst hE
    simp -dsimp [d]
    exact tidy_now rfl ⟨⟨_, rfl⟩, rfl⟩
  · have d : decide (65536 ≤ a) = false := decide_eq_false h2
    rw [if_neg h2] at hE
    have w1 : IntKind.i64.wrap a = a := wrapI (by omega) (by omega)
    by_cases h3 : 49152 ≤ a
    · have d3 : decide (49152 ≤ a) = true := decide_eq_true h3
      rw [if_pos h3] at hE
      subst hE
      simp -dsimp [d, w1, d3]
      exact tidy_same rfl ⟨⟨_, rfl⟩, rfl⟩
    · have d3 : decide (49152 ≤ a) = false := decide_eq_false h3
      rw [if_neg h3] at hE
      obtain ⟨N, hN⟩ : ∃ N, N = M ++ [Blk.box 3 [I a]] := ⟨_, rfl⟩
      have n1 : N[M.length]? = some (.box 3 [I a]) := by rw [hN]; simp
      have n2 : N[k]? = some (meB lay kb) := by rw [hN]; exact get_app_old m1 _
      have ci := rgs_indexF lay (hasA a) 137 [.bp M.length 0] (by kernel_rfl) (by omega) N (fun x _ => mhas_ok a x M.length N n1)
      simp only [Rg.cells] at ci n2
      have hb := idxP_lt (hasA a) lay 0 (by omega)
      obtain ⟨n, hn⟩ : ∃ n, n = idxP (hasA a) lay 0 := ⟨_, rfl⟩
      rw [← hn] at ci hE hb
      clear hn
      simp -dsimp [d, w1, d3]
      rw [← hN]
      simp -dsimp [n1, n2]
      refine acallsW_det ci ?_
      by_cases h4 : n < 0
      · have d4 : decide (n < 0) = true := decide_eq_true h4
        rw [if_pos h4] at hE
        subst hE
        simp -dsimp [d4]
        rw [hN]
        exact tidy_same rfl ⟨⟨_, rfl⟩, rfl⟩
      · have d4 : decide (n < 0) = false := decide_eq_false h4
        rw [if_neg h4] at hE
        obtain ⟨j, rfl⟩ : ∃ j : Nat, n = j := ⟨n.toNat, by omega⟩
        subst hE
        have hlt : j < lay.length := by omega
        have hx := List.getElem?_eq_getElem hlt
        have hg : (lay.map Rg.cells)[j]? = some [St lay[j].name, I lay[j].addr, I lay[j].size, Bo lay[j].secret] := by rw [List.getElem?_map, hx]; rfl
        simp -dsimp [d4, n1, n2, hg]
        rw [hN]
        exact tidy_same rfl ⟨⟨_, rfl⟩, rfl⟩
def askE (l : List Rg) (a : Int) : Int := if a.tmod 8 = 0 then (if placeN l a = -2 then 14 else 0) else 2
theorem mask_ok {M : List Blk} {k kb : Nat} {lay : List Rg} {b : List Int} (m : MemAt M k kb lay b) (hl : lay.length ≤ 16) (a : Int) (h0 : 0 ≤ a) (h1 : a < 2^64) : ACalls Try.prog 108 [.bp k 0, U a, U 8] M (fun e M' => e = .ret (I (askE lay a)) ∧ M' = M) := by
  refine acalls_of_vc (hn := fun _ => false) (od := fun _ => none) Try.func108 rfl (by kernel_rfl) ?_
  have ct := mthere_ok m
  have cp := mplace_ok m hl a h0 h1
  obtain ⟨E, hE⟩ : ∃ E, E = askE lay a := ⟨_, rfl⟩
  rw [← hE]
  unfold askE at hE
  obtain ⟨n, hn⟩ : ∃ n, n = placeN lay a := ⟨_, rfl⟩
  rw [← hn] at cp hE
  clear hn
  simp -dsimp
  refine acallsW_det ct ?_
  by_cases h8 : a.tmod 8 = 0
  · have d8 : (a.tmod 8 != 0) = false := by simp [h8]
    rw [if_pos h8] at hE
    simp -dsimp [d8]
    refine acallsW_of cp ?_
    rintro e _ ⟨⟨q, rfl⟩, rfl⟩
    by_cases h2 : n = -2
    · have d2 : (n == -2) = true := by simp [h2]
      rw [if_pos h2] at hE
      subst hE
      simp -dsimp [d2]
    · have d2 : (n == -2) = false := by simp [h2]
      rw [if_neg h2] at hE
      subst hE
      simp -dsimp [d2]
  · have d8 : (a.tmod 8 != 0) = true := by simp [h8]
    rw [if_neg h8] at hE
    subst hE
    simp -dsimp [d8]
theorem ask_low {l : List Rg} (hl : ∀ r ∈ l, r.Ok) {a : Int} (h0 : 0 ≤ a) (h : askE l a = 0) : a ≤ 65528 := by
  unfold askE at h
  split at h
  · rename_i h8
    split at h
    · omega
    · rename_i hp
      unfold placeN at hp
      have : ¬ 65536 ≤ a := fun e => by rw [if_pos e] at hp; exact hp rfl
      have h9 : a % 8 = 0 := by rw [Int.tmod_eq_emod_of_nonneg h0] at h8; exact h8
      omega
  · omega
theorem mload_ok {M : List Blk} {k kb : Nat} {lay : List Rg} {b : List Int} (m : MemAt M k kb lay b) (hl : lay.length ≤ 16) (ho : ∀ r ∈ lay, r.Ok) (a : Int) (h0 : 0 ≤ a) (h1 : a < 2^64) :
    ACalls Try.prog 92 [.bp k 0, U a] M (fun e M' => e = .ret (.tup [U (if askE lay a = 0 then getW b a.toNat else 0), I (askE lay a)]) ∧ M' = M) := by
  refine acalls_of_vc (hn := fun _ => false) (od := fun _ => none) Try.func92 rfl (by kernel_rfl) ?_
  have ca := mask_ok m hl a h0 h1
  have hlow := ask_low ho h0
  obtain ⟨n, hn⟩ : ∃ n, n = askE lay a := ⟨_, rfl⟩
  rw [← hn] at ca hlow ⊢
  clear hn
  simp -dsimp
  refine acallsW_det ca ?_
  by_cases h : n = 0
  · subst h
    have hlow := hlow rfl
    obtain ⟨p, rfl⟩ : ∃ p : Nat, a = p := ⟨a.toNat, by omega⟩
    have w1 : IntKind.i64.wrap (p : Int) = p := wrapI (by omega) (by omega)
    have cg := mget_ok m p (by omega)
    simp -dsimp [w1]
    refine acallsW_det cg ?_
    simp -dsimp
  · have d : (n != 0) = true := by simp [h]
    simp -dsimp [d, h]
theorem mstore_ok {M : List Blk} {k kb : Nat} {lay : List Rg} {b : List Int} (m : MemAt M k kb lay b) (hl : lay.length ≤ 16) (ho : ∀ r ∈ lay, r.Ok) (a : Int) (h0 : 0 ≤ a) (h1 : a < 2^64) (x : Int) :
    ACalls Try.prog 93 [.bp k 0, U a, U x] M (fun e M' => e = .ret (I (askE lay a)) ∧ M' = M.set kb (byB (if askE lay a = 0 then putW b a.toNat x else b))) := by
  refine acalls_of_vc (hn := fun _ => false) (od := fun _ => none) Try.func93 rfl (by kernel_rfl) ?_
  have ca := mask_ok m hl a h0 h1
  have hlow := ask_low ho h0
  have hself := setSelf m.bytes
  obtain ⟨n, hn⟩ : ∃ n, n = askE lay a := ⟨_, rfl⟩
  rw [← hn] at ca hlow ⊢
  clear hn
  simp -dsimp
  refine acallsW_det ca ?_
  by_cases h : n = 0
  · subst h
    have hlow := hlow rfl
    obtain ⟨p, rfl⟩ : ∃ p : Nat, a = p := ⟨a.toNat, by omega⟩
    have w1 : IntKind.i64.wrap (p : Int) = p := wrapI (by omega) (by omega)
    have cg := mput_ok m p (by omega) x
    simp -dsimp [w1]
    refine acallsW_of cg ?_
    rintro e _ ⟨rfl, rfl⟩
    simp -dsimp
  · have d : (n == 0) = false := by simp [h]
    simp -dsimp [d, h]
    exact hself.symm
end Go.Proofs
